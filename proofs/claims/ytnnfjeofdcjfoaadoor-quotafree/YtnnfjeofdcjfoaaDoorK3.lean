/- What the functions of quota compute beside slabs. -/
import Derived.Test.YtnnfjeofdcjfoaaDoorK
import Derived.Test.YtnnfjeofdcjfoaaDoorK2
namespace Go.Proofs.YtnnfjeofdcjfoaaDoor
open Go.Abs
set_option maxRecDepth 100000

/-- How many pages more than its quota. -/
def smore (s : List Pg) (q : List Int) (t : Int) : Int × Int :=
  if ¬ okS s then (0, 8) else if ¬ mayB s.length q = true then (0, 80) else if t < 0 ∨ (q.length : Int) ≤ t then (0, 2) else (cntTo s t s.length - q.getD t.toNat 0, 0)
theorem okS_len {s : List Pg} (h : okS s) : 1 ≤ s.length ∧ s.length ≤ 16 := ⟨h.1, h.2.1⟩
theorem mayB_at {pool : Int} {q : List Int} (h : mayB pool q = true) {i : Nat} (hi : i < q.length) : 0 ≤ q.getD i 0 ∧ q.getD i 0 ≤ pool := okB_iff.1 (mayB_len h).1 i hi
theorem more_ok {s : List Pg} {q : List Int} {t : Int} (hw : wfS s) : F_quota_more mx (s, q, t) = some (smore s q t) := by
  simp only [F_quota_more, check_slab hw, check_ok, Option.bind_some, smore, scheck]
  by_cases h : okS s
  · have hl := okS_len h
    simp only [h, if_true, not_true_eq_false, if_false, ine, decide_true, Bool.not_true, cond_false]
    cases hm : mayB s.length q with
    | false =>
      have : qcheck (s.length : Int) q = 80 := by simp only [qcheck, hm]; rw [if_neg (by omega)]; rfl
      simp [this]
    | true =>
      have : qcheck (s.length : Int) q = 0 := qcheck_zero.2 ⟨by omega, by omega, hm⟩
      obtain ⟨m1, m2, m3, m4⟩ := mayB_len hm
      simp only [this, decide_true, Bool.not_true, cond_false, not_true_eq_false, if_false]
      by_cases h1 : t < 0
      · simp [h1]
      by_cases h2 : (q.length : Int) ≤ t
      · simp [h1, h2]
      obtain ⟨k, hk, rfl⟩ : ∃ k : Nat, k < q.length ∧ t = (k : Int) := ⟨t.toNat, by omega, by omega⟩
      have ha : sasked s (k : Int) = 0 := by unfold sasked; rw [if_neg (by simpa using h), if_pos (by omega)]
      have hb := cntTo_bd s (k : Int) s.length
      have hq := mayB_at hm hk
      simp only [h1, h2, decide_false, cond_false, Owned_ok hw, ha, if_true, Option.bind_some, lez, Bool.and_self, ltd hk, cond_true, Int.toNat_natCast, or_self, if_false]
      rw [w64 (by omega) (by omega)]
  · simp [h, ine]
theorem smore_bd {s : List Pg} {q : List Int} {t : Int} (h : (smore s q t).2 = 0) : okS s ∧ mayB s.length q = true ∧ 0 ≤ t ∧ t < q.length := by
  unfold smore at h
  by_cases h1 : okS s
  · by_cases h2 : mayB s.length q = true
    · by_cases h3 : t < 0 ∨ (q.length : Int) ≤ t
      · rw [if_neg (by simpa using h1), if_neg (by simpa using h2), if_pos h3] at h; cases h
      · exact ⟨h1, h2, by omega, by omega⟩
    · rw [if_neg (by simpa using h1), if_pos h2] at h; cases h
  · rw [if_pos h1] at h; cases h
theorem Room_ok {s : List Pg} {q : List Int} {t : Int} (hw : wfS s) : F_quota_Room mx (s, q, t) = some (decide ((smore s q t).2 = 0) && decide ((smore s q t).1 < 0), (smore s q t).2) := by
  simp only [F_quota_Room, more_ok hw, Option.bind_some, ieq]
  by_cases h : (smore s q t).2 = 0 <;> simp [h]
/-! ## The document's quotas -/
theorem left_iff {pool : Int} {g : Nat → Int} (hp : 0 ≤ pool) : ∀ n, (∀ k, k < n → 0 ≤ g k ∧ g k ≤ pool - sumTo g k) ↔ ((∀ k, k < n → 0 ≤ g k ∧ g k ≤ pool) ∧ sumTo g n ≤ pool)
  | 0 => by simp [sumTo]; exact hp
  | n + 1 => by
    have ih := left_iff hp (g := g) n
    constructor
    · intro h
      obtain ⟨h1, h2⟩ := ih.1 (fun k hk => h k (by omega))
      have h3 := h n (by omega)
      have h4 := sumTo_bd (g := g) (c := pool) n h1
      refine ⟨fun k hk => ?_, by simp only [sumTo]; omega⟩
      by_cases e : k = n
      · subst e; omega
      · exact h1 k (by omega)
    · rintro ⟨h1, h2⟩ k hk
      have h3 := h1 k hk
      have h4 := sumTo_mono (g := g) (k := k + 1) (n := n + 1) (fun i hi => (h1 i hi).1) (by omega)
      simp only [sumTo] at h2 h4
      omega
def qsum (q : List Int) : Int × Int := if 4 < q.length then (0, 4) else if (∀ k, k < q.length → 0 ≤ q.getD k 0 ∧ q.getD k 0 ≤ 16) then (tot q, 0) else (0, 2)
theorem smore_zero {s : List Pg} {q : List Int} {t : Int} (h : (smore s q t).2 = 0) : (smore s q t).1 = cntTo s t s.length - q.getD t.toNat 0 := by
  obtain ⟨h1, h2, h3, h4⟩ := smore_bd h
  unfold smore
  rw [if_neg (by simpa using h1), if_neg (by simpa using h2), if_neg (by omega)]
theorem smore_one {s : List Pg} {q : List Int} {t : Int} (h : ¬ (smore s q t).2 = 0) : (smore s q t).1 = 0 := by
  unfold smore at h ⊢
  repeat' split
  all_goals first | rfl | simp_all
theorem smore_rng {s : List Pg} {q : List Int} {t : Int} : -1000 ≤ (smore s q t).1 ∧ (smore s q t).1 ≤ 1000 := by
  by_cases h : (smore s q t).2 = 0
  · obtain ⟨h1, h2, h3, h4⟩ := smore_bd h
    have hl := okS_len h1
    have hb := cntTo_bd s t s.length
    have hq := mayB_at h2 (i := t.toNat) (by omega)
    rw [smore_zero h]
    omega
  · rw [smore_one h]; omega
theorem qset_len {pool t n : Int} {q : List Int} : (qset pool q t n).1.length ≤ q.length := by
  unfold qset
  repeat' split
  all_goals simp
end Go.Proofs.YtnnfjeofdcjfoaaDoor
