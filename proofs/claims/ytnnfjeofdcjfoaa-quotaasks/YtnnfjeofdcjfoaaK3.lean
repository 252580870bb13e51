/- What the functions of quota compute beside slabs. -/
import Derived.Test.YtnnfjeofdcjfoaaK
import Derived.Test.YtnnfjeofdcjfoaaK2
namespace Go.Proofs.Ytnnfjeofdcjfoaa
open Go.Abs
set_option maxRecDepth 100000

/-- How many pages more than its quota. -/
def smore (s : List Pg) (q : List Int) (t : Int) : Int × Int :=
  if ¬ okS s then (0, 8) else if ¬ mayB s.length q = true then (0, 80) else if t < 0 ∨ (q.length : Int) ≤ t then (0, 2) else (cntTo s t s.length - q.getD t.toNat 0, 0)
theorem okS_len {s : List Pg} (h : okS s) : 1 ≤ s.length ∧ s.length ≤ 16 := ⟨h.1, h.2.1⟩
theorem mayB_at {pool : Int} {q : List Int} (h : mayB pool q = true) {i : Nat} (hi : i < q.length) : 0 ≤ q.getD i 0 ∧ q.getD i 0 ≤ pool := okB_iff.1 (mayB_len h).1 i hi
theorem more_ok {s : List Pg} {q : List Int} {t : Int} (hw : wfS s) : F_quota_more mx (s, q, t) = some (smore s q t) := by
  simp only [F_quota_more, check_slab hw, check_ok, Option.bind_some, smore, scheck]
  by_cases h : okS s
  · have hl := okS_len h
    simp only [h, if_true, not_true_eq_false, if_false, ine, decide_true, Bool.not_true, cond_false]
    cases hm : mayB s.length q with
    | false =>
      have : qcheck (s.length : Int) q = 80 := by simp only [qcheck, hm]; rw [if_neg (by omega)]; rfl
      simp [this]
    | true =>
      have : qcheck (s.length : Int) q = 0 := qcheck_zero.2 ⟨by omega, by omega, hm⟩
      obtain ⟨m1, m2, m3, m4⟩ := mayB_len hm
      simp only [this, decide_true, Bool.not_true, cond_false, not_true_eq_false, if_false]
      by_cases h1 : t < 0
      · simp [h1]
      by_cases h2 : (q.length : Int) ≤ t
      · simp [h1, h2]
      obtain ⟨k, hk, rfl⟩ : ∃ k : Nat, k < q.length ∧ t = (k : Int) := ⟨t.toNat, by omega, by omega⟩
      have ha : sasked s (k : Int) = 0 := by unfold sasked; rw [if_neg (by simpa using h), if_pos (by omega)]
      have hb := cntTo_bd s (k : Int) s.length
      have hq := mayB_at hm hk
      simp only [h1, h2, decide_false, cond_false, Owned_ok hw, ha, if_true, Option.bind_some, lez, Bool.and_self, ltd hk, cond_true, Int.toNat_natCast, or_self, if_false]
      rw [w64 (by omega) (by omega)]
  · simp [h, ine]
theorem smore_bd {s : List Pg} {q : List Int} {t : Int} (h : (smore s q t).2 = 0) : okS s ∧ mayB s.length q = true ∧ 0 ≤ t ∧ t < q.length := by
  unfold smore at h
  by_cases h1 : okS s
  · by_cases h2 : mayB s.length q = true
    · by_cases h3 : t < 0 ∨ (q.length : Int) ≤ t
      · rw [if_neg (by simpa using h1), if_neg (by simpa using h2), if_pos h3] at h; cases h
      · exact ⟨h1, h2, by omega, by omega⟩
    · rw [if_neg (by simpa using h1), if_pos h2] at h; cases h
  · rw [if_pos h1] at h; cases h
theorem Room_ok {s : List Pg} {q : List Int} {t : Int} (hw : wfS s) : F_quota_Room mx (s, q, t) = some (decide ((smore s q t).2 = 0) && decide ((smore s q t).1 < 0), (smore s q t).2) := by
  simp only [F_quota_Room, more_ok hw, Option.bind_some, ieq]
  by_cases h : (smore s q t).2 = 0 <;> simp [h]
theorem Over_ok {s : List Pg} {q : List Int} {t : Int} (hw : wfS s) : F_quota_Over mx (s, q, t) = some (mxI 0 (smore s q t).1, (smore s q t).2) := by
  simp only [F_quota_Over, more_ok hw, Option.bind_some]

/-! ## The document's quotas -/
theorem left_iff {pool : Int} {g : Nat → Int} (hp : 0 ≤ pool) : ∀ n, (∀ k, k < n → 0 ≤ g k ∧ g k ≤ pool - sumTo g k) ↔ ((∀ k, k < n → 0 ≤ g k ∧ g k ≤ pool) ∧ sumTo g n ≤ pool)
  | 0 => by simp [sumTo]; exact hp
  | n + 1 => by
    have ih := left_iff hp (g := g) n
    constructor
    · intro h
      obtain ⟨h1, h2⟩ := ih.1 (fun k hk => h k (by omega))
      have h3 := h n (by omega)
      have h4 := sumTo_bd (g := g) (c := pool) n h1
      refine ⟨fun k hk => ?_, by simp only [sumTo]; omega⟩
      by_cases e : k = n
      · subst e; omega
      · exact h1 k (by omega)
    · rintro ⟨h1, h2⟩ k hk
      have h3 := h1 k hk
      have h4 := sumTo_mono (g := g) (k := k + 1) (n := n + 1) (fun i hi => (h1 i hi).1) (by omega)
      simp only [sumTo] at h2 h4
      omega
theorem may_ref {pool : Int} {q : List Int} (h0 : 0 ≤ pool) (hp : pool ≤ 1000) : F_ref08_May mx (pool, q) = some (mayB pool q) := by
  simp only [F_ref08_May]
  by_cases h1 : (q.length : Int) < 1
  · have : mayB pool q = false := by rw [Bool.eq_false_iff]; intro h; have := mayB_len h; omega
    simp [h1, this]
  by_cases h2 : (4 : Int) < (q.length : Int)
  · have : mayB pool q = false := by rw [Bool.eq_false_iff]; intro h; have := mayB_len h; omega
    simp [h1, h2, this]
  simp only [h1, h2, decide_false, cond_false]
  have hmay : (∀ k, k < q.length → 0 ≤ q.getD k 0 ∧ q.getD k 0 ≤ pool - sumTo (fun i => q.getD i 0) k) ↔ mayB pool q = true := by
    rw [left_iff (g := fun i => q.getD i 0) h0, ← okB_iff]
    simp only [mayB, tot, Bool.and_eq_true, decide_eq_true_eq]
    constructor
    · rintro ⟨a, b⟩; exact ⟨a, by omega, by omega, decide_eq_true b⟩
    · rintro ⟨a, _, _, b⟩; exact ⟨a, of_decide_eq_true b⟩
  have hs : ∀ k, k ≤ q.length → (∀ j, j < k → 0 ≤ q.getD j 0 ∧ q.getD j 0 ≤ pool - sumTo (fun i => q.getD i 0) j) → 0 ≤ sumTo (fun i => q.getD i 0) k ∧ sumTo (fun i => q.getD i 0) k ≤ pool := fun k hk h => by
    have := (left_iff (g := fun i => q.getD i 0) h0 k).1 h
    have := sumTo_bd (g := fun i => q.getD i 0) (c := pool) k this.1
    omega
  rcases iter_scan (f := F_ref08_May.l122 mx q) (fun k => (pool - sumTo (fun i => q.getD i 0) k, (k : Int))) q.length (fun k => 0 ≤ q.getD k 0 ∧ q.getD k 0 ≤ pool - sumTo (fun i => q.getD i 0) k) (lt_N0 (by omega)) (fun _ => .inl false) (.inr ())
    (fun k hk hp hj => by
      have g1 := hs k (by omega) hj
      have g2 : ¬ q.getD k 0 < 0 := by omega
      have g3 : ¬ pool - sumTo (fun i => q.getD i 0) k < q.getD k 0 := by omega
      simp only [F_ref08_May.l122, lez, Bool.and_self, ltd hk, cond_true, Int.toNat_natCast, g2, g3, decide_false, cond_false]
      rw [inc64 (by omega), w64 (by omega) (by omega)]
      simp only [sumTo]
      rw [show pool - sumTo (fun i => q.getD i 0) k - q.getD k 0 = pool - (sumTo (fun i => q.getD i 0) k + q.getD k 0) from by omega])
    (fun k hk hp _ => by
      simp only [F_ref08_May.l122, lez, Bool.and_self, ltd hk, cond_true, Int.toNat_natCast]
      by_cases g2 : q.getD k 0 < 0
      · simp only [g2, decide_true, cond_true]
      · have g3 : pool - sumTo (fun i => q.getD i 0) k < q.getD k 0 := by omega
        simp only [g2, g3, decide_true, decide_false, cond_true, cond_false])
    (fun _ => by simp only [F_ref08_May.l122, nltd, cond_false]) with ⟨h, e⟩ | ⟨k, hk, hb, _, e⟩
  · simp only [sumTo, Int.sub_zero] at e
    rw [show (pool, (0 : Int)) = (pool, ((0 : Nat) : Int)) from rfl, e, hmay.1 h]
    rfl
  · simp only [sumTo, Int.sub_zero] at e
    have : mayB pool q = false := by rw [Bool.eq_false_iff]; intro h; exact hb (hmay.2 h k hk)
    rw [show (pool, (0 : Int)) = (pool, ((0 : Nat) : Int)) from rfl, e, this]
    rfl
theorem check_ref {pool : Int} {q : List Int} : F_ref08_Check mx (pool, q) = some (qcheck pool q) := by
  simp only [F_ref08_Check, qcheck]
  by_cases h1 : pool < 1
  · simp [h1]
  by_cases h2 : 16 < pool
  · simp [h1, h2]
  rw [may_ref (by omega) (by omega)]
  cases hm : mayB pool q <;> simp [h1, h2]
theorem set_ref {pool t n : Int} {q : List Int} : F_ref08_Set mx (pool, q, t, n) = some (qset pool q t n) := by
  simp only [F_ref08_Set, check_ref, Option.bind_some, qset]
  by_cases h0 : qcheck pool q = 0
  · obtain ⟨p1, p2, p3⟩ := qcheck_zero.1 h0
    obtain ⟨m1, m2, m3, m4⟩ := mayB_len p3
    simp only [h0, bne_self_eq_false, cond_false, ne_eq, not_true_eq_false, if_false]
    by_cases h1 : t < 0
    · simp [h1]
    by_cases h2 : (q.length : Int) ≤ t
    · simp [h1, h2]
    by_cases h3 : n < 0
    · simp [h1, h2, h3]
    by_cases h4 : 16 < n
    · simp [h1, h2, h3, h4]
    have hloop := iter_count (f := F_ref08_Set.l506 mx q t n) (fun k => ((q.set t.toNat n).take k, (k : Int))) q.length (r := q.set t.toNat n) (lt_N0 (by omega))
      (fun k hk => by
        have hlen : ((q.set t.toNat n).take k).length = k := by simp; omega
        have hb : ∀ x : Int, Nat.ble (((q.set t.toNat n).take k).length + [x].length) 4294967296 = true := fun x => Nat.ble_eq_true_of_le (by rw [hlen]; simp; omega)
        have hnext : (q.set t.toNat n).take (k + 1) = (q.set t.toNat n).take k ++ [(q.set t.toNat n).getD k 0] := by
          have : k < (q.set t.toNat n).length := by simpa using hk
          rw [List.take_add_one, getD_some this, List.getElem?_eq_getElem this]
          rfl
        simp only [F_ref08_Set.l506, lez, Bool.and_self, ltd hk, cond_true, Int.toNat_natCast, hb]
        rw [inc64 (by omega), hnext, ieq]
        by_cases e : (k : Int) = t
        · have : t.toNat = k := by omega
          simp only [e, decide_true, cond_true, this, gset_self hk]
        · have : t.toNat ≠ k := by omega
          simp only [e, decide_false, cond_false, gset_ne this])
      (by simp only [F_ref08_Set.l506, nltd, cond_false]; rw [List.take_of_length_le (by simp)])
    rw [List.take_zero] at hloop
    simp only [h1, h2, h3, h4, decide_false, cond_false, or_self, if_false]
    rw [show (([] : List Int), (0 : Int)) = ([], ((0 : Nat) : Int)) from rfl, hloop, Option.bind_some, may_ref (by omega) (by omega)]
    cases mayB pool (q.set t.toNat n) <;> rfl
  · simp [h0, ine]

def qsum (q : List Int) : Int × Int := if 4 < q.length then (0, 4) else if (∀ k, k < q.length → 0 ≤ q.getD k 0 ∧ q.getD k 0 ≤ 16) then (tot q, 0) else (0, 2)
theorem Sum_ok {q : List Int} : F_quota_Sum mx q = some (qsum q) := by
  simp only [F_quota_Sum, qsum]
  by_cases h4 : 4 < q.length
  · have : (4 : Int) < (q.length : Int) := by omega
    simp [h4, this]
  have h4' : ¬ (4 : Int) < (q.length : Int) := by omega
  have hs : ∀ k, k ≤ q.length → (∀ j, j < k → 0 ≤ q.getD j 0 ∧ q.getD j 0 ≤ 16) → 0 ≤ sumTo (fun i => q.getD i 0) k ∧ sumTo (fun i => q.getD i 0) k ≤ 16 * k := fun k _ h => sumTo_bd k h
  simp only [h4, h4', decide_false, cond_false, if_false]
  rcases iter_scan (f := F_quota_Sum.l58 mx q (q.length : Int)) (fun k => (sumTo (fun i => q.getD i 0) k, (k : Int))) q.length (fun k => 0 ≤ q.getD k 0 ∧ q.getD k 0 ≤ 16) (lt_N0 (by omega)) (fun _ => .inl (0, 2)) (.inr (tot q))
    (fun k hk hp hj => by
      have g1 := hs k (by omega) hj
      have g2 : ¬ q.getD k 0 < 0 := by omega
      have g3 : ¬ 16 < q.getD k 0 := by omega
      simp only [F_quota_Sum.l58, lez, Bool.and_self, ltd hk, cond_true, Int.toNat_natCast, g2, g3, decide_false, cond_false]
      rw [inc64 (by omega), w64 (by omega) (by omega)]
      simp only [sumTo])
    (fun k hk hp _ => by
      simp only [F_quota_Sum.l58, lez, Bool.and_self, ltd hk, cond_true, Int.toNat_natCast]
      by_cases g2 : q.getD k 0 < 0
      · simp only [g2, decide_true, cond_true]
      · have g3 : 16 < q.getD k 0 := by omega
        simp only [g2, g3, decide_true, decide_false, cond_true, cond_false])
    (fun _ => by simp only [F_quota_Sum.l58, nltd, cond_false, tot]) with ⟨h, e⟩ | ⟨k, hk, hb, _, e⟩
  · simp only [sumTo] at e
    rw [show ((0 : Int), (0 : Int)) = (0, ((0 : Nat) : Int)) from rfl, e, if_pos h]
    rfl
  · simp only [sumTo] at e
    rw [show ((0 : Int), (0 : Int)) = (0, ((0 : Nat) : Int)) from rfl, e, if_neg (fun h => hb (h k hk))]
    rfl
theorem Sum_ref {q : List Int} : F_ref08_Sum mx q = some (qsum q) := by
  simp only [F_ref08_Sum, qsum]
  by_cases h4 : 4 < q.length
  · have : (4 : Int) < (q.length : Int) := by omega
    simp [h4, this]
  have h4' : ¬ (4 : Int) < (q.length : Int) := by omega
  have hs : ∀ k, k ≤ q.length → (∀ j, j < k → 0 ≤ q.getD j 0 ∧ q.getD j 0 ≤ 16) → 0 ≤ sumTo (fun i => q.getD i 0) k ∧ sumTo (fun i => q.getD i 0) k ≤ 16 * k := fun k _ h => sumTo_bd k h
  simp only [h4, h4', decide_false, cond_false, if_false]
  rcases iter_scan (f := F_ref08_Sum.l122 mx q) (fun k => (sumTo (fun i => q.getD i 0) k, (k : Int))) q.length (fun k => 0 ≤ q.getD k 0 ∧ q.getD k 0 ≤ 16) (lt_N0 (by omega)) (fun _ => .inl (0, 2)) (.inr (tot q))
    (fun k hk hp hj => by
      have g1 := hs k (by omega) hj
      have g2 : ¬ q.getD k 0 < 0 := by omega
      have g3 : ¬ 16 < q.getD k 0 := by omega
      simp only [F_ref08_Sum.l122, lez, Bool.and_self, ltd hk, cond_true, Int.toNat_natCast, g2, g3, decide_false, cond_false]
      rw [inc64 (by omega), w64 (by omega) (by omega)]
      simp only [sumTo])
    (fun k hk hp _ => by
      simp only [F_ref08_Sum.l122, lez, Bool.and_self, ltd hk, cond_true, Int.toNat_natCast]
      by_cases g2 : q.getD k 0 < 0
      · simp only [g2, decide_true, cond_true]
      · have g3 : 16 < q.getD k 0 := by omega
        simp only [g2, g3, decide_true, decide_false, cond_true, cond_false])
    (fun _ => by simp only [F_ref08_Sum.l122, nltd, cond_false, tot]) with ⟨h, e⟩ | ⟨k, hk, hb, _, e⟩
  · simp only [sumTo] at e
    rw [show ((0 : Int), (0 : Int)) = (0, ((0 : Nat) : Int)) from rfl, e, if_pos h]
    rfl
  · simp only [sumTo] at e
    rw [show ((0 : Int), (0 : Int)) = (0, ((0 : Nat) : Int)) from rfl, e, if_neg (fun h => hb (h k hk))]
    rfl
theorem rasked_ok {s : List Pg} {q : List Int} {t : Int} (hw : wfS s) : F_ref08_asked mx (s, q, t) = some (smore s q t).2 := by
  simp only [F_ref08_asked, check_ref05 hw, Option.bind_some, smore, scheck]
  by_cases h : okS s
  · have hl := okS_len h
    simp only [h, if_true, not_true_eq_false, if_false, ine, decide_true, Bool.not_true, cond_false]
    rw [may_ref (by omega) (by omega)]
    cases hm : mayB s.length q with
    | false => simp
    | true =>
      simp only [Option.bind_some, Bool.not_true, cond_false, not_true_eq_false, if_false]
      by_cases h1 : t < 0
      · simp [h1]
      by_cases h2 : (q.length : Int) ≤ t
      · simp [h1, h2]
      · simp [h1, h2]
  · simp [h, ine]
theorem smore_zero {s : List Pg} {q : List Int} {t : Int} (h : (smore s q t).2 = 0) : (smore s q t).1 = cntTo s t s.length - q.getD t.toNat 0 := by
  obtain ⟨h1, h2, h3, h4⟩ := smore_bd h
  unfold smore
  rw [if_neg (by simpa using h1), if_neg (by simpa using h2), if_neg (by omega)]
theorem smore_one {s : List Pg} {q : List Int} {t : Int} (h : ¬ (smore s q t).2 = 0) : (smore s q t).1 = 0 := by
  unfold smore at h ⊢
  repeat' split
  all_goals first | rfl | simp_all
theorem smore_rng {s : List Pg} {q : List Int} {t : Int} : -1000 ≤ (smore s q t).1 ∧ (smore s q t).1 ≤ 1000 := by
  by_cases h : (smore s q t).2 = 0
  · obtain ⟨h1, h2, h3, h4⟩ := smore_bd h
    have hl := okS_len h1
    have hb := cntTo_bd s t s.length
    have hq := mayB_at h2 (i := t.toNat) (by omega)
    rw [smore_zero h]
    omega
  · rw [smore_one h]; omega
theorem Room_ref {s : List Pg} {q : List Int} {t : Int} (hw : wfS s) : F_ref08_Room mx (s, q, t) = some (decide ((smore s q t).2 = 0) && decide ((smore s q t).1 < 0), (smore s q t).2) := by
  simp only [F_ref08_Room, rasked_ok hw, Option.bind_some, ine]
  by_cases h : (smore s q t).2 = 0
  · obtain ⟨h1, h2, h3, h4⟩ := smore_bd h
    have hl := okS_len h1
    obtain ⟨k, hk, rfl⟩ : ∃ k : Nat, k < q.length ∧ t = (k : Int) := ⟨t.toNat, by omega, by omega⟩
    rw [owned_ref (by omega), smore_zero h]
    simp only [h, decide_true, Bool.not_true, cond_false, Option.bind_some, lez, Bool.and_self, ltd hk, cond_true, Bool.true_and]
    congr 2
    exact decide_eq_decide.2 (by omega)
  · simp [h]
theorem Over_ref {s : List Pg} {q : List Int} {t : Int} (hw : wfS s) : F_ref08_Over mx (s, q, t) = some (mxI 0 (smore s q t).1, (smore s q t).2) := by
  simp only [F_ref08_Over, rasked_ok hw, Option.bind_some, ine]
  by_cases h : (smore s q t).2 = 0
  · have hr := smore_rng (s := s) (q := q) (t := t)
    obtain ⟨h1, h2, h3, h4⟩ := smore_bd h
    have hl := okS_len h1
    obtain ⟨k, hk, rfl⟩ : ∃ k : Nat, k < q.length ∧ t = (k : Int) := ⟨t.toNat, by omega, by omega⟩
    rw [owned_ref (by omega)]
    rw [smore_zero h] at hr ⊢
    simp only [h, decide_true, Bool.not_true, cond_false, Option.bind_some, lez, Bool.and_self, ltd hk, cond_true]
    rw [w64 (by omega) (by omega)]
  · simp [h, smore_one h, mxI]
theorem same_ref {a : List Int} (hl : a.length ≤ 1000) : F_ref08_Same mx (a, a) = some true := by
  have := iter_count (f := F_ref08_Same.l58 mx a a) (fun k => (k : Int)) a.length (r := .inr ()) (lt_N0 (by omega))
    (fun k hk => by
      simp only [F_ref08_Same.l58, lez, Bool.and_self, ltd hk, cond_true, bne_self_eq_false, cond_false]
      rw [inc64 (by omega)])
    (by simp only [F_ref08_Same.l58, nltd, cond_false])
  simp only [F_ref08_Same, bne_self_eq_false, cond_false]
  rw [show ((0 : Int)) = ((0 : Nat) : Int) from rfl, this]
  rfl
theorem qset_len {pool t n : Int} {q : List Int} : (qset pool q t n).1.length ≤ q.length := by
  unfold qset
  repeat' split
  all_goals simp
end Go.Proofs.Ytnnfjeofdcjfoaa
