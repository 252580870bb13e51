/- What the functions of quota compute, in plain words. -/
import Derived.Test.YtnnfjeofdcjfoaaDoorF
import Derived.Test.YtnnfjeofdcjfoaaDoorA3
namespace Go.Proofs.YtnnfjeofdcjfoaaDoor
open Go.Abs
set_option maxRecDepth 100000

def okB (pool : Int) (q : List Int) : Bool := q.all fun n => decide (0 ≤ n) && decide (n ≤ pool)
def tot (q : List Int) : Int := sumTo (fun i => q.getD i 0) q.length
def mayB (pool : Int) (q : List Int) : Bool := okB pool q && (decide (0 < q.length) && (decide (q.length ≤ 4) && decide (tot q ≤ pool)))

theorem okB_iff {pool : Int} {q : List Int} : okB pool q = true ↔ ∀ i, i < q.length → 0 ≤ q.getD i 0 ∧ q.getD i 0 ≤ pool := by
  simp only [okB, List.all_eq_true, Bool.and_eq_true, decide_eq_true_eq]
  constructor
  · intro h i hi; exact h _ (getD_lt hi)
  · intro h x hx
    obtain ⟨i, hi, rfl⟩ := List.mem_iff_getElem.1 hx
    have := h i hi
    rwa [getD_some hi] at this

theorem may_ok {pool : Int} {q : List Int} (hp : pool ≤ 1000) (hl : q.length ≤ 1000) : F_quota_may mx (pool, q) = some (mayB pool q) := by
  have hidx : ∀ k, k < q.length → (decide ((0 : Int) ≤ (k : Int)) && decide ((k : Int) < (q.length : Int))) = true := fun k hk => by simp; omega
  rcases first_bad (fun k => 0 ≤ q.getD k 0 ∧ q.getD k 0 ≤ pool) q.length with h | ⟨k, h1, h2, h3⟩
  · have hok : okB pool q = true := okB_iff.2 h
    have hs : ∀ k, k ≤ q.length → 0 ≤ sumTo (fun i => q.getD i 0) k ∧ sumTo (fun i => q.getD i 0) k ≤ 1000 * k := fun k hk => sumTo_bd k (fun i hi => by have := h i (by omega); exact ⟨this.1, by omega⟩)
    have := iter_count (f := F_quota_may.l58 mx pool q (q.length : Int)) (fun k => (sumTo (fun i => q.getD i 0) k, (k : Int))) q.length (r := .inr (tot q)) (lt_N0 (by omega))
      (fun k hk => by
        have h1 := h k hk
        have h2 := hs k (by omega)
        have h3 : ¬ q.getD k 0 < 0 := by omega
        have h4 : ¬ pool < q.getD k 0 := by omega
        simp only [F_quota_may.l58, hidx k hk, Int.toNat_natCast, cond_true]
        rw [show decide ((k : Int) < (q.length : Int)) = true from by simpa using hk]
        simp only [h3, h4, decide_false, cond_false, cond_true, sumTo]
        rw [w64 (by omega) (by omega), w64 (by omega) (by omega)]
        rfl)
      (by simp [F_quota_may.l58, tot])
    simp only [sumTo] at this
    simp only [F_quota_may]
    rw [show ((0 : Int), (0 : Int)) = ((0 : Int), ((0 : Nat) : Int)) from rfl, this]
    simp only [Option.bind_some, bif_and, mayB, hok, Bool.true_and]
    congr 2
    · simp
    · congr 1
      simp; omega
  · have hok : okB pool q = false := by
      rw [Bool.eq_false_iff]
      intro hc
      exact h2 (okB_iff.1 hc k h1)
    have hs : ∀ j, j ≤ k → 0 ≤ sumTo (fun i => q.getD i 0) j ∧ sumTo (fun i => q.getD i 0) j ≤ 1000 * j := fun j hj => sumTo_bd j (fun i hi => by have := h3 i (by omega); exact ⟨this.1, by omega⟩)
    have := iter_count (f := F_quota_may.l58 mx pool q (q.length : Int)) (fun k => (sumTo (fun i => q.getD i 0) k, (k : Int))) k (r := .inl false) (lt_N0 (by omega))
      (fun k' hk => by
        have h1 := h3 k' hk
        have h2 := hs k' (by omega)
        have h3 : ¬ q.getD k' 0 < 0 := by omega
        have h4 : ¬ pool < q.getD k' 0 := by omega
        simp only [F_quota_may.l58, hidx k' (by omega), Int.toNat_natCast, cond_true]
        rw [show decide ((k' : Int) < (q.length : Int)) = true from by simp; omega]
        simp only [h3, h4, decide_false, cond_false, cond_true, sumTo]
        rw [w64 (by omega) (by omega), w64 (by omega) (by omega)]
        rfl)
      (by
        simp only [F_quota_may.l58, hidx k h1, Int.toNat_natCast, cond_true]
        rw [show decide ((k : Int) < (q.length : Int)) = true from by simpa using h1]
        by_cases hneg : q.getD k 0 < 0
        · simp only [hneg, decide_true, cond_true]
        · have : pool < q.getD k 0 := by omega
          simp only [hneg, this, decide_true, decide_false, cond_true, cond_false])
    simp only [sumTo] at this
    simp only [F_quota_may]
    rw [show ((0 : Int), (0 : Int)) = ((0 : Int), ((0 : Nat) : Int)) from rfl, this]
    simp [mayB, hok]

def qcheck (pool : Int) (q : List Int) : Int := if pool < 1 ∨ 16 < pool then 2 else if mayB pool q = true then 0 else 80
theorem mayB_len {pool : Int} {q : List Int} (h : mayB pool q = true) : okB pool q = true ∧ 0 < q.length ∧ q.length ≤ 4 ∧ tot q ≤ pool := by simpa [mayB] using h
theorem check_ok {pool : Int} {q : List Int} : F_quota_Check mx (pool, q) = some (qcheck pool q) := by
  simp only [F_quota_Check, qcheck]
  by_cases h1 : pool < 1
  · simp [h1]
  by_cases h2 : 16 < pool
  · simp [h1, h2]
  by_cases h3 : 4 < (q.length : Int)
  · have : ¬ mayB pool q = true := fun h => by have := mayB_len h; omega
    simp [h1, h2, h3, this]
  · rw [may_ok (by omega) (by omega)]
    cases hm : mayB pool q <;> simp [h1, h2, h3]

def qset (pool : Int) (q : List Int) (t n : Int) : List Int × Int :=
  if qcheck pool q ≠ 0 then ([], qcheck pool q) else if t < 0 ∨ (q.length : Int) ≤ t ∨ n < 0 ∨ 16 < n then ([], 2) else
  if mayB pool (q.set t.toNat n) = true then (q.set t.toNat n, 0) else ([], 80)
theorem qcheck_zero {pool : Int} {q : List Int} : qcheck pool q = 0 ↔ 1 ≤ pool ∧ pool ≤ 16 ∧ mayB pool q = true := by
  unfold qcheck
  by_cases h : pool < 1 ∨ 16 < pool
  · rw [if_pos h]; omega
  · rw [if_neg h]
    cases mayB pool q <;> simp <;> omega
theorem set_ok {pool t n : Int} {q : List Int} : F_quota_Set mx (pool, q, t, n) = some (qset pool q t n) := by
  simp only [F_quota_Set, check_ok, Option.bind_some, qset]
  by_cases h0 : qcheck pool q = 0
  · obtain ⟨p1, p2, p3⟩ := qcheck_zero.1 h0
    obtain ⟨m1, m2, m3, m4⟩ := mayB_len p3
    simp only [h0, bne_self_eq_false, cond_false, ne_eq, not_true_eq_false, if_false]
    by_cases h1 : t < 0
    · simp [h1]
    by_cases h2 : (q.length : Int) ≤ t
    · simp [h1, h2]
    by_cases h3 : n < 0
    · simp [h1, h2, h3]
    by_cases h4 : 16 < n
    · simp [h1, h2, h3, h4]
    have hc : C_slices_Clone_int mx q = some q := by
      have : Nat.ble q.length 4294967296 = true := Nat.ble_eq_true_of_le (by omega)
      simp [C_slices_Clone_int, this]
    have hb : Nat.blt t.toNat q.length = true := Nat.ble_eq_true_of_le (by omega)
    have hd : (decide ((0 : Int) ≤ t) && decide (t < (q.length : Int))) = true := by simp; omega
    simp only [h1, h2, h3, h4, decide_false, cond_false, or_self, if_false, hc, Option.bind_some, hd, hb, cond_true]
    rw [may_ok (by omega) (by simp; omega)]
    cases mayB pool (q.set t.toNat n) <;> simp
  · have : (qcheck pool q != 0) = true := by simpa using h0
    simp [this, h0]

end Go.Proofs.YtnnfjeofdcjfoaaDoor
