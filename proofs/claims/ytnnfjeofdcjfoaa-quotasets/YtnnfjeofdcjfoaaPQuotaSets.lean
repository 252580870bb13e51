/- The plain law of QuotaSets. -/
import Derived.Test.YtnnfjeofdcjfoaaK
namespace Go.Proofs.Ytnnfjeofdcjfoaa.quotaSets
open Go.Abs
set_option maxRecDepth 100000
theorem alive : F_law08_alive mx () = some true := by kernel_rfl
theorem tot_set {q : List Int} {t : Nat} {n : Int} (ht : t < q.length) : tot (q.set t n) = sumTo (fun i => if i = t then 0 else q.getD i 0) q.length + n := by
  unfold tot
  rw [List.length_set, sumTo_but (g := fun i => if i = t then 0 else q.getD i 0) (t := t) q.length (fun i hi hne => by simp only [hne, if_false]; rw [gset_ne (Ne.symm hne)]) (by simp)]
  rw [if_pos ht, gset_self ht]
theorem main (pool : Int) (q : List Int) (t n : Int) : F_law08_QuotaSets mx (pool, q, t, n) = some true := by
  simp only [F_law08_QuotaSets, alive, Option.bind_some, Bool.not_true, cond_false, set_ok, check_ok, bif_or, bif_and, bif_some]
  by_cases h100 : 100 < (q.length : Int)
  · simp [h100]
  simp only [h100, decide_false, cond_false]
  by_cases h0 : qcheck pool q = 0
  · obtain ⟨p1, p2, p3⟩ := qcheck_zero.1 h0
    obtain ⟨m1, m2, m3, m4⟩ := mayB_len p3
    have m1' := okB_iff.1 m1
    by_cases hb : t < 0 ∨ (q.length : Int) ≤ t ∨ n < 0 ∨ 16 < n
    · have e : qset pool q t n = ([], 2) := by simp only [qset, h0, ne_eq, not_true_eq_false, if_false, hb, if_true]
      rw [e]
      simp only [F_law08_QuotaSets.s508, check_ok, h0, Option.bind_some, bif_or]
      by_cases b1 : t < 0
      · simp [b1]
      by_cases b2 : (q.length : Int) ≤ t
      · simp [b1, b2]
      by_cases b3 : n < 0
      · simp [b1, b2, b3]
      have b4 : 16 < n := by omega
      simp [b1, b2, b3, b4]
    · have ht0 : ¬ t < 0 := by omega
      have htl : ¬ (q.length : Int) ≤ t := by omega
      have hn0 : ¬ n < 0 := by omega
      have hn16 : ¬ 16 < n := by omega
      obtain ⟨k, hk, rfl⟩ : ∃ k : Nat, k < q.length ∧ t = (k : Int) := ⟨t.toNat, by omega, by omega⟩
      have htot := tot_set (q := q) (n := n) hk
      cases hm : mayB pool (q.set k n) with
      | true =>
        have e : qset pool q k n = (q.set k n, 0) := by simp only [qset, h0, ne_eq, not_true_eq_false, if_false, hb, Int.toNat_natCast, hm, if_true]
        rw [e]
        obtain ⟨n1, n2, n3, n4⟩ := mayB_len hm
        have n1' := okB_iff.1 n1
        have hck : qcheck pool (q.set k n) = 0 := qcheck_zero.2 ⟨p1, p2, hm⟩
        have hd : (decide ((0 : Int) ≤ (k : Int)) && decide ((k : Int) < ((q.set k n).length : Int))) = true := by simp; omega
        have hloop : iter mx (F_law08_QuotaSets.l8106 mx q (k : Int) (q.set k n, 0)) (0 : Int) = some (.inr ()) := by
          refine iter_count (fun i => (i : Int)) q.length (lt_N0 (by omega)) (fun i hi => ?_) ?_
          · have d1 : (decide ((0 : Int) ≤ (i : Int)) && decide ((i : Int) < ((q.set k n).length : Int))) = true := by simp; omega
            have d2 : (decide ((0 : Int) ≤ (i : Int)) && decide ((i : Int) < (q.length : Int))) = true := by simp; omega
            have d3 : decide ((i : Int) < (q.length : Int)) = true := by simpa using hi
            have d4 : Nat.blt i (q.set k n).length = true := Nat.ble_eq_true_of_le (by simp; omega)
            simp only [F_law08_QuotaSets.l8106, d1, d2, d3, d4, cond_true, Int.toNat_natCast]
            rw [w64 (by omega) (by omega)]
            by_cases e : i = k
            · subst e; simp
            · have : ((i : Int) != (k : Int)) = true := by simp; omega
              have hne : ((q.set k n).getD i 0 != q.getD i 0) = false := by rw [gset_ne (Ne.symm e)]; simp
              simp only [this, hne, cond_true, cond_false]
              rfl
          · simp [F_law08_QuotaSets.l8106]
        have hsum := sum_ok (q := q.set k n) n3 (fun i hi => by have := n1' i hi; omega)
        have hblt : Nat.blt k (q.set k n).length = true := Nat.ble_eq_true_of_le (by simp; omega)
        have hself : ((q.set k n).getD k 0 != n) = false := by rw [gset_self hk]; simp
        have hll : (((q.set k n).length : Int) != (q.length : Int)) = false := by simp
        simp only [beq_self_eq_true, cond_true, hll, cond_false, ht0, htl, decide_false, hd, hblt, Int.toNat_natCast, hself, hck, bne_self_eq_false, hloop, Option.bind_some, hsum]
        simpa using n4
      | false =>
        have e : qset pool q k n = ([], 80) := by simp only [qset, h0, ne_eq, not_true_eq_false, if_false, hb, Int.toNat_natCast, hm, Bool.false_eq_true]
        rw [e]
        have hg : ∀ i, i < q.length → 0 ≤ (if i = k then 0 else q.getD i 0) ∧ (if i = k then 0 else q.getD i 0) ≤ 16 := fun i hi => by
          have := m1' i hi
          by_cases e : i = k
          · simp [e]
          · simp only [e, if_false]; omega
        have hs : ∀ j, j ≤ q.length → 0 ≤ sumTo (fun i => if i = k then 0 else q.getD i 0) j ∧ sumTo (fun i => if i = k then 0 else q.getD i 0) j ≤ 16 * j := fun j hj => sumTo_bd j (fun i hi => hg i (by omega))
        have hloop : iter mx (F_law08_QuotaSets.l4090 mx q (k : Int)) ((0 : Int), (0 : Int)) = some (sumTo (fun i => if i = k then 0 else q.getD i 0) q.length) := by
          refine iter_count (fun i => (sumTo (fun i => if i = k then 0 else q.getD i 0) i, (i : Int))) q.length (lt_N0 (by omega)) (fun i hi => ?_) ?_
          · have d2 : (decide ((0 : Int) ≤ (i : Int)) && decide ((i : Int) < (q.length : Int))) = true := by simp; omega
            have d3 : decide ((i : Int) < (q.length : Int)) = true := by simpa using hi
            have d4 := hs i (by omega)
            have d5 := m1' i hi
            simp only [F_law08_QuotaSets.l4090, d2, d3, cond_true, Int.toNat_natCast]
            rw [w64 (n := (i : Int) + 1) (by omega) (by omega)]
            by_cases e : i = k
            · subst e; simp [sumTo]
            · have : ((i : Int) != (k : Int)) = true := by simp; omega
              simp only [this, cond_true, sumTo, e, if_false]
              rw [w64 (by omega) (by omega)]
              rfl
          · simp [F_law08_QuotaSets.l4090]
        have hbig : pool < sumTo (fun i => if i = k then 0 else q.getD i 0) q.length + n := by
          rw [← htot]
          by_cases hc : tot (q.set k n) ≤ pool
          · exfalso
            by_cases hnp : n ≤ pool
            · have : mayB pool (q.set k n) = true := by
                simp only [mayB, Bool.and_eq_true, decide_eq_true_eq]
                refine ⟨okB_iff.2 fun i hi => ?_, by simp; omega, by simp; omega, hc⟩
                by_cases e : i = k
                · subst e; rw [gset_self hk]; omega
                · rw [gset_ne (Ne.symm e)]; exact m1' i (by simpa using hi)
              rw [this] at hm; cases hm
            · have := (hs q.length (Nat.le_refl _)).1
              omega
          · omega
        have h508 : F_law08_QuotaSets.s508 mx pool q (k : Int) n ([], 80) = some false := by
          simp [F_law08_QuotaSets.s508, check_ok, h0, bif_or]
          omega
        have hq := hs q.length (Nat.le_refl _)
        simp only [h508, Option.bind_some, hloop]
        rw [w64 (by omega) (by omega)]
        simp [-List.getD_eq_getElem?_getD, hbig]
  · have e : qset pool q t n = ([], qcheck pool q) := by simp only [qset, h0, ne_eq, not_false_eq_true, if_true]
    rw [e]
    have : (qcheck pool q == 0) = false := by simpa using h0
    have h' : (qcheck pool q != 0) = true := by simpa using h0
    simp [this, h', F_law08_QuotaSets.s508, check_ok, bif_or]
theorem pure (p) (_ : wfIns F_law08_QuotaSets.sig.pars p) : F_law08_QuotaSets mx p = some true := main p.1 p.2.1 p.2.2.1 p.2.2.2
end Go.Proofs.Ytnnfjeofdcjfoaa.quotaSets
