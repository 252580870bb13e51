/- The plain law of ItemTurns. -/
import Derived.Test.YtekpgceagamjiaaDoorK
namespace Go.Proofs.YtekpgceagamjiaaDoor.itemTurns
open Go.Abs
set_option maxRecDepth 100000
theorem alive_ok : F_law09_alive mx () = some true := by kernel_rfl
theorem num_tI {n : Int} (h0 : 0 ≤ n) (h1 : n ≤ 18446744073709551615) : F_item_Number mx (tI n.toNat) = some (n, true) := by
  rw [item_num (tI_bytes _), num_text (by omega), Int.toNat_of_nonneg h0]
theorem wr (x : Int) : 0 ≤ IntKind.u64.wrap x ∧ IntKind.u64.wrap x ≤ 18446744073709551615 := by rw [IntKind.wrap_u64]; omega
theorem up_ok {n by' : Int} (h0 : 0 ≤ n) (h1 : n ≤ 18446744073709551615) : F_item_Count mx (tI n.toNat, by', false) = some (tI (IntKind.u64.wrap (n + by')).toNat, IntKind.u64.wrap (n + by'), true) := by
  simp only [F_item_Count, F_item_Count.s14, num_tI h0 h1, Option.bind_some, Bool.not_true, Bool.not_false, cond_true, cond_false, item_text (wr _).1 (wr _).2]
theorem down_ok {n by' : Int} (h0 : 0 ≤ n) (h1 : n ≤ 18446744073709551615) : F_item_Count mx (tI n.toNat, by', true) = some (tI (IntKind.u64.wrap (n - mnI n by')).toNat, IntKind.u64.wrap (n - mnI n by'), true) := by
  simp only [F_item_Count, F_item_Count.s14, num_tI h0 h1, Option.bind_some, Bool.not_true, cond_false, item_text (wr _).1 (wr _).2]
theorem main (n b : Int) (k v : List Int) (f u c now later : Int) (h0 : 0 ≤ n) (h1 : n ≤ 18446744073709551615) (b0 : 0 ≤ b) (b1 : b ≤ 18446744073709551615) : F_law09_ItemTurns mx (n, b, k, v, f, u, c, now, later) = some true := by
  obtain ⟨m0, m1⟩ := wr (n + b)
  have hm : IntKind.u64.wrap (n + b) = (n + b) % 18446744073709551616 := IntKind.wrap_u64 _
  have e1 := up_ok (by' := b) h0 h1
  generalize IntKind.u64.wrap (n + b) = m at m0 m1 hm e1
  obtain ⟨q0, q1⟩ := wr (m - mnI m b)
  have hq : IntKind.u64.wrap (m - mnI m b) = (m - mnI m b) % 18446744073709551616 := IntKind.wrap_u64 _
  have e2 := down_ok (by' := b) m0 m1
  have hback : n ≤ m → IntKind.u64.wrap (m - mnI m b) = n := fun h => by
    rw [hq]
    unfold mnI
    split <;> omega
  generalize IntKind.u64.wrap (m - mnI m b) = q at q0 q1 e2 hback
  have hs : F_law09_ItemTurns.s126 mx n (tI m.toNat, m, true) (tI q.toNat, q, true) = some (.inr ()) := by
    unfold F_law09_ItemTurns.s126
    by_cases h : n ≤ m
    · have := hback h
      subst this
      simp only [decide_eq_true h, cond_true, bne_self_eq_false, cond_false, item_text h0 h1, Option.bind_some, beq_self_eq_true, Bool.not_true]
    · simp only [decide_eq_false h, cond_false]
  have hm2 : IntKind.u64.wrap (n + b) = m := by rw [IntKind.wrap_u64, hm]
  simp only [F_law09_ItemTurns, alive_ok, Option.bind_some, item_text h0 h1, e1, e2, Bool.not_true, cond_false, hm2, bne_self_eq_false, item_text m0 m1, item_text q0 q1, beq_self_eq_true, hs, cond_true, F_item_Due, bne_int]
  by_cases g1 : u = 0
  · rw [decide_eq_true g1]; rfl
  · rw [decide_eq_false g1]
    simp only [Bool.not_false, cond_true, Option.bind_some]
    by_cases g2 : u ≤ now
    · rw [decide_eq_true g2]
      simp only [Bool.not_true, cond_false]
      by_cases g3 : later < now
      · rw [decide_eq_true g3]; rfl
      · rw [decide_eq_false g3, decide_eq_true (show u ≤ later by omega)]; rfl
    · rw [decide_eq_false g2]; rfl
theorem pure (p : (tupT (insL F_law09_ItemTurns.sig.pars)).den) (h : wfIns F_law09_ItemTurns.sig.pars p) : F_law09_ItemTurns mx p = some true := by
  obtain ⟨n, b, k, v, f, u, c, now, later⟩ := p
  exact main n b k v f u c now later (wfu64 h.1.1).1 (wfu64 h.1.1).2 (wfu64 h.2.1.1).1 (wfu64 h.2.1.1).2
end Go.Proofs.YtekpgceagamjiaaDoor.itemTurns
