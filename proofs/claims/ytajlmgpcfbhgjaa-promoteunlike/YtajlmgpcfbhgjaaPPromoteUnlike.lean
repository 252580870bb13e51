/- The plain law of PromoteUnlike. -/
import Derived.Test.YtajlmgpcfbhgjaaF
import Derived.Test.YtajlmgpcfbhgjaaA3
namespace Go.Proofs.Ytajlmgpcfbhgjaa.promoteUnlike
open Go.Abs
set_option maxRecDepth 100000
theorem alive_ok : F_law26_alive mx () = some true := by kernel_rfl
theorem and1 {n : Nat} (h : n < 9223372036854775808) : bitsOp .and .i64 (n : Int) 1 = ((n % 2 : Nat) : Int) := by
  have e : bitsOp .and .i64 (n : Int) 1 = IntKind.i64.wrap ((BitVec.ofInt 64 (n : Int) &&& BitVec.ofInt 64 1).toNat : Int) := rfl
  have e2 : (BitVec.ofInt 64 (n : Int) &&& BitVec.ofInt 64 1).toNat = n % 2 := by
    rw [BitVec.toNat_and, BitVec.toNat_ofInt]
    have : ((n : Int) % ((2 ^ 64 : Nat) : Int)).toNat = n := by rw [Int.emod_eq_of_lt (by omega) (by omega)]; rfl
    rw [this]
    exact Nat.and_one_is_mod n
  rw [e, e2, w64 (by omega) (by omega)]
theorem xor2 {a b : Nat} (ha : a < 2) (hb : b < 2) : bitsOp .xor .i64 (a : Int) (b : Int) = (((a + b) % 2 : Nat) : Int) := by
  have : (a = 0 ∨ a = 1) ∧ (b = 0 ∨ b = 1) := by omega
  obtain ⟨rfl | rfl, rfl | rfl⟩ := this <;> rfl
theorem next_ok {a : Int} {w : Nat} (hw : w < 2) : F_promote_Next mx (a, (w : Int)) = some (if a < 0 ∨ 2147483647 < a then (0, 2) else
    if 2147483647 < a + 1 + (((a.toNat + 1) % 2 + w) % 2 : Nat) then (0, 250) else (a + 1 + (((a.toNat + 1) % 2 + w) % 2 : Nat), 0)) := by
  simp only [F_promote_Next]
  by_cases h1 : a < 0
  · rw [decide_eq_true h1, if_pos (.inl h1)]; rfl
  rw [decide_eq_false h1]
  by_cases h2 : 2147483647 < a
  · rw [decide_eq_true h2, if_pos (.inr h2)]; rfl
  rw [decide_eq_false h2, if_neg (by omega)]
  have h3 : (bitsOp .andNot .i64 (w : Int) 1 != 0) = false := by
    have : w = 0 ∨ w = 1 := by omega
    obtain rfl | rfl := this <;> rfl
  rw [h3]
  obtain ⟨n, rfl⟩ := Int.eq_ofNat_of_zero_le (show 0 ≤ a by omega)
  have e5 : IntKind.i64.wrap ((n : Int) + 1) = ((n + 1 : Nat) : Int) := inc64 (by omega)
  simp only [cond_false, e5, and1 (show n + 1 < 9223372036854775808 by omega), xor2 (show (n + 1) % 2 < 2 by omega) hw, Int.toNat_natCast]
  rw [w64 (by omega) (by omega)]
  by_cases h4 : 2147483647 < (n : Int) + 1 + (((n + 1) % 2 + w) % 2 : Nat)
  · rw [decide_eq_true (show 2147483647 < ((n + 1 : Nat) : Int) + (((n + 1) % 2 + w) % 2 : Nat) by omega), if_pos h4]; rfl
  · rw [decide_eq_false (show ¬ 2147483647 < ((n + 1 : Nat) : Int) + (((n + 1) % 2 + w) % 2 : Nat) by omega), if_neg h4]; rfl
theorem whose_ok {e : Int} (h0 : 0 ≤ e) (h1 : e ≤ 2147483647) : F_promote_Whose mx e = some (((e.toNat % 2 : Nat) : Int), 0) := by
  obtain ⟨n, rfl⟩ := Int.eq_ofNat_of_zero_le h0
  simp only [F_promote_Whose, decide_eq_false (show ¬ (n : Int) < 0 by omega), decide_eq_false (show ¬ 2147483647 < (n : Int) by omega), cond_false, and1 (show n < 9223372036854775808 by omega), Int.toNat_natCast]
/-- What the next epoch is: of the node's own kind, and close above. -/
theorem next_cases (a : Int) {w : Nat} (hw : w < 2) : ∃ x, F_promote_Next mx (a, (w : Int)) = some x ∧ (x.2 = 0 → 0 ≤ x.1 ∧ x.1 ≤ 2147483647 ∧ x.1.toNat % 2 = w ∧ a < x.1 ∧ x.1 ≤ a + 2 ∧ a ≤ 2147483647 ∧ 0 ≤ a) := by
  refine ⟨_, next_ok hw, ?_⟩
  by_cases h1 : a < 0 ∨ 2147483647 < a
  · rw [if_pos h1]; intro h; cases h
  rw [if_neg h1]
  by_cases h2 : 2147483647 < a + 1 + (((a.toNat + 1) % 2 + w) % 2 : Nat)
  · rw [if_pos h2]; intro h; cases h
  rw [if_neg h2]
  intro _
  dsimp only
  refine ⟨by omega, by omega, ?_, by omega, by omega, by omega, by omega⟩
  have : (a + 1 + (((a.toNat + 1) % 2 + w) % 2 : Nat)).toNat = a.toNat + 1 + ((a.toNat + 1) % 2 + w) % 2 := by omega
  rw [this]; omega
theorem main (a b : Int) : F_law26_PromoteUnlike mx (a, b) = some true := by
  obtain ⟨x, hx, px⟩ := next_cases a (w := 0) (by decide)
  obtain ⟨y, hy, py⟩ := next_cases b (w := 1) (by decide)
  have hx : F_promote_Next mx (a, (0 : Int)) = some x := hx
  have hy : F_promote_Next mx (b, (1 : Int)) = some y := hy
  have s1 : F_law26_PromoteUnlike.s126 mx a x = some (.inr ()) := by
    simp only [F_law26_PromoteUnlike.s126, ieq]
    by_cases h : x.2 = 0
    · obtain ⟨p1, p2, p3, p4, p5, p6, p7⟩ := px h
      rw [decide_eq_true h]
      simp only [cond_true, whose_ok p1 p2, Option.bind_some, p3, bne_self_eq_false, cond_false, decide_eq_false (show ¬ x.1 ≤ a by omega)]
      rw [w64 (n := a + 2) (by omega) (by omega), decide_eq_false (show ¬ a + 2 < x.1 by omega)]; rfl
    · rw [decide_eq_false h]; rfl
  have s2 : F_law26_PromoteUnlike.s254 mx b y = some (.inr ()) := by
    simp only [F_law26_PromoteUnlike.s254, ieq]
    by_cases h : y.2 = 0
    · obtain ⟨p1, p2, p3, p4, p5, p6, p7⟩ := py h
      rw [decide_eq_true h]
      simp only [cond_true, whose_ok p1 p2, Option.bind_some, p3, bne_self_eq_false, cond_false, decide_eq_false (show ¬ y.1 ≤ b by omega)]
      rw [w64 (n := b + 2) (by omega) (by omega), decide_eq_false (show ¬ b + 2 < y.1 by omega)]; rfl
    · rw [decide_eq_false h]; rfl
  simp only [F_law26_PromoteUnlike, alive_ok, Option.bind_some, Bool.not_true, cond_false, hx, hy, s1, s2, cond_true, bne_int]
  by_cases h1 : x.2 = 0
  case neg => rw [decide_eq_false h1]; rfl
  by_cases h2 : y.2 = 0
  case neg => rw [decide_eq_true h1, decide_eq_false h2]; rfl
  have p := (px h1).2.2.1
  have q := (py h2).2.2.1
  rw [decide_eq_true h1, decide_eq_true h2, decide_eq_false (show ¬ x.1 = y.1 from fun e => by rw [e, q] at p; cases p)]; rfl
theorem pure (q : Int × Int) (_ : wfIns F_law26_PromoteUnlike.sig.pars q) : F_law26_PromoteUnlike mx q = some true := main q.1 q.2
end Go.Proofs.Ytajlmgpcfbhgjaa.promoteUnlike
