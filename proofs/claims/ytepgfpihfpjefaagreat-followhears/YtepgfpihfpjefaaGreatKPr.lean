/- Who goes up, who goes down. -/
import Derived.Test.YtepgfpihfpjefaaGreatKFo
namespace Go.Proofs.YtepgfpihfpjefaaGreat
open Go.Abs
set_option maxRecDepth 100000
theorem and1 {n : Nat} (h : n < 9223372036854775808) : bitsOp .and .i64 (n : Int) 1 = ((n % 2 : Nat) : Int) := by
  have e : bitsOp .and .i64 (n : Int) 1 = IntKind.i64.wrap ((BitVec.ofInt 64 (n : Int) &&& BitVec.ofInt 64 1).toNat : Int) := rfl
  have e2 : (BitVec.ofInt 64 (n : Int) &&& BitVec.ofInt 64 1).toNat = n % 2 := by
    rw [BitVec.toNat_and, BitVec.toNat_ofInt]
    have : ((n : Int) % ((2 ^ 64 : Nat) : Int)).toNat = n := by rw [Int.emod_eq_of_lt (by omega) (by omega)]; rfl
    rw [this]
    exact Nat.and_one_is_mod n
  rw [e, e2, w64 (by omega) (by omega)]
theorem xor2 {a b : Nat} (ha : a < 2) (hb : b < 2) : bitsOp .xor .i64 (a : Int) (b : Int) = (((a + b) % 2 : Nat) : Int) := by
  have : (a = 0 ∨ a = 1) ∧ (b = 0 ∨ b = 1) := by omega
  obtain ⟨rfl | rfl, rfl | rfl⟩ := this <;> rfl
theorem andNot1 {w : Int} (h1 : -9223372036854775808 ≤ w) (h2 : w ≤ 9223372036854775807) (h : bitsOp .andNot .i64 w 1 = 0) : w = 0 ∨ w = 1 := by
  have e : bitsOp .andNot .i64 w 1 = IntKind.i64.wrap ((BitVec.ofInt 64 w &&& ~~~BitVec.ofInt 64 1).toNat : Int) := rfl
  have hx : (BitVec.ofInt 64 w).toNat < 2 ^ 64 := (BitVec.ofInt 64 w).isLt
  have hxe : (BitVec.ofInt 64 w).toNat = (w % 18446744073709551616).toNat := by rw [BitVec.toNat_ofInt]; rfl
  have hn : (~~~BitVec.ofInt 64 1).toNat = 2 * (2 ^ 63 - 1) := rfl
  rw [e, BitVec.toNat_and, hn] at h
  generalize (BitVec.ofInt 64 w).toNat = x at h hx hxe
  have hs : (x &&& 2 * (2 ^ 63 - 1)) >>> 1 = x / 2 := by
    rw [Nat.shiftRight_and_distrib, Nat.shiftRight_eq_div_pow, Nat.shiftRight_eq_div_pow, Nat.pow_one, Nat.mul_div_cancel_left _ (by decide), Nat.and_two_pow_sub_one_eq_mod, Nat.mod_eq_of_lt (by omega)]
  have hle : (x &&& 2 * (2 ^ 63 - 1)) ≤ x := Nat.and_le_left
  have hz : ((x &&& 2 * (2 ^ 63 - 1) : Nat) : Int) % 18446744073709551616 = 0 := by
    generalize ((x &&& 2 * (2 ^ 63 - 1) : Nat) : Int) = y at h
    have hw : IntKind.i64.wrap y = if (true && decide (y % 18446744073709551616 ≥ 9223372036854775808)) = true then y % 18446744073709551616 - 18446744073709551616 else y % 18446744073709551616 := rfl
    rw [hw] at h
    split at h <;> omega
  have h0 : (x &&& 2 * (2 ^ 63 - 1)) = 0 := by omega
  rw [h0] at hs
  have : x < 2 := by
    have : x / 2 = 0 := hs.symm
    omega
  omega
theorem fnew_ok {v : Img} (hb : ∀ k ∈ v.2.2.1, k.2.1.length ≤ 140737488351232 ∧ k.2.2.1.length ≤ 140737488351232) (n : Int) : F_follow_New mx (v.1, v.2.1, v.2.2.1, v.2.2.2.1, v.2.2.2.2.1, v.2.2.2.2.2, n) =
    some (if okI v then (if inN n then (v.2.2.2.1, n, v.1, v.2.1, v.2.2.1, v.2.2.2.1, n, false, 0) else (0, 0, 0, [], [], 0, 0, false, 2)) else (0, 0, 0, [], [], 0, 0, false, 8)) := by
  have hck := check_ok hb
  obtain ⟨t, q, l, ie, inn, ib⟩ := v
  dsimp only at hck ⊢
  simp only [F_follow_New, hck, Option.bind_some, inF_ok]
  by_cases h1 : okI (t, q, l, ie, inn, ib)
  case neg => rw [if_neg h1, if_neg h1]; rfl
  rw [if_pos h1, if_pos h1]
  by_cases h2 : inN n
  case neg => rw [decide_eq_false h2, if_neg h2]; rfl
  rw [decide_eq_true h2, if_pos h2]
  have htw := ftwin_ok h1 ie n
  have htw : F_follow_twin mx (t, q, l, ie, inn, ib, ie, n) = some (withEN (t, q, l, ie, inn, ib) ie n) := htw
  simp only [bne_self_eq_false, cond_false, Bool.not_true, htw, Option.bind_some]; rfl
theorem ask_ok {f : Fol} (hb : ∀ k ∈ f.2.2.2.2.1, k.2.1.length ≤ 140737488351232 ∧ k.2.2.1.length ≤ 140737488351232) : F_follow_Ask mx f = some (if okF f then (3, f.1, f.2.1, [], 0) else (0, 0, 0, [], 8)) := by
  have h := fcheck_ok hb
  obtain ⟨e, n, t, q, l, ie, inn, ib⟩ := f
  simp only [F_follow_Ask, h, Option.bind_some]
  by_cases h1 : okF (e, n, t, q, l, ie, inn, ib)
  · rw [if_pos h1, if_pos h1]; rfl
  · rw [if_neg h1, if_neg h1]; rfl
def turnC (e : Int) (b : Bool) : Chg := (6, 0, ([], [], 0, 0, 0), [], 0, e, b)
/-- A turned image may be. -/
theorem turned_ok {v : Img} (h : okI v) {e n : Int} (he : inN e) (hn : inN n) (b : Bool) : okI (v.1, v.2.1, v.2.2.1, e, n, b) := by
  obtain ⟨h1, h2, h3, h4, h5, h6, h7⟩ := h
  exact ⟨h1, h2, h3, he, hn, h6, h7⟩
theorem newOk {e n : Int} (he : inN e) (hn : inN n) : okN (e, n, 0, []) := ⟨he, hn, ⟨Int.le_refl 0, hn.1⟩, ⟨by simp, by simpa using hn.1⟩, fun r hr => by cases hr⟩
theorem newWf (e n a : Int) : wfS (e, n, a, []) := ⟨by simp, fun r hr => by cases hr⟩
end Go.Proofs.YtepgfpihfpjefaaGreat
