/- Who goes up, who goes down. -/
import Derived.Test.YtajlmgpcfbhgjaaGreatKFo
namespace Go.Proofs.YtajlmgpcfbhgjaaGreat
open Go.Abs
set_option maxRecDepth 100000
theorem and1 {n : Nat} (h : n < 9223372036854775808) : bitsOp .and .i64 (n : Int) 1 = ((n % 2 : Nat) : Int) := by
  have e : bitsOp .and .i64 (n : Int) 1 = IntKind.i64.wrap ((BitVec.ofInt 64 (n : Int) &&& BitVec.ofInt 64 1).toNat : Int) := rfl
  have e2 : (BitVec.ofInt 64 (n : Int) &&& BitVec.ofInt 64 1).toNat = n % 2 := by
    rw [BitVec.toNat_and, BitVec.toNat_ofInt]
    have : ((n : Int) % ((2 ^ 64 : Nat) : Int)).toNat = n := by rw [Int.emod_eq_of_lt (by omega) (by omega)]; rfl
    rw [this]
    exact Nat.and_one_is_mod n
  rw [e, e2, w64 (by omega) (by omega)]
theorem xor2 {a b : Nat} (ha : a < 2) (hb : b < 2) : bitsOp .xor .i64 (a : Int) (b : Int) = (((a + b) % 2 : Nat) : Int) := by
  have : (a = 0 ∨ a = 1) ∧ (b = 0 ∨ b = 1) := by omega
  obtain ⟨rfl | rfl, rfl | rfl⟩ := this <;> rfl
theorem whose_ok {e : Int} (h0 : 0 ≤ e) (h1 : e ≤ 2147483647) : F_promote_Whose mx e = some (((e.toNat % 2 : Nat) : Int), 0) := by
  obtain ⟨n, rfl⟩ := Int.eq_ofNat_of_zero_le h0
  simp only [F_promote_Whose, decide_eq_false (show ¬ (n : Int) < 0 by omega), decide_eq_false (show ¬ 2147483647 < (n : Int) by omega), cond_false, and1 (show n < 9223372036854775808 by omega), Int.toNat_natCast]
theorem turn_ok {v : Img} (hv : okI v) {e : Int} (he : inN e) (b : Bool) : F_promote_turn mx (v.1, v.2.1, v.2.2.1, v.2.2.2.1, v.2.2.2.2.1, v.2.2.2.2.2, e, b) =
    some (if e < v.2.2.2.1 then (0, [], [], 0, 0, false, [((6 : Int), (0 : Int), (([] : List Int), ([] : List Int), (0 : Int), (0 : Int), (0 : Int)), ([] : List Int), (0 : Int), e, b)], 2)
      else (v.1, v.2.1, v.2.2.1, e, v.2.2.2.2.1, b, [((6 : Int), (0 : Int), (([] : List Int), ([] : List Int), (0 : Int), (0 : Int), (0 : Int)), ([] : List Int), (0 : Int), e, b)], 0)) := by
  have hwc : ∀ c ∈ [((6 : Int), (0 : Int), (([] : List Int), ([] : List Int), (0 : Int), (0 : Int), (0 : Int)), ([] : List Int), (0 : Int), e, b)], wfC c := fun c hc => by
    rw [List.mem_singleton] at hc; subst hc; exact ⟨⟨Int.le_refl 0, (by decide : (0 : Int) ≤ 4294967295)⟩, Int.le_refl 0, (by decide : (0 : Int) ≤ 18446744073709551615)⟩
  have hap := apply_ok (okI_len hv) hwc
  have hch : chOk ((6 : Int), (0 : Int), (([] : List Int), ([] : List Int), (0 : Int), (0 : Int), (0 : Int)), ([] : List Int), (0 : Int), e, b) :=
    ⟨⟨Int.le_refl 0, (by decide : (0 : Int) < 4)⟩, .inr (.inr (.inr (.inr (.inr (.inl ⟨rfl, he, rfl, ⟨rfl, rfl, rfl, rfl, rfl⟩, rfl, rfl⟩)))))⟩
  have hz : chErr [((6 : Int), (0 : Int), (([] : List Int), ([] : List Int), (0 : Int), (0 : Int), (0 : Int)), ([] : List Int), (0 : Int), e, b)] = 0 := by
    refine chErr_zero.2 ⟨by simp, fun c hc => ?_, ?_⟩
    · rw [List.mem_singleton] at hc; subst hc; exact hch
    · have h1 := sm_len 1
      have h2 := putB_len hch
      unfold chBytes
      rw [putsB_one, List.length_append, List.length_singleton]; omega
  simp only [F_promote_turn, hap, Option.bind_some]
  unfold applyS
  rw [if_pos hv, if_pos hz]
  have ho : oneS v ((6 : Int), (0 : Int), (([] : List Int), ([] : List Int), (0 : Int), (0 : Int), (0 : Int)), ([] : List Int), (0 : Int), e, b) = if e < v.2.2.2.1 then .inl 2 else .inr (v.1, v.2.1, v.2.2.1, e, v.2.2.2.2.1, b) := by
    unfold oneS
    dsimp only
    rw [if_neg (fun hh => hh.2.1 rfl), if_neg (by decide), if_neg (by decide), if_neg (by decide), if_pos rfl]
  rw [applyL, ho]
  by_cases g : e < v.2.2.2.1
  · rw [if_pos g, if_pos g]; rfl
  · rw [if_neg g, if_neg g]; rfl
theorem andNot1 {w : Int} (h1 : -9223372036854775808 ≤ w) (h2 : w ≤ 9223372036854775807) (h : bitsOp .andNot .i64 w 1 = 0) : w = 0 ∨ w = 1 := by
  have e : bitsOp .andNot .i64 w 1 = IntKind.i64.wrap ((BitVec.ofInt 64 w &&& ~~~BitVec.ofInt 64 1).toNat : Int) := rfl
  have hx : (BitVec.ofInt 64 w).toNat < 2 ^ 64 := (BitVec.ofInt 64 w).isLt
  have hxe : (BitVec.ofInt 64 w).toNat = (w % 18446744073709551616).toNat := by rw [BitVec.toNat_ofInt]; rfl
  have hn : (~~~BitVec.ofInt 64 1).toNat = 2 * (2 ^ 63 - 1) := rfl
  rw [e, BitVec.toNat_and, hn] at h
  generalize (BitVec.ofInt 64 w).toNat = x at h hx hxe
  have hs : (x &&& 2 * (2 ^ 63 - 1)) >>> 1 = x / 2 := by
    rw [Nat.shiftRight_and_distrib, Nat.shiftRight_eq_div_pow, Nat.shiftRight_eq_div_pow, Nat.pow_one, Nat.mul_div_cancel_left _ (by decide), Nat.and_two_pow_sub_one_eq_mod, Nat.mod_eq_of_lt (by omega)]
  have hle : (x &&& 2 * (2 ^ 63 - 1)) ≤ x := Nat.and_le_left
  have hz : ((x &&& 2 * (2 ^ 63 - 1) : Nat) : Int) % 18446744073709551616 = 0 := by
    generalize ((x &&& 2 * (2 ^ 63 - 1) : Nat) : Int) = y at h
    have hw : IntKind.i64.wrap y = if (true && decide (y % 18446744073709551616 ≥ 9223372036854775808)) = true then y % 18446744073709551616 - 18446744073709551616 else y % 18446744073709551616 := rfl
    rw [hw] at h
    split at h <;> omega
  have h0 : (x &&& 2 * (2 ^ 63 - 1)) = 0 := by omega
  rw [h0] at hs
  have : x < 2 := by
    have : x / 2 = 0 := hs.symm
    omega
  omega
theorem pnext_ok {a : Int} {w : Nat} (hw : w < 2) : F_promote_Next mx (a, (w : Int)) = some (if a < 0 ∨ 2147483647 < a then (0, 2) else
    if 2147483647 < a + 1 + (((a.toNat + 1) % 2 + w) % 2 : Nat) then (0, 250) else (a + 1 + (((a.toNat + 1) % 2 + w) % 2 : Nat), 0)) := by
  simp only [F_promote_Next]
  by_cases h1 : a < 0
  · rw [decide_eq_true h1, if_pos (.inl h1)]; rfl
  rw [decide_eq_false h1]
  by_cases h2 : 2147483647 < a
  · rw [decide_eq_true h2, if_pos (.inr h2)]; rfl
  rw [decide_eq_false h2, if_neg (by omega)]
  have h3 : (bitsOp .andNot .i64 (w : Int) 1 != 0) = false := by
    have : w = 0 ∨ w = 1 := by omega
    obtain rfl | rfl := this <;> rfl
  rw [h3]
  obtain ⟨n, rfl⟩ := Int.eq_ofNat_of_zero_le (show 0 ≤ a by omega)
  have e5 : IntKind.i64.wrap ((n : Int) + 1) = ((n + 1 : Nat) : Int) := inc64 (by omega)
  simp only [cond_false, e5, and1 (show n + 1 < 9223372036854775808 by omega), xor2 (show (n + 1) % 2 < 2 by omega) hw, Int.toNat_natCast]
  rw [w64 (by omega) (by omega)]
  by_cases h4 : 2147483647 < (n : Int) + 1 + (((n + 1) % 2 + w) % 2 : Nat)
  · rw [decide_eq_true (show 2147483647 < ((n + 1 : Nat) : Int) + (((n + 1) % 2 + w) % 2 : Nat) by omega), if_pos h4]; rfl
  · rw [decide_eq_false (show ¬ 2147483647 < ((n + 1 : Nat) : Int) + (((n + 1) % 2 + w) % 2 : Nat) by omega), if_neg h4]; rfl
/-- What the next epoch is: of the node's own kind, and close above. -/
theorem pnext_cases (a : Int) {w : Nat} (hw : w < 2) : ∃ x, F_promote_Next mx (a, (w : Int)) = some x ∧ (x.2 = 0 → 0 ≤ x.1 ∧ x.1 ≤ 2147483647 ∧ x.1.toNat % 2 = w ∧ a < x.1 ∧ x.1 ≤ a + 2 ∧ a ≤ 2147483647 ∧ 0 ≤ a) := by
  refine ⟨_, pnext_ok hw, ?_⟩
  by_cases h1 : a < 0 ∨ 2147483647 < a
  · rw [if_pos h1]; intro h; cases h
  rw [if_neg h1]
  by_cases h2 : 2147483647 < a + 1 + (((a.toNat + 1) % 2 + w) % 2 : Nat)
  · rw [if_pos h2]; intro h; cases h
  rw [if_neg h2]
  intro _
  dsimp only
  refine ⟨by omega, by omega, ?_, by omega, by omega, by omega, by omega⟩
  have : (a + 1 + (((a.toNat + 1) % 2 + w) % 2 : Nat)).toNat = a.toNat + 1 + ((a.toNat + 1) % 2 + w) % 2 := by omega
  rw [this]; omega
theorem pnext_any {a w : Int} (h1 : -9223372036854775808 ≤ w) (h2 : w ≤ 9223372036854775807) : ∃ x, F_promote_Next mx (a, w) = some x ∧ (x.2 = 0 ∨ x.2 = 2 ∨ x.2 = 250) ∧
    (x.2 = 0 → (w = 0 ∨ w = 1) ∧ 0 ≤ x.1 ∧ x.1 ≤ 2147483647 ∧ ((x.1.toNat % 2 : Nat) : Int) = w ∧ a < x.1 ∧ 0 ≤ a) := by
  by_cases hw : w = 0 ∨ w = 1
  · obtain ⟨m, rfl, hm⟩ : ∃ m : Nat, w = (m : Int) ∧ m < 2 := ⟨w.toNat, by omega, by omega⟩
    refine ⟨_, pnext_ok hm, ?_, fun h => ?_⟩
    · split
      · exact .inr (.inl rfl)
      · split
        · exact .inr (.inr rfl)
        · exact .inl rfl
    · obtain ⟨x, hx, px⟩ := pnext_cases a hm
      rw [pnext_ok hm] at hx
      have hx := Option.some.inj hx
      rw [hx] at h ⊢
      obtain ⟨p1, p2, p3, p4, p5, p6, p7⟩ := px h
      exact ⟨hw, p1, p2, by omega, p4, p7⟩
  · refine ⟨(0, 2), ?_, .inr (.inl rfl), fun h => by cases h⟩
    have hne : (bitsOp .andNot .i64 w 1 != 0) = true := bne_iff_ne.2 fun h => hw (andNot1 h1 h2 h)
    simp only [F_promote_Next, hne, cond_true]
    cases decide (a < 0) <;> cases decide ((2147483647 : Int) < a) <;> rfl
theorem apply_turn {v : Img} (hv : okI v) {e : Int} (he : inN e) (b : Bool) (g : ¬ e < v.2.2.2.1) :
    F_image_Apply mx (v.1, v.2.1, v.2.2.1, v.2.2.2.1, v.2.2.2.2.1, v.2.2.2.2.2, [((6 : Int), (0 : Int), (([] : List Int), ([] : List Int), (0 : Int), (0 : Int), (0 : Int)), ([] : List Int), (0 : Int), e, b)]) = some (v.1, v.2.1, v.2.2.1, e, v.2.2.2.2.1, b, 0) := by
  have h := turn_ok hv he b
  rw [if_neg g] at h
  simp only [F_promote_turn] at h
  obtain ⟨y, hy⟩ : ∃ y, F_image_Apply mx (v.1, v.2.1, v.2.2.1, v.2.2.2.1, v.2.2.2.2.1, v.2.2.2.2.2, [((6 : Int), (0 : Int), (([] : List Int), ([] : List Int), (0 : Int), (0 : Int), (0 : Int)), ([] : List Int), (0 : Int), e, b)]) = some y := by
    cases hh : F_image_Apply mx (v.1, v.2.1, v.2.2.1, v.2.2.2.1, v.2.2.2.2.1, v.2.2.2.2.2, [((6 : Int), (0 : Int), (([] : List Int), ([] : List Int), (0 : Int), (0 : Int), (0 : Int)), ([] : List Int), (0 : Int), e, b)]) with
    | some y => exact ⟨y, rfl⟩
    | none => rw [hh] at h; cases h
  rw [hy] at h ⊢
  obtain ⟨y1, y2, y3, y4, y5, y6, y7⟩ := y
  have h := Option.some.inj h
  simp only [Prod.mk.injEq] at h
  obtain ⟨h1, h2, h3, h4, h5, h6, _, h7⟩ := h
  rw [h1, h2, h3, h4, h5, h6, h7]
def turnC (e : Int) (b : Bool) : Chg := (6, 0, ([], [], 0, 0, 0), [], 0, e, b)
/-- Who goes up. -/
theorem up_ok {f : Fol} (hf : okF f) {w : Int} (h1 : -9223372036854775808 ≤ w) (h2 : w ≤ 9223372036854775807) :
    (∃ e, (e = 2 ∨ e = 250) ∧ F_promote_Up mx (f.1, f.2.1, f.2.2.1, f.2.2.2.1, f.2.2.2.2.1, f.2.2.2.2.2.1, f.2.2.2.2.2.2.1, f.2.2.2.2.2.2.2, w) = some (0, 0, 0, [], 0, [], [], 0, 0, false, [], e)) ∨
    ∃ x, (w = 0 ∨ w = 1) ∧ inN x ∧ ((x.toNat % 2 : Nat) : Int) = w ∧ f.1 < x ∧ F_promote_Up mx (f.1, f.2.1, f.2.2.1, f.2.2.2.1, f.2.2.2.2.1, f.2.2.2.2.2.1, f.2.2.2.2.2.2.1, f.2.2.2.2.2.2.2, w) =
      some (x, f.2.1, 0, [], f.2.2.1, f.2.2.2.1, f.2.2.2.2.1, x, f.2.1, true, [turnC x true], 0) := by
  have hck := fcheck_ok (f := f) (fun k hk => okI_len hf.2.2.1 k hk)
  obtain ⟨o1, o2, o3, o4, o5, o6⟩ := id hf
  obtain ⟨e, n, t, q, l, ie, inn, ib⟩ := f
  dsimp only at o1 o2 o3 o4 o5 o6 hck ⊢
  subst o4 o5 o6
  obtain ⟨x, hx, hx1, hx2⟩ := pnext_any (a := ie) h1 h2
  by_cases g : x.2 = 0
  case neg =>
    refine .inl ⟨x.2, hx1.resolve_left g, ?_⟩
    simp only [F_promote_Up, hck, if_pos hf, hx, Option.bind_some, bne_self_eq_false, cond_false, bne_iff_ne.2 g, cond_true]
  obtain ⟨p1, p2, p3, p4, p5, p6⟩ := hx2 g
  have hin : inN x.1 := ⟨p2, p3⟩
  have ht := turn_ok o3 hin true
  rw [if_neg (show ¬ x.1 < ie by omega)] at ht
  refine .inr ⟨x.1, p1, hin, p4, p5, ?_⟩
  have ht : F_promote_turn mx (t, q, l, ie, inn, false, x.1, true) = _ := ht
  simp only [F_promote_Up, hck, if_pos hf, hx, Option.bind_some, bne_self_eq_false, cond_false, g, newN_ok, if_pos (show inN x.1 ∧ inN inn from ⟨hin, o2⟩), ht]; rfl
/-- A turned image may be. -/
theorem turned_ok {v : Img} (h : okI v) {e n : Int} (he : inN e) (hn : inN n) (b : Bool) : okI (v.1, v.2.1, v.2.2.1, e, n, b) := by
  obtain ⟨h1, h2, h3, h4, h5, h6, h7⟩ := h
  exact ⟨h1, h2, h3, he, hn, h6, h7⟩
theorem newOk {e n : Int} (he : inN e) (hn : inN n) : okN (e, n, 0, []) := ⟨he, hn, ⟨Int.le_refl 0, hn.1⟩, ⟨by simp, by simpa using hn.1⟩, fun r hr => by cases hr⟩
theorem newWf (e n a : Int) : wfS (e, n, a, []) := ⟨by simp, fun r hr => by cases hr⟩
/-- Who goes down. -/
theorem down_ok {s : Snd} (hs : wfS s) {v : Img} (hb : ∀ k ∈ v.2.2.1, k.2.1.length ≤ 140737488351232 ∧ k.2.2.1.length ≤ 140737488351232) (x : Int) :
    (∃ e, e ≠ 0 ∧ F_promote_Down mx (s.1, s.2.1, s.2.2.1, s.2.2.2, v.1, v.2.1, v.2.2.1, v.2.2.2.1, v.2.2.2.2.1, v.2.2.2.2.2, x) = some (0, 0, 0, [], [], 0, 0, false, [], e)) ∨
    (okN s ∧ okI v ∧ v.2.2.2.1 = s.1 ∧ v.2.2.2.2.1 = s.2.1 ∧ v.2.2.2.2.2 = true ∧ inN x ∧ s.1 < x ∧
      F_promote_Down mx (s.1, s.2.1, s.2.2.1, s.2.2.2, v.1, v.2.1, v.2.2.1, v.2.2.2.1, v.2.2.2.2.1, v.2.2.2.2.2, x) = some (s.1, s.2.1, v.1, v.2.1, v.2.2.1, s.1, s.2.1, false, [turnC s.1 false], 0)) := by
  have hcs := checkN_ok hs
  have hci := check_ok hb
  obtain ⟨e, n, a, rs⟩ := s
  obtain ⟨t, q, l, ie, inn, ib⟩ := v
  dsimp only at hcs hci ⊢
  by_cases h1 : okN (e, n, a, rs)
  case neg =>
    refine .inl ⟨8, by decide, ?_⟩
    simp only [F_promote_Down, hcs.2 h1, Option.bind_some]; rfl
  by_cases h2 : okI (t, q, l, ie, inn, ib)
  case neg =>
    refine .inl ⟨8, by decide, ?_⟩
    simp only [F_promote_Down, hcs.1 h1, hci, if_neg h2, Option.bind_some]; rfl
  simp only [F_promote_Down, hcs.1 h1, hci, if_pos h2, Option.bind_some, bne_self_eq_false, cond_false, bne_int]
  by_cases h3 : ie = e
  case neg => rw [decide_eq_false h3]; exact .inl ⟨260, by decide, rfl⟩
  rw [decide_eq_true h3]
  by_cases h4 : inn = n
  case neg => rw [decide_eq_false h4]; exact .inl ⟨260, by decide, rfl⟩
  rw [decide_eq_true h4]
  cases ib with
  | false => exact .inl ⟨260, by decide, rfl⟩
  | true =>
  simp only [Bool.not_true, cond_false]
  by_cases h5 : x < 0
  · rw [decide_eq_true h5]; exact .inl ⟨2, by decide, rfl⟩
  rw [decide_eq_false h5]
  by_cases h6 : 2147483647 < x
  · rw [decide_eq_true h6]; exact .inl ⟨2, by decide, rfl⟩
  rw [decide_eq_false h6]
  by_cases h7 : x ≤ e
  · rw [decide_eq_true h7]; exact .inl ⟨250, by decide, rfl⟩
  rw [decide_eq_false h7]
  have ht := turn_ok h2 h1.1 false
  dsimp only at ht
  rw [if_neg (show ¬ e < ie by omega)] at ht
  simp only [cond_false, ht, Option.bind_some]
  refine .inr ⟨h1, h2, h3, h4, trivial, ⟨by omega, by omega⟩, by omega, ?_⟩
  rw [h4]; rfl
theorem psure_ok {s : Snd} (hs : wfS s) (k : Int) : (okN s → F_promote_Sure mx (s.1, s.2.1, s.2.2.1, s.2.2.2, k, true) = some (if 0 ≤ k ∧ k ≤ s.2.1 then (decide (k ≤ s.2.2.1), 0) else (false, 2))) ∧
    (¬ okN s → F_promote_Sure mx (s.1, s.2.1, s.2.2.1, s.2.2.2, k, true) = some (false, 8)) := by
  have hcs := checkN_ok hs
  obtain ⟨e, n, a, rs⟩ := s
  dsimp only at hcs ⊢
  refine ⟨fun h1 => ?_, fun h1 => ?_⟩
  case refine_2 => simp only [F_promote_Sure, hcs.2 h1, Option.bind_some]; rfl
  simp only [F_promote_Sure, hcs.1 h1, Option.bind_some, bne_self_eq_false, cond_false]
  by_cases h2 : k < 0
  · rw [decide_eq_true h2, if_neg (by omega)]; rfl
  rw [decide_eq_false h2]
  by_cases h3 : n < k
  · rw [decide_eq_true h3, if_neg (by omega)]; rfl
  rw [decide_eq_false h3, if_pos (by omega)]; rfl
end Go.Proofs.YtajlmgpcfbhgjaaGreat
