/- The plain law of NumbersBytes. -/
import Derived.Test.YtmkfifilpkhfoaaKXn
namespace Go.Proofs.Ytmkfifilpkhfoaa.numbersBytes
open Go.Abs
set_option maxRecDepth 100000
theorem w1_ok (l : List Int) (hl : l.length ≤ 1000000) : ∃ u, iter mx (F_law24_NumbersBytes.l8186 mx) ((0 : Int), l) = some u := by
  obtain ⟨r, hr, _⟩ := iter_inv (f := F_law24_NumbersBytes.l8186 mx) (fun s => ∃ k : Nat, s.1 = (k : Int) ∧ k ≤ l.length ∧ s.2.length = l.length) (fun s => l.length - s.1.toNat) (fun _ => True) ((0 : Int), l) ⟨0, rfl, by omega, rfl⟩ (lt_N0 (by dsimp only; omega))
    (fun s ⟨k, e, hk, hs⟩ => by
      obtain ⟨i, a⟩ := s
      dsimp only at e hs
      subst e
      by_cases g : k < l.length
      · refine .inl ⟨(((k + 1 : Nat) : Int), a.set k (IntKind.u8.wrap (a.getD k 0 + 1))), ?_, ⟨k + 1, rfl, by omega, by rw [List.length_set]; exact hs⟩, by dsimp only; omega⟩
        have g2 : k < a.length := by omega
        simp only [F_law24_NumbersBytes.l8186, ltd g2, lez, Bool.and_self, cond_true, Int.toNat_natCast, blt_t g2]
        rw [inc64 (by omega)]
      · refine .inr ⟨(), ?_, trivial⟩
        have g2 : ¬ ((k : Int) < (a.length : Int)) := by omega
        simp only [F_law24_NumbersBytes.l8186, decide_eq_false g2, cond_false])
  exact ⟨r, hr⟩
theorem w2_ok (l : List Int) (hl : l.length ≤ 1000000) : ∃ u, iter mx (F_law24_NumbersBytes.l16378 mx) ((0 : Int), l) = some u := w1_ok l hl
theorem main (kd e n : Int) (a b : List Int) (hk : 0 ≤ kd ∧ kd ≤ 255) (ha : bytesI a) (hb : bytesI b) : F_law24_NumbersBytes mx (kd, e, n, a, b) = some true := by
  by_cases h1 : 100000 < a.length
  · simp only [F_law24_NumbersBytes, decide_eq_true (show (100000 : Int) < (a.length : Int) by omega), cond_true]
  by_cases h2 : 100000 < b.length
  · simp only [F_law24_NumbersBytes, decide_eq_false (show ¬ (100000 : Int) < (a.length : Int) by omega), decide_eq_true (show (100000 : Int) < (b.length : Int) by omega), cond_true, cond_false]
  have ht := rtwinM_ok (m := (kd, e, n, a)) (by dsimp only; omega)
  have hw : wfM (kd, e, n, a) := ⟨hk, ha⟩
  obtain ⟨x, w1, w2, hx⟩ : ∃ x, F_numbers_Write mx (kd, e, n, a) = some x ∧ F_ref24_Write mx (kd, e, n, a) = some x ∧ x.1.length ≤ 1000000 := by
    rcases nwrite_tot hw (by dsimp only; omega) with ⟨hm, p⟩ | ⟨hm, p⟩ <;> rcases rwrite24_tot hw (by dsimp only; omega) with ⟨hm2, q⟩ | ⟨hm2, q⟩
    · exact ⟨_, p, q, by have := (rd_msg hm hw).2.1; dsimp only; omega⟩
    · exact absurd hm hm2
    · exact absurd hm2 hm
    · exact ⟨_, p, q, by simp⟩
  obtain ⟨y, r1, r2, hy⟩ := read24_both hb
  have hyl : y.2.2.2.1.length ≤ 1000000 := by
    rcases hy with ⟨_, rfl⟩ | ⟨_, rfl⟩ | ⟨_, m, hm, _, _, rfl⟩
    · simp
    · simp
    · have := may_len hm; dsimp only; omega
  obtain ⟨u1, l1⟩ := w1_ok x.1 hx
  obtain ⟨u2, l2⟩ := w2_ok y.2.2.2.1 hyl
  have s1 := rsameM_ok (y.1, y.2.1, y.2.2.1, y.2.2.2.1)
  have s2 := rsameM_ok (kd, e, n, a)
  dsimp only at s1 s2
  simp only [F_law24_NumbersBytes, decide_eq_false (show ¬ (100000 : Int) < (a.length : Int) by omega), decide_eq_false (show ¬ (100000 : Int) < (b.length : Int) by omega), cond_false, ht, Option.bind_some, ble_t (show b.length ≤ 140737488351232 by omega), cond_true, w1, w2, r1, r2, beq_self_eq_true, bne_self_eq_false, Bool.not_true, s1, s2, l1, l2]
theorem pure (p : (tupT (insL F_law24_NumbersBytes.sig.pars)).den) (h : wfIns F_law24_NumbersBytes.sig.pars p) : F_law24_NumbersBytes mx p = some true := by
  obtain ⟨kd, e, n, a, b⟩ := p
  exact main kd e n a b (wfu8 h.1.1) (fun x hx => wfu8 (h.1.2.2.2.1.1 x hx)) (fun x hx => wfu8 (h.2.1.1.1 x hx))
end Go.Proofs.Ytmkfifilpkhfoaa.numbersBytes
