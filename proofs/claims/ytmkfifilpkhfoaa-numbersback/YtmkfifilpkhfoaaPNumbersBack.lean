/- The plain law of NumbersBack. -/
import Derived.Test.YtmkfifilpkhfoaaKXn
namespace Go.Proofs.Ytmkfifilpkhfoaa.numbersBack
open Go.Abs
set_option maxRecDepth 100000
theorem alive_ok : F_law24_alive mx () = some true := by kernel_rfl
theorem main (kd e n : Int) (a b : List Int) (hk : 0 ≤ kd ∧ kd ≤ 255) (ha : bytesI a) (hb : bytesI b) : F_law24_NumbersBack mx (kd, e, n, a, b) = some true := by
  by_cases h1 : 100000 < a.length
  · simp only [F_law24_NumbersBack, alive_ok, Option.bind_some, Bool.not_true, cond_false, decide_eq_true (show (100000 : Int) < (a.length : Int) by omega), cond_true]
  by_cases h2 : 100000 < b.length
  · simp only [F_law24_NumbersBack, alive_ok, Option.bind_some, Bool.not_true, decide_eq_false (show ¬ (100000 : Int) < (a.length : Int) by omega), decide_eq_true (show (100000 : Int) < (b.length : Int) by omega), cond_true, cond_false]
  have hw : wfM (kd, e, n, a) := ⟨hk, ha⟩
  obtain ⟨x, w1, w2⟩ : ∃ x, F_numbers_Write mx (kd, e, n, a) = some x ∧ F_law24_NumbersBack.s126 mx kd e n a x = some (.inr ()) := by
    rcases nwrite_tot hw (by dsimp only; omega) with ⟨hm, p⟩ | ⟨hm, p⟩
    · refine ⟨_, p, ?_⟩
      have s1 := rsameM_ok (kd, e, n, a)
      dsimp only at s1
      simp only [F_law24_NumbersBack.s126, beq_self_eq_true, cond_true, nread_sm hm hw, Option.bind_some, bne_self_eq_false, cond_false, s1, Bool.not_true]
    · exact ⟨_, p, rfl⟩
  obtain ⟨y, r1, hy⟩ := nread_tot hb
  simp only [F_law24_NumbersBack, alive_ok, Option.bind_some, Bool.not_true, decide_eq_false (show ¬ (100000 : Int) < (a.length : Int) by omega), decide_eq_false (show ¬ (100000 : Int) < (b.length : Int) by omega), cond_true, cond_false, w1, w2, r1]
  rcases hy with ⟨_, rfl⟩ | ⟨_, rfl⟩ | ⟨_, m, hm, hwm, hb2, rfl⟩
  · rfl
  · rfl
  · have hl := may_len hm
    have := nwrite_eq hwm.1 hwm.2 (by omega) hm
    obtain ⟨t, f, g, s⟩ := m
    simp only [bne_self_eq_false, cond_false, this, Option.bind_some, beq_self_eq_true, cond_true, hb2]
theorem pure (p : (tupT (insL F_law24_NumbersBack.sig.pars)).den) (h : wfIns F_law24_NumbersBack.sig.pars p) : F_law24_NumbersBack mx p = some true := by
  obtain ⟨kd, e, n, a, b⟩ := p
  exact main kd e n a b (wfu8 h.1.1) (fun x hx => wfu8 (h.1.2.2.2.1.1 x hx)) (fun x hx => wfu8 (h.2.1.1.1 x hx))
end Go.Proofs.Ytmkfifilpkhfoaa.numbersBack
