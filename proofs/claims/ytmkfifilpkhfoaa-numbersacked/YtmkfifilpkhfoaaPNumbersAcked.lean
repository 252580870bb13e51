/- The plain law of NumbersAcked. -/
import Derived.Test.YtmkfifilpkhfoaaKS
namespace Go.Proofs.Ytmkfifilpkhfoaa.numbersAcked
open Go.Abs
set_option maxRecDepth 100000
theorem main {s : Snd} (hs : wfS s) {v : Img} (hv : wfV v) {m : Msg} (hk : 0 ≤ m.1 ∧ m.1 ≤ 255) (hm : bytesI m.2.2.2) :
    F_law24_NumbersAcked mx (s.1, s.2.1, s.2.2.1, s.2.2.2, v.1, v.2.1, v.2.2.1, v.2.2.2.1, v.2.2.2.2.1, v.2.2.2.2.2, m) = some true := by
  obtain ⟨b1, e1, f1⟩ := great24 s (by have := hs.1; omega)
  obtain ⟨b2, e2, f2⟩ := great_some v (by have := hv.1.1; omega)
  have e1 : F_ref24_Great mx (s.1, s.2.1, s.2.2.1, s.2.2.2) = some b1 := e1
  have e2 : F_ref21_Great mx (v.1, v.2.1, v.2.2.1, v.2.2.2.1, v.2.2.2.2.1, v.2.2.2.2.2) = some b2 := e2
  have hck := checkN_ok hs
  have hcp : ∀ x, F_numbers_Check mx s = some x → F_numbers_Check mx (s.1, s.2.1, s.2.2.1, s.2.2.2) = some x := fun x h => h
  have hh := hear_ok hs hv.1.2 hv.2 hk hm
  obtain ⟨kd, me, mn, mb⟩ := m
  dsimp only at hk hm
  simp only [F_law24_NumbersAcked, alive_ok, Option.bind_some, Bool.not_true, cond_false, e1]
  cases b1 with
  | true => rfl
  | false =>
  simp only [cond_false, e2, Option.bind_some]
  cases b2 with
  | true => rfl
  | false =>
  by_cases h1 : 100000 < mb.length
  · simp only [cond_false, decide_eq_true (show (100000 : Int) < (mb.length : Int) by omega), cond_true]
  simp only [cond_false, decide_eq_false (show ¬ (100000 : Int) < (mb.length : Int) by omega)]
  by_cases h2 : okN s
  case neg => rw [hcp _ (hck.2 h2)]; rfl
  rw [hcp _ (hck.1 h2)]
  simp only [Option.bind_some, bne_self_eq_false, cond_false, bne_int]
  have hz : F_ref24_SameSender mx (0, 0, 0, [], 0, 0, 0, []) = some true := samesnd (0, 0, 0, []) (by simp)
  rcases hh with ⟨_, h3, h4, hh⟩ | ⟨_, hh⟩
  · rw [hh]
    obtain ⟨n1, n2, ⟨n3, n4⟩, _⟩ := id h2
    simp only [Option.bind_some, hearS]
    by_cases k2 : kd = 2
    · rw [if_pos k2]
      by_cases g : me = s.1 ∧ mn ≤ s.2.1
      · rw [if_pos g]
        simp only [decide_true, Bool.not_true, cond_false, cond_true]
        have hm1 : s.2.2.1 ≤ mxI s.2.2.1 mn ∧ mxI s.2.2.1 mn ≤ s.2.1 ∧ (mxI s.2.2.1 mn = s.2.2.1 ∨ mxI s.2.2.1 mn = mn) := by unfold mxI; split <;> omega
        rw [decide_eq_true hm1.1, decide_eq_true hm1.2.1]
        simp only [cond_true, beq_self_eq_true, ieq, decide_eq_true k2, decide_eq_true g.1]
        by_cases g2 : mxI s.2.2.1 mn = s.2.2.1
        · rw [decide_eq_true g2]; rfl
        · rw [decide_eq_false g2, decide_eq_true (show mn = mxI s.2.2.1 mn by omega)]; rfl
      · rw [if_neg g]
        simp only [decide_true, Bool.not_true, cond_false, cond_true, Int.le_refl, decide_eq_true n4, beq_self_eq_true]
    · rw [if_neg k2]
      by_cases k3 : kd = 3
      · rw [if_pos k3]
        by_cases g : me = s.1 ∧ mn ≤ s.2.1 ∧ s.2.1 - (s.2.2.2.length : Int) ≤ mn
        · rw [if_pos g]
          simp only [decide_true, Bool.not_true, cond_false, cond_true, Int.le_refl, decide_eq_true n4, beq_self_eq_true]
        · rw [if_neg g]
          by_cases g2 : (writeS v).2 = 0
          · rw [if_pos g2]
            simp only [decide_true, Bool.not_true, cond_false, cond_true, Int.le_refl, decide_eq_true n4, beq_self_eq_true]
          · rw [if_neg g2]
            simp only [decide_eq_false g2, Bool.not_false, cond_true, hz, Option.bind_some]
            simp
      · rw [if_neg k3]
        simp only [decide_true, Bool.not_true, cond_false, cond_true, Int.le_refl, decide_eq_true n4, beq_self_eq_true]
  · rw [hh]
    simp only [Option.bind_some, hz]
    rfl
theorem pure (q : Int × Int × Int × (List (List Int)) × Int × (List Int) × (List (Int × (List Int) × (List Int) × Int × Int × Int)) × Int × Int × Bool × Int × Int × Int × (List Int)) (h : wfIns F_law24_NumbersAcked.sig.pars q) : F_law24_NumbersAcked mx q = some true := by
  obtain ⟨e, n, a, rs, t, qs, l, ie, inn, ib, m⟩ := q
  exact main (s := (e, n, a, rs)) (v := (t, qs, l, ie, inn, ib)) (m := m) (wfS_of h.1) (wfV_of h.2.1) (wfu8 h.2.2.1.1) (fun x hx => wfu8 (h.2.2.1.2.2.2.1.1 x hx))
end Go.Proofs.Ytmkfifilpkhfoaa.numbersAcked
