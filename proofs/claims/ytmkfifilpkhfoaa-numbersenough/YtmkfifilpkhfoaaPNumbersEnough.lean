/- The plain law of NumbersEnough. -/
import Derived.Test.YtmkfifilpkhfoaaKS
namespace Go.Proofs.Ytmkfifilpkhfoaa.numbersEnough
open Go.Abs
set_option maxRecDepth 100000
theorem s510_one (x1 : Int × Int × Int × List (List Int)) (a0 a1 : Int) (v : Img) (hv : wfV v) (b : List Int) (hw : writeS v = (b, 0)) :
    F_law24_NumbersEnough.s510 mx a0 a1 v.1 v.2.1 v.2.2.1 v.2.2.2.1 v.2.2.2.2.1 v.2.2.2.2.2 true (x1.1, x1.2.1, x1.2.2.1, x1.2.2.2, [(4, a0, a1, b)], 0) = some (.inl true) := by
  have hwr := write_ok hv.1.2 hv.2
  rw [hw] at hwr
  have hwr : F_image_Write mx (v.1, v.2.1, v.2.2.1, v.2.2.2.1, v.2.2.2.2.1, v.2.2.2.2.2) = _ := hwr
  have s10 : F_law24_NumbersEnough.s1020 mx (x1.1, x1.2.1, x1.2.2.1, x1.2.2.2, [((4 : Int), a0, a1, b)], (0 : Int)) = some true := rfl
  have c1 : decide ((0 : Int) < (([((4 : Int), a0, a1, b)] : List Msg).length : Int)) = true := rfl
  have c2 : Nat.blt 0 ([((4 : Int), a0, a1, b)] : List Msg).length = true := rfl
  have g0 : ([((4 : Int), a0, a1, b)] : List Msg).getD 0 (0, 0, 0, []) = (4, a0, a1, b) := rfl
  simp only [F_law24_NumbersEnough.s510, s10, Option.bind_some, cond_true, hwr, beq_self_eq_true, c1, c2, g0]
theorem s510_none (x1 : Int × Int × Int × List (List Int)) (a0 a1 : Int) (v : Img) (l : List Msg) (hl : ∀ x ∈ l, x.1 = 1) :
    F_law24_NumbersEnough.s510 mx a0 a1 v.1 v.2.1 v.2.2.1 v.2.2.2.1 v.2.2.2.2.1 v.2.2.2.2.2 true (x1.1, x1.2.1, x1.2.2.1, x1.2.2.2, l, 0) = some (.inr ()) := by
  have s10 : F_law24_NumbersEnough.s1020 mx (x1.1, x1.2.1, x1.2.2.1, x1.2.2.2, l, (0 : Int)) = some false := by
    simp only [F_law24_NumbersEnough.s1020, ieq]
    by_cases h : l.length = 1
    · have h1 := hl _ (getD_lt (l := l) (i := 0) (d := M0) (by omega))
      simp only [decide_eq_true (show (l.length : Int) = 1 by omega), cond_true, decide_eq_true (show (0 : Int) < (l.length : Int) by omega), blt_t (show 0 < l.length by omega)]
      rw [show (l.getD 0 (0, 0, 0, [])).1 = 1 from h1]; rfl
    · rw [decide_eq_false (show ¬ (l.length : Int) = 1 by omega)]; rfl
  simp only [F_law24_NumbersEnough.s510, s10, Option.bind_some, cond_false]
theorem loop_ok (e : Int) (rs : List (List Int)) (k : Int) (x1 : Int × Int × Int × List (List Int)) (l : List Msg) (hl : l.length ≤ rs.length) (hr : rs.length ≤ 32) (hk : 0 ≤ k ∧ k ≤ 2147483647)
    (h : ∀ i, i < l.length → (l.getD i M0).1 = 1 ∧ (l.getD i M0).2.1 = e ∧ (l.getD i M0).2.2.1 = k + 1 + (i : Int) ∧ (l.getD i M0).2.2.2 = rs.getD (rs.length - l.length + i) []) :
    iter mx (F_law24_NumbersEnough.l8186 mx e rs k (x1.1, x1.2.1, x1.2.2.1, x1.2.2.2, l, 0)) (0 : Int) = some (.inr ()) := by
  have := iter_count (f := F_law24_NumbersEnough.l8186 mx e rs k (x1.1, x1.2.1, x1.2.2.1, x1.2.2.2, l, 0)) (fun i => (i : Int)) l.length (r := .inr ()) (lt_N0 (by omega)) (fun i hi => by
    obtain ⟨h1, h2, h3, h4⟩ := h i hi
    have w1 : IntKind.i64.wrap (k + 1) = k + 1 := w64 (by omega) (by omega)
    have w2 : IntKind.i64.wrap (k + 1 + (i : Int)) = k + 1 + (i : Int) := w64 (by omega) (by omega)
    have w3 : IntKind.i64.wrap ((rs.length : Int) - (l.length : Int)) = ((rs.length - l.length : Nat) : Int) := by rw [w64 (by omega) (by omega)]; omega
    have w4 : IntKind.i64.wrap (((rs.length - l.length : Nat) : Int) + (i : Int)) = ((rs.length - l.length + i : Nat) : Int) := by rw [w64 (by omega) (by omega)]; omega
    simp only [F_law24_NumbersEnough.l8186, ltd hi, lez, Bool.and_self, cond_true, Int.toNat_natCast, blt_t hi, h1, h2, h3, h4, bne_self_eq_false, cond_false, w1, w2, w3, w4, ltd (show rs.length - l.length + i < rs.length by omega), beq_self_eq_true, Bool.not_true]
    rw [inc64 (by omega)]) (by simp only [F_law24_NumbersEnough.l8186, nltd, cond_false])
  exact this
theorem main {s : Snd} (hs : wfS s) {v : Img} (hv : wfV v) (me mn : Int) :
    F_law24_NumbersEnough mx (s.1, s.2.1, s.2.2.1, s.2.2.2, v.1, v.2.1, v.2.2.1, v.2.2.2.1, v.2.2.2.2.1, v.2.2.2.2.2, me, mn) = some true := by
  obtain ⟨b1, e1, f1⟩ := great24 s (by have := hs.1; omega)
  obtain ⟨b2, e2, f2⟩ := great_some v (by have := hv.1.1; omega)
  have e1 : F_ref24_Great mx (s.1, s.2.1, s.2.2.1, s.2.2.2) = some b1 := e1
  have e2 : F_ref21_Great mx (v.1, v.2.1, v.2.2.1, v.2.2.2.1, v.2.2.2.2.1, v.2.2.2.2.2) = some b2 := e2
  have hck := checkN_ok hs
  have hcp : ∀ x, F_numbers_Check mx s = some x → F_numbers_Check mx (s.1, s.2.1, s.2.2.1, s.2.2.2) = some x := fun x h => h
  have hh := hear_ok (m := (3, me, mn, [])) hs hv.1.2 hv.2 ⟨(by decide : (0 : Int) ≤ 3), (by decide : (3 : Int) ≤ 255)⟩ (fun x hx => by cases hx)
  have hsame := fun h => samesnd s h
  simp only [F_law24_NumbersEnough, alive_ok, Option.bind_some, Bool.not_true, cond_false, e1]
  cases b1 with
  | true => rfl
  | false =>
  simp only [cond_false, e2, Option.bind_some]
  cases b2 with
  | true => rfl
  | false =>
  simp only [cond_false]
  by_cases h2 : okN s
  case neg => rw [hcp _ (hck.2 h2)]; rfl
  rw [hcp _ (hck.1 h2)]
  simp only [Option.bind_some, bne_self_eq_false, cond_false, bne_int]
  rcases hh with ⟨_, h3, h4, hh⟩ | ⟨_, hh⟩
  case inr => rw [hh]; rfl
  have hE : hearS s v (3, me, mn, []) = if me = s.1 ∧ mn ≤ s.2.1 ∧ s.2.1 - (s.2.2.2.length : Int) ≤ mn then (s.1, s.2.1, s.2.2.1, s.2.2.2, behindL s mn, 0)
      else if (writeS v).2 = 0 then (s.1, s.2.1, s.2.2.1, s.2.2.2, [(4, s.1, s.2.1, (writeS v).1)], 0) else (0, 0, 0, [], [], (writeS v).2) := by
    unfold hearS; rw [if_neg (show ¬ (3 : Int) = 2 by decide), if_pos rfl]
  rw [hh, hE]
  obtain ⟨n1, n2, ⟨n3, n4⟩, ⟨n5, n6⟩, _⟩ := id h2
  have hsame := hsame (by omega)
  obtain ⟨_, m2, _⟩ := id h4
  unfold inN at n1 n2 m2
  dsimp only at m2
  simp only [Option.bind_some, decide_true, Bool.not_true, cond_false]
  by_cases g : me = s.1 ∧ mn ≤ s.2.1 ∧ s.2.1 - (s.2.2.2.length : Int) ≤ mn
  · rw [if_pos g]
    have hlow : lowN s mn = mn := by unfold lowN mxI; split <;> omega
    have hbl : (behindL s mn).length = (s.2.1 - mn).toNat := by unfold behindL; rw [List.length_map, List.length_range, hlow]
    have hget : ∀ i, i < (behindL s mn).length → (behindL s mn).getD i M0 = msgN s (mn + 1 + (i : Int)) := fun i hi => by
      rw [getD_some hi]; unfold behindL; simp [hlow]
    have hs5 := s510_none s s.1 s.2.1 v (behindL s mn) (fun x hx => by
      obtain ⟨i, hi, rfl⟩ := List.mem_iff_getElem.1 hx
      have := hget i hi
      rw [getD_some hi] at this
      rw [this]; rfl)
    have hlp := loop_ok s.1 s.2.2.2 mn s (behindL s mn) (by omega) n5 m2 (fun i hi => by
      rw [hget i hi]
      refine ⟨rfl, rfl, rfl, ?_⟩
      show s.2.2.2.getD _ [] = _
      congr 1; omega)
    simp only [decide_true, Bool.not_true, cond_false, hsame, Option.bind_some, hs5, decide_eq_true g.1, decide_eq_false (show ¬ s.2.1 < mn by omega)]
    rw [w64 (n := s.2.1 - mn) (by omega) (by omega), decide_eq_true (show ((behindL s mn).length : Int) = s.2.1 - mn by omega), hlp]; rfl
  · rw [if_neg g]
    by_cases g2 : (writeS v).2 = 0
    · rw [if_pos g2]
      have hs5 := s510_one s s.1 s.2.1 v hv (writeS v).1 (Prod.ext rfl g2)
      simp only [decide_true, Bool.not_true, cond_false, hsame, Option.bind_some, hs5]
    · rw [if_neg g2]
      simp only [decide_eq_false g2]
      rfl
theorem pure (q : Int × Int × Int × (List (List Int)) × Int × (List Int) × (List (Int × (List Int) × (List Int) × Int × Int × Int)) × Int × Int × Bool × Int × Int) (h : wfIns F_law24_NumbersEnough.sig.pars q) : F_law24_NumbersEnough mx q = some true := by
  obtain ⟨e, n, a, rs, t, qs, l, ie, inn, ib, me, mn⟩ := q
  exact main (s := (e, n, a, rs)) (v := (t, qs, l, ie, inn, ib)) (wfS_of h.1) (wfV_of h.2.1) me mn
end Go.Proofs.Ytmkfifilpkhfoaa.numbersEnough
