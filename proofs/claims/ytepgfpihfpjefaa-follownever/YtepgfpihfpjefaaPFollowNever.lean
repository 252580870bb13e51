/- The plain law of FollowNever. -/
import Derived.Test.YtepgfpihfpjefaaKFo
namespace Go.Proofs.Ytepgfpihfpjefaa.followNever
open Go.Abs
set_option maxRecDepth 100000
theorem alive_ok : F_law25_alive mx () = some true := by kernel_rfl
theorem okF_wf {g : Fol} (h : okF g) : ∀ k ∈ g.2.2.2.2.1, k.2.1.length ≤ 140737488351232 ∧ k.2.2.1.length ≤ 140737488351232 := okI_len h.2.2.1
theorem fcheck' {g : Fol} (h : okF g) : F_follow_Check mx (g.1, g.2.1, g.2.2.1, g.2.2.2.1, g.2.2.2.2.1, g.2.2.2.2.2.1, g.2.2.2.2.2.2.1, g.2.2.2.2.2.2.2) = some 0 := by
  have := fcheck_ok (okF_wf h)
  rw [if_pos h] at this
  exact this
theorem loop_ok (g : Fol) (what : Int) {l : List Msg} (hl : l = [] ∨ l = [(2, g.1, g.2.1, [])] ∨ l = [(3, g.1, g.2.1, [])]) : iter mx (F_law25_FollowNever.l2042 mx (frOf g what l)) (0 : Int) = some (.inr ()) := by
  have h0 : ∀ i : Nat, F_law25_FollowNever.l2042 mx (frOf g what l) (i : Int) = if i < l.length then some (.next ((i + 1 : Nat) : Int)) else some (.fin (.inr ())) := fun i => by
    by_cases hi : i < l.length
    · rw [if_pos hi]
      have hl1 : l.length = 1 := by rcases hl with rfl | rfl | rfl <;> simp_all
      have : i = 0 := by omega
      subst this
      obtain ⟨g1, g2, gi⟩ := g
      rcases hl with rfl | rfl | rfl
      · simp at hi
      · have c : decide (((0 : Nat) : Int) < (([(2, g1, g2, [])] : List Msg).length : Int)) = true := rfl
        show F_law25_FollowNever.l2042 mx (g1, g2, gi.1, gi.2.1, gi.2.2.1, gi.2.2.2.1, gi.2.2.2.2.1, gi.2.2.2.2.2, what, [((2 : Int), g1, g2, ([] : List Int))], (0 : Int)) ((0 : Nat) : Int) = _
        simp only [F_law25_FollowNever.l2042, c, lez, Bool.and_self, cond_true, Int.toNat_natCast, List.getD_cons_zero, bne_self_eq_false, cond_false, List.length_nil]
        rfl
      · have c : decide (((0 : Nat) : Int) < (([(3, g1, g2, [])] : List Msg).length : Int)) = true := rfl
        have c2 : ((3 : Int) != 2) = true := rfl
        show F_law25_FollowNever.l2042 mx (g1, g2, gi.1, gi.2.1, gi.2.2.1, gi.2.2.2.1, gi.2.2.2.2.1, gi.2.2.2.2.2, what, [((3 : Int), g1, g2, ([] : List Int))], (0 : Int)) ((0 : Nat) : Int) = _
        simp only [F_law25_FollowNever.l2042, c, c2, lez, Bool.and_self, cond_true, Int.toNat_natCast, List.getD_cons_zero, bne_self_eq_false, cond_false, List.length_nil]
        rfl
    · rw [if_neg hi]
      show F_law25_FollowNever.l2042 mx (g.1, g.2.1, g.2.2.1, g.2.2.2.1, g.2.2.2.2.1, g.2.2.2.2.2.1, g.2.2.2.2.2.2.1, g.2.2.2.2.2.2.2, what, l, (0 : Int)) (i : Int) = _
      simp only [F_law25_FollowNever.l2042, decide_eq_false (show ¬ (i : Int) < (l.length : Int) by omega), cond_false]
  have hl1 : l.length ≤ 1 := by rcases hl with rfl | rfl | rfl <;> simp
  exact iter_count (f := F_law25_FollowNever.l2042 mx (frOf g what l)) (fun i => (i : Int)) l.length (r := .inr ()) (lt_N0 (by omega)) (fun i hi => by rw [h0, if_pos hi]) (by rw [h0, if_neg (by omega)])
theorem s254_ok {f g : Fol} (what : Int) {l : List Msg} (hl : l.length ≤ 1) (hg : okF g) (h1 : f.1 ≤ g.1) (h2 : g.1 = f.1 → f.2.1 ≤ g.2.1) {e : Int} (he : f.1 ≤ e) : F_law25_FollowNever.s254 mx f.1 f.2.1 e (frOf g what l) = some (.inr ()) := by
  show F_law25_FollowNever.s254 mx f.1 f.2.1 e (g.1, g.2.1, g.2.2.1, g.2.2.2.1, g.2.2.2.2.1, g.2.2.2.2.2.1, g.2.2.2.2.2.2.1, g.2.2.2.2.2.2.2, what, l, (0 : Int)) = _
  simp only [F_law25_FollowNever.s254, fcheck' hg, Option.bind_some, bne_self_eq_false, cond_false, decide_eq_false (show ¬ g.1 < f.1 by omega), ieq, decide_eq_false (show ¬ (1 : Int) < (l.length : Int) by omega), decide_eq_false (show ¬ e < f.1 by omega)]
  by_cases h : g.1 = f.1
  · have := h2 h
    rw [decide_eq_true h, decide_eq_false (show ¬ g.2.1 < f.2.1 by omega)]; rfl
  · rw [decide_eq_false h]; rfl
theorem main {f : Fol} (hlen : f.2.2.2.2.1.length ≤ 140737488351232) (hf : wfF f) {m : Msg} (hk : 0 ≤ m.1 ∧ m.1 ≤ 255) (hb : bytesI m.2.2.2) :
    F_law25_FollowNever mx (f.1, f.2.1, f.2.2.1, f.2.2.2.1, f.2.2.2.2.1, f.2.2.2.2.2.1, f.2.2.2.2.2.2.1, f.2.2.2.2.2.2.2, m) = some true := by
  obtain ⟨b2, e2, _⟩ := great_some f.2.2 (by omega)
  have e2 : F_ref21_Great mx (f.2.2.1, f.2.2.2.1, f.2.2.2.2.1, f.2.2.2.2.2.1, f.2.2.2.2.2.2.1, f.2.2.2.2.2.2.2) = some b2 := e2
  obtain ⟨r, hr, hH⟩ := fhear_ok (m := m) hf hk hb
  have hck := fcheck_ok hf.1
  have hck : F_follow_Check mx (f.1, f.2.1, f.2.2.1, f.2.2.2.1, f.2.2.2.2.1, f.2.2.2.2.2.1, f.2.2.2.2.2.2.1, f.2.2.2.2.2.2.2) = _ := hck
  obtain ⟨kd, me, mn, a⟩ := m
  dsimp only at hk hb hr
  simp only [F_law25_FollowNever, alive_ok, Option.bind_some, Bool.not_true, cond_false, e2]
  cases b2 with
  | true => rfl
  | false =>
  by_cases h1 : 100000 < a.length
  · simp only [cond_false, decide_eq_true (show (100000 : Int) < (a.length : Int) by omega), cond_true]
  simp only [cond_false, decide_eq_false (show ¬ (100000 : Int) < (a.length : Int) by omega), hck, Option.bind_some]
  by_cases h2 : okF f
  case neg => rw [if_neg h2]; rfl
  rw [if_pos h2]
  simp only [bne_self_eq_false, cond_false, hr, Option.bind_some]
  rcases heard_ok hH with ⟨e, rfl, he⟩ | ⟨g, what, l, rfl, hg, q1, q2, hl, q3, hw⟩
  · rcases he with rfl | ⟨rfl, he⟩
    · rfl
    · have he : me < f.1 := he
      rw [decide_eq_true he]; rfl
  · have hl1 : l.length ≤ 1 := by rcases hl with rfl | rfl | rfl <;> simp
    have hs := s254_ok (f := f) what hl1 hg q1 q2 (e := me) q3
    have hlp := loop_ok g what hl
    have hz : (frOf g what l).2.2.2.2.2.2.2.2.2.2 = 0 := rfl
    have hwh : (frOf g what l).2.2.2.2.2.2.2.2.1 = what := rfl
    simp only [hz, bne_self_eq_false, cond_false, hs, Option.bind_some, hlp, hwh]
    have hsame := fun (x : Img) (hx : okI x) => same_img (v := x) (w := x) (by have := hx.2.1.2.1; omega) (by have := hx.2.2.1; omega)
    rcases hw with ⟨rfl, rfl⟩ | ⟨rfl, p1, p2, p3, p4, p5⟩ | ⟨rfl, p1, v, hv, hwi, rfl⟩
    · have := hsame g.2.2 hg.2.2.1
      rw [decide_eq_true rfl] at this
      have this : F_image_Same mx ((frOf g 0 l).2.2.1, (frOf g 0 l).2.2.2.1, (frOf g 0 l).2.2.2.2.1, (frOf g 0 l).2.2.2.2.2.1, (frOf g 0 l).2.2.2.2.2.2.1, (frOf g 0 l).2.2.2.2.2.2.2.1, g.2.2.1, g.2.2.2.1, g.2.2.2.2.1, g.2.2.2.2.2.1, g.2.2.2.2.2.2.1, g.2.2.2.2.2.2.2) = some true := this
      have e1 : (frOf g 0 l).1 = g.1 := rfl
      have e2 : (frOf g 0 l).2.1 = g.2.1 := rfl
      simp only [beq_self_eq_true, cond_true, e1, e2, this, Option.bind_some]
    · have e1 : (frOf g 1 l).1 = g.1 := rfl
      have e2 : (frOf g 1 l).2.1 = g.2.1 := rfl
      obtain ⟨n1, n2⟩ := h2.2.1
      dsimp only at p3 p4 p5
      have c10 : ((1 : Int) == 0) = false := rfl
      simp only [c10, cond_false, beq_self_eq_true, cond_true, e1, e2, p1, p2, p3, p4, ieq]
      rw [w64 (n := f.2.1 + 1) (by omega) (by omega), decide_eq_true rfl, decide_eq_true (show mn = f.2.1 + 1 by omega)]; rfl
    · have c20 : ((2 : Int) == 0) = false := rfl
      have c21 : ((2 : Int) == 1) = false := rfl
      dsimp only at p1 hv
      have hrd := read_sm hv hb hwi.2
      have := hsame (withEN v me mn) hg.2.2.1
      rw [decide_eq_true rfl] at this
      have this : F_image_Same mx ((frOf (me, mn, withEN v me mn) 2 l).2.2.1, (frOf (me, mn, withEN v me mn) 2 l).2.2.2.1, (frOf (me, mn, withEN v me mn) 2 l).2.2.2.2.1, (frOf (me, mn, withEN v me mn) 2 l).2.2.2.2.2.1, (frOf (me, mn, withEN v me mn) 2 l).2.2.2.2.2.2.1, (frOf (me, mn, withEN v me mn) 2 l).2.2.2.2.2.2.2.1, (withE v).1, (withE v).2.1, (withE v).2.2.1, me, mn, false) = some true := this
      have e1 : (frOf (me, mn, withEN v me mn) 2 l).1 = me := rfl
      have e2 : (frOf (me, mn, withEN v me mn) 2 l).2.1 = mn := rfl
      have e3 : (withE v).2.2.2.2.2.2 = 0 := rfl
      simp only [c20, c21, cond_false, hrd, Option.bind_some, beq_self_eq_true, cond_true, e1, e2, e3, p1, this]
theorem pure (q : Int × Int × Int × (List Int) × (List (Int × (List Int) × (List Int) × Int × Int × Int)) × Int × Int × Bool × Int × Int × Int × (List Int)) (h : wfIns F_law25_FollowNever.sig.pars q) : F_law25_FollowNever mx q = some true := by
  obtain ⟨e, n, t, qs, l, ie, inn, ib, m⟩ := q
  refine main (f := (e, n, t, qs, l, ie, inn, ib)) (m := m) h.1.2.2.2.2.1.2 ⟨fun k hk => ?_, fun k hk => ?_⟩ (wfu8 h.2.1.1) (fun x hx => wfu8 (h.2.1.2.2.2.1.1 x hx))
  · have := h.1.2.2.2.2.1.1 k hk
    exact ⟨this.2.1.2, this.2.2.1.2⟩
  · have := h.1.2.2.2.2.1.1 k hk
    exact ⟨wfu32 this.2.2.2.1, wfu64 this.2.2.2.2.2⟩
end Go.Proofs.Ytepgfpihfpjefaa.followNever
