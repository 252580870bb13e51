/- The plain law of PromoteDown. -/
import Derived.Test.YtajlmgpcfbhgjaaKPr
namespace Go.Proofs.Ytajlmgpcfbhgjaa.promoteDown
open Go.Abs
set_option maxRecDepth 100000
theorem alive_ok : F_law26_alive mx () = some true := by kernel_rfl
theorem main {s : Snd} (hs : wfS s) {v : Img} (hvl : v.2.2.1.length ≤ 140737488351232) (hv : ∀ k ∈ v.2.2.1, k.2.1.length ≤ 140737488351232 ∧ k.2.2.1.length ≤ 140737488351232)
    {t : Snd} (ht : wfS t) {j : Img} (hjl : j.2.2.1.length ≤ 140737488351232) (hj : wfIm j) :
    F_law26_PromoteDown mx (s.1, s.2.1, s.2.2.1, s.2.2.2, v.1, v.2.1, v.2.2.1, v.2.2.2.1, v.2.2.2.2.1, v.2.2.2.2.2, t.1, t.2.1, t.2.2.1, t.2.2.2, j) = some true := by
  obtain ⟨b1, e1, _⟩ := great_some v (by omega)
  obtain ⟨b2, e2, _⟩ := great_some j (by omega)
  have hct := checkN_ok ht
  have hcj := check_ok (v := j) (fun k hk => (hj.1 k hk).1)
  have hdn := down_ok hs hv t.1
  have hH := fun m h1 h2 => hear_ok (m := m) ht (fun k hk => (hj.1 k hk).1) hj.2 h1 h2
  obtain ⟨e, n, a, rs⟩ := s
  obtain ⟨vt, q, l, ie, inn, ib⟩ := v
  obtain ⟨te, tn, ta, trs⟩ := t
  have e1 : F_ref21_Great mx (vt, q, l, ie, inn, ib) = some b1 := e1
  dsimp only at hct hcj hdn hH ⊢
  have hcj : F_image_Check mx (j.1, j.2.1, j.2.2.1, j.2.2.2.1, j.2.2.2.2.1, j.2.2.2.2.2) = some (if okI j then 0 else 8) := hcj
  have e2 : F_ref21_Great mx (j.1, j.2.1, j.2.2.1, j.2.2.2.1, j.2.2.2.2.1, j.2.2.2.2.2) = some b2 := e2
  simp only [F_law26_PromoteDown, alive_ok, Option.bind_some, Bool.not_true, cond_false, e1, e2]
  cases b1 with
  | true => rfl
  | false =>
  cases b2 with
  | true => rfl
  | false =>
  simp only [cond_false]
  cases decide ((40 : Int) < (rs.length : Int)) with
  | true => rfl
  | false =>
  cases decide ((40 : Int) < (trs.length : Int)) with
  | true => rfl
  | false =>
  simp only [cond_false]
  by_cases h1 : okN (te, tn, ta, trs)
  case neg => rw [hct.2 h1]; rfl
  rw [hct.1 h1]
  simp only [Option.bind_some, bne_self_eq_false, cond_false, hcj]
  by_cases h2 : okI j
  case neg => rw [if_neg h2]; rfl
  rw [if_pos h2]
  simp only [bne_self_eq_false, cond_false]
  rcases hdn with ⟨er, h0, hdn⟩ | ⟨g1, g2, g3, g4, g5, g6, g7, hdn⟩
  · rw [hdn]
    simp only [Option.bind_some, bne_iff_ne.2 h0, cond_true]; rfl
  rw [hdn]
  subst g3 g4 g5
  have hF : okF (ie, inn, vt, q, l, ie, inn, false) := ⟨g1.1, g1.2.1, turned_ok g2 g1.1 g1.2.1 false, rfl, rfl, rfl⟩
  have hwF : wfF (ie, inn, vt, q, l, ie, inn, false) := fun k hk => okI_len hF.2.2.1 k hk
  have hfc := fcheck_ok hwF
  rw [if_pos hF] at hfc
  have hask := ask_ok hwF
  rw [if_pos hF] at hask
  have hql : q.length ≤ 1000000000000000000 := by have := g2.2.1.2.1; dsimp only at this; omega
  have hll : l.length ≤ 1000000000000000000 := by have := g2.2.2.1; dsimp only at this; omega
  have hls := lsame_ok (a := vt) hql hll ie inn ie inn false true
  have hmay : mayM (3, ie, inn, []) := ⟨g1.1, g1.2.1, .inr (.inr (.inl ⟨rfl, rfl⟩))⟩
  have hh := hH (3, ie, inn, []) ⟨(by decide : (0 : Int) ≤ 3), (by decide : (3 : Int) ≤ 255)⟩ (fun y hy => by cases hy)
  rcases hh with ⟨_, _, _, hh⟩ | ⟨hno, _⟩
  case inr => exact absurd ⟨h1, h2, hmay⟩ hno
  have hE : hearS (te, tn, ta, trs) j (3, ie, inn, []) = if (writeS j).2 = 0 then (te, tn, ta, trs, [(4, te, tn, (writeS j).1)], 0) else (0, 0, 0, [], [], (writeS j).2) := by
    unfold hearS
    rw [if_neg (show ¬ (3 : Int) = 2 by decide), if_pos rfl, if_neg (fun hh => by have := hh.1; dsimp only at this; omega)]
  have hwr : (writeS j).2 = 0 ∨ (writeS j).2 = 3 := by
    unfold writeS
    rw [if_pos h2]
    split
    · exact .inr rfl
    · exact .inl rfl
  simp only [Option.bind_some, bne_self_eq_false, cond_false, hfc, hls, hask, Bool.not_true, hh, hE, F_law26_PromoteDown.s4092, cond_true, beq_self_eq_true]
  rcases hwr with g | g
  case inr => rw [if_neg (by omega), g]; rfl
  rw [if_pos g]
  have hw : writeS j = ((writeS j).1, 0) := Prod.ext rfl g
  have hbb := wr_bytes hw hj
  have hmm : mayM (4, te, tn, (writeS j).1) := ⟨h1.1, h1.2.1, .inr (.inr (.inr ⟨rfl, j, hw, hj⟩))⟩
  obtain ⟨r, hr, hH⟩ := fhear_ok (f := (ie, inn, vt, q, l, ie, inn, false)) (m := (4, te, tn, (writeS j).1)) hwF ⟨(by decide : (0 : Int) ≤ 4), (by decide : (4 : Int) ≤ 255)⟩ hbb
  have hg : [((4 : Int), te, tn, (writeS j).1)].getD 0 (0, (0, (0, []))) = (4, te, tn, (writeS j).1) := rfl
  have hl1 : decide ((0 : Int) < ([((4 : Int), te, tn, (writeS j).1)].length : Int)) = true := rfl
  have hl2 : Nat.blt 0 [((4 : Int), te, tn, (writeS j).1)].length = true := rfl
  have hl3 : (([((4 : Int), te, tn, (writeS j).1)].length : Int) != (1 : Int)) = false := rfl
  simp only [Option.bind_some, bne_self_eq_false, cond_false, hl3, hl1, hl2, cond_true, hg, hr]
  cases hH with
  | bad h => exact absurd ⟨hF, hmm⟩ h
  | elder h he => exfalso; have he : te < ie := he; omega
  | other h he hk => exact absurd rfl hk.2
  | had h he hk hn => exfalso; have he : te = ie := he; omega
  | gap h he hk hn => exfalso; have hk : (4 : Int) = 1 := hk; omega
  | next h he hk hn cs w hc hp hw => exfalso; have hk : (4 : Int) = 1 := hk; omega
  | not h he hk hn hno => exfalso; have hk : (4 : Int) = 1 := hk; omega
  | image h he hk hn v' hv' hw' =>
    have : v' = j := write_inj hv' hw hbb hw'.2 hj.2
    subst this
    have hql : v'.2.1.length ≤ 1000000000000000000 := by have := h2.2.1.2.1; omega
    have hll : v'.2.2.1.length ≤ 1000000000000000000 := by omega
    have hls := lsame_ok (a := v'.1) hql hll te tn v'.2.2.2.1 v'.2.2.2.2.1 false v'.2.2.2.2.2
    simp only [frOf, withEN, beq_self_eq_true, cond_true, hls, Option.bind_some]
theorem pure (q : Int × Int × Int × (List (List Int)) × Int × (List Int) × (List (Int × (List Int) × (List Int) × Int × Int × Int)) × Int × Int × Bool × Int × Int × Int × (List (List Int)) × Int × (List Int) × (List (Int × (List Int) × (List Int) × Int × Int × Int)) × Int × Int × Bool) (h : wfIns F_law26_PromoteDown.sig.pars q) : F_law26_PromoteDown mx q = some true := by
  obtain ⟨e, n, a, rs, t, qs, l, ie, inn, ib, e2, n2, a2, rs2, j⟩ := q
  have hb : ∀ {x : List Int}, Ty.wf .str x → bytesI x := fun hx y hy => ⟨(hx.1 y hy).1, by have := (hx.1 y hy).2; omega⟩
  refine main (s := (e, n, a, rs)) (v := (t, qs, l, ie, inn, ib)) (t := (e2, n2, a2, rs2)) (j := j) ⟨h.1.2.2.2.1.2, fun r hr => ⟨fun x hx => wfu8 ((h.1.2.2.2.1.1 r hr).1 x hx), (h.1.2.2.2.1.1 r hr).2⟩⟩ h.2.1.2.2.1.2 (fun k hk => ?_)
    ⟨h.2.2.1.2.2.2.1.2, fun r hr => ⟨fun x hx => wfu8 ((h.2.2.1.2.2.2.1.1 r hr).1 x hx), (h.2.2.1.2.2.2.1.1 r hr).2⟩⟩ h.2.2.2.1.2.2.1.2 ⟨fun k hk => ?_, fun k hk => ?_⟩
  · have := h.2.1.2.2.1.1 k hk
    exact ⟨this.2.1.2, this.2.2.1.2⟩
  · have := h.2.2.2.1.2.2.1.1 k hk
    exact ⟨⟨this.2.1.2, this.2.2.1.2⟩, hb this.2.1, hb this.2.2.1⟩
  · have := h.2.2.2.1.2.2.1.1 k hk
    exact ⟨wfu32 this.2.2.2.1, wfu64 this.2.2.2.2.2⟩
end Go.Proofs.Ytajlmgpcfbhgjaa.promoteDown
