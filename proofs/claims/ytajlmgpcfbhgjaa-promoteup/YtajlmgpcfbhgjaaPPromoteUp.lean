/- The plain law of PromoteUp. -/
import Derived.Test.YtajlmgpcfbhgjaaKPr
namespace Go.Proofs.Ytajlmgpcfbhgjaa.promoteUp
open Go.Abs
set_option maxRecDepth 100000
theorem alive_ok : F_law26_alive mx () = some true := by kernel_rfl
theorem main {f : Fol} (hfl : f.2.2.2.2.1.length ≤ 140737488351232) (hf : wfF f) (hfk : ∀ k ∈ f.2.2.2.2.1, wfK k) {w : Int} (hw1 : -9223372036854775808 ≤ w) (hw2 : w ≤ 9223372036854775807) {m : Msg} (hk : 0 ≤ m.1 ∧ m.1 ≤ 255) (hb : bytesI m.2.2.2) :
    F_law26_PromoteUp mx (f.1, f.2.1, f.2.2.1, f.2.2.2.1, f.2.2.2.2.1, f.2.2.2.2.2.1, f.2.2.2.2.2.2.1, f.2.2.2.2.2.2.2, w, m) = some true := by
  obtain ⟨b, eb, _⟩ := great_some f.2.2 (by omega)
  have hck := fcheck_ok hf
  have hask := ask_ok hf
  by_cases h1 : okF f
  case neg =>
    obtain ⟨e, n, t, q, l, ie, inn, ib⟩ := f
    dsimp only at eb hck ⊢
    simp only [F_law26_PromoteUp, alive_ok, Option.bind_some, Bool.not_true, cond_false, eb, hck, if_neg h1]
    cases b with
    | true => rfl
    | false =>
      simp only [cond_false]
      cases decide ((100000 : Int) < (m.2.2.2.length : Int)) <;> rfl
  obtain ⟨o1, o2, o3, o4, o5, o6⟩ := id h1
  have hup := up_ok h1 hw1 hw2
  obtain ⟨e, n, t, q, l, ie, inn, ib⟩ := f
  obtain ⟨mk, me, mn, ma⟩ := m
  dsimp only at o1 o2 o3 o4 o5 o6 hck eb hup hk hb hask hfk ⊢
  subst o4 o5 o6
  simp only [F_law26_PromoteUp, alive_ok, Option.bind_some, Bool.not_true, cond_false, eb, hck, if_pos h1]
  cases b with
  | true => rfl
  | false =>
  simp only [cond_false]
  cases decide ((100000 : Int) < (ma.length : Int)) with
  | true => rfl
  | false =>
  simp only [cond_false, bne_self_eq_false]
  rcases hup with ⟨er, her, hup⟩ | ⟨x, hw, hx, hx2, hx3, hup⟩
  · rw [hup]
    rcases her with rfl | rfl <;> rfl
  rw [hup]
  have hwh := whose_ok hx.1 hx.2
  rw [hx2] at hwh
  have hap : F_image_Apply mx (t, q, l, ie, inn, false, [turnC x true]) = some (t, q, l, x, inn, true, 0) := apply_turn o3 hx true (show ¬ x < ie by omega)
  have hti : okI (t, q, l, x, inn, true) := turned_ok o3 hx o2 true
  have hql : q.length ≤ 1000000000000000000 := by have := o3.2.1.2.1; dsimp only at this; omega
  have hll : l.length ≤ 1000000000000000000 := by have := o3.2.2.1; dsimp only at this; omega
  have hls := lsame_ok (a := t) hql hll x inn ie inn true false
  have hsi : F_image_Same mx (t, q, l, x, inn, true, t, q, l, x, inn, true) = some (decide ((t, q, l, x, inn, true) = (t, q, l, x, inn, true))) := same_img (v := (t, q, l, x, inn, true)) (w := (t, q, l, x, inn, true)) hql hll
  rw [decide_eq_true rfl] at hsi
  have hnc : F_numbers_Check mx (x, inn, 0, []) = some 0 := (checkN_ok (newWf x inn 0)).1 (newOk hx o2)
  have hic := check_ok (okI_len hti)
  rw [if_pos hti] at hic
  have hfn := fnew_ok (okI_len hti) inn
  rw [if_pos hti, if_pos o2] at hfn
  dsimp only at hfn
  have hnk : okF (x, inn, t, q, l, x, inn, false) := ⟨hx, o2, turned_ok o3 hx o2 false, rfl, rfl, rfl⟩
  obtain ⟨r, hr, hH⟩ := fhear_ok (f := (x, inn, t, q, l, x, inn, false)) (m := (mk, me, mn, ma)) (fun k hk => okI_len hnk.2.2.1 k hk) hk hb
  dsimp only at hr
  rw [if_pos h1] at hask
  have hs : ∀ x8, x8.1 = x → F_law26_PromoteUp.s8190 mx me x8 (x, inn, t, q, l, x, inn, false, 0) r = some (.inr ()) := fun x8 hx8 => by
    simp only [F_law26_PromoteUp.s8190, bne_self_eq_false, cond_false, hx8]
    by_cases g : me < x
    case neg => rw [decide_eq_false g]; rfl
    rw [decide_eq_true g]
    have hne : ∀ g : Fol, ∀ what l, x ≤ g.1 → me < x → me = g.1 → (frOf g what l).2.2.2.2.2.2.2.2.2.2 ≠ 0 := fun _ _ _ h1 h2 h3 => by omega
    have : r.2.2.2.2.2.2.2.2.2.2 ≠ 0 := by
      cases hH with
      | bad h => exact (by decide : (8 : Int) ≠ 0)
      | elder h he => exact (by decide : (250 : Int) ≠ 0)
      | other h he hk => exfalso; have he : x ≤ me := he; omega
      | had h he hk hn => exfalso; have he : me = x := he; omega
      | image h he hk hn v hv hw => exfalso; have he : x ≤ me := he; omega
      | gap h he hk hn => exfalso; have he : x ≤ me := he; omega
      | next h he hk hn cs w hc hp hw => exfalso; have he : me = x := he; omega
      | not h he hk hn hno => exfalso; have he : me = x := he; omega
    rw [cond_true, ieq, decide_eq_false this]; rfl
  have hh := hear_ok (s := (x, inn, 0, [])) (v := (t, q, l, x, inn, true)) (m := (3, ie, inn, [])) (newWf x inn 0) (okI_len hti) hfk ⟨(by decide : (0 : Int) ≤ 3), (by decide : (3 : Int) ≤ 255)⟩ (fun y hy => by cases hy)
  dsimp only at hh
  have hmay : mayM (3, ie, inn, []) := ⟨o1, o2, .inr (.inr (.inl ⟨rfl, rfl⟩))⟩
  rcases hh with ⟨_, _, _, hh⟩ | ⟨hno, _⟩
  case inr => exact absurd ⟨newOk hx o2, hti, hmay⟩ hno
  have hE : hearS (x, inn, 0, []) (t, q, l, x, inn, true) (3, ie, inn, []) = if (writeS (t, q, l, x, inn, true)).2 = 0 then (x, inn, 0, [], [(4, x, inn, (writeS (t, q, l, x, inn, true)).1)], 0) else (0, 0, 0, [], [], (writeS (t, q, l, x, inn, true)).2) := by
    unfold hearS
    rw [if_neg (show ¬ (3 : Int) = 2 by decide), if_pos rfl, if_neg (fun hh => by have := hh.1; dsimp only at this; omega)]
  have hwr : (writeS (t, q, l, x, inn, true)).2 = 0 ∨ (writeS (t, q, l, x, inn, true)).2 = 3 := by
    unfold writeS
    rw [if_pos hti]
    split
    · exact .inr rfl
    · exact .inl rfl
  simp only [Option.bind_some, hwh, hap, bne_self_eq_false, cond_false, decide_eq_false (show ¬ x ≤ ie by omega), Bool.not_true, hls, hsi, hnc, hic, hfn, hr, hs (x, inn, 0, [], t, q, l, x, inn, true, [turnC x true], 0) rfl, hask, hh, hE, cond_true, beq_self_eq_true]
  rcases hwr with g | g
  · rw [if_pos g]
    show some (x == x) = some true
    rw [beq_self_eq_true]
  · rw [if_neg (by omega), g]; rfl
theorem pure (q : Int × Int × Int × (List Int) × (List (Int × (List Int) × (List Int) × Int × Int × Int)) × Int × Int × Bool × Int × Int × Int × Int × (List Int)) (h : wfIns F_law26_PromoteUp.sig.pars q) : F_law26_PromoteUp mx q = some true := by
  obtain ⟨e, n, t, qs, l, ie, inn, ib, w, m⟩ := q
  refine main (f := (e, n, t, qs, l, ie, inn, ib)) (m := m) h.1.2.2.2.2.1.2 (fun k hk => ?_) (fun k hk => ?_) (wf64 h.2.1.1).1 (wf64 h.2.1.1).2 (wfu8 h.2.2.1.1) (fun x hx => wfu8 (h.2.2.1.2.2.2.1.1 x hx))
  · have := h.1.2.2.2.2.1.1 k hk
    exact ⟨this.2.1.2, this.2.2.1.2⟩
  · have := h.1.2.2.2.2.1.1 k hk
    exact ⟨wfu32 this.2.2.2.1, wfu64 this.2.2.2.2.2⟩
end Go.Proofs.Ytajlmgpcfbhgjaa.promoteUp
