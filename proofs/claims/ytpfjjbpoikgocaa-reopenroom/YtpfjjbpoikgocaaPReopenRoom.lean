/- The plain law of ReopenRoom. -/
import Derived.Test.YtpfjjbpoikgocaaKRr
namespace Go.Proofs.Ytpfjjbpoikgocaa.reopenRoom
open Go.Abs
set_option maxRecDepth 100000
theorem alive_ok : F_law23_alive mx () = some true := by kernel_rfl
theorem main {d : List Int} (hb : bytesL d) {cs : List Chg} (hl : cs.length ≤ 140737488351232) (hw : ∀ c ∈ cs, wfC c ∧ bytesC c) : F_law23_ReopenRoom mx (d, cs) = some true := by
  obtain ⟨b, hh, _⟩ := rheavy_ok (d := d) (v := ((0 : Int), ([] : List Int), ([] : List Kept), (0 : Int), (0 : Int), false)) (by simp) hl
  dsimp only at hh
  simp only [F_law23_ReopenRoom, alive_ok, Option.bind_some, Bool.not_true, cond_false, hh]
  cases b with
  | true => rfl
  | false =>
  rcases ropen_ok hb with ⟨g, a, v, h, ho⟩ | ⟨hno, e, he, ho⟩
  case inr =>
    rcases rkeep_ok hb hw with ⟨g, a, v, h, _⟩ | ⟨_, e', _, hk⟩
    · exact absurd ⟨g, a, v, h⟩ hno
    · rw [ho, hk]
      rcases he with rfl | rfl <;> rfl
  rcases rkeep_ok hb hw with ⟨g', a', v', h', r, hk, hR⟩ | ⟨hno, _⟩
  case inr => exact absurd ⟨g, a, v, h⟩ hno
  obtain ⟨rfl, rfl, rfl⟩ := St.uniq hb h h'
  rw [ho, hk]
  simp only [cond_false, Option.bind_some, bne_self_eq_false]
  by_cases g1 : r.2 = 9
  case neg => rw [bne_iff_ne.2 g1]; rfl
  have hA := apply_ok (okI_len h.okv.1) (cs := cs) (fun c hc => (hw c hc).1)
  simp only [g1, bne_self_eq_false, cond_false, hA, Option.bind_some, ieq]
  by_cases g2 : (applyS v cs).2.2.2.2.2.2 = 9
  · rw [decide_eq_true g2]; rfl
  rw [decide_eq_false g2]
  have happ9 : ∀ {x g a}, (appS x g a v cs).2 = 9 → (applyS v cs).2.2.2.2.2.2 = 0 := fun {x g a} hx => by
    unfold appS at hx
    by_cases k : (applyS v cs).2.2.2.2.2.2 ≠ 0
    · rw [if_pos k] at hx; exact absurd hx g2
    · omega
  rcases rcompact_ok hb with ⟨g', a', v', h', hc⟩ | ⟨hno, _⟩
  case inr => exact absurd ⟨g, a, v, h⟩ hno
  obtain ⟨rfl, rfl, rfl⟩ := St.uniq hb h h'
  rw [hc]
  simp only [cond_false, Option.bind_some]
  by_cases g3 : (swpS d g a v).2 = 0
  case neg =>
    rw [bne_iff_ne.2 g3]
    have : (swpS d g a v).2 = 9 := by
      cases hR with
      | app h9 => exact absurd g1 h9
      | full h9 h2 => exact g1
      | over h9 h2 h3 => exact absurd h2 g3
      | both h9 h2 h3 => exact absurd h2 g3
    rw [this]; rfl
  obtain ⟨p, hp⟩ : ∃ p, swpS d g a v = (p, 0) := ⟨_, Prod.ext rfl g3⟩
  obtain ⟨hP, _, _, _, hSt, _⟩ := swp_torn hb h h.okv.2 hp
  have hdo := do_ok h.ok hP.ok (by have := hP.len; omega) (Nat.le_refl p.length)
  have hpw := hP.wr hb p.length
  rw [List.take_length] at hdo hpw
  have h9 : (appS d g a v cs).2 = 9 ∧ (appS (wr d p) (genS d g a) (1 - a) v cs).2 = 9 := by
    cases hR with
    | app h9 => exact absurd g1 h9
    | full h9 h2 => exact absurd g3 h2
    | over h9 h2 h3 => rw [hp] at g1; exact ⟨h9, g1⟩
    | both h9 h2 h3 => exact absurd g1 (show ¬ (0 : Int) = 9 by decide)
  rcases rappend_ok hpw.1 (cs := cs) (fun c hc => (hw c hc).1) with ⟨g', a', v', h', e'⟩ | ⟨hno, _⟩
  case inr => exact absurd ⟨_, _, _, hSt⟩ hno
  obtain ⟨rfl, rfl, rfl⟩ := St.uniq hpw.1 hSt h'
  rw [hp]
  simp only [bne_self_eq_false, cond_false, hdo, Option.bind_some, e', cond_true, decide_eq_true (happ9 h9.1), decide_true, decide_eq_true h9.2]
theorem pure (q : (List Int) × (List (Int × Int × ((List Int) × (List Int) × Int × Int × Int) × (List Int) × Int × Int × Bool))) (h : wfIns F_law23_ReopenRoom.sig.pars q) : F_law23_ReopenRoom mx q = some true := by
  obtain ⟨d, cs⟩ := q
  have hb : ∀ {x : List Int}, Ty.wf .str x → bytesI x := fun hx y hy => ⟨(hx.1 y hy).1, by have := (hx.1 y hy).2; omega⟩
  refine main (fun x hx => wfu8 (h.1.1.1 x hx)) h.2.1.1.2 (fun c hc => ?_)
  have hx := h.2.1.1.1 c hc
  exact ⟨⟨wfu32 hx.2.2.1.2.2.1, (wfu64 hx.2.2.1.2.2.2.2).1, (wfu64 hx.2.2.1.2.2.2.2).2⟩, hb hx.2.2.1.1, hb hx.2.2.1.2.1, hb hx.2.2.2.1⟩
end Go.Proofs.Ytpfjjbpoikgocaa.reopenRoom
