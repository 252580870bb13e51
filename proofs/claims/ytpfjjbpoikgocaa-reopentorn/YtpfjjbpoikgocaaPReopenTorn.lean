/- The plain law of ReopenTorn. -/
import Derived.Test.YtpfjjbpoikgocaaKRr
namespace Go.Proofs.Ytpfjjbpoikgocaa.reopenTorn
open Go.Abs
set_option maxRecDepth 100000
theorem alive_ok : F_law23_alive mx () = some true := by kernel_rfl
theorem main {d : List Int} (hb : bytesL d) {cs : List Chg} (hl : cs.length ≤ 140737488351232) (hw : ∀ c ∈ cs, wfC c ∧ bytesC c) (m : Int) : F_law23_ReopenTorn mx (d, cs, m) = some true := by
  obtain ⟨b, hh, _⟩ := rheavy_ok (d := d) (v := ((0 : Int), ([] : List Int), ([] : List Kept), (0 : Int), (0 : Int), false)) (by simp) hl
  dsimp only at hh
  simp only [F_law23_ReopenTorn, alive_ok, Option.bind_some, Bool.not_true, cond_false, hh]
  cases b with
  | true => rfl
  | false =>
  rcases ropen_ok hb with ⟨g, a, v, h, ho⟩ | ⟨hno, e, he, ho⟩
  case inr =>
    rcases rkeep_ok hb hw with ⟨g, a, v, h, _⟩ | ⟨_, e', _, hk⟩
    · exact absurd ⟨g, a, v, h⟩ hno
    · rw [ho, hk]
      rcases he with rfl | rfl <;> rfl
  rcases rkeep_ok hb hw with ⟨g', a', v', h', r, hk, hR⟩ | ⟨hno, _⟩
  case inr => exact absurd ⟨g, a, v, h⟩ hno
  obtain ⟨rfl, rfl, rfl⟩ := St.uniq hb h h'
  rw [ho, hk]
  simp only [cond_false, Option.bind_some, bne_self_eq_false]
  by_cases g1 : r.2 = 0
  case neg => rw [bne_iff_ne.2 g1]; rfl
  obtain ⟨p, rfl⟩ : ∃ p, r = (p, 0) := ⟨r.1, Prod.ext rfl g1⟩
  simp only [bne_self_eq_false, cond_false]
  by_cases g2 : m < 0
  · rw [decide_eq_true g2]; rfl
  rw [decide_eq_false g2]
  obtain ⟨t, rfl⟩ := Int.eq_ofNat_of_zero_le (show 0 ≤ m by omega)
  by_cases g3 : p.length < t
  · rw [decide_eq_true (show (p.length : Int) < (t : Int) by omega)]; rfl
  rw [decide_eq_false (show ¬ (p.length : Int) < (t : Int) by omega)]
  obtain ⟨hP, hz, w, hap, hst⟩ := keep_torn hb h hw ⟨_, rfl, hR⟩
  have hA := apply_ok (okI_len h.okv.1) (cs := cs) (fun c hc => (hw c hc).1)
  rw [applyS_val h.okv.1 hz hap] at hA
  have hD := do_ok h.ok hP.ok (by have := hP.len; omega) (show t ≤ p.length by omega)
  obtain ⟨g2', a2', hS⟩ := hst t (by omega)
  have hO := open_st (hP.wr hb t).1 hS
  have hsame := same_self hS.okv.1
  simp only [cond_false, hA, hD, hO, Option.bind_some, withE, bne_self_eq_false]
  by_cases g4 : t = p.length
  · rw [if_pos g4] at hsame ⊢
    simp only [show ((t : Int) == (p.length : Int)) = true from by rw [g4]; exact beq_self_eq_true _, cond_true, hsame, Option.bind_some]
  · rw [if_neg g4] at hsame ⊢
    simp only [show ((t : Int) == (p.length : Int)) = false from beq_eq_false_iff_ne.2 (by omega), cond_true, cond_false, hsame, Option.bind_some]
theorem pure (q : (List Int) × (List (Int × Int × ((List Int) × (List Int) × Int × Int × Int) × (List Int) × Int × Int × Bool)) × Int) (h : wfIns F_law23_ReopenTorn.sig.pars q) : F_law23_ReopenTorn mx q = some true := by
  obtain ⟨d, cs, m⟩ := q
  have hb : ∀ {x : List Int}, Ty.wf .str x → bytesI x := fun hx y hy => ⟨(hx.1 y hy).1, by have := (hx.1 y hy).2; omega⟩
  refine main (fun x hx => wfu8 (h.1.1.1 x hx)) h.2.1.1.2 (fun c hc => ?_) m
  have hx := h.2.1.1.1 c hc
  exact ⟨⟨wfu32 hx.2.2.1.2.2.1, (wfu64 hx.2.2.1.2.2.2.2).1, (wfu64 hx.2.2.1.2.2.2.2).2⟩, hb hx.2.2.1.1, hb hx.2.2.1.2.1, hb hx.2.2.2.1⟩
end Go.Proofs.Ytpfjjbpoikgocaa.reopenTorn
