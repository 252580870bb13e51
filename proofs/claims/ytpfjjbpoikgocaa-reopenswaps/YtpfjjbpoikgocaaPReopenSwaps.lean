/- The plain law of ReopenSwaps. -/
import Derived.Test.YtpfjjbpoikgocaaKRr
namespace Go.Proofs.Ytpfjjbpoikgocaa.reopenSwaps
open Go.Abs
set_option maxRecDepth 100000
theorem alive_ok : F_law23_alive mx () = some true := by kernel_rfl
theorem main {d : List Int} (hb : bytesL d) {i : Img} (hil : i.2.2.1.length ≤ 140737488351232) (hi : wfIm i) (m : Int) : F_law23_ReopenSwaps mx (d, i.1, i.2.1, i.2.2.1, i.2.2.2.1, i.2.2.2.2.1, i.2.2.2.2.2, m) = some true := by
  obtain ⟨b, hh, _⟩ := rheavy_ok (d := d) (v := i) hil (cs := []) (by simp)
  simp only [F_law23_ReopenSwaps, alive_ok, Option.bind_some, Bool.not_true, cond_false, hh]
  cases b with
  | true => rfl
  | false =>
  rcases ropen_ok hb with ⟨g, a, v, h, ho⟩ | ⟨hno, e, he, ho⟩
  case inr =>
    rw [ho]
    rcases he with rfl | rfl <;> rfl
  rw [ho]
  rcases rswap_ok hb (fun k hk => (hi.1 k hk).1) hi.2 with ⟨g', a', v', h', hs⟩ | ⟨hno, _⟩
  case inr => exact absurd ⟨g, a, v, h⟩ hno
  obtain ⟨rfl, rfl, rfl⟩ := St.uniq hb h h'
  have hs : F_reopen_Swap mx (d, i.1, i.2.1, i.2.2.1, i.2.2.2.1, i.2.2.2.2.1, i.2.2.2.2.2) = _ := hs
  simp only [cond_false, Option.bind_some, bne_self_eq_false, hs]
  have hvs := same_self h.okv.1
  have first : F_law23_ReopenSwaps.s510 mx d i.1 i.2.1 i.2.2.1 i.2.2.2.1 i.2.2.2.2.1 i.2.2.2.2.2 m (v.1, v.2.1, v.2.2.1, v.2.2.2.1, v.2.2.2.2.1, v.2.2.2.2.2, (((logA d g a).1.length : Int) - 1), 0) (swpS d g a i) = some (.inr ()) := by
    simp only [F_law23_ReopenSwaps.s510, F_law23_ReopenSwaps.s1020, ieq]
    by_cases g1 : (swpS d g a i).2 = 0
    case neg => rw [decide_eq_false g1]; rfl
    rw [decide_eq_true g1]
    by_cases g2 : 0 ≤ m
    case neg => rw [decide_eq_false g2]; rfl
    rw [decide_eq_true g2]
    obtain ⟨p, hp⟩ : ∃ p, swpS d g a i = (p, 0) := ⟨_, Prod.ext rfl g1⟩
    rw [hp]
    obtain ⟨t, rfl⟩ := Int.eq_ofNat_of_zero_le g2
    by_cases g3 : t ≤ p.length
    case neg => rw [decide_eq_false (show ¬ (t : Int) ≤ (p.length : Int) by omega)]; rfl
    rw [decide_eq_true (show (t : Int) ≤ (p.length : Int) by omega)]
    obtain ⟨hP, _, hoi, hpart, hSt, hlog⟩ := swp_torn hb h hi hp
    have hD := do_ok h.ok hP.ok (by have := hP.len; omega) g3
    by_cases g4 : t < p.length
    · obtain ⟨hS, hL⟩ := hpart t g4
      have hO := open_st (hP.wr hb t).1 hS
      rw [hL] at hO
      simp only [cond_true, Option.bind_some, hD, hO, bne_self_eq_false, cond_false, decide_eq_true (show (t : Int) < (p.length : Int) by omega), hvs, Bool.not_true, decide_eq_false (show ¬ (t : Int) = (p.length : Int) by omega)]
    · have g5 : t = p.length := by omega
      subst g5
      rw [List.take_length] at hD
      have hbw := (hP.wr hb p.length).1
      rw [List.take_length] at hbw
      have hO := open_st hbw hSt
      rw [hlog] at hO
      have his := same_self hoi
      simp only [cond_true, Option.bind_some, hD, hO, bne_self_eq_false, cond_false, Int.lt_irrefl, decide_false, decide_true, his, Bool.not_true]
      rfl
  rw [first]
  simp only [Option.bind_some]
  rcases rcompact_ok hb with ⟨g', a', v', h', hc⟩ | ⟨hno, _⟩
  case inr => exact absurd ⟨g, a, v, h⟩ hno
  obtain ⟨rfl, rfl, rfl⟩ := St.uniq hb h h'
  rw [hc]
  simp only [Option.bind_some, cond_true]
  by_cases g3 : (swpS d g a v).2 = 0
  case neg =>
    rw [bne_iff_ne.2 g3]
    have : (swpS d g a v).1 = [] := by
      unfold swpS at g3 ⊢
      split
      · rfl
      split
      · rfl
      split
      · rfl
      · rename_i k1 k2 k3; rw [if_neg k1, if_neg k2, if_neg k3] at g3; exact absurd rfl g3
    rw [this]; rfl
  obtain ⟨p, hp⟩ : ∃ p, swpS d g a v = (p, 0) := ⟨_, Prod.ext rfl g3⟩
  obtain ⟨hP, _, hoi, hpart, hSt, hlog⟩ := swp_torn hb h h.okv.2 hp
  rw [hp]
  simp only [bne_self_eq_false, cond_false]
  obtain ⟨t, ht, htl⟩ : ∃ t : Nat, mnI (mxI m 0) (p.length : Int) = (t : Int) ∧ t ≤ p.length := by
    refine ⟨(mnI (mxI m 0) (p.length : Int)).toNat, ?_, ?_⟩ <;> (unfold mnI mxI; split <;> split <;> omega)
  rw [ht]
  have hD := do_ok h.ok hP.ok (by have := hP.len; omega) htl
  have hSt' : ∃ g a, St (wr d (p.take t)) g a v := by
    by_cases g4 : t < p.length
    · exact ⟨_, _, (hpart t g4).1⟩
    · have g5 : t = p.length := by omega
      subst g5
      rw [List.take_length]; exact ⟨_, _, hSt⟩
  obtain ⟨g2, a2, hS⟩ := hSt'
  have hO := open_st (hP.wr hb t).1 hS
  simp only [hD, hO, Option.bind_some, beq_self_eq_true, cond_true, hvs]
theorem pure (q : (List Int) × Int × (List Int) × (List (Int × (List Int) × (List Int) × Int × Int × Int)) × Int × Int × Bool × Int) (h : wfIns F_law23_ReopenSwaps.sig.pars q) : F_law23_ReopenSwaps mx q = some true := by
  obtain ⟨d, t, qs, l, ie, inn, ib, m⟩ := q
  have hb : ∀ {x : List Int}, Ty.wf .str x → bytesI x := fun hx y hy => ⟨(hx.1 y hy).1, by have := (hx.1 y hy).2; omega⟩
  refine main (i := (t, qs, l, ie, inn, ib)) (fun x hx => wfu8 (h.1.1.1 x hx)) h.2.1.2.2.1.2 ⟨fun k hk => ?_, fun k hk => ?_⟩ m
  · have := h.2.1.2.2.1.1 k hk
    exact ⟨⟨this.2.1.2, this.2.2.1.2⟩, hb this.2.1, hb this.2.2.1⟩
  · have := h.2.1.2.2.1.1 k hk
    exact ⟨wfu32 this.2.2.2.1, wfu64 this.2.2.2.2.2⟩
end Go.Proofs.Ytpfjjbpoikgocaa.reopenSwaps
