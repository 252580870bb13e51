/- The plain law of FollowHears. -/
import Derived.Test.YtepgfpihfpjefaaGreatKXf
import Derived.Test.YtepgfpihfpjefaaGreatKXm
import Derived.Test.YtepgfpihfpjefaaGreatKPr
namespace Go.Proofs.YtepgfpihfpjefaaGreat.followHears
open Go.Abs
set_option maxRecDepth 100000
theorem rec2 {v : Img} (hv : okI v) {a : List Int} (ha : bytesI a) :
    (∃ cs w, IsCh a cs ∧ plainC cs ∧ applyL v cs = .inr w ∧ F_code_OfChanges mx a = some (cs, 0) ∧ F_slices_ContainsFunc_Change mx cs = some false ∧ F_image_Apply mx (v.1, v.2.1, v.2.2.1, v.2.2.2.1, v.2.2.2.2.1, v.2.2.2.2.2, cs) = some (withE w)) ∨
    ((¬ ∃ cs w, IsCh a cs ∧ plainC cs ∧ applyL v cs = .inr w) ∧ ∃ y, F_code_OfChanges mx a = some y ∧ (y.2 ≠ 0 ∨ (y.2 = 0 ∧ ∃ B, F_slices_ContainsFunc_Change mx y.1 = some B ∧ (B = true ∨ (B = false ∧ ∃ z, F_image_Apply mx (v.1, v.2.1, v.2.2.1, v.2.2.2.1, v.2.2.2.2.1, v.2.2.2.2.2, y.1) = some z ∧ z.2.2.2.2.2.2 ≠ 0))))) := by
  obtain ⟨y, h1, h2⟩ := of_tot ha
  by_cases g1 : y.2 = 0
  case neg =>
    refine .inr ⟨fun ⟨cs, w, hc, _, _⟩ => ?_, y, h1, .inl g1⟩
    rw [of_sm hc ha] at h1
    exact g1 (by rw [← Option.some.inj h1])
  have hI : IsCh a y.1 := by
    rcases h2 with ⟨_, h2⟩ | ⟨_, h2⟩ | ⟨_, h2⟩
    · rw [h2] at g1; cases g1
    · rw [h2] at g1; cases g1
    · exact h2
  have huq : ∀ cs, IsCh a cs → cs = y.1 := fun cs hc => isCh_inj ha hc hI
  obtain ⟨B, hB, hBi⟩ := contains_ok (cs := y.1) (by have := (chErr_zero.1 hI.1).1; omega)
  have hap := apply_ok (okI_len hv) (cs := y.1) (fun c hc => (hI.2.2 c hc).1)
  cases B with
  | true =>
    refine .inr ⟨fun ⟨cs, w, hc, hp, _⟩ => ?_, y, h1, .inr ⟨g1, true, hB, .inl rfl⟩⟩
    rw [huq cs hc] at hp
    have := hBi.2 hp; cases this
  | false =>
    cases hal : applyL v y.1 with
    | inr w =>
      refine .inl ⟨y.1, w, hI, hBi.1 rfl, hal, ?_, hB, ?_⟩
      · rw [h1]; exact congrArg some (Prod.ext rfl g1)
      · rw [hap, applyS_val hv hI.1 hal]
    | inl er =>
      refine .inr ⟨fun ⟨cs, w, hc, _, hw⟩ => ?_, y, h1, .inr ⟨g1, false, hB, .inr ⟨rfl, _, hap, fun h => ?_⟩⟩⟩
      · rw [huq cs hc, hal] at hw; cases hw
      · obtain ⟨_, _, w, hw⟩ := applyS_zero.1 h
        rw [hal] at hw; cases hw
theorem hear2_ok {f : Fol} {m : Msg} (hf : wfF f) (hk : 0 ≤ m.1 ∧ m.1 ≤ 255) (hb : bytesI m.2.2.2) : ∃ r, F_follow_Hear mx (f.1, f.2.1, f.2.2.1, f.2.2.2.1, f.2.2.2.2.1, f.2.2.2.2.2.1, f.2.2.2.2.2.2.1, f.2.2.2.2.2.2.2, m) = some r ∧ Heard f m r := by
  have hck := fcheck_ok hf
  have hnb := nwrite_bad hk hb
  have hng := fun h => nwrite_ok hk hb (by have := may_len h; omega) h
  obtain ⟨e, n, t, q, l, ie, inn, ib⟩ := f
  obtain ⟨kd, me, mn, a⟩ := m
  dsimp only at hck hk hb ⊢
  by_cases h1 : okF (e, n, t, q, l, ie, inn, ib)
  case neg =>
    refine ⟨frBad 8, ?_, .bad fun h => h1 h.1⟩
    simp only [F_follow_Hear, hck, if_neg h1, Option.bind_some]; rfl
  by_cases h2 : mayM (kd, me, mn, a)
  case neg =>
    refine ⟨frBad 8, ?_, .bad fun h => h2 h.2⟩
    simp only [F_follow_Hear, hck, if_pos h1, hnb h2, Option.bind_some]; rfl
  obtain ⟨x, hx⟩ := hng h2
  by_cases h3 : me < e
  · refine ⟨frBad 250, ?_, .elder ⟨h1, h2⟩ h3⟩
    simp only [F_follow_Hear, hck, if_pos h1, hx, Option.bind_some, bne_self_eq_false, cond_false, decide_eq_true h3, cond_true]; rfl
  obtain ⟨o1, o2, o3, o4, o5, o6⟩ := id h1
  dsimp only at o1 o2 o3 o4 o5 o6
  subst o4 o5 o6
  have htw := ftwin_ok o3 ie inn
  have hE : withEN (t, q, l, ie, inn, false) ie inn = (t, q, l, ie, inn, false) := rfl
  rw [hE] at htw
  have hrec := rec2 o3 hb
  dsimp only at htw hrec
  obtain ⟨m1, m2, hmk⟩ := id h2
  dsimp only at m1 m2 hmk
  unfold inN at o2 m1 m2
  have s1 : F_follow_Hear.s16342 mx inn mn (decide (me = ie)) = some (decide (me = ie ∧ mn ≤ inn)) := by
    simp only [F_follow_Hear.s16342]
    by_cases g : me = ie
    · rw [decide_eq_true g]; simp [g]
    · rw [decide_eq_false g, decide_eq_false (fun hh : me = ie ∧ mn ≤ inn => g hh.1)]; rfl
  have s2 : F_follow_Hear.s261502 mx inn mn (decide (me = ie)) = some (decide (me ≠ ie ∨ inn + 1 < mn)) := by
    simp only [F_follow_Hear.s261502]
    rw [w64 (n := inn + 1) (by omega) (by omega)]
    by_cases g : me = ie
    · rw [decide_eq_true g]; simp [g]
    · rw [decide_eq_false g, decide_eq_true (show me ≠ ie ∨ inn + 1 < mn from .inl g)]; rfl
  simp only [F_follow_Hear, hck, if_pos h1, hx, Option.bind_some, bne_self_eq_false, cond_false, decide_eq_false h3, htw, F_follow_Hear.s510, ieq, s1, s2, bne_int]
  by_cases k1 : kd = 1
  case neg =>
    rw [decide_eq_false k1]
    by_cases k4 : kd = 4
    case neg =>
      rw [decide_eq_false k4]
      exact ⟨frOf (ie, inn, t, q, l, ie, inn, false) 0 [], rfl, .other ⟨h1, h2⟩ (show ie ≤ me by omega) ⟨k1, k4⟩⟩
    rw [decide_eq_true k4]
    simp only [Bool.not_false, Bool.not_true, cond_true, cond_false]
    by_cases g : me = ie ∧ mn ≤ inn
    · rw [decide_eq_true g]
      exact ⟨frOf (ie, inn, t, q, l, ie, inn, false) 0 [(2, ie, inn, [])], rfl, .had ⟨h1, h2⟩ g.1 (.inr k4) g.2⟩
    rw [decide_eq_false g]
    obtain ⟨v, hv, hw⟩ : isImg a := by
      rcases hmk with h | h | h | h
      · exact absurd h.1 k1
      · exfalso; have := h.1; omega
      · exfalso; have := h.1; omega
      · exact h.2
    have hrd := read_sm hv hb hw.2
    have hvt := ftwin_ok (writeS_ok hv).1 me mn
    refine ⟨frOf (me, mn, withEN v me mn) 2 [(2, me, mn, [])], ?_, .image ⟨h1, h2⟩ (show ie ≤ me by omega) k4 g v hv hw⟩
    have hvt : F_follow_twin mx ((withE v).1, (withE v).2.1, (withE v).2.2.1, (withE v).2.2.2.1, (withE v).2.2.2.2.1, (withE v).2.2.2.2.2.1, me, mn) = some (withEN v me mn) := hvt
    simp only [cond_false, hrd, Option.bind_some, hvt]
    rfl
  subst k1
  simp only [decide_true, Bool.not_true, cond_false]
  by_cases g : me = ie ∧ mn ≤ inn
  · rw [decide_eq_true g]
    exact ⟨frOf (ie, inn, t, q, l, ie, inn, false) 0 [(2, ie, inn, [])], rfl, .had ⟨h1, h2⟩ g.1 (.inl rfl) g.2⟩
  rw [decide_eq_false g, decide_eq_false (show ¬ (1 : Int) = 4 by decide)]
  simp only [cond_false]
  by_cases g2 : me ≠ ie ∨ inn + 1 < mn
  · rw [decide_eq_true g2]
    exact ⟨frOf (ie, inn, t, q, l, ie, inn, false) 0 [(3, ie, inn, [])], rfl, .gap ⟨h1, h2⟩ (show ie ≤ me by omega) rfl g2⟩
  rw [decide_eq_false g2]
  have he : me = ie := Classical.byContradiction fun h => g2 (.inl h)
  have hn : mn = inn + 1 := by
    have : ¬ mn ≤ inn := fun h => g ⟨he, h⟩
    have : ¬ inn + 1 < mn := fun h => g2 (.inr h)
    omega
  simp only [cond_false]
  rcases hrec with ⟨cs, w, hc, hp, hw, hO, hC, hA⟩ | ⟨hno, y, hO, hY⟩
  · rw [hO]
    simp only [Option.bind_some, decide_true, Bool.not_true, cond_false, hC, hA]
    exact ⟨frOf (ie, mn, (w.1, w.2.1, w.2.2.1, w.2.2.2.1, mn, w.2.2.2.2.2)) 1 [(2, ie, mn, [])], rfl, .next ⟨h1, h2⟩ he rfl hn cs w hc hp hw⟩
  · rw [hO]
    refine ⟨frOf (ie, inn, t, q, l, ie, inn, false) 0 [], ?_, .not ⟨h1, h2⟩ he rfl hn hno⟩
    rcases hY with hy | ⟨hy, B, hB, hz⟩
    · simp only [Option.bind_some, decide_eq_false hy, Bool.not_false, cond_true]; rfl
    · simp only [Option.bind_some, decide_eq_true hy, Bool.not_true, cond_false, hB]
      rcases hz with rfl | ⟨rfl, z, hz, hz2⟩
      · rfl
      · simp only [cond_false, hz, Option.bind_some, decide_eq_false hz2]; rfl
theorem rrec_loop {cs : List Chg} (hl : cs.length ≤ 1000000) (e0 : Int) : iter mx (F_ref25_record.l58 mx (cs, e0)) (0 : Int) = some (.inr ()) ∧ plainC cs ∨ iter mx (F_ref25_record.l58 mx (cs, e0)) (0 : Int) = some (.inl (false, 0, 0, 0, false)) ∧ ¬ plainC cs := by
  have hstep : ∀ i, i < cs.length → F_ref25_record.l58 mx (cs, e0) (i : Int) = some (bif decide ((cs.getD i C0).1 ≠ 6 ∧ (cs.getD i C0).1 ≠ 7) then .next ((i + 1 : Nat) : Int) else .fin (.inl (false, 0, 0, 0, false))) := fun i hi => by
    have hg : cs.getD i (0, (0, (([], ([], (0, (0, 0)))), ([], (0, (0, false)))))) = cs.getD i C0 := rfl
    simp only [F_ref25_record.l58, ltd hi, lez, Bool.and_self, cond_true, Int.toNat_natCast, blt_t hi, hg, ieq]
    rw [inc64 (by omega)]
    by_cases h6 : (cs.getD i C0).1 = 6
    · rw [decide_eq_true h6, decide_eq_false (show ¬ ((cs.getD i C0).1 ≠ 6 ∧ (cs.getD i C0).1 ≠ 7) from fun h => h.1 h6)]; rfl
    · rw [decide_eq_false h6]
      by_cases h7 : (cs.getD i C0).1 = 7
      · rw [decide_eq_true h7, decide_eq_false (show ¬ ((cs.getD i C0).1 ≠ 6 ∧ (cs.getD i C0).1 ≠ 7) from fun h => h.2 h7)]; rfl
      · rw [decide_eq_false h7, decide_eq_true (show (cs.getD i C0).1 ≠ 6 ∧ (cs.getD i C0).1 ≠ 7 from ⟨h6, h7⟩)]; rfl
  rcases iter_scan (f := F_ref25_record.l58 mx (cs, e0)) (fun i => (i : Int)) cs.length (fun i => (cs.getD i C0).1 ≠ 6 ∧ (cs.getD i C0).1 ≠ 7) (lt_N0 (by omega)) (fun _ => .inl (false, 0, 0, 0, false)) (.inr ())
    (fun i hi hp _ => by rw [hstep i hi, decide_eq_true hp]; rfl)
    (fun i hi hp _ => by rw [hstep i hi, decide_eq_false hp]; rfl)
    (fun _ => by simp only [F_ref25_record.l58, nltd, cond_false]) with ⟨h, e⟩ | ⟨i, hi, hp, _, e⟩
  · refine .inl ⟨e, fun c hc => ?_⟩
    obtain ⟨j, hj, rfl⟩ := List.mem_iff_getElem.1 hc
    have := h j hj
    rwa [getD_some hj] at this
  · exact .inr ⟨e, fun h => hp (h _ (getD_lt hi))⟩
theorem rhear_ok {f : Fol} {m : Msg} (hf : wfF f) (hfl : f.2.2.2.1.length ≤ 4294967296) (hfl2 : f.2.2.2.2.1.length ≤ 4294967296) (hk : 0 ≤ m.1 ∧ m.1 ≤ 255) (hb : bytesI m.2.2.2) : ∃ r, F_ref25_Hear mx (f.1, f.2.1, f.2.2.1, f.2.2.2.1, f.2.2.2.2.1, f.2.2.2.2.2.1, f.2.2.2.2.2.2.1, f.2.2.2.2.2.2.2, m) = some r ∧ Heard f m r := by
  have hck := rcheck25_ok hf
  have htw := rtwin25_ok hfl hfl2
  obtain ⟨B, hB, hBi⟩ := rmay24_ok hk hb
  obtain ⟨e, n, t, q, l, ie, inn, ib⟩ := f
  obtain ⟨kd, me, mn, a⟩ := m
  dsimp only at hck hk hb htw ⊢
  by_cases h1 : okF (e, n, t, q, l, ie, inn, ib)
  case neg =>
    refine ⟨frBad 8, ?_, .bad fun h => h1 h.1⟩
    simp only [F_ref25_Hear, hck, if_neg h1, Option.bind_some, F_ref25_Hear.s14]; rfl
  cases B with
  | false =>
    refine ⟨frBad 8, ?_, .bad fun h => by have := hBi.2 h.2; cases this⟩
    simp only [F_ref25_Hear, hck, if_pos h1, Option.bind_some, F_ref25_Hear.s14, hB]; rfl
  | true =>
  have h2 := hBi.1 rfl
  have s14 : F_ref25_Hear.s14 mx kd me mn a 0 = some 0 := by simp only [F_ref25_Hear.s14, hB, Option.bind_some]; rfl
  by_cases h3 : me < e
  · refine ⟨frBad 250, ?_, .elder ⟨h1, h2⟩ h3⟩
    simp only [F_ref25_Hear, hck, if_pos h1, s14, Option.bind_some, bne_self_eq_false, cond_false, decide_eq_true h3, cond_true]; rfl
  obtain ⟨o1, o2, o3, o4, o5, o6⟩ := id h1
  dsimp only at o1 o2 o3 o4 o5 o6
  subst o4 o5 o6
  obtain ⟨m1, m2, hmk⟩ := id h2
  dsimp only at m1 m2 hmk
  unfold inN at o2 m1 m2
  have s508 : F_ref25_Hear.s508 mx kd = some (decide (kd = 2 ∨ kd = 3)) := by
    simp only [F_ref25_Hear.s508, ieq]
    by_cases g : kd = 2
    · rw [decide_eq_true g, decide_eq_true (show kd = 2 ∨ kd = 3 from .inl g)]; rfl
    · rw [decide_eq_false g]
      simp only [cond_false]
      congr 1
      exact decide_eq_decide.2 ⟨.inr, fun h => h.resolve_left g⟩
  have say : ∀ (x : Fol) (k : Int), F_ref25_say mx (x.1, x.2.1, x.2.2.1, x.2.2.2.1, x.2.2.2.2.1, x.2.2.2.2.2.1, x.2.2.2.2.2.2.1, x.2.2.2.2.2.2.2, k) = some [(k, x.1, x.2.1, [])] := fun x k => rfl
  have sayF := say (ie, inn, t, q, l, ie, inn, false)
  dsimp only at sayF
  simp only [F_ref25_Hear, hck, if_pos h1, s14, Option.bind_some, bne_self_eq_false, cond_false, decide_eq_false h3, htw, s508]
  by_cases k23 : kd = 2 ∨ kd = 3
  · rw [decide_eq_true k23]
    exact ⟨frOf (ie, inn, t, q, l, ie, inn, false) 0 [], rfl, .other ⟨h1, h2⟩ (show ie ≤ me by omega) ⟨by dsimp only; omega, by dsimp only; omega⟩⟩
  rw [decide_eq_false k23]
  have k14 : kd = 1 ∨ kd = 4 := by
    rcases hmk with h | h | h | h
    · exact .inl h.1
    · exact absurd (.inl h.1) k23
    · exact absurd (.inr h.1) k23
    · exact .inr h.1
  have s2044 : F_ref25_Hear.s2044 mx inn mn (decide (ie < me)) = some (decide (me = ie ∧ mn ≤ inn)) := by
    simp only [F_ref25_Hear.s2044]
    by_cases g : ie < me
    · rw [decide_eq_true g, decide_eq_false (show ¬ (me = ie ∧ mn ≤ inn) by omega)]; rfl
    · rw [decide_eq_false g]
      simp only [Bool.not_false, cond_true]
      congr 1
      exact decide_eq_decide.2 ⟨fun h => ⟨by omega, h⟩, fun h => h.2⟩
  simp only [cond_false, F_ref25_Hear.s1022, s2044, Option.bind_some]
  by_cases g : me = ie ∧ mn ≤ inn
  · rw [decide_eq_true g]
    simp only [cond_true, sayF, Option.bind_some]
    exact ⟨frOf (ie, inn, t, q, l, ie, inn, false) 0 [(2, ie, inn, [])], rfl, .had ⟨h1, h2⟩ g.1 k14 g.2⟩
  rw [decide_eq_false g]
  simp only [cond_false, Option.bind_some, ieq]
  by_cases k4 : kd = 4
  · rw [decide_eq_true k4]
    obtain ⟨v, hv, hw⟩ : isImg a := by
      rcases hmk with h | h | h | h
      · exfalso; have := h.1; omega
      · exfalso; have := h.1; omega
      · exfalso; have := h.1; omega
      · exact h.2
    obtain ⟨y, hy, _, hyv⟩ := rimg_iff hb
    rw [hyv v hv hw] at hy
    have sayV := say (me, mn, withEN v me mn) 2
    dsimp only [withEN] at sayV
    refine ⟨frOf (me, mn, withEN v me mn) 2 [(2, me, mn, [])], ?_, .image ⟨h1, h2⟩ (show ie ≤ me by omega) k4 g v hv hw⟩
    simp only [cond_true, hy, Option.bind_some, withE, sayV]; rfl
  rw [decide_eq_false k4]
  have k1 : kd = 1 := k14.resolve_right k4
  subst k1
  have s8188 : F_ref25_Hear.s8188 mx inn mn (decide (ie < me)) = some (decide (me ≠ ie ∨ inn + 1 < mn)) := by
    simp only [F_ref25_Hear.s8188]
    rw [w64 (n := inn + 1) (by omega) (by omega)]
    by_cases g : ie < me
    · rw [decide_eq_true g, decide_eq_true (show me ≠ ie ∨ inn + 1 < mn from .inl (by omega))]; rfl
    · rw [decide_eq_false g]
      simp only [cond_false]
      congr 1
      exact decide_eq_decide.2 ⟨.inr, fun h => h.resolve_left (fun hh => hh (by omega))⟩
  simp only [cond_false, s8188, Option.bind_some]
  by_cases g2 : me ≠ ie ∨ inn + 1 < mn
  · rw [decide_eq_true g2]
    simp only [cond_true, sayF, Option.bind_some]
    exact ⟨frOf (ie, inn, t, q, l, ie, inn, false) 0 [(3, ie, inn, [])], rfl, .gap ⟨h1, h2⟩ (show ie ≤ me by omega) rfl g2⟩
  rw [decide_eq_false g2]
  have he : me = ie := Classical.byContradiction fun h => g2 (.inl h)
  have hn : mn = inn + 1 := by
    have : ¬ mn ≤ inn := fun h => g ⟨he, h⟩
    have : ¬ inn + 1 < mn := fun h => g2 (.inr h)
    omega
  obtain ⟨cs, hcs⟩ : isCh a := by
    rcases hmk with h | h | h | h
    · exact h.2.2
    · exfalso; have := h.1; omega
    · exfalso; have := h.1; omega
    · exfalso; have := h.1; omega
  have hof := rof_sm hcs hb
  have hap := rapply_ok (okI_len o3) (cs := cs) (fun c hc => (hcs.2.2 c hc).1)
  dsimp only at hap
  simp only [cond_false, F_ref25_record, hof, Option.bind_some]
  rcases rrec_loop (cs := cs) (by have := (chErr_zero.1 hcs.1).1; omega) 0 with ⟨hL, hp⟩ | ⟨hL, hp⟩
  · rw [hL]
    simp only [Option.bind_some, hap]
    rw [w64 (n := inn + 1) (by omega) (by omega)]
    cases hal : applyL (t, q, l, ie, inn, false) cs with
    | inr w =>
      rw [applyS_val o3 hcs.1 hal]
      have sayW := say (ie, mn, w.1, w.2.1, w.2.2.1, w.2.2.2.1, inn + 1, w.2.2.2.2.2) 2
      dsimp only at sayW
      refine ⟨frOf (ie, mn, (w.1, w.2.1, w.2.2.1, w.2.2.2.1, mn, w.2.2.2.2.2)) 1 [(2, ie, mn, [])], ?_, .next ⟨h1, h2⟩ he rfl hn cs w hcs hp hal⟩
      simp only [withE, beq_self_eq_true, Bool.not_true, cond_false, sayW, Option.bind_some]
      rw [hn]; rfl
    | inl er =>
      have hne : (applyS (t, q, l, ie, inn, false) cs).2.2.2.2.2.2 ≠ 0 := fun h => by
        obtain ⟨_, _, w, hw⟩ := applyS_zero.1 h
        rw [hal] at hw; cases hw
      refine ⟨frOf (ie, inn, t, q, l, ie, inn, false) 0 [], ?_, .not ⟨h1, h2⟩ he rfl hn ?_⟩
      · simp only [beq_eq_false_iff_ne.2 hne, Bool.not_false, cond_true]; rfl
      · rintro ⟨cs', w, hc', _, hw⟩
        have := isCh_inj hb hc' hcs
        subst this
        rw [hal] at hw; cases hw
  · rw [hL]
    refine ⟨frOf (ie, inn, t, q, l, ie, inn, false) 0 [], rfl, .not ⟨h1, h2⟩ he rfl hn ?_⟩
    rintro ⟨cs', w, hc', hp', _⟩
    have := isCh_inj hb hc' hcs
    subst this
    exact hp hp'
theorem heard_uniq {f : Fol} {m : Msg} (hb : bytesI m.2.2.2) {r r' : FR} (h : Heard f m r) (h' : Heard f m r') : r = r' := by
  cases h with
  | bad h =>
    cases h' with
    | bad h' => rfl
    | elder h' he' => exact absurd h' h
    | other h' he' hk' => exact absurd h' h
    | had h' he' hk' hn' => exact absurd h' h
    | image h' he' hk' hn' v' hv' hw' => exact absurd h' h
    | gap h' he' hk' hn' => exact absurd h' h
    | next h' he' hk' hn' cs' w' hc' hp' hw' => exact absurd h' h
    | not h' he' hk' hn' hno' => exact absurd h' h
  | elder h he =>
    cases h' with
    | bad h' => exact absurd h h'
    | elder h' he' => rfl
    | other h' he' hk' => exfalso; omega
    | had h' he' hk' hn' => exfalso; omega
    | image h' he' hk' hn' v' hv' hw' => exfalso; omega
    | gap h' he' hk' hn' => exfalso; omega
    | next h' he' hk' hn' cs' w' hc' hp' hw' => exfalso; omega
    | not h' he' hk' hn' hno' => exfalso; omega
  | other h he hk =>
    cases h' with
    | bad h' => exact absurd h h'
    | elder h' he' => exfalso; omega
    | other h' he' hk' => rfl
    | had h' he' hk' hn' => exfalso; omega
    | image h' he' hk' hn' v' hv' hw' => exfalso; omega
    | gap h' he' hk' hn' => exfalso; omega
    | next h' he' hk' hn' cs' w' hc' hp' hw' => exfalso; omega
    | not h' he' hk' hn' hno' => exfalso; omega
  | had h he hk hn =>
    cases h' with
    | bad h' => exact absurd h h'
    | elder h' he' => exfalso; omega
    | other h' he' hk' => exfalso; omega
    | had h' he' hk' hn' => rfl
    | image h' he' hk' hn' v' hv' hw' => exact absurd ⟨he, hn⟩ hn'
    | gap h' he' hk' hn' => exfalso; omega
    | next h' he' hk' hn' cs' w' hc' hp' hw' => exfalso; omega
    | not h' he' hk' hn' hno' => exfalso; omega
  | image h he hk hn v hv hw =>
    cases h' with
    | bad h' => exact absurd h h'
    | elder h' he' => exfalso; omega
    | other h' he' hk' => exfalso; omega
    | had h' he' hk' hn' => exact absurd ⟨he', hn'⟩ hn
    | image h' he' hk' hn' v' hv' hw' =>
      have := write_inj hv hv' hb hw.2 hw'.2
      subst this; rfl
    | gap h' he' hk' hn' => exfalso; omega
    | next h' he' hk' hn' cs' w' hc' hp' hw' => exfalso; omega
    | not h' he' hk' hn' hno' => exfalso; omega
  | gap h he hk hn =>
    cases h' with
    | bad h' => exact absurd h h'
    | elder h' he' => exfalso; omega
    | other h' he' hk' => exfalso; omega
    | had h' he' hk' hn' => exfalso; omega
    | image h' he' hk' hn' v' hv' hw' => exfalso; omega
    | gap h' he' hk' hn' => rfl
    | next h' he' hk' hn' cs' w' hc' hp' hw' => exfalso; omega
    | not h' he' hk' hn' hno' => exfalso; omega
  | next h he hk hn cs w hc hp hw =>
    cases h' with
    | bad h' => exact absurd h h'
    | elder h' he' => exfalso; omega
    | other h' he' hk' => exfalso; omega
    | had h' he' hk' hn' => exfalso; omega
    | image h' he' hk' hn' v' hv' hw' => exfalso; omega
    | gap h' he' hk' hn' => exfalso; omega
    | next h' he' hk' hn' cs' w' hc' hp' hw' =>
      have := isCh_inj hb hc hc'
      subst this
      rw [hw] at hw'
      cases hw'; rfl
    | not h' he' hk' hn' hno' => exact absurd ⟨cs, w, hc, hp, hw⟩ hno'
  | not h he hk hn hno =>
    cases h' with
    | bad h' => exact absurd h h'
    | elder h' he' => exfalso; omega
    | other h' he' hk' => exfalso; omega
    | had h' he' hk' hn' => exfalso; omega
    | image h' he' hk' hn' v' hv' hw' => exfalso; omega
    | gap h' he' hk' hn' => exfalso; omega
    | next h' he' hk' hn' cs' w' hc' hp' hw' => exact absurd ⟨cs', w', hc', hp', hw'⟩ hno
    | not h' he' hk' hn' hno' => rfl
theorem rfnew_ok {v : Img} (hb : ∀ k ∈ v.2.2.1, k.2.1.length ≤ 140737488351232 ∧ k.2.2.1.length ≤ 140737488351232) (n : Int) : F_ref25_New mx (v.1, v.2.1, v.2.2.1, v.2.2.2.1, v.2.2.2.2.1, v.2.2.2.2.2, n) =
    some (if okI v then (if inN n then (v.2.2.2.1, n, v.1, v.2.1, v.2.2.1, v.2.2.2.1, n, false, 0) else (0, 0, 0, [], [], 0, 0, false, 2)) else (0, 0, 0, [], [], 0, 0, false, 8)) := by
  have hck := rcheck_ok hb
  obtain ⟨t, q, l, ie, inn, ib⟩ := v
  dsimp only at hck ⊢
  simp only [F_ref25_New, hck, Option.bind_some]
  by_cases h1 : okI (t, q, l, ie, inn, ib)
  case neg => rw [if_neg h1, if_neg h1]; rfl
  rw [if_pos h1, if_pos h1]
  by_cases h2 : inN n
  case neg =>
    rw [if_neg h2]
    by_cases k : n < 0
    · rw [decide_eq_true k]; rfl
    · rw [decide_eq_false k, decide_eq_true (show 2147483647 < n by unfold inN at h2; omega)]; rfl
  rw [if_pos h2, decide_eq_false (show ¬ n < 0 by have := h2.1; omega), decide_eq_false (show ¬ 2147483647 < n by have := h2.2; omega)]
  have htw := rtwin21_ok (v := (t, q, l, ie, inn, ib)) (by have := h1.2.1.2.1; dsimp only at this ⊢; omega) (by have := h1.2.2.1; dsimp only at this ⊢; omega)
  simp only [bne_self_eq_false, cond_false, htw, Option.bind_some]
theorem rask_ok {f : Fol} (hb : ∀ k ∈ f.2.2.2.2.1, k.2.1.length ≤ 140737488351232 ∧ k.2.2.1.length ≤ 140737488351232) : F_ref25_Ask mx f = some (if okF f then (3, f.1, f.2.1, [], 0) else (0, 0, 0, [], 8)) := by
  have h := rcheck25_ok hb
  obtain ⟨e, n, t, q, l, ie, inn, ib⟩ := f
  simp only [F_ref25_Ask, h, Option.bind_some]
  by_cases h1 : okF (e, n, t, q, l, ie, inn, ib)
  · rw [if_pos h1, if_pos h1]; rfl
  · rw [if_neg h1, if_neg h1]; rfl
theorem l1_ok {l : List Kept} (hl : l.length ≤ 100000) : ∃ r, iter mx (F_law25_FollowHears.l65530 mx) ((0 : Int), l) = some r := by
  obtain ⟨r, hr, _⟩ := iter_inv (f := F_law25_FollowHears.l65530 mx) (fun s => ∃ k : Nat, s.1 = (k : Int) ∧ s.2.length = l.length ∧ k ≤ l.length) (fun s => l.length - s.1.toNat) (fun _ => True) ((0 : Int), l) ⟨0, rfl, rfl, Nat.zero_le _⟩ (lt_N0 (by dsimp only; omega)) (fun s ⟨k, e, hk, hk2⟩ => by
    obtain ⟨i, m⟩ := s
    dsimp only at e hk
    subst e
    by_cases h : k < l.length
    · refine .inl ⟨_, by simp only [F_law25_FollowHears.l65530, hk, ltd h, lez, Bool.and_self, cond_true, Int.toNat_natCast, blt_t h]; rfl, ⟨k + 1, by dsimp only; rw [inc64 (by omega)], by dsimp only; rw [List.length_set, hk], h⟩, ?_⟩
      dsimp only; rw [inc64 (by omega)]; omega
    · exact .inr ⟨m, by simp only [F_law25_FollowHears.l65530, hk, decide_eq_false (show ¬ (k : Int) < (l.length : Int) by omega), cond_false], trivial⟩)
  exact ⟨r, hr⟩
theorem l2_ok {l : List Int} (hl : l.length ≤ 100000) : ∃ r, iter mx (F_law25_FollowHears.l131066 mx) ((0 : Int), l) = some r := by
  obtain ⟨r, hr, _⟩ := iter_inv (f := F_law25_FollowHears.l131066 mx) (fun s => ∃ k : Nat, s.1 = (k : Int) ∧ s.2.length = l.length ∧ k ≤ l.length) (fun s => l.length - s.1.toNat) (fun _ => True) ((0 : Int), l) ⟨0, rfl, rfl, Nat.zero_le _⟩ (lt_N0 (by dsimp only; omega)) (fun s ⟨k, e, hk, hk2⟩ => by
    obtain ⟨i, m⟩ := s
    dsimp only at e hk
    subst e
    by_cases h : k < l.length
    · refine .inl ⟨_, by simp only [F_law25_FollowHears.l131066, hk, ltd h, lez, Bool.and_self, cond_true, Int.toNat_natCast, blt_t h]; rfl, ⟨k + 1, by dsimp only; rw [inc64 (by omega)], by dsimp only; rw [List.length_set, hk], h⟩, ?_⟩
      dsimp only; rw [inc64 (by omega)]; omega
    · exact .inr ⟨(), by simp only [F_law25_FollowHears.l131066, hk, decide_eq_false (show ¬ (k : Int) < (l.length : Int) by omega), cond_false], trivial⟩)
  exact ⟨r, hr⟩
theorem l3_ok {l : List Kept} (hl : l.length ≤ 100000) : ∃ r, iter mx (F_law25_FollowHears.l262138 mx) ((0 : Int), l) = some r := by
  obtain ⟨r, hr, _⟩ := iter_inv (f := F_law25_FollowHears.l262138 mx) (fun s => ∃ k : Nat, s.1 = (k : Int) ∧ s.2.length = l.length ∧ k ≤ l.length) (fun s => l.length - s.1.toNat) (fun _ => True) ((0 : Int), l) ⟨0, rfl, rfl, Nat.zero_le _⟩ (lt_N0 (by dsimp only; omega)) (fun s ⟨k, e, hk, hk2⟩ => by
    obtain ⟨i, m⟩ := s
    dsimp only at e hk
    subst e
    by_cases h : k < l.length
    · refine .inl ⟨_, by simp only [F_law25_FollowHears.l262138, hk, ltd h, lez, Bool.and_self, cond_true, Int.toNat_natCast, blt_t h]; rfl, ⟨k + 1, by dsimp only; rw [inc64 (by omega)], by dsimp only; rw [List.length_set, hk], h⟩, ?_⟩
      dsimp only; rw [inc64 (by omega)]; omega
    · exact .inr ⟨(), by simp only [F_law25_FollowHears.l262138, hk, decide_eq_false (show ¬ (k : Int) < (l.length : Int) by omega), cond_false], trivial⟩)
  exact ⟨r, hr⟩
theorem heard_len {f : Fol} (hf1 : f.2.2.2.1.length ≤ 100) (hf2 : f.2.2.2.2.1.length ≤ 2000) {m : Msg} {r : FR} (h : Heard f m r) : r.2.2.2.1.length ≤ 100 ∧ r.2.2.2.2.1.length ≤ 2000 ∧ r.2.2.2.2.2.2.2.2.2.1.length ≤ 1 := by
  rcases heard_ok h with ⟨e, rfl, _⟩ | ⟨g, what, l, rfl, hg, _, _, hl, _, _⟩
  · exact ⟨by simp [frBad], by simp [frBad], by simp [frBad]⟩
  · have h1 := hg.2.2.1.2.1.2.1
    have h2 := hg.2.2.1.2.2.1
    exact ⟨by simp only [frOf]; omega, by simp only [frOf]; omega, by rcases hl with rfl | rfl | rfl <;> simp [frOf]⟩
theorem main {f : Fol} (hfl : f.2.2.2.2.1.length ≤ 140737488351232) (hf : wfF f) {m : Msg} (hk : 0 ≤ m.1 ∧ m.1 ≤ 255) (hb : bytesI m.2.2.2) (hml : m.2.2.2.length ≤ 140737488351232) {v : Img} (hvl : v.2.2.1.length ≤ 140737488351232) (hv : ∀ k ∈ v.2.2.1, k.2.1.length ≤ 140737488351232 ∧ k.2.2.1.length ≤ 140737488351232) (n : Int) :
    F_law25_FollowHears mx (f.1, f.2.1, f.2.2.1, f.2.2.2.1, f.2.2.2.2.1, f.2.2.2.2.2.1, f.2.2.2.2.2.2.1, f.2.2.2.2.2.2.2, m.1, m.2.1, m.2.2.1, m.2.2.2, v.1, v.2.1, v.2.2.1, v.2.2.2.1, v.2.2.2.2.1, v.2.2.2.2.2, n) = some true := by
  obtain ⟨b1, e1, c1⟩ := great_some f.2.2 (by omega)
  obtain ⟨b3, e3, c3⟩ := great_some v (by omega)
  have e1 : F_ref21_Great mx (f.2.2.1, f.2.2.2.1, f.2.2.2.2.1, f.2.2.2.2.2.1, f.2.2.2.2.2.2.1, f.2.2.2.2.2.2.2) = some b1 := e1
  have e3 : F_ref21_Great mx (v.1, v.2.1, v.2.2.1, v.2.2.2.1, v.2.2.2.2.1, v.2.2.2.2.2) = some b3 := e3
  simp only [F_law25_FollowHears, e1, e3, Option.bind_some]
  cases b1 with
  | true => rfl
  | false =>
  cases b3 with
  | true => rfl
  | false =>
  simp only [cond_false]
  cases decide ((100000 : Int) < (m.2.2.2.length : Int)) with
  | true => rfl
  | false =>
  obtain ⟨f1, f2⟩ := c1 rfl
  obtain ⟨v1, v2⟩ := c3 rfl
  have t1 := rtwin25_ok (f := f) (by omega) (by omega)
  have t2 := rtwinM_ok hml
  have t3 := rtwin21_ok (v := v) (by omega) (by omega)
  have t1 : F_ref25_Twin mx (f.1, f.2.1, f.2.2.1, f.2.2.2.1, f.2.2.2.2.1, f.2.2.2.2.2.1, f.2.2.2.2.2.2.1, f.2.2.2.2.2.2.2) = some f := t1
  have t2 : F_ref24_TwinMessage mx (m.1, m.2.1, m.2.2.1, m.2.2.2) = some m := t2
  have t3 : F_ref21_Twin mx (v.1, v.2.1, v.2.2.1, v.2.2.2.1, v.2.2.2.2.1, v.2.2.2.2.2) = some v := t3
  have n1 := fnew_ok hv n
  have n2 := rfnew_ok hv n
  obtain ⟨r, hr, hH⟩ := hear2_ok hf hk hb
  obtain ⟨r', hr', hH'⟩ := rhear_ok hf (by omega) (by omega) hk hb
  have := heard_uniq hb hH hH'
  subst this
  have hr' : F_ref25_Hear mx (f.1, f.2.1, f.2.2.1, f.2.2.2.1, f.2.2.2.2.1, f.2.2.2.2.2.1, f.2.2.2.2.2.2.1, f.2.2.2.2.2.2.2, m.1, m.2.1, m.2.2.1, m.2.2.2) = some r := hr'
  obtain ⟨r1, r2, r3⟩ := heard_len (by omega) (by omega) hH
  have a1 := ask_ok hf
  have a2 := rask_ok hf
  have a2 : F_ref25_Ask mx (f.1, f.2.1, f.2.2.1, f.2.2.2.1, f.2.2.2.2.1, f.2.2.2.2.2.1, f.2.2.2.2.2.2.1, f.2.2.2.2.2.2.2) = _ := a2
  have k1 := fcheck_ok hf
  have k2 := rcheck25_ok hf
  have k2 : F_ref25_Check mx (f.1, f.2.1, f.2.2.1, f.2.2.2.1, f.2.2.2.2.1, f.2.2.2.2.2.1, f.2.2.2.2.2.2.1, f.2.2.2.2.2.2.2) = _ := k2
  obtain ⟨N, hN, N1, N2⟩ : ∃ N : Int × Int × Int × List Int × List Kept × Int × Int × Bool × Int, (if okI v then (if inN n then (v.2.2.2.1, n, v.1, v.2.1, v.2.2.1, v.2.2.2.1, n, false, 0) else (0, 0, 0, [], [], 0, 0, false, 2)) else (0, 0, 0, [], [], 0, 0, false, 8)) = N ∧ N.2.2.2.1.length ≤ 100 ∧ N.2.2.2.2.1.length ≤ 2000 := by
    refine ⟨_, rfl, ?_, ?_⟩
    · split
      · split
        · dsimp only; omega
        · simp
      · simp
    · split
      · split
        · dsimp only; omega
        · simp
      · simp
  rw [hN] at n1 n2
  obtain ⟨A, hA⟩ : ∃ A : Int × Int × Int × List Int × Int, (if okF f then (3, f.1, f.2.1, [], 0) else (0, 0, 0, [], 8)) = A := ⟨_, rfl⟩
  rw [hA] at a1 a2
  have q1 := rsame25_ok (f := (N.1, N.2.1, N.2.2.1, N.2.2.2.1, N.2.2.2.2.1, N.2.2.2.2.2.1, N.2.2.2.2.2.2.1, N.2.2.2.2.2.2.2.1)) (by dsimp only; omega) (by dsimp only; omega)
  have q2 := rsame25_ok (f := (r.1, r.2.1, r.2.2.1, r.2.2.2.1, r.2.2.2.2.1, r.2.2.2.2.2.1, r.2.2.2.2.2.2.1, r.2.2.2.2.2.2.2.1)) (by dsimp only; omega) (by dsimp only; omega)
  have q3 := rsameMs_ok (l := r.2.2.2.2.2.2.2.2.2.1) (by omega)
  have q4 := rsameM_ok (A.1, A.2.1, A.2.2.1, A.2.2.2.1)
  obtain ⟨x1, y1⟩ := l1_ok (l := r.2.2.2.2.1) (by omega)
  obtain ⟨x2, y2⟩ := l2_ok (l := r.2.2.2.1) (by omega)
  obtain ⟨x3, y3⟩ := l3_ok (l := N.2.2.2.2.1) (by omega)
  have q6 := rsame25_ok (f := f) (by omega) (by omega)
  have q7 := rsameM_ok m
  have q8 := rsame21 (v := v) (by omega) (by omega)
  have q6 : F_ref25_Same mx (f.1, f.2.1, f.2.2.1, f.2.2.2.1, f.2.2.2.2.1, f.2.2.2.2.2.1, f.2.2.2.2.2.2.1, f.2.2.2.2.2.2.2, f.1, f.2.1, f.2.2.1, f.2.2.2.1, f.2.2.2.2.1, f.2.2.2.2.2.1, f.2.2.2.2.2.2.1, f.2.2.2.2.2.2.2) = some true := q6
  have q7 : F_ref24_SameMessage mx (m.1, m.2.1, m.2.2.1, m.2.2.2, m.1, m.2.1, m.2.2.1, m.2.2.2) = some true := q7
  have q8 : F_ref21_Same mx (v.1, v.2.1, v.2.2.1, v.2.2.2.1, v.2.2.2.2.1, v.2.2.2.2.2, v.1, v.2.1, v.2.2.1, v.2.2.2.1, v.2.2.2.2.1, v.2.2.2.2.2) = some true := q8
  dsimp only at q1 q2 q4
  simp only [cond_false, t1, t2, t3, Option.bind_some, n1, n2, hr, hr', a1, a2, q1, q2, q3, q4, Bool.not_true, bne_self_eq_false, k1, k2, y1, y2, y3, q6, q7, q8, cond_true]
theorem pure (q : Int × Int × Int × (List Int) × (List (Int × (List Int) × (List Int) × Int × Int × Int)) × Int × Int × Bool × Int × Int × Int × (List Int) × Int × (List Int) × (List (Int × (List Int) × (List Int) × Int × Int × Int)) × Int × Int × Bool × Int) (h : wfIns F_law25_FollowHears.sig.pars q) : F_law25_FollowHears mx q = some true := by
  obtain ⟨e, n, t, qs, l, ie, inn, ib, mk, me, mn, ma, t2, qs2, l2, ie2, inn2, ib2, nn⟩ := q
  refine main (f := (e, n, t, qs, l, ie, inn, ib)) (m := (mk, me, mn, ma)) (v := (t2, qs2, l2, ie2, inn2, ib2)) h.1.2.2.2.2.1.2 (fun k hk => ?_) (wfu8 h.2.1.1) (fun x hx => wfu8 (h.2.1.2.2.2.1.1 x hx)) h.2.1.2.2.2.1.2 h.2.2.1.2.2.1.2 (fun k hk => ?_) nn
  · have := h.1.2.2.2.2.1.1 k hk
    exact ⟨this.2.1.2, this.2.2.1.2⟩
  · have := h.2.2.1.2.2.1.1 k hk
    exact ⟨this.2.1.2, this.2.2.1.2⟩
end Go.Proofs.YtepgfpihfpjefaaGreat.followHears
