/- The plain law of ReopenDays. -/
import Derived.Test.YtpfjjbpoikgocaaKRs
namespace Go.Proofs.Ytpfjjbpoikgocaa.reopenDays
open Go.Abs
set_option maxRecDepth 100000
theorem alive_ok : F_law23_alive mx () = some true := by kernel_rfl
abbrev Day := Int × List Chg × Int
abbrev D0 : Day := (0, ([], 0))
def Turn (d : List Int) (v : Img) (p : List Put) (next : Img) : Prop := Puts d p ∧ ∀ t, t ≤ p.length → ∃ g a, St (wr d (p.take t)) g a (if t = p.length then next else v)
theorem swp_turn {d : List Int} (hb : bytesL d) {g a : Int} {v : Img} (h : St d g a v) {i : Img} (hw : wfIm i) (he : (swpS d g a i).2 = 0) : Turn d v (swpS d g a i).1 i := by
  obtain ⟨p, hp⟩ : ∃ p, swpS d g a i = (p, 0) := ⟨_, Prod.ext rfl he⟩
  obtain ⟨hP, _, _, hpart, hSt, _⟩ := swp_torn hb h hw hp
  rw [hp]
  refine ⟨hP, fun t ht => ?_⟩
  by_cases g4 : t < p.length
  · rw [if_neg (by dsimp only; omega)]; exact ⟨_, _, (hpart t g4).1⟩
  · have g5 : t = p.length := by dsimp only at ht; omega
    subst g5
    rw [if_pos rfl, List.take_length]; exact ⟨_, _, hSt⟩
abbrev SS := Int × Int × List Int × List Kept × Int × Int × Bool × List Int × List Int
/-- What is written on a day. -/
theorem day_ok {q : List Int} (hq : quotasOk q) (a2 : List Day) {i : Nat} (hi : i < a2.length) (hl : a2.length ≤ 16) {d : List Int} (hb : bytesL d) {g a : Int} {v : Img} (h : St d g a v)
    (hw : ∀ c ∈ (a2.getD i D0).2.1, wfC c ∧ bytesC c) :
    ∃ x, F_law23_ReopenDays.s1047118 mx a2 (0, q, [], 0, 0, false, 0) ((i : Int), v.1, v.2.1, v.2.2.1, v.2.2.2.1, v.2.2.2.2.1, v.2.2.2.2.2, d, q) = some x ∧ (x.2.1 = 0 → Turn d v x.1 x.2.2) := by
  have hcmp := rcompact_ok hb
  have hsw := rswap_ok hb (i := (0, q, [], 0, 0, false)) (fun k hk => (by cases hk)) (fun k hk => (by cases hk))
  have hkp := rkeep_ok hb hw
  have hA := apply_ok (okI_len h.okv.1) (cs := (a2.getD i D0).2.1) (fun c hc => (hw c hc).1)
  have uq : ∀ {g' a' v'}, St d g' a' v' → g' = g ∧ a' = a ∧ v' = v := fun h' => by obtain ⟨e1, e2, e3⟩ := St.uniq hb h h'; exact ⟨e1.symm, e2.symm, e3.symm⟩
  have hno : ¬ ¬ ∃ g a v, St d g a v := fun hn => hn ⟨_, _, _, h⟩
  have hgD : a2.getD i (0, ([], 0)) = a2.getD i D0 := rfl
  simp only [F_law23_ReopenDays.s1047118, lez, ltd hi, Bool.and_self, cond_true, Int.toNat_natCast, hgD]
  generalize a2.getD i D0 = D at hw hkp hA
  generalize (D.1.tmod 4 == 2) = B1
  generalize (D.1.tmod 4 == 3) = B2
  cases B1 with
  | true =>
    rcases hcmp with ⟨g', a', v', h', hc⟩ | ⟨hn, _⟩
    case inr => exact absurd hn hno
    obtain ⟨rfl, rfl, rfl⟩ := uq h'
    simp only [cond_true, hc, Option.bind_some]
    exact ⟨_, rfl, fun he => swp_turn hb h h.okv.2 he⟩
  | false =>
  cases B2 with
  | true =>
    rcases hsw with ⟨g', a', v', h', hc⟩ | ⟨hn, _⟩
    case inr => exact absurd hn hno
    obtain ⟨rfl, rfl, rfl⟩ := uq h'
    have hc : F_reopen_Swap mx (d, (0 : Int), q, ([] : List Kept), (0 : Int), (0 : Int), false) = _ := hc
    simp only [cond_true, cond_false, hc, Option.bind_some]
    exact ⟨_, rfl, fun he => swp_turn hb h ⟨fun k hk => (by cases hk), fun k hk => (by cases hk)⟩ he⟩
  | false =>
    simp only [cond_true, cond_false, hA, Option.bind_some, ieq]
    by_cases g1 : (applyS v D.2.1).2.2.2.2.2.2 = 0
    case neg =>
      rw [decide_eq_false g1]
      exact ⟨_, rfl, fun he => absurd he g1⟩
    obtain ⟨_, g3, w, g4⟩ := applyS_zero.1 g1
    rw [applyS_val h.okv.1 g3 g4]
    rcases hkp with ⟨g', a', v', h', r, hk, hR⟩ | ⟨hn, _⟩
    case inr => exact absurd hn hno
    obtain ⟨rfl, rfl, rfl⟩ := uq h'
    simp only [withE, decide_true, cond_true, hk, Option.bind_some]
    refine ⟨_, rfl, fun he => ?_⟩
    obtain ⟨p, rfl⟩ : ∃ p, r = (p, 0) := ⟨r.1, Prod.ext rfl he⟩
    obtain ⟨hP, _, w', hw', hst⟩ := keep_torn hb h hw ⟨_, rfl, hR⟩
    rw [g4] at hw'
    cases hw'
    exact ⟨hP, hst⟩
theorem loop_ok {q : List Int} (hq : quotasOk q) (a2 : List Day) (hl : a2.length ≤ 16) (hw : ∀ D ∈ a2, D.2.1.length ≤ 140737488351232 ∧ ∀ c ∈ D.2.1, wfC c ∧ bytesC c) {d : List Int} (hb : bytesL d) {g a : Int} {v : Img} (h : St d g a v) :
    ∃ r, iter mx (F_law23_ReopenDays.l4090 mx a2 true (0, q, [], 0, 0, false, 0)) ((0 : Int), v.1, v.2.1, v.2.2.1, v.2.2.2.1, v.2.2.2.2.1, v.2.2.2.2.2, d, q) = some r ∧ (r = .inl true ∨ r = .inr ()) := by
  refine iter_inv (f := F_law23_ReopenDays.l4090 mx a2 true (0, q, [], 0, 0, false, 0)) (fun st => ∃ (i : Nat) (d : List Int) (g a : Int) (v : Img), st = ((i : Int), v.1, v.2.1, v.2.2.1, v.2.2.2.1, v.2.2.2.2.1, v.2.2.2.2.2, d, q) ∧ i ≤ a2.length ∧ bytesL d ∧ St d g a v)
    (fun st => a2.length - st.1.toNat) (fun r => r = .inl true ∨ r = .inr ()) _ ⟨0, d, g, a, v, rfl, Nat.zero_le _, hb, h⟩ (lt_N0 (by dsimp only; omega)) (fun st ⟨i, d, g, a, v, es, hi, hb, h⟩ => ?_)
  subst es
  by_cases hia : i < a2.length
  case neg =>
    have : i = a2.length := by omega
    subst this
    exact .inr ⟨.inr (), by simp only [F_law23_ReopenDays.l4090, nltd, cond_false], .inr rfl⟩
  obtain ⟨hcl, hcw⟩ := hw _ (getD_lt (l := a2) (d := D0) hia)
  have hinc : IntKind.i64.wrap ((i : Int) + 1) = ((i + 1 : Nat) : Int) := inc64 (by omega)
  obtain ⟨b, hh, _⟩ := rheavy_ok (d := d) (v := v) (by have := h.okv.1.2.2.1; omega) hcl
  obtain ⟨x, hx, hT⟩ := day_ok hq a2 hia hl hb h hcw
  have hgD : a2.getD i (0, ([], 0)) = a2.getD i D0 := rfl
  cases b with
  | true =>
    refine .inr ⟨.inl true, ?_, .inl rfl⟩
    simp only [F_law23_ReopenDays.l4090, ltd hia, lez, Bool.and_self, cond_true, Int.toNat_natCast, hgD, hh, Option.bind_some]
  | false =>
  left
  by_cases g1 : x.2.1 = 0
  case neg =>
    refine ⟨(((i + 1 : Nat) : Int), v.1, v.2.1, v.2.2.1, v.2.2.2.1, v.2.2.2.2.1, v.2.2.2.2.2, d, q), ?_, ⟨i + 1, d, g, a, v, rfl, hia, hb, h⟩, by dsimp only; omega⟩
    simp only [F_law23_ReopenDays.l4090, ltd hia, lez, Bool.and_self, cond_true, Int.toNat_natCast, hgD, hh, Option.bind_some, cond_false, hx, bne_iff_ne.2 g1, hinc]
  obtain ⟨hP, hst⟩ := hT g1
  obtain ⟨t, u, hs, ht, hu⟩ : ∃ (t : Nat) (u : Img), F_law23_ReopenDays.s8376958 mx a2 ((i : Int), v.1, v.2.1, v.2.2.1, v.2.2.2.1, v.2.2.2.2.1, v.2.2.2.2.2, d, q) x (x.1.length : Int) = some ((t : Int), u) ∧ t ≤ x.1.length ∧ u = if t = x.1.length then x.2.2 else v := by
    simp only [F_law23_ReopenDays.s8376958, F_law23_ReopenDays.s16753916, ltd hia, lez, Bool.and_self, cond_true, Int.toNat_natCast, hgD]
    by_cases k1 : 0 ≤ (a2.getD i D0).2.2
    case neg => rw [decide_eq_false k1]; exact ⟨x.1.length, x.2.2, rfl, Nat.le_refl _, by rw [if_pos rfl]⟩
    rw [decide_eq_true k1]
    obtain ⟨t, ht⟩ := Int.eq_ofNat_of_zero_le k1
    rw [ht]
    by_cases k2 : t < x.1.length
    · rw [decide_eq_true (show (t : Int) < (x.1.length : Int) by omega)]
      exact ⟨t, v, rfl, by omega, by rw [if_neg (by omega)]⟩
    · rw [decide_eq_false (show ¬ (t : Int) < (x.1.length : Int) by omega)]
      exact ⟨x.1.length, x.2.2, rfl, Nat.le_refl _, by rw [if_pos rfl]⟩
  have hD := do_ok h.ok hP.ok (by have := hP.len; omega) ht
  obtain ⟨g', a', hS⟩ := hst t ht
  rw [← hu] at hS
  have hbw := (hP.wr hb t).1
  have hO := open_st hbw hS
  have hsame := same_self hS.okv.1
  have hsame : F_image_Same mx (u.1, u.2.1, u.2.2.1, u.2.2.2.1, u.2.2.2.2.1, u.2.2.2.2.2, u) = some true := hsame
  refine ⟨(((i + 1 : Nat) : Int), u.1, u.2.1, u.2.2.1, u.2.2.2.1, u.2.2.2.2.1, u.2.2.2.2.2, wr d (x.1.take t), q), ?_, ⟨i + 1, _, g', a', u, rfl, hia, hbw, hS⟩, by dsimp only; omega⟩
  simp only [F_law23_ReopenDays.l4090, ltd hia, lez, Bool.and_self, cond_true, Int.toNat_natCast, hgD, hh, Option.bind_some, cond_false, hx, g1, bne_self_eq_false, hs, hD, hO, hsame, Bool.not_true, hinc]
theorem main (n : Int) {q : List Int} (hql : q.length ≤ 140737488351232) (a2 : List Day) (hw : ∀ D ∈ a2, D.2.1.length ≤ 140737488351232 ∧ ∀ c ∈ D.2.1, wfC c ∧ bytesC c) : F_law23_ReopenDays mx (n, q, a2) = some true := by
  simp only [F_law23_ReopenDays, alive_ok, Option.bind_some, Bool.not_true, cond_false, F_image_New, quotas_ok]
  by_cases hq : quotasOk q
  case neg => rw [decide_eq_false hq]; rfl
  have c1 : Nat.ble q.length 4294967296 = true := ble_t (by have := hq.2.1; omega)
  have c2 : C_slices_Clone_int mx q = some q := by
    simp only [C_slices_Clone_int, ble_t (show q.length ≤ 4294967296 by have := hq.2.1; omega), cond_true]
  rw [decide_eq_true hq]
  simp only [Bool.not_true, cond_false, c2, Option.bind_some, bne_self_eq_false]
  cases decide ((500 : Int) < n) with
  | true => rfl
  | false =>
  by_cases h16 : 16 < a2.length
  · rw [decide_eq_true (show (16 : Int) < (a2.length : Int) by omega)]; rfl
  rw [decide_eq_false (show ¬ (16 : Int) < (a2.length : Int) by omega)]
  simp only [cond_false]
  have hiw : wfIm ((0 : Int), q, ([] : List Kept), (0 : Int), (0 : Int), false) := ⟨fun k hk => (by cases hk), fun k hk => (by cases hk)⟩
  rcases format_ok hiw n with ⟨k, rfl, h3, h4, h5, h6, hS, hb, hlen, hF⟩ | ⟨hF, hno⟩
  case inr =>
    have hF : F_reopen_Format mx (n, (0 : Int), q, ([] : List Kept), (0 : Int), (0 : Int), false) = _ := hF
    rw [hF]
    have : (if 1 ≤ n ∧ n ≤ 4096 then (if n < 3 then (230 : Int) else if (writeS ((0 : Int), q, ([] : List Kept), (0 : Int), (0 : Int), false)).2 ≠ 0 then (writeS ((0 : Int), q, ([] : List Kept), (0 : Int), (0 : Int), false)).2 else 9) else 20) ≠ 0 := by
      split
      · split
        · decide
        · split
          · rename_i hh; exact hh
          · decide
      · decide
    simp only [Option.bind_some, bne_iff_ne.2 this, cond_true]
  have hF : F_reopen_Format mx ((k : Int), (0 : Int), q, ([] : List Kept), (0 : Int), (0 : Int), false) = _ := hF
  rw [hF]
  obtain ⟨r, hr, hQ⟩ := loop_ok hq a2 (by omega) hw hb hS
  dsimp only at hr
  simp only [Option.bind_some, bne_self_eq_false, cond_false, hr]
  rcases hQ with rfl | rfl <;> rfl
theorem pure (q : Int × (List Int) × (List (Int × (List (Int × Int × ((List Int) × (List Int) × Int × Int × Int) × (List Int) × Int × Int × Bool)) × Int))) (h : wfIns F_law23_ReopenDays.sig.pars q) : F_law23_ReopenDays mx q = some true := by
  obtain ⟨n, qs, a2⟩ := q
  have hb : ∀ {x : List Int}, Ty.wf .str x → bytesI x := fun hx y hy => ⟨(hx.1 y hy).1, by have := (hx.1 y hy).2; omega⟩
  refine main n h.2.1.1.2 a2 (fun a ha => ?_)
  have hc := (h.2.2.1.1.1 a ha).2.1
  refine ⟨hc.2, fun c hcm => ?_⟩
  have hx := hc.1 c hcm
  exact ⟨⟨wfu32 hx.2.2.1.2.2.1, (wfu64 hx.2.2.1.2.2.2.2).1, (wfu64 hx.2.2.1.2.2.2.2).2⟩, hb hx.2.2.1.1, hb hx.2.2.1.2.1, hb hx.2.2.2.1⟩
end Go.Proofs.Ytpfjjbpoikgocaa.reopenDays
