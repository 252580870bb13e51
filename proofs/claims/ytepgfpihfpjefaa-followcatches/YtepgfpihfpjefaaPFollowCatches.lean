/- The plain law of FollowCatches. -/
import Derived.Test.YtepgfpihfpjefaaKFo
namespace Go.Proofs.Ytepgfpihfpjefaa.followCatches
open Go.Abs
set_option maxRecDepth 100000
theorem alive_ok : F_law25_alive mx () = some true := by kernel_rfl
theorem great24 (s : Snd) (hl : s.2.2.2.length ≤ 1000000000000000000) : ∃ b, F_ref24_Great mx s = some b := by
  obtain ⟨e, n, a, l⟩ := s
  dsimp only at hl ⊢
  obtain ⟨r, hr, _⟩ := iter_inv (f := F_ref24_Great.l58 mx l) (fun s => ∃ k : Nat, s.2 = (k : Int) ∧ k ≤ l.length) (fun s => l.length - s.2.toNat) (fun _ => True) ((0 : Int), (0 : Int)) ⟨0, rfl, Nat.zero_le _⟩ (by
    simp only [Int.toNat_zero, Nat.sub_zero]; exact lt_N0 hl) (fun s ⟨k, e, hk⟩ => by
    obtain ⟨s, i⟩ := s
    dsimp only at e
    subst e
    by_cases h1 : k < l.length
    · by_cases h2 : (k : Int) < 200
      · left
        have h2' : decide ((k : Int) < 200) = true := by simpa using h2
        refine ⟨_, by simp only [F_ref24_Great.l58, F_ref24_Great.s232, ltd h1, h2', lez, Bool.and_self, cond_true, Option.bind_some]; rfl, ⟨k + 1, by dsimp only; rw [inc64 (by omega)], by omega⟩, by dsimp only; rw [inc64 (by omega)]; omega⟩
      · right
        have h2' : decide ((k : Int) < 200) = false := by simpa using h2
        exact ⟨s, by simp only [F_ref24_Great.l58, F_ref24_Great.s232, ltd h1, h2', cond_true, cond_false, Option.bind_some], trivial⟩
    · right
      have h1' : decide ((k : Int) < (l.length : Int)) = false := by simp; omega
      exact ⟨s, by simp only [F_ref24_Great.l58, F_ref24_Great.s232, h1', cond_false, Option.bind_some], trivial⟩)
  have hr : iter mx (F_ref24_Great.l58 mx l) ((0 : Int), (0 : Int)) = some r := hr
  simp only [F_ref24_Great, hr, Option.bind_some]
  cases decide ((100 : Int) < (l.length : Int)) <;> exact ⟨_, rfl⟩
theorem says_ok (e n : Int) : F_law25_says mx ([(2, e, n, [])], 2, e, n) = some true := by
  have c : ((([((2 : Int), e, n, ([] : List Int))] : List Msg).length : Int) == 1) = true := rfl
  have c2 : decide ((0 : Int) < (([((2 : Int), e, n, ([] : List Int))] : List Msg).length : Int)) = true := rfl
  simp only [F_law25_says, c, c2, cond_true, List.getD_cons_zero, F_ref24_SameMessage, beq_self_eq_true, Option.bind_some]
abbrev TSnd : List Ty := [.int .i64, .int .i64, .int .i64, .sl (.sl (.int .u8))]
/-- The rounds. -/
theorem rounds {s : Snd} {v : Img} {f : Fol} (l : List Msg) (y : Int × Int × Int × List (List Int)) (hl32 : l.length ≤ 1000) (hf : okF f)
    (hl : (f.1 = s.1 ∧ s.2.1 = f.2.1 + (l.length : Int) ∧ ∀ i, i < l.length → ∃ b, l.getD i M0 = (1, s.1, f.2.1 + 1 + (i : Int), b) ∧ isCh b ∧ bytesI b) ∨
      (∃ b, l = [(4, s.1, s.2.1, b)] ∧ writeS v = (b, 0) ∧ wfIm v ∧ bytesI b ∧ f.1 ≤ s.1 ∧ (f.1 = s.1 → f.2.1 ≤ s.2.1))) (hs1 : inN s.1) (hs2 : inN s.2.1) :
    ∃ r, iter mx (F_law25_FollowCatches.l2042 mx true (y.1, y.2.1, y.2.2.1, y.2.2.2, l, 0)) ((0 : Int), f) = some r ∧ (r = .inl true ∨ ∃ g : Fol, r = .inr g ∧ g.1 = s.1 ∧ g.2.1 = s.2.1) := by
  have hear : ∀ (g : Fol) (m : Msg), okF g → 0 ≤ m.1 ∧ m.1 ≤ 255 → bytesI m.2.2.2 → ∃ r, F_follow_Hear mx (g.1, g.2.1, g.2.2.1, g.2.2.2.1, g.2.2.2.2.1, g.2.2.2.2.2.1, g.2.2.2.2.2.2.1, g.2.2.2.2.2.2.2, m) = some r ∧ Heard g m r := fun g m hg hk hb => fhear_ok (fun k hk => okI_len hg.2.2.1 k hk) hk hb
  -- one round
  have step : ∀ (i : Nat) (g : Fol) (m : Msg) (r : FR), i < l.length → l.getD i M0 = m → F_follow_Hear mx (g.1, g.2.1, g.2.2.1, g.2.2.2.1, g.2.2.2.2.1, g.2.2.2.2.2.1, g.2.2.2.2.2.2.1, g.2.2.2.2.2.2.2, m) = some r → r.2.2.2.2.2.2.2.2.2.2 = 0 →
      F_law25_FollowCatches.l2042 mx true (y.1, y.2.1, y.2.2.1, y.2.2.2, l, 0) ((i : Int), g) = (bif r.2.2.2.2.2.2.2.2.1 == 0 then (bif m.1 == 1 then some (.fin (.inl true)) else (F_law25_says mx (r.2.2.2.2.2.2.2.2.2.1, 2, g.1, g.2.1)).bind fun x => some (.fin (.inl x)))
        else (F_law25_says mx (r.2.2.2.2.2.2.2.2.2.1, 2, r.1, r.2.1)).bind fun x => bif !x then some (.fin (.inl false)) else some (.next (((i + 1 : Nat) : Int), r.1, r.2.1, r.2.2.1, r.2.2.2.1, r.2.2.2.2.1, r.2.2.2.2.2.1, r.2.2.2.2.2.2.1, r.2.2.2.2.2.2.2.1))) := fun i g m r hi hm hr he => by
    have hm : l.getD i (0, 0, 0, []) = m := hm
    simp only [F_law25_FollowCatches.l2042, ltd hi, cond_true, lez, Bool.and_self, Int.toNat_natCast, blt_t hi, hm, hr, Option.bind_some, he, bne_self_eq_false, cond_false]
    rw [inc64 (by omega)]
  rcases hl with ⟨h1, h2, h3⟩ | ⟨b, rfl, hv, hwi, hb, h4, h5⟩
  · refine iter_inv (f := F_law25_FollowCatches.l2042 mx true (y.1, y.2.1, y.2.2.1, y.2.2.2, l, 0)) (fun st => ∃ (i : Nat) (g : Fol), st = ((i : Int), g) ∧ i ≤ l.length ∧ okF g ∧ g.1 = s.1 ∧ g.2.1 = f.2.1 + (i : Int)) (fun st => l.length - st.1.toNat)
      (fun r => r = .inl true ∨ ∃ g : Fol, r = .inr g ∧ g.1 = s.1 ∧ g.2.1 = s.2.1) _ ⟨0, f, rfl, Nat.zero_le _, hf, h1, by simp⟩ (lt_N0 (by dsimp only; omega)) (fun st ⟨i, g, es, hi, hg, hge, hgn⟩ => ?_)
    subst es
    by_cases hil : i < l.length
    case neg =>
      have : i = l.length := by omega
      subst this
      exact .inr ⟨.inr g, by simp only [F_law25_FollowCatches.l2042, nltd, cond_false], .inr ⟨g, rfl, hge, by omega⟩⟩
    obtain ⟨b, hm, hch, hb⟩ := h3 i hil
    obtain ⟨r, hr, hH⟩ := hear g (1, s.1, f.2.1 + 1 + (i : Int), b) hg ⟨(by decide : (0 : Int) ≤ 1), (by decide : (1 : Int) ≤ 255)⟩ hb
    have hmay : mayM (1, s.1, f.2.1 + 1 + (i : Int), b) := ⟨hs1, ⟨by have := hf.2.1.1; dsimp only; omega, by have := hs2.2; dsimp only; omega⟩, .inl ⟨rfl, by have := hf.2.1.1; dsimp only; omega, hch⟩⟩
    cases hH with
    | bad h => exact absurd ⟨hg, hmay⟩ h
    | elder h he => exfalso; have he : s.1 < g.1 := he; omega
    | other h he hk => exact absurd rfl hk.1
    | had h he hk hn => exfalso; have hn : f.2.1 + 1 + (i : Int) ≤ g.2.1 := hn; omega
    | image h he hk hn v hv hw => exfalso; have hk : (1 : Int) = 4 := hk; omega
    | gap h he hk hn =>
      exfalso
      have hn : s.1 ≠ g.1 ∨ g.2.1 + 1 < f.2.1 + 1 + (i : Int) := hn
      omega
    | next h he hk hn cs w hc hp hw =>
      have hho := heard_ok (Heard.next h he hk hn cs w hc hp hw)
      rw [step i g _ _ hil hm hr rfl]
      have e1 : (frOf (g.1, f.2.1 + 1 + (i : Int), (w.1, w.2.1, w.2.2.1, w.2.2.2.1, f.2.1 + 1 + (i : Int), w.2.2.2.2.2)) 1 [(2, g.1, f.2.1 + 1 + (i : Int), [])]).2.2.2.2.2.2.2.2.1 = 1 := rfl
      have e2 : (frOf (g.1, f.2.1 + 1 + (i : Int), (w.1, w.2.1, w.2.2.1, w.2.2.2.1, f.2.1 + 1 + (i : Int), w.2.2.2.2.2)) 1 [(2, g.1, f.2.1 + 1 + (i : Int), [])]).2.2.2.2.2.2.2.2.2.1 = [(2, g.1, f.2.1 + 1 + (i : Int), [])] := rfl
      refine .inl ⟨(((i + 1 : Nat) : Int), g.1, f.2.1 + 1 + (i : Int), w.1, w.2.1, w.2.2.1, w.2.2.2.1, f.2.1 + 1 + (i : Int), w.2.2.2.2.2), ?_, ⟨i + 1, (g.1, f.2.1 + 1 + (i : Int), w.1, w.2.1, w.2.2.1, w.2.2.2.1, f.2.1 + 1 + (i : Int), w.2.2.2.2.2), rfl, hil, ?_, hge, by dsimp only; omega⟩, by dsimp only; omega⟩
      · show (bif (1 : Int) == 0 then _ else (F_law25_says mx ([(2, g.1, f.2.1 + 1 + (i : Int), [])], 2, g.1, f.2.1 + 1 + (i : Int))).bind _) = _
        rw [says_ok]; rfl
      · rcases hho with ⟨e, he, _⟩ | ⟨g', what, l', he, hg', _⟩
        · have := congrArg (fun z : FR => z.2.2.2.2.2.2.2.2.1) he
          have this : (1 : Int) = 0 := this
          omega
        · have : (g.1, f.2.1 + 1 + (i : Int), w.1, w.2.1, w.2.2.1, w.2.2.2.1, f.2.1 + 1 + (i : Int), w.2.2.2.2.2) = g' := by
            obtain ⟨g1, g2, t, q, ll, ee, nn, bb⟩ := g'
            simp only [frOf, Prod.mk.injEq] at he
            simp only [Prod.mk.injEq]
            exact ⟨he.1, he.2.1, he.2.2.1, he.2.2.2.1, he.2.2.2.2.1, he.2.2.2.2.2.1, he.2.2.2.2.2.2.1, he.2.2.2.2.2.2.2.1⟩
          rw [this]; exact hg'
    | not h he hk hn hno =>
      rw [step i g _ _ hil hm hr rfl]
      exact .inr ⟨.inl true, rfl, .inl rfl⟩
  · obtain ⟨r, hr, hH⟩ := hear f (4, s.1, s.2.1, b) hf ⟨(by decide : (0 : Int) ≤ 4), (by decide : (4 : Int) ≤ 255)⟩ hb
    have hmay : mayM (4, s.1, s.2.1, b) := ⟨hs1, hs2, .inr (.inr (.inr ⟨rfl, v, hv, hwi⟩))⟩
    obtain ⟨N, hN⟩ : ∃ N, N0 = N + 2 := ⟨N0 - 2, by unfold N0; omega⟩
    have hm0 : ([((4 : Int), s.1, s.2.1, b)] : List Msg).getD 0 M0 = (4, s.1, s.2.1, b) := rfl
    have hfin : ∀ g : Fol, F_law25_FollowCatches.l2042 mx true (y.1, y.2.1, y.2.2.1, y.2.2.2, [((4 : Int), s.1, s.2.1, b)], 0) (((0 + 1 : Nat) : Int), g) = some (.fin (.inr g)) := fun g => rfl
    cases hH with
    | bad h => exact absurd ⟨hf, hmay⟩ h
    | elder h he => exfalso; have he : s.1 < f.1 := he; omega
    | other h he hk => exact absurd rfl hk.2
    | had h he hk hn =>
      have hst := step 0 f _ _ (by simp) hm0 hr rfl
      have hst : F_law25_FollowCatches.l2042 mx true (y.1, y.2.1, y.2.2.1, y.2.2.2, [((4 : Int), s.1, s.2.1, b)], 0) ((0 : Int), f) = some (.fin (.inl true)) := by
        refine hst.trans ?_
        show (bif (0 : Int) == 0 then (bif (4 : Int) == 1 then _ else (F_law25_says mx ([(2, f.1, f.2.1, [])], 2, f.1, f.2.1)).bind _) else _) = _
        rw [says_ok]; rfl
      refine ⟨.inl true, ?_, .inl rfl⟩
      show iterN _ N0 _ = _
      rw [hN]
      exact iterN_fin hst
    | image h he hk hn v' hv' hw' =>
      have hst := step 0 f _ _ (by simp) hm0 hr rfl
      have hst : F_law25_FollowCatches.l2042 mx true (y.1, y.2.1, y.2.2.1, y.2.2.2, [((4 : Int), s.1, s.2.1, b)], 0) ((0 : Int), f) = some (.next (((0 + 1 : Nat) : Int), s.1, s.2.1, withEN v' s.1 s.2.1)) := by
        refine hst.trans ?_
        show (bif (2 : Int) == 0 then _ else (F_law25_says mx ([(2, s.1, s.2.1, [])], 2, s.1, s.2.1)).bind _) = _
        rw [says_ok]; rfl
      refine ⟨.inr (s.1, s.2.1, withEN v' s.1 s.2.1), ?_, .inr ⟨_, rfl, rfl, rfl⟩⟩
      show iterN _ N0 _ = _
      rw [hN, iterN_next hst]
      exact iterN_fin (hfin _)
    | gap h he hk hn => exfalso; have hk : (4 : Int) = 1 := hk; omega
    | next h he hk hn cs w hc hp hw => exfalso; have hk : (4 : Int) = 1 := hk; omega
    | not h he hk hn hno => exfalso; have hk : (4 : Int) = 1 := hk; omega
theorem ask_ok {f : Fol} (hb : ∀ k ∈ f.2.2.2.2.1, k.2.1.length ≤ 140737488351232 ∧ k.2.2.1.length ≤ 140737488351232) : F_follow_Ask mx f = some (if okF f then (3, f.1, f.2.1, [], 0) else (0, 0, 0, [], 8)) := by
  have h := fcheck_ok hb
  obtain ⟨e, n, t, q, l, ie, inn, ib⟩ := f
  simp only [F_follow_Ask, h, Option.bind_some]
  by_cases h1 : okF (e, n, t, q, l, ie, inn, ib)
  · rw [if_pos h1, if_pos h1]; rfl
  · rw [if_neg h1, if_neg h1]; rfl
theorem s30_ok (s : Snd) (v : Img) (f : Fol) (h1 : s.2.2.2.length ≤ 1000000000000000000) (h2 : v.2.2.1.length ≤ 1000000000000000000) (h3 : f.2.2.2.2.1.length ≤ 1000000000000000000) :
    F_law25_FollowCatches.s30 mx s.1 s.2.1 s.2.2.1 s.2.2.2 v.1 v.2.1 v.2.2.1 v.2.2.2.1 v.2.2.2.2.1 v.2.2.2.2.2 f.1 f.2.1 f.2.2.1 f.2.2.2.1 f.2.2.2.2.1 f.2.2.2.2.2.1 f.2.2.2.2.2.2.1 f.2.2.2.2.2.2.2 true = some (.inl true) ∨
    (F_law25_FollowCatches.s30 mx s.1 s.2.1 s.2.2.1 s.2.2.2 v.1 v.2.1 v.2.2.1 v.2.2.2.1 v.2.2.2.2.1 v.2.2.2.2.2 f.1 f.2.1 f.2.2.1 f.2.2.2.1 f.2.2.2.2.1 f.2.2.2.2.2.1 f.2.2.2.2.2.2.1 f.2.2.2.2.2.2.2 true = some (.inr ()) ∧ f.1 ≤ s.1 ∧ (f.1 = s.1 → f.2.1 ≤ s.2.1)) := by
  obtain ⟨b1, e1⟩ := great24 s h1
  obtain ⟨b2, e2, _⟩ := great_some v h2
  obtain ⟨b3, e3, _⟩ := great_some f.2.2 h3
  have e1 : F_ref24_Great mx (s.1, s.2.1, s.2.2.1, s.2.2.2) = some b1 := e1
  have e2 : F_ref21_Great mx (v.1, v.2.1, v.2.2.1, v.2.2.2.1, v.2.2.2.2.1, v.2.2.2.2.2) = some b2 := e2
  have e3 : F_ref21_Great mx (f.2.2.1, f.2.2.2.1, f.2.2.2.2.1, f.2.2.2.2.2.1, f.2.2.2.2.2.2.1, f.2.2.2.2.2.2.2) = some b3 := e3
  simp only [F_law25_FollowCatches.s30, e1, e2, e3, Option.bind_some, ieq]
  cases b1 with
  | true => exact .inl rfl
  | false =>
  cases b2 with
  | true => exact .inl rfl
  | false =>
  cases b3 with
  | true => exact .inl rfl
  | false =>
  simp only [cond_false]
  by_cases g1 : s.1 < f.1
  · rw [decide_eq_true g1]; exact .inl rfl
  rw [decide_eq_false g1]
  by_cases g2 : f.1 = s.1
  · rw [decide_eq_true g2]
    by_cases g3 : s.2.1 < f.2.1
    · rw [decide_eq_true g3]; exact .inl rfl
    · rw [decide_eq_false g3]; exact .inr ⟨rfl, by omega, fun _ => by omega⟩
  · rw [decide_eq_false g2]; exact .inr ⟨rfl, by omega, fun h => absurd h g2⟩
theorem main {s : Snd} (hs : wfS s) {v : Img} (hvl : v.2.2.1.length ≤ 140737488351232) (hv : wfIm v) {f : Fol} (hfl : f.2.2.2.2.1.length ≤ 140737488351232) (hf : wfF f) :
    F_law25_FollowCatches mx (s.1, s.2.1, s.2.2.1, s.2.2.2, v.1, v.2.1, v.2.2.1, v.2.2.2.1, v.2.2.2.2.1, v.2.2.2.2.2, f) = some true := by
  have h30 := s30_ok s v f (by have := hs.1; omega) (by omega) (by omega)
  have hask := ask_ok hf
  have hh3 := hear_ok (m := (3, f.1, f.2.1, [])) hs (fun k hk => (hv.1 k hk).1) hv.2 ⟨(by decide : (0 : Int) ≤ 3), (by decide : (3 : Int) ≤ 255)⟩ (fun x hx => by cases hx)
  have hh0 := hear_ok (m := (0, 0, 0, [])) hs (fun k hk => (hv.1 k hk).1) hv.2 ⟨(by decide : (0 : Int) ≤ 0), (by decide : (0 : Int) ≤ 255)⟩ (fun x hx => by cases hx)
  have hrounds := fun l y h1 h2 h3 h4 h5 => rounds (s := s) (v := v) (f := f) l y h1 h2 h3 h4 h5
  obtain ⟨fe, fn, fv⟩ := f
  rcases h30 with h30 | ⟨h30, g1, g2⟩
  · simp only [F_law25_FollowCatches, alive_ok, Option.bind_some, Bool.not_true, cond_false]
    rw [h30]; rfl
  have hask : F_follow_Ask mx (fe, fn, fv.1, fv.2.1, fv.2.2.1, fv.2.2.2.1, fv.2.2.2.2.1, fv.2.2.2.2.2) = _ := hask
  simp only [F_law25_FollowCatches, alive_ok, Option.bind_some, Bool.not_true, cond_false]
  rw [h30]
  simp only [Option.bind_some, hask]
  by_cases h1 : okF (fe, fn, fv)
  case neg =>
    rw [if_neg h1]
    rcases hh0 with ⟨_, _, _, hh⟩ | ⟨_, hh⟩
    · rw [hh]; rfl
    · rw [hh]; rfl
  rw [if_pos h1]
  dsimp only at hh3
  rcases hh3 with ⟨h2, h3, h4, hh⟩ | ⟨_, hh⟩
  case inr => rw [hh]; rfl
  rw [hh]
  obtain ⟨n1, n2, ⟨n3, n4⟩, ⟨n5, n6⟩, n7⟩ := id h2
  have hE : hearS s v (3, fe, fn, []) = if fe = s.1 ∧ fn ≤ s.2.1 ∧ s.2.1 - (s.2.2.2.length : Int) ≤ fn then (s.1, s.2.1, s.2.2.1, s.2.2.2, behindL s fn, 0)
      else if (writeS v).2 = 0 then (s.1, s.2.1, s.2.2.1, s.2.2.2, [(4, s.1, s.2.1, (writeS v).1)], 0) else (0, 0, 0, [], [], (writeS v).2) := by
    unfold hearS; rw [if_neg (show ¬ (3 : Int) = 2 by decide), if_pos rfl]
  rw [hE]
  have fin : ∀ l : List Msg, (∃ r, iter mx (F_law25_FollowCatches.l2042 mx true (s.1, s.2.1, s.2.2.1, s.2.2.2, l, 0)) ((0 : Int), fe, fn, fv) = some r ∧ (r = .inl true ∨ ∃ g : Fol, r = .inr g ∧ g.1 = s.1 ∧ g.2.1 = s.2.1)) →
      ((iter mx (F_law25_FollowCatches.l2042 mx true (s.1, s.2.1, s.2.2.1, s.2.2.2, l, 0)) ((0 : Int), fe, fn, fv)).bind fun x29 => match x29 with | .inl x30 => some x30 | .inr x31 => bif true then (bif x31.1 == s.1 then some (x31.2.1 == s.2.1) else some false) else some false) = some true := fun l ⟨r, hr, hQ⟩ => by
    rw [hr]
    rcases hQ with rfl | ⟨g, rfl, q1, q2⟩
    · rfl
    · simp only [Option.bind_some, cond_true, q1, q2, beq_self_eq_true]
  by_cases g : fe = s.1 ∧ fn ≤ s.2.1 ∧ s.2.1 - (s.2.2.2.length : Int) ≤ fn
  · rw [if_pos g]
    have hlow : lowN s fn = fn := by unfold lowN mxI; split <;> omega
    have hbl : (behindL s fn).length = (s.2.1 - fn).toNat := by unfold behindL; rw [List.length_map, List.length_range, hlow]
    refine fin _ (hrounds (behindL s fn) s (by omega) h1 (.inl ⟨g.1, by dsimp only; omega, fun i hi => ?_⟩) n1 n2)
    have hg : (behindL s fn).getD i M0 = msgN s (fn + 1 + (i : Int)) := by
      rw [getD_some hi]; unfold behindL; simp [hlow]
    have hj : (((s.2.2.2.length : Int) - 1) - (s.2.1 - (fn + 1 + (i : Int)))).toNat < s.2.2.2.length := by omega
    exact ⟨_, hg, n7 _ (getD_lt hj), (hs.2 _ (getD_lt hj)).1⟩
  · rw [if_neg g]
    by_cases g3 : (writeS v).2 = 0
    · rw [if_pos g3]
      have hw : writeS v = ((writeS v).1, 0) := Prod.ext rfl g3
      exact fin _ (hrounds [(4, s.1, s.2.1, (writeS v).1)] s (by simp) h1 (.inr ⟨_, rfl, hw, hv, wr_bytes hw hv, g1, g2⟩) n1 n2)
    · rw [if_neg g3]
      simp only [Option.bind_some, bne_self_eq_false, cond_false, bne_iff_ne.2 g3, cond_true]
theorem pure (q : Int × Int × Int × (List (List Int)) × Int × (List Int) × (List (Int × (List Int) × (List Int) × Int × Int × Int)) × Int × Int × Bool × Int × Int × Int × (List Int) × (List (Int × (List Int) × (List Int) × Int × Int × Int)) × Int × Int × Bool) (h : wfIns F_law25_FollowCatches.sig.pars q) : F_law25_FollowCatches mx q = some true := by
  obtain ⟨e, n, a, rs, t, qs, l, ie, inn, ib, f⟩ := q
  have hb : ∀ {x : List Int}, Ty.wf .str x → bytesI x := fun hx y hy => ⟨(hx.1 y hy).1, by have := (hx.1 y hy).2; omega⟩
  refine main (s := (e, n, a, rs)) (v := (t, qs, l, ie, inn, ib)) (f := f) ⟨h.1.2.2.2.1.2, fun r hr => ⟨fun x hx => wfu8 ((h.1.2.2.2.1.1 r hr).1 x hx), (h.1.2.2.2.1.1 r hr).2⟩⟩ h.2.1.2.2.1.2
    ⟨fun k hk => ?_, fun k hk => ?_⟩ h.2.2.1.2.2.2.2.1.2 (fun k hk => ?_)
  · have := h.2.1.2.2.1.1 k hk
    exact ⟨⟨this.2.1.2, this.2.2.1.2⟩, hb this.2.1, hb this.2.2.1⟩
  · have := h.2.1.2.2.1.1 k hk
    exact ⟨wfu32 this.2.2.2.1, wfu64 this.2.2.2.2.2⟩
  · have := h.2.2.1.2.2.2.2.1.1 k hk
    exact ⟨this.2.1.2, this.2.2.1.2⟩
end Go.Proofs.Ytepgfpihfpjefaa.followCatches
