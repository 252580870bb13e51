/- The walk through the changes. -/
import Derived.Test.YtepgfpihfpjefaaGreatKIc
namespace Go.Proofs.YtepgfpihfpjefaaGreat
open Go.Abs
set_option maxRecDepth 100000

theorem inv_bd {l : List Kept} {g : List Bool} {m : Mp} {c : Int} (h : Inv l g m c) : 0 ≤ c ∧ c ≤ (l.length : Int) := by
  have := alive_len (l := l) (g := g)
  rw [h.cnt]; omega
theorem drop_ok {l : List Kept} {g : List Bool} {m : Mp} {c : Int} (h : Inv l g m c) (hl : l.length ≤ 1000000) (x : Nm) {α : Type} (K : List Bool × Mp × Int → α) :
    (bif (mget KQ m x).isSome then (bif decide ((0 : Int) ≤ ((mget KQ m x).getD 0)) && decide (((mget KQ m x).getD 0) < (g.length : Int)) then
      (bif Nat.blt ((mget KQ m x).getD 0).toNat g.length then some (K (g.set ((mget KQ m x).getD 0).toNat true, mdel KQ m x, IntKind.i64.wrap (c - 1))) else none) else none) else some (K (g, m, c))) = some (K (dropS (g, m, c) x)) := by
  have hb := inv_bd h
  unfold dropS
  cases hm : mget KQ m x with
  | none => rfl
  | some i =>
    obtain ⟨j0, rfl, h1, h2, h3⟩ := (h.get x i).1 hm
    have hlt : j0 < g.length := by rw [h.len]; exact h1
    simp only [Option.isSome_some, cond_true, Option.getD_some, lez, ltd hlt, Bool.and_self, Int.toNat_natCast, blt_t hlt]
    rw [w64 (by omega) (by omega)]

theorem sweep27 {l : List Kept} {g : List Bool} {m : Mp} {c : Int} (h : Inv l g m c) (hl : l.length ≤ 1000000) (i0 : Int) (t0 : Int) (q0 : List Int) (x0 : Int × Int × Bool × List Bool × Mp × Int) (t : Int) (q : List Int) (e n : Int) (b : Bool)
    (kd tn : Int) (k v : List Int) (f d cs : Int) (bb : List Int) (how nn : Int) (yes : Bool) :
    iter mx (F_image_Apply.i27l6 mx (i0, t0, q0, l, x0) (l.length : Int)) ((0 : Int), t, q, e, n, b, g, m, c, kd, tn, k, v, f, d, cs, bb, how, nn, yes) =
      some (t, q, l, e, n, b, sweep (fun k => dueB k.2 nn) l (g, m, c) l.length) := by
  refine iter_count (f := F_image_Apply.i27l6 mx (i0, t0, q0, l, x0) (l.length : Int)) (fun i => ((i : Int), t, q, e, n, b, (sweep (fun k => dueB k.2 nn) l (g, m, c) i).1, (sweep (fun k => dueB k.2 nn) l (g, m, c) i).2.1, (sweep (fun k => dueB k.2 nn) l (g, m, c) i).2.2, kd, tn, k, v, f, d, cs, bb, how, nn, yes)) l.length (lt_N0 (by omega)) (fun i hi => ?_)
    (by simp only [F_image_Apply.i27l6, F_image_Apply.i27s50, nltd, cond_false, Option.bind_some])
  obtain ⟨h1, h2⟩ := sweep_inv (fun k => dueB k.2 nn) h i (by omega)
  rw [sweep]
  generalize sweep (fun k => dueB k.2 nn) l (g, m, c) i = s at h1 h2 ⊢
  obtain ⟨g', m', c'⟩ := s
  have hlg : i < g'.length := by rw [h1.len]; exact hi
  simp only [F_image_Apply.i27l6, F_image_Apply.i27s50, ltd hi, cond_true, Option.bind_some, lez, Bool.and_self, Int.toNat_natCast, blt_t hi, F_image_Apply.i27s818, ltd hlg, blt_t hlg, F_image_state_do_c1, due_ok]
  rw [inc64 (by omega)]
  cases hg : g'.getD i false with
  | true =>
    rw [if_neg (fun hh => by cases hh.1)]; rfl
  | false =>
    simp only [Bool.not_false, cond_true, Option.bind_some, true_and]
    cases hp : dueB (l.getD i K0).2 nn with
    | false => rw [if_neg (by decide)]; rfl
    | true =>
      rw [if_pos rfl]
      have := drop_ok h1 hl (nm (l.getD i K0)) (fun s : List Bool × Mp × Int => (t, q, e, n, b, s))
      have e30 : F_image_Apply.i30s1 mx ((i : Int), t, q, e, n, b, g', m', c', kd, tn, k, v, f, d, cs, bb, how, nn, yes) (l.getD i K0) = some (t, q, e, n, b, dropS (g', m', c') (nm (l.getD i K0))) := by
        simp only [F_image_Apply.i30s1]; exact this
      simp only [cond_true]
      refine (congrArg (fun z => Option.bind z _) e30).trans ?_
      rfl
theorem sweep34 {l : List Kept} {g : List Bool} {m : Mp} {c : Int} (h : Inv l g m c) (hl : l.length ≤ 1000000) (i0 : Int) (t0 : Int) (q0 : List Int) (x0 : Int × Int × Bool × List Bool × Mp × Int) (t : Int) (q : List Int) (e n : Int) (b : Bool)
    (kd tn : Int) (k v : List Int) (f d cs : Int) (bb : List Int) (how nn : Int) (yes : Bool) :
    iter mx (F_image_Apply.i34l6 mx (i0, t0, q0, l, x0) (l.length : Int)) ((0 : Int), t, q, e, n, b, g, m, c, kd, tn, k, v, f, d, cs, bb, how, nn, yes) =
      some (t, q, l, e, n, b, sweep (fun k => decide (k.1 = tn)) l (g, m, c) l.length) := by
  refine iter_count (f := F_image_Apply.i34l6 mx (i0, t0, q0, l, x0) (l.length : Int)) (fun i => ((i : Int), t, q, e, n, b, (sweep (fun k => decide (k.1 = tn)) l (g, m, c) i).1, (sweep (fun k => decide (k.1 = tn)) l (g, m, c) i).2.1, (sweep (fun k => decide (k.1 = tn)) l (g, m, c) i).2.2, kd, tn, k, v, f, d, cs, bb, how, nn, yes)) l.length (lt_N0 (by omega)) (fun i hi => ?_)
    (by simp only [F_image_Apply.i34l6, F_image_Apply.i34s50, nltd, cond_false, Option.bind_some])
  obtain ⟨h1, h2⟩ := sweep_inv (fun k => decide (k.1 = tn)) h i (by omega)
  rw [sweep]
  generalize sweep (fun k => decide (k.1 = tn)) l (g, m, c) i = s at h1 h2 ⊢
  obtain ⟨g', m', c'⟩ := s
  have hlg : i < g'.length := by rw [h1.len]; exact hi
  simp only [F_image_Apply.i34l6, F_image_Apply.i34s50, ltd hi, cond_true, Option.bind_some, lez, Bool.and_self, Int.toNat_natCast, blt_t hi, F_image_Apply.i34s818, ltd hlg, blt_t hlg, F_image_state_do_c2, ieq]
  rw [inc64 (by omega)]
  cases hg : g'.getD i false with
  | true =>
    rw [if_neg (fun hh => by cases hh.1)]; rfl
  | false =>
    simp only [Bool.not_false, cond_true, Option.bind_some, true_and]
    cases hp : decide ((l.getD i K0).1 = tn) with
    | false => rw [if_neg (by decide)]; rfl
    | true =>
      rw [if_pos rfl]
      have := drop_ok h1 hl (nm (l.getD i K0)) (fun s : List Bool × Mp × Int => (t, q, e, n, b, s))
      have e30 : F_image_Apply.i37s1 mx ((i : Int), t, q, e, n, b, g', m', c', kd, tn, k, v, f, d, cs, bb, how, nn, yes) (l.getD i K0) = some (t, q, e, n, b, dropS (g', m', c') (nm (l.getD i K0))) := by
        simp only [F_image_Apply.i37s1]; exact this
      simp only [cond_true]
      refine (congrArg (fun z => Option.bind z _) e30).trans ?_
      rfl

/-- One change. -/
def OneRes (s s' : Cor) (code : Int) : Int ⊕ Img → Prop
  | .inl e => code = e ∧ e ≠ 0
  | .inr w => code = 0 ∧ imgOf s' = w ∧ InvC s' ∧ s.2.2.1.length ≤ s'.2.2.1.length ∧ s'.2.2.1.length ≤ s.2.2.1.length + 1
theorem one_ok {s : Cor} (h : InvC s) (hl : s.2.2.1.length ≤ 100000) {c : Chg} (hc : chOk c) (i : Int) :
    ∃ code s', F_image_Apply.i26s1 mx (i, s) c = some (code, s') ∧ OneRes s s' code (oneS (imgOf s) c) := by
  obtain ⟨t, q, l, e, n, b, g, m, cn⟩ := s
  have h : Inv l g m cn := h
  dsimp only at hl
  have hbd := inv_bd h
  obtain ⟨kd, tn, ⟨k, v, f, d, cs⟩, bb, how, nn, yes⟩ := c
  obtain ⟨⟨t1, t2⟩, hc⟩ := hc
  dsimp only at t1 t2 hc
  rcases hc with h0 | h0 | h0 | h0 | h0 | h0 | h0
  · obtain ⟨rfl, ⟨⟨h1, h2⟩, h3, h4, h5⟩, _⟩ := h0
    have e6 : F_image_Apply.i26s6 mx (i, t, q, l, e, n, b, g, m, cn) (1, tn, (k, v, f, d, cs), bb, how, nn, yes) = some (.inr ()) := rfl
    by_cases g1 : (q.length : Int) ≤ tn
    · refine ⟨2, (t, q, l, e, n, b, g, m, cn), ?_, ?_⟩
      · simp only [F_image_Apply.i26s1, e6, Option.bind_some, F_image_Apply.i26s14, decide_eq_true g1, cond_true]
      · dsimp only [oneS, imgOf]; rw [if_pos ⟨by decide, by decide, by decide, g1⟩]; exact ⟨rfl, by decide⟩
    have es : oneS (imgOf (t, q, l, e, n, b, g, m, cn)) (1, tn, (k, v, f, d, cs), bb, how, nn, yes) = (if 256 < 8 + k.length + v.length then .inl 2
        else if dueB (k, v, f, d, cs) t = true then .inr (t, q, leftL (1, tn, (k, v, f, d, cs), bb, how, nn, yes) (alive l g), e, n, b)
        else if (leftL (1, tn, (k, v, f, d, cs), bb, how, nn, yes) (alive l g)).length = 1024 then .inl 9
        else .inr (t, q, leftL (1, tn, (k, v, f, d, cs), bb, how, nn, yes) (alive l g) ++ [(tn, (k, v, f, d, cs))], e, n, b)) := by
      dsimp only [oneS, imgOf]; rw [if_neg (fun hh => g1 hh.2.2.2), if_pos rfl]
    rw [es]
    have e1 : F_image_Apply.i26s1 mx (i, t, q, l, e, n, b, g, m, cn) (1, tn, (k, v, f, d, cs), bb, how, nn, yes) = F_image_Apply.i31s1 mx (i, t, q, l, e, n, b, g, m, cn) (1, tn, (k, v, f, d, cs), bb, how, nn, yes) := by
      simp only [F_image_Apply.i26s1, e6, Option.bind_some, F_image_Apply.i26s14, decide_eq_false g1, cond_false, beq_self_eq_true, cond_true]
      cases F_image_Apply.i31s1 mx (i, t, q, l, e, n, b, g, m, cn) (1, tn, (k, v, f, d, cs), bb, how, nn, yes) <;> rfl
    rw [e1]
    have hsz := size_ok (k, v, f, d, cs) (show k.length ≤ 140737488351232 by omega) (show v.length ≤ 140737488351232 by omega)
    dsimp only at hsz
    have e31 : F_image_Apply.i31s6 mx (1, tn, (k, v, f, d, cs), bb, how, nn, yes) = some (bif decide (256 < 8 + k.length + v.length) then .inl 2 else .inr ()) := by
      simp only [F_image_Apply.i31s6, hsz, Option.bind_some]
      by_cases g2 : 256 < 8 + k.length + v.length
      · rw [decide_eq_true g2, decide_eq_true (show (256 : Int) < ((8 + k.length + v.length : Nat) : Int) by omega)]; rfl
      · rw [decide_eq_false g2, decide_eq_false (show ¬ (256 : Int) < ((8 + k.length + v.length : Nat) : Int) by omega)]; rfl
    by_cases g2 : 256 < 8 + k.length + v.length
    · refine ⟨2, (t, q, l, e, n, b, g, m, cn), ?_, ?_⟩
      · simp only [F_image_Apply.i31s1, e31, decide_eq_true g2, cond_true, Option.bind_some]
      · rw [if_pos g2]; exact ⟨rfl, by decide⟩
    rw [if_neg g2]
    -- the drop
    have hdrop := drop_ok h (show l.length ≤ 1000000 by omega) (tn, k) (fun s : List Bool × Mp × Int => (t, q, l, e, n, b, s))
    obtain ⟨d1, d2, d3⟩ := drop_inv h (tn, k)
    have da : alive l (dropS (g, m, cn) (tn, k)).1 = leftL (1, tn, (k, v, f, d, cs), bb, how, nn, yes) (alive l g) := drop_alive h (tn, k)
    rw [← da]
    generalize dropS (g, m, cn) (tn, k) = r at hdrop d1 d2 d3
    obtain ⟨g', m', c'⟩ := r
    dsimp only at d1 d2 d3 ⊢
    have hbd' := inv_bd d1
    have e32 : F_image_Apply.i32s1 mx (i, t, q, l, e, n, b, g, m, cn) (1, tn, (k, v, f, d, cs), bb, how, nn, yes) = some (t, q, l, e, n, b, g', m', c') := by
      simp only [F_image_Apply.i32s1]; exact hdrop
    have hdue := due_ok (k, v, f, d, cs) t
    dsimp only at hdue
    have e62 : F_image_Apply.i31s62 mx (1, tn, (k, v, f, d, cs), bb, how, nn, yes) (t, q, l, e, n, b, g', m', c') = some (bif dueB (k, v, f, d, cs) t then .inl 0 else .inr ()) := by
      simp only [F_image_Apply.i31s62, hdue, Option.bind_some]
      cases dueB (k, v, f, d, cs) t <;> rfl
    cases g3 : dueB (k, v, f, d, cs) t with
    | true =>
      refine ⟨0, (t, q, l, e, n, b, g', m', c'), ?_, ?_⟩
      · simp only [F_image_Apply.i31s1, e31, decide_eq_false g2, cond_false, Option.bind_some, e32, e62, g3, cond_true]
      · rw [if_pos rfl]; exact ⟨rfl, rfl, d1, Nat.le_refl _, by dsimp only; omega⟩
    | false =>
      rw [if_neg (by decide)]
      have hc' := d1.cnt
      by_cases g4 : (alive l g').length = 1024
      · refine ⟨9, (t, q, l, e, n, b, g', m', c'), ?_, ?_⟩
        · simp only [F_image_Apply.i31s1, e31, decide_eq_false g2, cond_false, Option.bind_some, e32, e62, g3, F_image_Apply.i31s126, ieq, decide_eq_true (show c' = 1024 by omega), cond_true]
        · rw [if_pos g4]; exact ⟨rfl, by decide⟩
      · have hp := put_inv d1 (k := (tn, (k, v, f, d, cs))) d3
        have c1 : Nat.blt m'.length 4294967296 = true := blt_t (by have := d1.mlen; omega)
        have c2 : Nat.ble (l.length + 1) 4294967296 = true := ble_t (by omega)
        have c3 : Nat.ble (g'.length + 1) 140737488351232 = true := ble_t (by rw [d1.len]; omega)
        have w1 : IntKind.i64.wrap (c' + 1) = c' + 1 := w64 (by omega) (by omega)
        refine ⟨0, (t, q, l ++ [(tn, (k, v, f, d, cs))], e, n, b, g' ++ [false], mset KQ m' (nm (tn, (k, v, f, d, cs))) (l.length : Int), c' + 1), ?_, ?_⟩
        · simp only [F_image_Apply.i31s1, e31, decide_eq_false g2, cond_false, Option.bind_some, e32, e62, g3, F_image_Apply.i31s126, ieq, decide_eq_false (show ¬ c' = 1024 by omega), c1, cond_true, List.length_singleton, c2, c3, w1]
          rfl
        · rw [if_neg g4]
          refine ⟨rfl, ?_, hp, ?_, ?_⟩
          · simp only [imgOf, alive_app d1.len]
          · dsimp only; rw [List.length_append]; omega
          · dsimp only; rw [List.length_append, List.length_singleton]; omega
  · obtain ⟨rfl, _⟩ := h0
    have e6 : F_image_Apply.i26s6 mx (i, t, q, l, e, n, b, g, m, cn) (2, tn, (k, v, f, d, cs), bb, how, nn, yes) = some (.inr ()) := rfl
    by_cases g1 : (q.length : Int) ≤ tn
    · refine ⟨2, (t, q, l, e, n, b, g, m, cn), ?_, ?_⟩
      · simp only [F_image_Apply.i26s1, e6, Option.bind_some, F_image_Apply.i26s14, decide_eq_true g1, cond_true]
      · dsimp only [oneS, imgOf]; rw [if_pos ⟨by decide, by decide, by decide, g1⟩]; exact ⟨rfl, by decide⟩
    have hdrop := drop_ok h (show l.length ≤ 1000000 by omega) (tn, bb) (fun s : List Bool × Mp × Int => (t, q, l, e, n, b, s))
    obtain ⟨d1, d2, d3⟩ := drop_inv h (tn, bb)
    have da : alive l (dropS (g, m, cn) (tn, bb)).1 = leftL (2, tn, (k, v, f, d, cs), bb, how, nn, yes) (alive l g) := drop_alive h (tn, bb)
    refine ⟨0, (t, q, l, e, n, b, dropS (g, m, cn) (tn, bb)), ?_, ?_⟩
    · have e21 : ((2 : Int) == 1) = false := rfl
      have e33 : F_image_Apply.i33s1 mx (i, t, q, l, e, n, b, g, m, cn) (2, tn, (k, v, f, d, cs), bb, how, nn, yes) = some (t, q, l, e, n, b, dropS (g, m, cn) (tn, bb)) := by
        simp only [F_image_Apply.i33s1]; exact hdrop
      simp only [F_image_Apply.i26s1, e6, Option.bind_some, F_image_Apply.i26s14, decide_eq_false g1, cond_false, e21, beq_self_eq_true, cond_true, e33]
    · dsimp only [oneS, imgOf]; rw [if_neg (fun hh => g1 hh.2.2.2), if_neg (by decide), if_neg (by decide), if_neg (by decide), if_neg (by decide), if_neg (by decide)]
      exact ⟨rfl, by simp only [imgOf, da], d1, Nat.le_refl _, by dsimp only; omega⟩
  · obtain ⟨rfl, _⟩ := h0
    have e6 : F_image_Apply.i26s6 mx (i, t, q, l, e, n, b, g, m, cn) (3, tn, (k, v, f, d, cs), bb, how, nn, yes) = some (.inr ()) := rfl
    by_cases g1 : (q.length : Int) ≤ tn
    · refine ⟨2, (t, q, l, e, n, b, g, m, cn), ?_, ?_⟩
      · simp only [F_image_Apply.i26s1, e6, Option.bind_some, F_image_Apply.i26s14, decide_eq_true g1, cond_true]
      · dsimp only [oneS, imgOf]; rw [if_pos ⟨by decide, by decide, by decide, g1⟩]; exact ⟨rfl, by decide⟩
    have hsw := sweep34 h (show l.length ≤ 1000000 by omega) i t q (e, n, b, g, m, cn) t q e n b 3 tn k v f d cs bb how nn yes
    obtain ⟨d1, d2⟩ := sweep_inv (fun k => decide (k.1 = tn)) h l.length (Nat.le_refl _)
    have da : alive l (sweep (fun k => decide (k.1 = tn)) l (g, m, cn) l.length).1 = leftL (3, tn, (k, v, f, d, cs), bb, how, nn, yes) (alive l g) := sweep_alive _ h
    refine ⟨0, (t, q, l, e, n, b, sweep (fun k => decide (k.1 = tn)) l (g, m, cn) l.length), ?_, ?_⟩
    · have e21 : ((3 : Int) == 1) = false := rfl
      have e22 : ((3 : Int) == 2) = false := rfl
      simp only [F_image_Apply.i26s1, e6, Option.bind_some, F_image_Apply.i26s14, decide_eq_false g1, cond_false, e21, e22, beq_self_eq_true, cond_true, hsw]
    · dsimp only [oneS, imgOf]; rw [if_neg (fun hh => g1 hh.2.2.2), if_neg (by decide), if_neg (by decide), if_neg (by decide), if_neg (by decide), if_neg (by decide)]
      exact ⟨rfl, by simp only [imgOf, da], d1, Nat.le_refl _, by dsimp only; omega⟩
  · obtain ⟨rfl, _⟩ := h0
    have hsw := sweep27 h (show l.length ≤ 1000000 by omega) i t q (e, n, b, g, m, cn) nn q e n b 4 tn k v f d cs bb how nn yes
    obtain ⟨d1, d2⟩ := sweep_inv (fun k => dueB k.2 nn) h l.length (Nat.le_refl _)
    have da : alive l (sweep (fun k => dueB k.2 nn) l (g, m, cn) l.length).1 = leftL (4, tn, (k, v, f, d, cs), bb, how, nn, yes) (alive l g) := sweep_alive _ h
    have es : oneS (imgOf (t, q, l, e, n, b, g, m, cn)) (4, tn, (k, v, f, d, cs), bb, how, nn, yes) = (if nn < t then .inl 2 else .inr (nn, q, leftL (4, tn, (k, v, f, d, cs), bb, how, nn, yes) (alive l g), e, n, b)) := by
      dsimp only [oneS, imgOf]; rw [if_neg (fun hh => hh.1 rfl), if_neg (by decide), if_pos rfl]
    rw [es]
    by_cases g1 : nn < t
    · refine ⟨2, (t, q, l, e, n, b, g, m, cn), ?_, ?_⟩
      · simp only [F_image_Apply.i26s1, F_image_Apply.i26s6, beq_self_eq_true, cond_true, F_image_Apply.i26s212, decide_eq_true g1, Option.bind_some]
      · rw [if_pos g1]; exact ⟨rfl, by decide⟩
    · refine ⟨0, (nn, q, l, e, n, b, sweep (fun k => dueB k.2 nn) l (g, m, cn) l.length), ?_, ?_⟩
      · simp only [F_image_Apply.i26s1, F_image_Apply.i26s6, beq_self_eq_true, cond_true, F_image_Apply.i26s212, decide_eq_false g1, cond_false, Option.bind_some, hsw]
      · rw [if_neg g1]; exact ⟨rfl, by simp only [imgOf, da], d1, Nat.le_refl _, by dsimp only; omega⟩
  · obtain ⟨rfl, _⟩ := h0
    have e6 : F_image_Apply.i26s6 mx (i, t, q, l, e, n, b, g, m, cn) (5, tn, (k, v, f, d, cs), bb, how, nn, yes) = some (.inr ()) := rfl
    by_cases g1 : (q.length : Int) ≤ tn
    · refine ⟨2, (t, q, l, e, n, b, g, m, cn), ?_, ?_⟩
      · simp only [F_image_Apply.i26s1, e6, Option.bind_some, F_image_Apply.i26s14, decide_eq_true g1, cond_true]
      · dsimp only [oneS, imgOf]; rw [if_pos ⟨by decide, by decide, by decide, g1⟩]; exact ⟨rfl, by decide⟩
    refine ⟨0, (t, q.set tn.toNat nn, l, e, n, b, g, m, cn), ?_, ?_⟩
    · have e21 : ((5 : Int) == 1) = false := rfl
      have e22 : ((5 : Int) == 2) = false := rfl
      have e23 : ((5 : Int) == 3) = false := rfl
      have c1 : Nat.blt tn.toNat q.length = true := blt_t (by omega)
      simp only [F_image_Apply.i26s1, e6, Option.bind_some, F_image_Apply.i26s14, decide_eq_false g1, cond_false, e21, e22, e23, beq_self_eq_true, cond_true, decide_eq_true t1, decide_eq_true (show tn < (q.length : Int) by omega), Bool.and_self, c1]
    · dsimp only [oneS, imgOf]; rw [if_neg (fun hh => g1 hh.2.2.2), if_neg (by decide), if_neg (by decide), if_pos rfl]
      exact ⟨rfl, rfl, h, Nat.le_refl _, by dsimp only; omega⟩
  · obtain ⟨rfl, _⟩ := h0
    have es : oneS (imgOf (t, q, l, e, n, b, g, m, cn)) (6, tn, (k, v, f, d, cs), bb, how, nn, yes) = (if nn < e then .inl 2 else .inr (t, q, alive l g, nn, n, yes)) := by
      dsimp only [oneS, imgOf]; rw [if_neg (fun hh => hh.2.1 rfl), if_neg (by decide), if_neg (by decide), if_neg (by decide), if_pos rfl]
    rw [es]
    have e64 : ((6 : Int) == 4) = false := rfl
    by_cases g1 : nn < e
    · refine ⟨2, (t, q, l, e, n, b, g, m, cn), ?_, ?_⟩
      · simp only [F_image_Apply.i26s1, F_image_Apply.i26s6, e64, cond_false, beq_self_eq_true, cond_true, F_image_Apply.i26s860, decide_eq_true g1, Option.bind_some]
      · rw [if_pos g1]; exact ⟨rfl, by decide⟩
    · refine ⟨0, (t, q, l, nn, n, yes, g, m, cn), ?_, ?_⟩
      · simp only [F_image_Apply.i26s1, F_image_Apply.i26s6, e64, beq_self_eq_true, cond_true, F_image_Apply.i26s860, decide_eq_false g1, cond_false, Option.bind_some]
      · rw [if_neg g1]; exact ⟨rfl, rfl, h, Nat.le_refl _, by dsimp only; omega⟩
  · obtain ⟨rfl, _⟩ := h0
    refine ⟨0, (t, q, l, e, nn, b, g, m, cn), ?_, ?_⟩
    · have e64 : ((7 : Int) == 4) = false := rfl
      have e65 : ((7 : Int) == 6) = false := rfl
      simp only [F_image_Apply.i26s1, F_image_Apply.i26s6, e64, e65, beq_self_eq_true, cond_true, cond_false, Option.bind_some]
    · dsimp only [oneS, imgOf]; rw [if_neg (fun hh => hh.2.2.1 rfl), if_neg (by decide), if_neg (by decide), if_neg (by decide), if_neg (by decide), if_pos rfl]
      exact ⟨rfl, rfl, h, Nat.le_refl _, by dsimp only; omega⟩
end Go.Proofs.YtepgfpihfpjefaaGreat
