/- The document's own changes of an image. -/
import Derived.Test.YtepgfpihfpjefaaGreatKXb
namespace Go.Proofs.YtepgfpihfpjefaaGreat
open Go.Abs
set_option maxRecDepth 100000
theorem touch_ok (kd t : Int) (k v : List Int) (f d cs : Int) (b : List Int) (how n : Int) (yes : Bool) (x : Kept) :
    F_ref21_left.s7462 mx kd t k b n x = some (touch (kd, t, (k, v, f, d, cs), b, how, n, yes) x) := by
  simp only [F_ref21_left.s7462, touch, ieq]
  have nmd : ∀ y : List Int, (bif decide (x.1 = t) then some (x.2.1 == y) else some false) = some (decide (nm x = (t, y))) := fun y => by
    by_cases h : x.1 = t
    · rw [decide_eq_true h, cond_true]; congr 1
      rw [Bool.eq_iff_iff, beq_iff_eq, decide_eq_true_eq]
      exact ⟨fun hh => Prod.ext h hh, fun hh => congrArg Prod.snd hh⟩
    · rw [decide_eq_false h, decide_eq_false (fun hh => h (congrArg Prod.fst hh))]; rfl
  by_cases k1 : kd = 1
  · rw [decide_eq_true k1, if_pos k1, cond_true]; exact nmd k
  rw [decide_eq_false k1, if_neg k1]
  by_cases k2 : kd = 2
  · rw [decide_eq_true k2, if_pos k2, cond_false, cond_true]; exact nmd b
  rw [decide_eq_false k2, if_neg k2]
  by_cases k3 : kd = 3
  · rw [decide_eq_true k3, if_pos k3]; rfl
  rw [decide_eq_false k3, if_neg k3]
  by_cases k4 : kd = 4
  · rw [decide_eq_true k4, if_pos k4]
    simp only [cond_false, cond_true, rdue_ok, Option.bind_some]
  · rw [decide_eq_false k4, if_neg k4]; rfl
theorem left_ok {l : List Kept} (hl : l.length ≤ 1000000) (kd t : Int) (k v : List Int) (f d cs : Int) (b : List Int) (how n : Int) (yes : Bool) :
    F_ref21_left mx (l, kd, t, k, v, f, d, cs, b, how, n, yes) = some (leftL (kd, t, (k, v, f, d, cs), b, how, n, yes) l) := by
  have hlen : ∀ i, ((l.take i).foldl (fun acc x => bif !touch (kd, t, (k, v, f, d, cs), b, how, n, yes) x then acc ++ [x] else acc) []).length ≤ l.length := fun i => by
    rw [foldl_filter, List.nil_append]
    exact Nat.le_trans (List.length_filter_le _ _) (by rw [List.length_take]; omega)
  have := iter_fold (f := F_ref21_left.l58 mx l kd t k b n) l K0 (fun acc x => bif !touch (kd, t, (k, v, f, d, cs), b, how, n, yes) x then acc ++ [x] else acc) [] (fun i s => (s, (i : Int))) (r := l.filter (fun x => !touch (kd, t, (k, v, f, d, cs), b, how, n, yes) x)) (lt_N0 (by omega)) (fun i hi => by
    have c1 : Nat.ble (((l.take i).foldl (fun acc x => bif !touch (kd, t, (k, v, f, d, cs), b, how, n, yes) x then acc ++ [x] else acc) []).length + 1) 4294967296 = true := ble_t (by have := hlen i; omega)
    simp only [F_ref21_left.l58, ltd hi, lez, Bool.and_self, cond_true, Int.toNat_natCast, touch_ok kd t k v f d cs b how n yes, Option.bind_some, List.length_singleton, c1]
    rw [inc64 (by omega)]
    cases touch (kd, t, (k, v, f, d, cs), b, how, n, yes) (l.getD i K0) <;> rfl) (by
    simp only [F_ref21_left.l58, nltd, cond_false]; rw [foldl_filter]; rfl)
  have this : iter mx (F_ref21_left.l58 mx l kd t k b n) (([] : List Kept), (0 : Int)) = _ := this
  simp only [F_ref21_left, this, Option.bind_some]
  rfl
theorem left_id {c : Chg} (h1 : c.1 ≠ 1) (h2 : c.1 ≠ 2) (h3 : c.1 ≠ 3) (h4 : c.1 ≠ 4) (l : List Kept) : leftL c l = l := by
  unfold leftL
  refine List.filter_eq_self.2 fun k _ => ?_
  unfold touch
  rw [if_neg h1, if_neg h2, if_neg h3, if_neg h4]; rfl
abbrev ImgE := Int × List Int × List Kept × Int × Int × Bool × Int
def RRes (y : ImgE) : Int ⊕ Img → Prop
  | .inl e => y.2.2.2.2.2.2 = e ∧ e ≠ 0
  | .inr w => y = withE w
theorem rone21_ok {v : Img} (h : okI v) {c : Chg} (hc : chOk c) :
    ∃ y, F_ref21_one mx (v.1, v.2.1, v.2.2.1, v.2.2.2.1, v.2.2.2.2.1, v.2.2.2.2.2, c.1, c.2.1, c.2.2.1.1, c.2.2.1.2.1, c.2.2.1.2.2.1, c.2.2.1.2.2.2.1, c.2.2.1.2.2.2.2, c.2.2.2) = some y ∧ RRes y (oneS v c) := by
  obtain ⟨t, q, l, e, n, b⟩ := v
  obtain ⟨kd, tn, ⟨k, v, f, d, cs⟩, bb, how, nn, yes⟩ := c
  have hq : q.length ≤ 4 := h.2.1.2.1
  have hl : l.length ≤ 1024 := h.2.2.1
  obtain ⟨⟨t1, t2⟩, hc⟩ := hc
  dsimp only at t1 t2 hc
  have c1 : Nat.ble q.length 4294967296 = true := ble_t (by omega)
  have c2 : Nat.ble l.length 4294967296 = true := ble_t (by omega)
  have htw : F_ref21_Twin mx (t, q, l, e, n, b) = some (t, q, l, e, n, b) := by simp only [F_ref21_Twin, c1, c2, cond_true]
  have hlf := left_ok (l := l) (by omega) kd tn k v f d cs bb how nn yes
  have hsub : (leftL (kd, tn, (k, v, f, d, cs), bb, how, nn, yes) l).length ≤ 1024 := Nat.le_trans (leftL_sub _ _).length_le hl
  dsimp only
  have open1 : ∀ r, F_ref21_one.s14 mx q kd tn (t, q, l, e, n, b) = some (.inr r) → F_ref21_one mx (t, q, l, e, n, b, kd, tn, k, v, f, d, cs, bb, how, nn, yes) =
      (F_ref21_one.s62 mx t e kd tn k v f d cs nn yes (t, q, l, e, n, b) (leftL (kd, tn, (k, v, f, d, cs), bb, how, nn, yes) l)).bind fun x28 =>
        match x28 with
        | .inl x29 => some (x29.2.1, x29.2.2.1, x29.2.2.2.1, x29.2.2.2.2.1, x29.2.2.2.2.2.1, x29.2.2.2.2.2.2, x29.1)
        | .inr x30 => some (x30.1, x30.2.1, x30.2.2.1, x30.2.2.2.1, x30.2.2.2.2.1, x30.2.2.2.2.2, (0 : Int)) := fun r hr => by
    simp only [F_ref21_one, htw, Option.bind_some, hr, hlf]
    rfl
  have bad : ∀ kd', kd = kd' → kd' ≠ 4 → kd' ≠ 6 → kd' ≠ 7 → (q.length : Int) ≤ tn → ∃ y, F_ref21_one mx (t, q, l, e, n, b, kd, tn, k, v, f, d, cs, bb, how, nn, yes) = some y ∧ RRes y (oneS (t, q, l, e, n, b) (kd, tn, (k, v, f, d, cs), bb, how, nn, yes)) := fun kd' e0 k4 k6 k7 g1 => by
    subst e0
    have hs : F_ref21_one.s14 mx q kd tn (t, q, l, e, n, b) = some (.inl (2, t, q, l, e, n, b)) := by
      simp only [F_ref21_one.s14, bne_iff_ne.2 k4, bne_iff_ne.2 k6, bne_iff_ne.2 k7, decide_eq_true g1, cond_true]
    refine ⟨(t, q, l, e, n, b, 2), ?_, ?_⟩
    · simp only [F_ref21_one, htw, Option.bind_some, hs]
    · dsimp only [oneS]; rw [if_pos ⟨k4, k6, k7, g1⟩]; exact ⟨rfl, by decide⟩
  have good : ∀ kd', kd = kd' → kd' ≠ 4 → kd' ≠ 6 → kd' ≠ 7 → ¬ (q.length : Int) ≤ tn → F_ref21_one.s14 mx q kd tn (t, q, l, e, n, b) = some (.inr ()) := fun kd' e0 k4 k6 k7 g1 => by
    subst e0
    simp only [F_ref21_one.s14, bne_iff_ne.2 k4, bne_iff_ne.2 k6, bne_iff_ne.2 k7, decide_eq_false g1, cond_true, cond_false]
  have e21 : ((2 : Int) == 1) = false := rfl
  have e24 : ((2 : Int) == 4) = false := rfl
  have e25 : ((2 : Int) == 5) = false := rfl
  have e26 : ((2 : Int) == 6) = false := rfl
  have e27 : ((2 : Int) == 7) = false := rfl
  have e31 : ((3 : Int) == 1) = false := rfl
  have e34 : ((3 : Int) == 4) = false := rfl
  have e35 : ((3 : Int) == 5) = false := rfl
  have e36 : ((3 : Int) == 6) = false := rfl
  have e37 : ((3 : Int) == 7) = false := rfl
  have e41 : ((4 : Int) == 1) = false := rfl
  have e51 : ((5 : Int) == 1) = false := rfl
  have e54 : ((5 : Int) == 4) = false := rfl
  have e61 : ((6 : Int) == 1) = false := rfl
  have e64 : ((6 : Int) == 4) = false := rfl
  have e65 : ((6 : Int) == 5) = false := rfl
  have e71 : ((7 : Int) == 1) = false := rfl
  have e74 : ((7 : Int) == 4) = false := rfl
  have e75 : ((7 : Int) == 5) = false := rfl
  have e76 : ((7 : Int) == 6) = false := rfl
  rcases hc with h0 | h0 | h0 | h0 | h0 | h0 | h0
  · obtain ⟨rfl, ⟨⟨h1, h2⟩, h3, h4, h5⟩, _⟩ := h0
    by_cases g1 : (q.length : Int) ≤ tn
    · exact bad 1 rfl (by decide) (by decide) (by decide) g1
    rw [open1 () (good 1 rfl (by decide) (by decide) (by decide) g1)]
    have hsz := rsize_ok (k, v, f, d, cs) (show k.length ≤ 140737488351232 by omega) (show v.length ≤ 140737488351232 by omega)
    have hdu := rdue_ok (k, v, f, d, cs) t
    dsimp only at hsz hdu
    dsimp only [oneS]
    rw [if_neg (fun hh => g1 hh.2.2.2), if_pos rfl]
    simp only [F_ref21_one.s62, beq_self_eq_true, cond_true, hsz, Option.bind_some]
    by_cases g2 : 256 < 8 + k.length + v.length
    · rw [decide_eq_true (show (256 : Int) < ((8 + k.length + v.length : Nat) : Int) by omega), if_pos g2]
      exact ⟨_, rfl, rfl, by decide⟩
    rw [decide_eq_false (show ¬ (256 : Int) < ((8 + k.length + v.length : Nat) : Int) by omega), if_neg g2]
    have c3 : Nat.ble ((leftL (1, tn, (k, v, f, d, cs), bb, how, nn, yes) l).length + 1) 4294967296 = true := ble_t (by omega)
    simp only [cond_false, F_ref21_one.s4010, hdu, Option.bind_some, List.length_singleton, c3, cond_true]
    cases g3 : dueB (k, v, f, d, cs) t with
    | true =>
      rw [if_pos rfl]
      simp only [Bool.not_true, cond_false, Option.bind_some, decide_eq_false (show ¬ (1024 : Int) < ((leftL (1, tn, (k, v, f, d, cs), bb, how, nn, yes) l).length : Int) by omega)]
      exact ⟨_, rfl, rfl⟩
    | false =>
      rw [if_neg (by decide)]
      simp only [Bool.not_false, cond_true, Option.bind_some, List.length_append, List.length_singleton]
      by_cases g4 : (leftL (1, tn, (k, v, f, d, cs), bb, how, nn, yes) l).length = 1024
      · rw [if_pos g4, decide_eq_true (show (1024 : Int) < (((leftL (1, tn, (k, v, f, d, cs), bb, how, nn, yes) l).length + 1 : Nat) : Int) by omega)]
        exact ⟨_, rfl, rfl, by decide⟩
      · rw [if_neg g4, decide_eq_false (show ¬ (1024 : Int) < (((leftL (1, tn, (k, v, f, d, cs), bb, how, nn, yes) l).length + 1 : Nat) : Int) by omega)]
        exact ⟨_, rfl, rfl⟩
  · obtain ⟨rfl, _⟩ := h0
    by_cases g1 : (q.length : Int) ≤ tn
    · exact bad 2 rfl (by decide) (by decide) (by decide) g1
    rw [open1 () (good 2 rfl (by decide) (by decide) (by decide) g1)]
    dsimp only [oneS]
    rw [if_neg (fun hh => g1 hh.2.2.2), if_neg (by decide), if_neg (by decide), if_neg (by decide), if_neg (by decide), if_neg (by decide)]
    simp only [F_ref21_one.s62, e21, e24, e25, e26, e27, cond_false, Option.bind_some]
    exact ⟨_, rfl, rfl⟩
  · obtain ⟨rfl, _⟩ := h0
    by_cases g1 : (q.length : Int) ≤ tn
    · exact bad 3 rfl (by decide) (by decide) (by decide) g1
    rw [open1 () (good 3 rfl (by decide) (by decide) (by decide) g1)]
    dsimp only [oneS]
    rw [if_neg (fun hh => g1 hh.2.2.2), if_neg (by decide), if_neg (by decide), if_neg (by decide), if_neg (by decide), if_neg (by decide)]
    simp only [F_ref21_one.s62, e31, e34, e35, e36, e37, cond_false, Option.bind_some]
    exact ⟨_, rfl, rfl⟩
  · obtain ⟨rfl, _⟩ := h0
    rw [open1 () rfl]
    dsimp only [oneS]
    rw [if_neg (fun hh => hh.1 rfl), if_neg (by decide), if_pos rfl]
    simp only [F_ref21_one.s62, e41, cond_false, beq_self_eq_true, cond_true]
    by_cases g1 : nn < t
    · rw [decide_eq_true g1, if_pos g1]; exact ⟨_, rfl, rfl, by decide⟩
    · rw [decide_eq_false g1, if_neg g1]; exact ⟨_, rfl, rfl⟩
  · obtain ⟨rfl, _⟩ := h0
    by_cases g1 : (q.length : Int) ≤ tn
    · exact bad 5 rfl (by decide) (by decide) (by decide) g1
    rw [open1 () (good 5 rfl (by decide) (by decide) (by decide) g1)]
    dsimp only [oneS]
    rw [if_neg (fun hh => g1 hh.2.2.2), if_neg (by decide), if_neg (by decide), if_pos rfl]
    have c3 : Nat.blt tn.toNat q.length = true := blt_t (by omega)
    simp only [F_ref21_one.s62, e51, e54, cond_false, beq_self_eq_true, cond_true, decide_eq_true t1, decide_eq_true (show tn < (q.length : Int) by omega), Bool.and_self, c3, Option.bind_some]
    rw [left_id (by dsimp only; omega) (by dsimp only; omega) (by dsimp only; omega) (by dsimp only; omega)]
    exact ⟨_, rfl, rfl⟩
  · obtain ⟨rfl, _⟩ := h0
    rw [open1 () rfl]
    dsimp only [oneS]
    rw [if_neg (fun hh => hh.2.1 rfl), if_neg (by decide), if_neg (by decide), if_neg (by decide), if_pos rfl]
    simp only [F_ref21_one.s62, e61, e64, e65, cond_false, beq_self_eq_true, cond_true]
    by_cases g1 : nn < e
    · rw [decide_eq_true g1, if_pos g1]; exact ⟨_, rfl, rfl, by decide⟩
    · rw [decide_eq_false g1, if_neg g1, left_id (by dsimp only; omega) (by dsimp only; omega) (by dsimp only; omega) (by dsimp only; omega)]; exact ⟨_, rfl, rfl⟩
  · obtain ⟨rfl, _⟩ := h0
    rw [open1 () rfl]
    dsimp only [oneS]
    rw [if_neg (fun hh => hh.2.2.1 rfl), if_neg (by decide), if_neg (by decide), if_neg (by decide), if_neg (by decide), if_pos rfl]
    simp only [F_ref21_one.s62, e71, e74, e75, e76, cond_false, beq_self_eq_true, cond_true, Option.bind_some]
    rw [left_id (by dsimp only; omega) (by dsimp only; omega) (by dsimp only; omega) (by dsimp only; omega)]
    exact ⟨_, rfl, rfl⟩
theorem rloop_ok (cs : List Chg) (hlen : cs.length ≤ 4096) : ∀ (rest : List Chg) (i : Nat) (v : Img) (fuel : Nat), cs.drop i = rest → i ≤ cs.length → (∀ c ∈ rest, chOk c) → okI v → rest.length < fuel →
    iterN (F_ref21_Apply.l506 mx cs) fuel ((i : Int), v) = match applyL v rest with
    | .inl e => some (.inl (e, 0, 0, 0, false))
    | .inr w => some (.inr w)
  | [], i, v, fuel, hd, hi, _, hs, hf => by
    obtain ⟨f, rfl⟩ : ∃ f, fuel = f + 1 := ⟨fuel - 1, by omega⟩
    have : i = cs.length := by have := congrArg List.length hd; rw [List.length_drop, List.length_nil] at this; omega
    subst this
    refine iterN_fin ?_
    simp only [F_ref21_Apply.l506, nltd, cond_false]
  | c :: rest, i, v, fuel, hd, hi, hc, hs, hf => by
    obtain ⟨f, rfl⟩ : ∃ f, fuel = f + 1 := ⟨fuel - 1, by omega⟩
    have hil : i < cs.length := by
      have := congrArg List.length hd
      rw [List.length_drop, List.length_cons] at this; omega
    have hci : cs.getD i C0 = c := by
      rw [getD_some hil]
      have := List.drop_eq_getElem_cons hil
      rw [hd] at this
      exact (List.cons.inj this).1.symm
    have hd' : cs.drop (i + 1) = rest := by
      have := List.drop_eq_getElem_cons hil
      rw [hd] at this
      exact (List.cons.inj this).2.symm
    obtain ⟨y, e1, e2⟩ := rone21_ok hs (hc c (by simp))
    have hst : F_ref21_Apply.l506 mx cs ((i : Int), v) = some (bif y.2.2.2.2.2.2 != 0 then .fin (.inl (y.2.2.2.2.2.2, 0, 0, 0, false)) else .next (((i + 1 : Nat) : Int), y.1, y.2.1, y.2.2.1, y.2.2.2.1, y.2.2.2.2.1, y.2.2.2.2.2.1)) := by
      simp only [F_ref21_Apply.l506, ltd hil, lez, Bool.and_self, cond_true, Int.toNat_natCast]
      rw [show cs.getD i (0, 0, ([], [], 0, 0, 0), [], 0, 0, false) = c from hci, e1]
      simp only [Option.bind_some]
      rw [inc64 (by omega)]
      cases (y.2.2.2.2.2.2 != 0) <;> rfl
    rw [applyL]
    cases ho : oneS v c with
    | inl e =>
      rw [ho] at e2
      obtain ⟨e3, hne⟩ := e2
      rw [e3, bne_int, decide_eq_false hne] at hst
      rw [iterN_fin hst]
    | inr w =>
      rw [ho] at e2
      have e2 : y = withE w := e2
      rw [e2] at hst
      have hst : F_ref21_Apply.l506 mx cs ((i : Int), v) = some (.next (((i + 1 : Nat) : Int), w)) := hst
      rw [iterN_next hst]
      exact rloop_ok cs hlen rest (i + 1) w f hd' (by omega) (fun x hx => hc x (by simp [hx])) (one_okI hs (hc c (by simp)) ho) (by rw [List.length_cons] at hf; omega)
theorem rapply_ok {v : Img} (hb : ∀ k ∈ v.2.2.1, k.2.1.length ≤ 140737488351232 ∧ k.2.2.1.length ≤ 140737488351232) {cs : List Chg} (hw : ∀ c ∈ cs, wfC c) :
    F_ref21_Apply mx (v.1, v.2.1, v.2.2.1, v.2.2.2.1, v.2.2.2.2.1, v.2.2.2.2.2, cs) = some (applyS v cs) := by
  have hck := rcheck_ok (v := v) hb
  obtain ⟨t, q, l, e, n, b⟩ := v
  dsimp only at hck ⊢
  simp only [F_ref21_Apply, hck, Option.bind_some]
  unfold applyS
  by_cases h1 : okI (t, q, l, e, n, b)
  case neg => rw [if_neg h1, if_neg h1]; rfl
  rw [if_pos h1, if_pos h1]
  simp only [F_ref21_Apply.s14, beq_self_eq_true, cond_true, rchanges_ok hw, Option.bind_some, bne_int]
  by_cases h2 : chErr cs = 0
  case neg => simp only [if_neg h2, decide_eq_false h2]; rfl
  simp only [if_pos h2]
  rw [h2]
  simp only [decide_true, Bool.not_true, cond_false]
  obtain ⟨h3, h4, h5⟩ := chErr_zero.1 h2
  have hq : q.length ≤ 4 := h1.2.1.2.1
  have hl : l.length ≤ 1024 := h1.2.2.1
  have c1 : Nat.ble q.length 4294967296 = true := ble_t (by omega)
  have c2 : Nat.ble l.length 4294967296 = true := ble_t (by omega)
  have htw : F_ref21_Twin mx (t, q, l, e, n, b) = some (t, q, l, e, n, b) := by simp only [F_ref21_Twin, c1, c2, cond_true]
  have hloop := rloop_ok cs h3 cs 0 (t, q, l, e, n, b) N0 (by simp) (by omega) h4 h1 (by unfold N0; omega)
  have hloop : iter mx (F_ref21_Apply.l506 mx cs) ((0 : Int), t, q, l, e, n, b) = _ := hloop
  rw [htw]
  simp only [Option.bind_some, hloop]
  cases applyL (t, q, l, e, n, b) cs with
  | inl err => rfl
  | inr w => rfl
theorem rsame_ok {v w : Img} (h1 : v.2.1.length ≤ 1000000000000000000) (h2 : v.2.2.1.length ≤ 1000000000000000000) : F_ref21_Same mx (v.1, v.2.1, v.2.2.1, v.2.2.2.1, v.2.2.2.2.1, v.2.2.2.2.2, w) = some (decide (v = w)) := by
  obtain ⟨t, q, l, e, n, b⟩ := v
  obtain ⟨t', q', l', e', n', b'⟩ := w
  dsimp only at h1 h2
  simp only [F_ref21_Same, bne_int]
  by_cases g1 : t = t'
  case neg => rw [decide_eq_false g1, decide_eq_false (fun h => g1 (congrArg (fun z : Img => z.1) h))]; rfl
  rw [decide_eq_true g1]
  by_cases g2 : e = e'
  case neg => rw [decide_eq_false g2, decide_eq_false (fun h => g2 (congrArg (fun z : Img => z.2.2.2.1) h))]; rfl
  rw [decide_eq_true g2]
  by_cases g3 : n = n'
  case neg => rw [decide_eq_false g3, decide_eq_false (fun h => g3 (congrArg (fun z : Img => z.2.2.2.2.1) h))]; rfl
  rw [decide_eq_true g3]
  by_cases g4 : b = b'
  case neg => rw [show (b == b') = false by simpa using g4, decide_eq_false (fun h => g4 (congrArg (fun z : Img => z.2.2.2.2.2) h))]; rfl
  rw [show (b == b') = true by simpa using g4]
  by_cases g5 : q.length = q'.length
  case neg => rw [decide_eq_false (show ¬ (q.length : Int) = (q'.length : Int) by omega), decide_eq_false (fun h => g5 (congrArg (fun z : Img => z.2.1.length) h))]; rfl
  rw [decide_eq_true (show (q.length : Int) = (q'.length : Int) by omega)]
  by_cases g6 : l.length = l'.length
  case neg => rw [decide_eq_false (show ¬ (l.length : Int) = (l'.length : Int) by omega), decide_eq_false (fun h => g6 (congrArg (fun z : Img => z.2.2.1.length) h))]; rfl
  rw [decide_eq_true (show (l.length : Int) = (l'.length : Int) by omega)]
  simp only [Bool.not_true, cond_false]
  rcases iter_scan (f := F_ref21_Same.l58 mx q q') (fun i => (i : Int)) q.length (fun i => q.getD i 0 = q'.getD i 0) (lt_N0 h1) (fun _ => .inl false) (.inr ())
    (fun i hi hp _ => by
      simp only [F_ref21_Same.l58, ltd hi, lez, Bool.and_self, cond_true, Int.toNat_natCast, ltd (show i < q'.length by omega), hp, bne_self_eq_false, cond_false]
      rw [inc64 (by omega)])
    (fun i hi hp _ => by
      have : (q.getD i 0 != q'.getD i 0) = true := by simpa using hp
      simp only [F_ref21_Same.l58, ltd hi, lez, Bool.and_self, cond_true, Int.toNat_natCast, ltd (show i < q'.length by omega), this])
    (fun _ => by simp only [F_ref21_Same.l58, nltd, cond_false]) with ⟨hh, e1⟩ | ⟨i, hi, hp, _, e1⟩
  · have e1 : iter mx (F_ref21_Same.l58 mx q q') (0 : Int) = _ := e1
    have hqq : q = q' := List.ext_getElem g5 fun i h1 h2 => by
      have := hh i h1
      rwa [getD_some h1, getD_some h2] at this
    rw [e1]
    simp only [Option.bind_some]
    rcases iter_scan (f := F_ref21_Same.l122 mx l l') (fun i => (i : Int)) l.length (fun i => l.getD i K0 = l'.getD i K0) (lt_N0 h2) (fun _ => .inl false) (.inr ())
      (fun i hi hp _ => by
        simp only [F_ref21_Same.l122, ltd hi, lez, Bool.and_self, cond_true, Int.toNat_natCast, ltd (show i < l'.length by omega), kept_beq, decide_eq_true hp, Bool.not_true, cond_false]
        rw [inc64 (by omega)])
      (fun i hi hp _ => by
        simp only [F_ref21_Same.l122, ltd hi, lez, Bool.and_self, cond_true, Int.toNat_natCast, ltd (show i < l'.length by omega), kept_beq, decide_eq_false hp, Bool.not_false])
      (fun _ => by simp only [F_ref21_Same.l122, nltd, cond_false]) with ⟨hh2, e2⟩ | ⟨i, hi, hp, _, e2⟩
    · have e2 : iter mx (F_ref21_Same.l122 mx l l') (0 : Int) = _ := e2
      have hll : l = l' := List.ext_getElem g6 fun i h1 h2 => by
        have := hh2 i h1
        rwa [getD_some h1, getD_some h2] at this
      rw [e2, decide_eq_true (show (t, q, l, e, n, b) = (t', q', l', e', n', b') by rw [g1, g2, g3, g4, hqq, hll])]; rfl
    · have e2 : iter mx (F_ref21_Same.l122 mx l l') (0 : Int) = _ := e2
      rw [e2, decide_eq_false (fun h => hp (by rw [show l = l' from congrArg (fun z : Img => z.2.2.1) h]))]; rfl
  · have e1 : iter mx (F_ref21_Same.l58 mx q q') (0 : Int) = _ := e1
    rw [e1, decide_eq_false (fun h => hp (by rw [show q = q' from congrArg (fun z : Img => z.2.1) h]))]; rfl
end Go.Proofs.YtepgfpihfpjefaaGreat
