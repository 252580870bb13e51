/- The plain law of ImageChanges. -/
import Derived.Test.YtkggcbfkhkgeaaaKR3
namespace Go.Proofs.Ytkggcbfkhkgeaaa.imageChanges
open Go.Abs
set_option maxRecDepth 100000
theorem s6_ok (v : Img) (cs : List Chg) (key : List Int) (h1 : v.2.2.1.length ≤ 1000000000000000000) (h2 : cs.length ≤ 1000000000000000000) :
    F_law21_ImageChanges.s6 mx v.1 v.2.1 v.2.2.1 v.2.2.2.1 v.2.2.2.2.1 v.2.2.2.2.2 cs key = some (.inl true) ∨
    (F_law21_ImageChanges.s6 mx v.1 v.2.1 v.2.2.1 v.2.2.2.1 v.2.2.2.2.1 v.2.2.2.2.2 cs key = some (.inr ()) ∧ v.2.1.length ≤ 40 ∧ v.2.2.1.length ≤ 1100 ∧ cs.length ≤ 5000) := by
  obtain ⟨b1, e1, f1⟩ := great_some v h1
  obtain ⟨b2, e2, f2⟩ := heavy_some cs h2
  have e1 : F_ref21_Great mx (v.1, v.2.1, v.2.2.1, v.2.2.2.1, v.2.2.2.2.1, v.2.2.2.2.2) = some b1 := e1
  simp only [F_law21_ImageChanges.s6, e1, e2, Option.bind_some]
  cases b1 with
  | true => exact .inl rfl
  | false =>
    cases b2 with
    | true => exact .inl rfl
    | false =>
      have g1 := f1 rfl
      have g2 := f2 rfl
      simp only [cond_false]
      cases decide ((300 : Int) < (cs.length : Int)) <;> cases decide ((100 : Int) < (v.2.2.1.length : Int)) <;> cases decide ((10000 : Int) < (key.length : Int)) <;>
        first | exact .inl rfl | exact .inr ⟨rfl, g1.1, g1.2, g2⟩
theorem kept_loop (f : Int × List Kept → Option (Step (Int × List Kept) (List Kept))) (hf : f = F_law21_ImageChanges.l262138 mx) (L : List Kept) (hL : L.length ≤ 1000000) : ∃ r, iter mx f ((0 : Int), L) = some r := by
  subst hf
  obtain ⟨r, hr, _⟩ := iter_inv (f := F_law21_ImageChanges.l262138 mx) (fun s => ∃ k : Nat, s.1 = (k : Int) ∧ k ≤ L.length ∧ s.2.length = L.length) (fun s => L.length - s.1.toNat) (fun _ => True) ((0 : Int), L) ⟨0, rfl, Nat.zero_le _, rfl⟩ (by
    simp only [Int.toNat_zero, Nat.sub_zero]; exact lt_N0 (by omega)) (fun s ⟨k, e, hk, hl⟩ => by
    obtain ⟨i, l⟩ := s
    dsimp only at e hl
    subst e
    by_cases h1 : k < L.length
    · left
      have h2 : k < l.length := by omega
      refine ⟨_, by simp only [F_law21_ImageChanges.l262138, ltd h2, lez, Bool.and_self, cond_true, Int.toNat_natCast, blt_t h2]; rfl, ⟨k + 1, by dsimp only; rw [inc64 (by omega)], by omega, by rw [List.length_set]; exact hl⟩, by dsimp only; rw [inc64 (by omega)]; omega⟩
    · right
      have : k = l.length := by omega
      subst this
      exact ⟨l, by simp only [F_law21_ImageChanges.l262138, nltd, cond_false], trivial⟩)
  exact ⟨r, hr⟩
theorem kept_loop2 (L : List Kept) (hL : L.length ≤ 1000000) : ∃ r, iter mx (F_law21_ImageChanges.l1048570 mx) ((0 : Int), L) = some r := by
  obtain ⟨r, hr, _⟩ := iter_inv (f := F_law21_ImageChanges.l1048570 mx) (fun s => ∃ k : Nat, s.1 = (k : Int) ∧ k ≤ L.length ∧ s.2.length = L.length) (fun s => L.length - s.1.toNat) (fun _ => True) ((0 : Int), L) ⟨0, rfl, Nat.zero_le _, rfl⟩ (by
    simp only [Int.toNat_zero, Nat.sub_zero]; exact lt_N0 (by omega)) (fun s ⟨k, e, hk, hl⟩ => by
    obtain ⟨i, l⟩ := s
    dsimp only at e hl
    subst e
    by_cases h1 : k < L.length
    · left
      have h2 : k < l.length := by omega
      refine ⟨_, by simp only [F_law21_ImageChanges.l1048570, ltd h2, lez, Bool.and_self, cond_true, Int.toNat_natCast, blt_t h2]; rfl, ⟨k + 1, by dsimp only; rw [inc64 (by omega)], by omega, by rw [List.length_set]; exact hl⟩, by dsimp only; rw [inc64 (by omega)]; omega⟩
    · right
      have : k = l.length := by omega
      subst this
      exact ⟨(), by simp only [F_law21_ImageChanges.l1048570, nltd, cond_false], trivial⟩)
  exact ⟨r, hr⟩
theorem int_loop (L : List Int) (hL : L.length ≤ 1000000) : ∃ r, iter mx (F_law21_ImageChanges.l524282 mx) ((0 : Int), L) = some r := by
  obtain ⟨r, hr, _⟩ := iter_inv (f := F_law21_ImageChanges.l524282 mx) (fun s => ∃ k : Nat, s.1 = (k : Int) ∧ k ≤ L.length ∧ s.2.length = L.length) (fun s => L.length - s.1.toNat) (fun _ => True) ((0 : Int), L) ⟨0, rfl, Nat.zero_le _, rfl⟩ (by
    simp only [Int.toNat_zero, Nat.sub_zero]; exact lt_N0 (by omega)) (fun s ⟨k, e, hk, hl⟩ => by
    obtain ⟨i, l⟩ := s
    dsimp only at e hl
    subst e
    by_cases h1 : k < L.length
    · left
      have h2 : k < l.length := by omega
      refine ⟨_, by simp only [F_law21_ImageChanges.l524282, ltd h2, lez, Bool.and_self, cond_true, Int.toNat_natCast, blt_t h2]; rfl, ⟨k + 1, by dsimp only; rw [inc64 (by omega)], by omega, by rw [List.length_set]; exact hl⟩, by dsimp only; rw [inc64 (by omega)]; omega⟩
    · right
      have : k = l.length := by omega
      subst this
      exact ⟨(), by simp only [F_law21_ImageChanges.l524282, nltd, cond_false], trivial⟩)
  exact ⟨r, hr⟩
theorem int_loop2 (L : List Int) (hL : L.length ≤ 1000000) : ∃ r, iter mx (F_law21_ImageChanges.l2097146 mx) ((0 : Int), L) = some r := by
  obtain ⟨r, hr, _⟩ := iter_inv (f := F_law21_ImageChanges.l2097146 mx) (fun s => ∃ k : Nat, s.1 = (k : Int) ∧ k ≤ L.length ∧ s.2.length = L.length) (fun s => L.length - s.1.toNat) (fun _ => True) ((0 : Int), L) ⟨0, rfl, Nat.zero_le _, rfl⟩ (by
    simp only [Int.toNat_zero, Nat.sub_zero]; exact lt_N0 (by omega)) (fun s ⟨k, e, hk, hl⟩ => by
    obtain ⟨i, l⟩ := s
    dsimp only at e hl
    subst e
    by_cases h1 : k < L.length
    · left
      have h2 : k < l.length := by omega
      refine ⟨_, by simp only [F_law21_ImageChanges.l2097146, ltd h2, lez, Bool.and_self, cond_true, Int.toNat_natCast, blt_t h2]; rfl, ⟨k + 1, by dsimp only; rw [inc64 (by omega)], by omega, by rw [List.length_set]; exact hl⟩, by dsimp only; rw [inc64 (by omega)]; omega⟩
    · right
      have : k = l.length := by omega
      subst this
      exact ⟨(), by simp only [F_law21_ImageChanges.l2097146, nltd, cond_false], trivial⟩)
  exact ⟨r, hr⟩
theorem applyS_len (v : Img) (cs : List Chg) : (applyS v cs).2.1.length ≤ 4 ∧ (applyS v cs).2.2.1.length ≤ 1024 := by
  by_cases h : (applyS v cs).2.2.2.2.2.2 = 0
  · obtain ⟨g1, g2, w, g3⟩ := applyS_zero.1 h
    have hok := apply_okI g1 (chErr_zero.1 g2).2.1 g3
    rw [applyS_val g1 g2 g3]
    exact ⟨hok.2.1.2.1, hok.2.2.1⟩
  · obtain ⟨e, he⟩ := applyS_bad h
    rw [he]; exact ⟨by simp [zeroI], by simp [zeroI]⟩
theorem self_ok (Y : ImgE) (h1 : Y.2.1.length ≤ 1000000) (h2 : Y.2.2.1.length ≤ 1000000) : F_ref21_Same mx (Y.1, Y.2.1, Y.2.2.1, Y.2.2.2.1, Y.2.2.2.2.1, Y.2.2.2.2.2.1, Y.1, Y.2.1, Y.2.2.1, Y.2.2.2.1, Y.2.2.2.2.1, Y.2.2.2.2.2.1) = some true := by
  have := rsame_ok (v := (Y.1, Y.2.1, Y.2.2.1, Y.2.2.2.1, Y.2.2.2.2.1, Y.2.2.2.2.2.1)) (w := (Y.1, Y.2.1, Y.2.2.1, Y.2.2.2.1, Y.2.2.2.2.1, Y.2.2.2.2.2.1)) (by dsimp only; omega) (by dsimp only; omega)
  rw [decide_eq_true rfl] at this
  exact this
theorem samech_ok {cs : List Chg} (h : cs.length ≤ 1000000) : F_ref01_SameChanges mx (cs, cs) = some true := by
  have := iter_count (f := F_ref01_SameChanges.l58 mx cs cs) (fun i => (i : Int)) cs.length (r := .inr ()) (lt_N0 (by omega)) (fun i hi => by
    simp only [F_ref01_SameChanges.l58, ltd hi, lez, Bool.and_self, cond_true, Int.toNat_natCast, beq_self_eq_true, Bool.not_true, cond_false]
    rw [inc64 (by omega)]) (by simp only [F_ref01_SameChanges.l58, nltd, cond_false])
  have this : iter mx (F_ref01_SameChanges.l58 mx cs cs) (0 : Int) = _ := this
  simp only [F_ref01_SameChanges, bne_self_eq_false, cond_false, this, Option.bind_some]
theorem same8_ok {q : List Int} (h : q.length ≤ 1000000) : F_ref08_Same mx (q, q) = some true := by
  have := iter_count (f := F_ref08_Same.l58 mx q q) (fun i => (i : Int)) q.length (r := .inr ()) (lt_N0 (by omega)) (fun i hi => by
    simp only [F_ref08_Same.l58, ltd hi, lez, Bool.and_self, cond_true, Int.toNat_natCast, bne_self_eq_false, cond_false]
    rw [inc64 (by omega)]) (by simp only [F_ref08_Same.l58, nltd, cond_false])
  have this : iter mx (F_ref08_Same.l58 mx q q) (0 : Int) = _ := this
  simp only [F_ref08_Same, bne_self_eq_false, cond_false, this, Option.bind_some]
theorem main {v : Img} (hv : wfV v) {cs : List Chg} (hcl : cs.length ≤ 140737488351232) (hw : ∀ c ∈ cs, wfC c) (tn : Int) (key : List Int) (n : Int) : F_law21_ImageChanges mx (v.1, v.2.1, v.2.2.1, v.2.2.2.1, v.2.2.2.2.1, v.2.2.2.2.2, cs, tn, key, n) = some true := by
  have hs6 := s6_ok v cs key (by have := hv.2.1; omega) (by omega)
  have ha := apply_ok hv.2.2 hw
  have hra := rapply_ok hv.2.2 hw
  have hwa : ∀ c ∈ [((4 : Int), (0 : Int), (([] : List Int), ([] : List Int), (0 : Int), (0 : Int), (0 : Int)), ([] : List Int), (0 : Int), n, false)], wfC c := fun c hc => by
    rw [List.mem_singleton] at hc; subst hc; exact ⟨⟨Int.le_refl 0, (by decide : (0 : Int) ≤ 4294967295)⟩, Int.le_refl 0, (by decide : (0 : Int) ≤ 18446744073709551615)⟩
  have hal := apply_ok hv.2.2 hwa
  have hral := rapply_ok hv.2.2 hwa
  have hg := get_ok hv.2.2 tn key
  have hrg := rget_ok hv.2.2 tn key
  have hck := check_ok hv.2.2
  have hrck := rcheck_ok hv.2.2
  obtain ⟨t, q, l, e, m, b⟩ := v
  dsimp only at hs6 ha hra hal hral hg hrg hck hrck ⊢
  rcases hs6 with h6 | ⟨h6, hq, hl, hc5⟩
  · simp only [F_law21_ImageChanges, h6, Option.bind_some]
  have c1 : Nat.ble q.length 4294967296 = true := ble_t (by omega)
  have c2 : Nat.ble l.length 4294967296 = true := ble_t (by omega)
  have c3 : Nat.ble cs.length 4294967296 = true := ble_t (by omega)
  have htw : F_ref21_Twin mx (t, q, l, e, m, b) = some (t, q, l, e, m, b) := by simp only [F_ref21_Twin, c1, c2, cond_true]
  obtain ⟨y1, y2⟩ := applyS_len (t, q, l, e, m, b) cs
  have hE1 := self_ok (applyS (t, q, l, e, m, b) cs) (by omega) (by omega)
  obtain ⟨z1, z2⟩ := applyS_len (t, q, l, e, m, b) [((4 : Int), (0 : Int), (([] : List Int), ([] : List Int), (0 : Int), (0 : Int), (0 : Int)), ([] : List Int), (0 : Int), n, false)]
  have hE2 := self_ok (applyS (t, q, l, e, m, b) [((4 : Int), (0 : Int), (([] : List Int), ([] : List Int), (0 : Int), (0 : Int), (0 : Int)), ([] : List Int), (0 : Int), n, false)]) (by omega) (by omega)
  have hi1 : F_image_Alive mx (t, q, l, e, m, b, n) = some (applyS (t, q, l, e, m, b) [((4 : Int), (0 : Int), (([] : List Int), ([] : List Int), (0 : Int), (0 : Int), (0 : Int)), ([] : List Int), (0 : Int), n, false)]) := by
    simp only [F_image_Alive, hal, Option.bind_some]
  have hi2 : F_ref21_Alive mx (t, q, l, e, m, b, n) = some (applyS (t, q, l, e, m, b) [((4 : Int), (0 : Int), (([] : List Int), ([] : List Int), (0 : Int), (0 : Int), (0 : Int)), ([] : List Int), (0 : Int), n, false)]) := by
    simp only [F_ref21_Alive, hral, Option.bind_some]
  obtain ⟨N, hN, hNl⟩ : ∃ N : ImgE, F_image_New mx q = some N ∧ F_ref21_New mx q = some N ∧ N.2.1.length ≤ 40 ∧ N.2.2.1.length ≤ 1000 := by
    refine ⟨_, new_ok, rnew_ok, ?_⟩
    by_cases h : quotasOk q
    · rw [if_pos h]; exact ⟨hq, by simp⟩
    · rw [if_neg h]; exact ⟨by simp [zeroI], by simp [zeroI]⟩
  have hE3 := self_ok N (by omega) (by omega)
  have hsv := same_img (v := (t, q, l, e, m, b)) (w := (t, q, l, e, m, b)) (by dsimp only; omega) (by dsimp only; omega)
  rw [decide_eq_true rfl] at hsv
  have hrv := rsame_ok (v := (t, q, l, e, m, b)) (w := (t, q, l, e, m, b)) (by dsimp only; omega) (by dsimp only; omega)
  rw [decide_eq_true rfl] at hrv
  generalize applyS (t, q, l, e, m, b) cs = Y at ha hra y1 y2 hE1
  generalize applyS (t, q, l, e, m, b) [((4 : Int), (0 : Int), (([] : List Int), ([] : List Int), (0 : Int), (0 : Int), (0 : Int)), ([] : List Int), (0 : Int), n, false)] = Z at hi1 hi2 z1 z2 hE2
  have hm1 := same_img (v := (t, q, l, e, m, b)) (w := (Y.1, Y.2.1, Y.2.2.1, Y.2.2.2.1, Y.2.2.2.2.1, Y.2.2.2.2.2.1)) (by dsimp only; omega) (by dsimp only; omega)
  have hm2 := rsame_ok (v := (t, q, l, e, m, b)) (w := (Y.1, Y.2.1, Y.2.2.1, Y.2.2.2.1, Y.2.2.2.2.1, Y.2.2.2.2.2.1)) (by dsimp only; omega) (by dsimp only; omega)
  obtain ⟨r1, hr1⟩ := kept_loop _ rfl Y.2.2.1 (by omega)
  obtain ⟨r2, hr2⟩ := int_loop Y.2.1 (by omega)
  obtain ⟨r3, hr3⟩ := kept_loop2 Z.2.2.1 (by omega)
  obtain ⟨r4, hr4⟩ := int_loop2 N.2.1 (by omega)
  dsimp only at hsv hrv hm1 hm2
  simp only [F_law21_ImageChanges, h6, Option.bind_some, htw, c3, cond_true, ha, hra, hg, hrg, hi1, hi2, c1, hN, hNl.1, hE1, Bool.not_true, cond_false, bne_self_eq_false, beq_self_eq_true, Bool.and_self, hE2, hE3, hck, hrck, hm1, hm2, hsv, hr1, hr2, hr3, hr4, hrv, samech_ok (cs := cs) (by omega), same8_ok (q := q) (by omega)]
theorem pure (q : Int × (List Int) × (List (Int × (List Int) × (List Int) × Int × Int × Int)) × Int × Int × Bool × (List (Int × Int × ((List Int) × (List Int) × Int × Int × Int) × (List Int) × Int × Int × Bool)) × Int × (List Int) × Int) (h : wfIns F_law21_ImageChanges.sig.pars q) : F_law21_ImageChanges mx q = some true := by
  obtain ⟨t, qs, l, e, n, b, cs, tn, key, m⟩ := q
  exact main (v := (t, qs, l, e, n, b)) (wfV_of h.1) h.2.1.1.2 (fun c hc => wfC_of (h.2.1.1.1 c hc)) tn key m
end Go.Proofs.Ytkggcbfkhkgeaaa.imageChanges
