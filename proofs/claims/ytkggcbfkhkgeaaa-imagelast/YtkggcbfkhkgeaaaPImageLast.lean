/- The plain law of ImageLast. -/
import Derived.Test.YtkggcbfkhkgeaaaKS
namespace Go.Proofs.Ytkggcbfkhkgeaaa.imageLast
open Go.Abs
set_option maxRecDepth 100000
theorem getS_zero (e tn : Int) (key : List Int) : getS (0, [], [], 0, 0, false) tn key = ([], [], 0, 0, 0, false, 8) := by
  unfold getS; rw [if_neg (fun h => by have := h.2.1.1; simp at this)]
theorem getS_err {v : Img} {tn : Int} {key : List Int} : (getS v tn key).2.2.2.2.2.2 = 0 ↔ okI v ∧ (0 ≤ tn ∧ tn ≤ (v.2.1.length : Int) - 1) ∧ (1 ≤ key.length ∧ key.length ≤ 32) := by
  unfold getS
  by_cases h1 : okI v
  case neg => rw [if_neg h1]; exact ⟨fun h => (by cases h), fun h => absurd h.1 h1⟩
  rw [if_pos h1]
  by_cases h2 : 0 ≤ tn ∧ tn ≤ (v.2.1.length : Int) - 1
  case neg => rw [if_neg h2]; exact ⟨fun h => (by cases h), fun h => absurd h.2.1 h2⟩
  rw [if_pos h2]
  by_cases h3 : 1 ≤ key.length ∧ key.length ≤ 32
  case neg => rw [if_neg h3]; exact ⟨fun h => (by cases h), fun h => absurd h.2.2 h3⟩
  rw [if_pos h3]
  refine ⟨fun _ => ⟨h1, h2, h3⟩, fun _ => ?_⟩
  cases v.2.2.1.find? (fun k => decide (nm k = (tn, key))) <;> rfl
theorem getS_bad {v : Img} {tn : Int} {key : List Int} (h : (getS v tn key).2.2.2.2.2.2 ≠ 0) : (getS v tn key).2.2.2.2.2.1 = false := by
  unfold getS at h ⊢
  by_cases h1 : okI v
  case neg => rw [if_neg h1]
  rw [if_pos h1] at h ⊢
  by_cases h2 : 0 ≤ tn ∧ tn ≤ (v.2.1.length : Int) - 1
  case neg => rw [if_neg h2]
  rw [if_pos h2] at h ⊢
  by_cases h3 : 1 ≤ key.length ∧ key.length ≤ 32
  case neg => rw [if_neg h3]
  rw [if_pos h3] at h ⊢
  cases hf : v.2.2.1.find? (fun k => decide (nm k = (tn, key))) with
  | none => rfl
  | some k => rw [hf] at h; exact absurd rfl h
/-- What Get answers, as what stands at the name. -/
theorem getS_holds {v : Img} {tn : Int} {key : List Int} (h : (getS v tn key).2.2.2.2.2.2 = 0) : Holds (tn, key) v ((getS v tn key).2.2.2.2.2.1, ((getS v tn key).1, (getS v tn key).2.1, (getS v tn key).2.2.1, (getS v tn key).2.2.2.1, (getS v tn key).2.2.2.2.1)) := by
  obtain ⟨h1, h2, h3⟩ := getS_err.1 h
  unfold getS
  rw [if_pos h1, if_pos h2, if_pos h3]
  cases hf : v.2.2.1.find? (fun k => decide (nm k = (tn, key))) with
  | none =>
    intro k
    constructor
    · rintro ⟨a, b⟩
      have := List.find?_eq_none.1 hf k a
      simp only [decide_eq_true_eq] at this
      exact absurd b this
    · rintro ⟨a, _⟩; cases a
  | some k0 =>
    have g1 := List.find?_some hf
    have g2 := List.mem_of_find?_eq_some hf
    simp only [decide_eq_true_eq] at g1
    have hk0 := (h1.2.2.2.2.2.1 k0 g2).2.2.2
    intro k
    constructor
    · rintro ⟨a, b⟩
      have : k = k0 := by
        obtain ⟨i, hi, rfl⟩ := List.mem_iff_getElem.1 a
        obtain ⟨j, hj, rfl⟩ := List.mem_iff_getElem.1 g2
        have hn := h1.2.2.2.2.2.2
        have e : (v.2.2.1.map nm)[i]'(by rw [List.length_map]; exact hi) = (v.2.2.1.map nm)[j]'(by rw [List.length_map]; exact hj) := by rw [List.getElem_map, List.getElem_map, b, g1]
        have := (List.getElem_inj hn).1 e
        subst this; rfl
      subst this
      refine ⟨rfl, hk0, ?_⟩
      have : k.1 = tn := congrArg Prod.fst b
      show k = (tn, k.2)
      rw [← this]
    · rintro ⟨_, _, a⟩
      have : k = k0 := by
        have : k0.1 = tn := congrArg Prod.fst g1
        rw [a]
        show (tn, k0.2) = k0
        rw [← this]
      rw [this]; exact ⟨g2, g1⟩
theorem holds_uniq {x : Nm} {v : Img} {a b : Bool × Itm} (h1 : Holds x v a) (h2 : Holds x v b) (ha : a.1 = true → dueB a.2 v.1 = false) : a.1 = (b.1 && !dueB b.2 v.1) ∧ (a.1 = true → a.2 = b.2) := by
  cases ea : a.1 with
  | true =>
    obtain ⟨p1, p2, p3⟩ := (h2 (x.1, a.2)).1 ((h1 (x.1, a.2)).2 ⟨ea, ha ea, rfl⟩)
    rw [p1, p2]
    exact ⟨rfl, fun _ => (Prod.ext_iff.1 p3).2⟩
  | false =>
    refine ⟨?_, fun h => by cases h⟩
    cases eb : b.1 with
    | false => rfl
    | true =>
      cases ed : dueB b.2 v.1 with
      | true => rfl
      | false =>
        have := ((h1 (x.1, b.2)).1 ((h2 (x.1, b.2)).2 ⟨eb, ed, rfl⟩)).1
        rw [ea] at this; cases this
theorem getS_due {v : Img} {tn : Int} {key : List Int} (h : (getS v tn key).2.2.2.2.2.1 = true) : dueB ((getS v tn key).1, (getS v tn key).2.1, (getS v tn key).2.2.1, (getS v tn key).2.2.2.1, (getS v tn key).2.2.2.2.1) v.1 = false := by
  unfold getS at h ⊢
  by_cases h1 : okI v
  case neg => rw [if_neg h1] at h; cases h
  rw [if_pos h1] at h ⊢
  by_cases h2 : 0 ≤ tn ∧ tn ≤ (v.2.1.length : Int) - 1
  case neg => rw [if_neg h2] at h; cases h
  rw [if_pos h2] at h ⊢
  by_cases h3 : 1 ≤ key.length ∧ key.length ≤ 32
  case neg => rw [if_neg h3] at h; cases h
  rw [if_pos h3] at h ⊢
  cases hf : v.2.2.1.find? (fun k => decide (nm k = (tn, key))) with
  | none => rw [hf] at h; cases h
  | some k => exact (h1.2.2.2.2.2.1 k (List.mem_of_find?_eq_some hf)).2.2.2
theorem s8190_ok (t : Int) (r : List Int × List Kept × Int × Int × Bool × Int) (th : Bool) (k v : List Int) (f d c : Int) : F_law21_ImageLast.s8190 mx (t, r) (th, k, v, f, d, c) = some (th && !dueB (k, v, f, d, c) t) := by
  simp only [F_law21_ImageLast.s8190, bne_int, dueB]
  cases th with
  | false => rfl
  | true =>
    simp only [cond_true, Bool.true_and]
    by_cases d1 : d = 0
    · rw [decide_eq_true d1, decide_eq_false (show ¬ (d ≠ 0 ∧ d ≤ t) from fun hh => hh.1 d1)]; rfl
    · rw [decide_eq_false d1]
      by_cases d2 : d ≤ t
      · rw [decide_eq_true d2, decide_eq_true (show d ≠ 0 ∧ d ≤ t from ⟨d1, d2⟩)]; rfl
      · rw [decide_eq_false d2, decide_eq_false (show ¬ (d ≠ 0 ∧ d ≤ t) from fun hh => d2 hh.2)]; rfl
theorem main {v : Img} (hv : wfV v) {cs : List Chg} (hcl : cs.length ≤ 140737488351232) (hw : ∀ c ∈ cs, wfC c) (tn : Int) (key : List Int) : F_law21_ImageLast mx (v.1, v.2.1, v.2.2.1, v.2.2.2.1, v.2.2.2.2.1, v.2.2.2.2.2, cs, tn, key) = some true := by
  obtain ⟨b, hb, hb5⟩ := small_some v cs (by have := hv.2.1; omega) (by omega)
  simp only [F_law21_ImageLast, alive_ok, hb, Option.bind_some, Bool.not_true, cond_false]
  cases b with
  | false => rfl
  | true =>
    simp only [Bool.not_true, cond_false]
    by_cases h1 : 1000 < key.length
    · rw [decide_eq_true (show (1000 : Int) < (key.length : Int) by omega)]; rfl
    rw [decide_eq_false (show ¬ (1000 : Int) < (key.length : Int) by omega)]
    simp only [cond_false, apply_ok hv.2.2 hw, Option.bind_some, get_ok hv.2.2]
    by_cases h3 : (applyS v cs).2.2.2.2.2.2 = 0
    case neg =>
      obtain ⟨e, he⟩ := applyS_bad h3
      rw [he] at h3 ⊢
      have hg := get_ok (v := ((0 : Int), ([] : List Int), ([] : List Kept), (0 : Int), (0 : Int), false)) (by intro k hk; cases hk) tn key
      rw [getS_zero e] at hg
      have hg : F_image_Get mx (0, [], [], 0, 0, false, tn, key) = _ := hg
      have hne : (e != 0) = true := bne_iff_ne.2 h3
      simp only [zeroI, hg, Option.bind_some, F_law21_ImageLast.s508, hne, cond_true, Bool.not_false]
    obtain ⟨g1, g2, w, g3⟩ := applyS_zero.1 h3
    have hokw := apply_okI g1 (chErr_zero.1 g2).2.1 g3
    have hgw := get_ok (okI_len hokw) tn key
    rw [applyS_val g1 g2 g3]
    simp only [withE, hgw, Option.bind_some, F_law21_ImageLast.s508, bne_self_eq_false, cond_false, bne_int]
    by_cases h4 : (getS w tn key).2.2.2.2.2.2 = 0
    case neg =>
      rw [decide_eq_false h4]
      simp only [Bool.not_false, cond_true, getS_bad h4]
    obtain ⟨_, r2, r3⟩ := getS_err.1 h4
    have hq := apply_quotas g3
    have h5 : (getS v tn key).2.2.2.2.2.2 = 0 := getS_err.2 ⟨g1, by rw [← hq.1]; exact r2, r3⟩
    rw [h4, h5]
    simp only [decide_true, Bool.not_true, cond_false]
    have hlo := last_ok (cs := cs) (by have := hb5 rfl; omega) (tn, key)
    dsimp only at hlo
    rw [hlo]
    simp only [Option.bind_some]
    have hfin := apply_holds (getS_holds h5) g3
    have hu := holds_uniq (getS_holds h4) hfin (fun hh => getS_due hh)
    dsimp only at hu
    have hx20 : F_law21_ImageLast.s4094 mx cs (getS v tn key) (lastT cs (tn, key) cs.length) = some (cs.foldl (stepT (tn, key)) ((getS v tn key).2.2.2.2.2.1, ((getS v tn key).1, (getS v tn key).2.1, (getS v tn key).2.2.1, (getS v tn key).2.2.2.1, (getS v tn key).2.2.2.2.1))) := by
      have hf := foldT cs (tn, key) ((getS v tn key).2.2.2.2.2.1, ((getS v tn key).1, (getS v tn key).2.1, (getS v tn key).2.2.1, (getS v tn key).2.2.2.1, (getS v tn key).2.2.2.2.1)) cs.length (Nat.le_refl _)
      rw [List.take_length] at hf
      rcases hf with ⟨a, b⟩ | ⟨j, a, b, c⟩
      · rw [a, b]; rfl
      · rw [b, c]
        simp only [F_law21_ImageLast.s4094, lez, ltd a, Bool.and_self, cond_true, Int.toNat_natCast]
    rw [hx20]
    generalize hst : cs.foldl (stepT (tn, key)) ((getS v tn key).2.2.2.2.2.1, ((getS v tn key).1, (getS v tn key).2.1, (getS v tn key).2.2.1, (getS v tn key).2.2.2.1, (getS v tn key).2.2.2.2.1)) = st at hu
    generalize getS w tn key = y at hu
    obtain ⟨th, it⟩ := st
    obtain ⟨y1, y2, y3, y4, y5, y6, y7⟩ := y
    dsimp only at hu
    obtain ⟨i1, i2, i3, i4, i5⟩ := it
    have hs := s8190_ok w.1 (w.2.1, w.2.2.1, w.2.2.2.1, w.2.2.2.2.1, w.2.2.2.2.2, 0) th i1 i2 i3 i4 i5
    simp only [Option.bind_some, hs, ← hu.1, beq_self_eq_true, cond_true]
    cases y6 with
    | false => rfl
    | true =>
      have := hu.2 rfl
      simp only [Prod.mk.injEq] at this
      obtain ⟨rfl, rfl, rfl, rfl, rfl⟩ := this
      simp only [Bool.not_true, cond_false, beq_self_eq_true, Bool.and_self]
theorem pure (q : Int × (List Int) × (List (Int × (List Int) × (List Int) × Int × Int × Int)) × Int × Int × Bool × (List (Int × Int × ((List Int) × (List Int) × Int × Int × Int) × (List Int) × Int × Int × Bool)) × Int × (List Int)) (h : wfIns F_law21_ImageLast.sig.pars q) : F_law21_ImageLast mx q = some true := by
  obtain ⟨t, qs, l, e, n, b, cs, tn, key⟩ := q
  exact main (v := (t, qs, l, e, n, b)) (wfV_of h.1) h.2.1.1.2 (fun c hc => wfC_of (h.2.1.1.1 c hc)) tn key
end Go.Proofs.Ytkggcbfkhkgeaaa.imageLast
