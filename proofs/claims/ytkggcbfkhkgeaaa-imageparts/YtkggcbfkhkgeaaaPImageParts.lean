/- The plain law of ImageParts. -/
import Derived.Test.YtkggcbfkhkgeaaaKIg
namespace Go.Proofs.Ytkggcbfkhkgeaaa.imageParts
open Go.Abs
set_option maxRecDepth 100000
theorem main {v : Img} (hv : wfV v) {cs : List Chg} (hcl : cs.length ≤ 140737488351232) (hw : ∀ c ∈ cs, wfC c) (n : Int) : F_law21_ImageParts mx (v.1, v.2.1, v.2.2.1, v.2.2.2.1, v.2.2.2.2.1, v.2.2.2.2.2, cs, n) = some true := by
  obtain ⟨b, hb, hb5⟩ := small_some v cs (by have := hv.2.1; omega) (by omega)
  simp only [F_law21_ImageParts, alive_ok, hb, Option.bind_some, Bool.not_true, cond_false]
  cases b with
  | false => rfl
  | true =>
    simp only [Bool.not_true, cond_false]
    by_cases h1 : n < 0
    · rw [decide_eq_true h1]; rfl
    rw [decide_eq_false h1]
    by_cases h2 : (cs.length : Int) < n
    · rw [decide_eq_true h2]; rfl
    rw [decide_eq_false h2]
    obtain ⟨k, rfl⟩ := Int.eq_ofNat_of_zero_le (show 0 ≤ n by omega)
    have hk : k ≤ cs.length := by omega
    simp only [cond_false, apply_ok hv.2.2 hw, Option.bind_some, lez, decide_eq_true (show (k : Int) ≤ (cs.length : Int) by omega), Int.le_refl, decide_true, Bool.and_self, cond_true, Int.toNat_natCast, List.drop_zero,
      apply_ok hv.2.2 (cs := cs.take k) (fun c hc => hw c (List.mem_of_mem_take hc)), List.take_length, bne_int, ieq]
    by_cases h3 : (applyS v cs).2.2.2.2.2.2 = 0
    case neg =>
      rw [decide_eq_false h3]
      obtain ⟨e, he⟩ := applyS_bad h3
      rw [he]; rfl
    rw [decide_eq_true h3]
    obtain ⟨g1, g2, w, g3⟩ := applyS_zero.1 h3
    have hsplit : cs = cs.take k ++ cs.drop k := (List.take_append_drop k cs).symm
    have hp := chErr_part (a := cs.take k) (b := cs.drop k) (by rw [← hsplit]; exact g2)
    have ha := applyL_app (cs.take k) (cs.drop k) v
    rw [← hsplit, g3] at ha
    cases ho : applyL v (cs.take k) with
    | inl e => rw [ho] at ha; cases ha
    | inr w1 =>
      rw [ho] at ha
      dsimp only at ha
      have hok1 := apply_okI g1 (chErr_zero.1 hp.1).2.1 ho
      have hok := apply_okI g1 (chErr_zero.1 g2).2.1 g3
      rw [applyS_val g1 g2 g3, applyS_val g1 hp.1 ho]
      simp only [withE, decide_true, Bool.not_true, cond_false]
      rw [apply_ok (okI_len hok1) (fun c hc => hw c (List.mem_of_mem_drop hc)), applyS_val hok1 hp.2 ha.symm]
      have hs := same_img (v := w) (w := w) (by have := hok.2.1.2.1; omega) (by have := hok.2.2.1; omega)
      have c1 := check_ok (okI_len hok)
      have c2 := check_ok (okI_len hok1)
      rw [if_pos hok] at c1
      rw [if_pos hok1] at c2
      have c1 : F_image_Check mx (w.1, w.2.1, w.2.2.1, w.2.2.2.1, w.2.2.2.2.1, w.2.2.2.2.2) = some 0 := c1
      have c2 : F_image_Check mx (w1.1, w1.2.1, w1.2.2.1, w1.2.2.2.1, w1.2.2.2.2.1, w1.2.2.2.2.2) = some 0 := c2
      have hs : F_image_Same mx (w.1, w.2.1, w.2.2.1, w.2.2.2.1, w.2.2.2.2.1, w.2.2.2.2.2, w.1, w.2.1, w.2.2.1, w.2.2.2.1, w.2.2.2.2.1, w.2.2.2.2.2) = _ := hs
      simp only [withE, Option.bind_some, hs, c1, c2, decide_true, cond_true]
theorem pure (q : Int × (List Int) × (List (Int × (List Int) × (List Int) × Int × Int × Int)) × Int × Int × Bool × (List (Int × Int × ((List Int) × (List Int) × Int × Int × Int) × (List Int) × Int × Int × Bool)) × Int) (h : wfIns F_law21_ImageParts.sig.pars q) : F_law21_ImageParts mx q = some true := by
  obtain ⟨t, qs, l, e, n, b, cs, k⟩ := q
  exact main (v := (t, qs, l, e, n, b)) (wfV_of h.1) h.2.1.1.2 (fun c hc => wfC_of (h.2.1.1.1 c hc)) k
end Go.Proofs.Ytkggcbfkhkgeaaa.imageParts
