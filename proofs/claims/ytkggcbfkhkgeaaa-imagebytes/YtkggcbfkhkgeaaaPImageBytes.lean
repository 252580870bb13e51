/- The plain law of ImageBytes. -/
import Derived.Test.YtkggcbfkhkgeaaaKRx
namespace Go.Proofs.Ytkggcbfkhkgeaaa.imageBytes
open Go.Abs
set_option maxRecDepth 100000
theorem self_ok (Y : ImgE) (h1 : Y.2.1.length ≤ 1000000) (h2 : Y.2.2.1.length ≤ 1000000) : F_ref21_Same mx (Y.1, Y.2.1, Y.2.2.1, Y.2.2.2.1, Y.2.2.2.2.1, Y.2.2.2.2.2.1, Y.1, Y.2.1, Y.2.2.1, Y.2.2.2.1, Y.2.2.2.2.1, Y.2.2.2.2.2.1) = some true := by
  have := rsame_ok (v := (Y.1, Y.2.1, Y.2.2.1, Y.2.2.2.1, Y.2.2.2.2.1, Y.2.2.2.2.2.1)) (w := (Y.1, Y.2.1, Y.2.2.1, Y.2.2.2.1, Y.2.2.2.2.1, Y.2.2.2.2.2.1)) (by dsimp only; omega) (by dsimp only; omega)
  rw [decide_eq_true rfl] at this
  exact this
theorem samech_ok {cs : List Chg} (h : cs.length ≤ 1000000) : F_ref01_SameChanges mx (cs, cs) = some true := by
  have := iter_count (f := F_ref01_SameChanges.l58 mx cs cs) (fun i => (i : Int)) cs.length (r := .inr ()) (lt_N0 (by omega)) (fun i hi => by
    simp only [F_ref01_SameChanges.l58, ltd hi, lez, Bool.and_self, cond_true, Int.toNat_natCast, beq_self_eq_true, Bool.not_true, cond_false]
    rw [inc64 (by omega)]) (by simp only [F_ref01_SameChanges.l58, nltd, cond_false])
  have this : iter mx (F_ref01_SameChanges.l58 mx cs cs) (0 : Int) = _ := this
  simp only [F_ref01_SameChanges, bne_self_eq_false, cond_false, this, Option.bind_some]
theorem main {v : Img} (hv : wfV v) (hwk : ∀ k ∈ v.2.2.1, wfK k) {a : List Int} (ha : bytesI a) : F_law21_ImageBytes mx (v.1, v.2.1, v.2.2.1, v.2.2.2.1, v.2.2.2.2.1, v.2.2.2.2.2, a) = some true := by
  obtain ⟨b1, e1, f1⟩ := great_some v (by have := hv.2.1; omega)
  have hwr := write_ok hv.2.2 hwk
  have hrwr := rwrite_ok hv.2.2 hwk
  have hfr := from_ok hv.2.2
  have hrfr := rfrom_ok hv.2.2
  obtain ⟨y, hy1, hy2, hy3, hy4⟩ := both_read ha
  have hs := self_ok y (by omega) (by omega)
  obtain ⟨t, q, l, e, n, b⟩ := v
  dsimp only at e1 f1 hwr hrwr hfr hrfr ⊢
  simp only [F_law21_ImageBytes, e1, Option.bind_some]
  cases b1 with
  | true => rfl
  | false =>
    obtain ⟨f2, f3⟩ := f1 rfl
    by_cases h1 : 100000 < a.length
    · rw [decide_eq_true (show (100000 : Int) < (a.length : Int) by omega)]; rfl
    rw [decide_eq_false (show ¬ (100000 : Int) < (a.length : Int) by omega)]
    have c1 : Nat.ble q.length 4294967296 = true := ble_t (by omega)
    have c2 : Nat.ble l.length 4294967296 = true := ble_t (by omega)
    have c3 : Nat.ble a.length 140737488351232 = true := ble_t (by omega)
    have htw : F_ref21_Twin mx (t, q, l, e, n, b) = some (t, q, l, e, n, b) := by simp only [F_ref21_Twin, c1, c2, cond_true]
    have hsv := rsame_ok (v := (t, q, l, e, n, b)) (w := (t, q, l, e, n, b)) (by dsimp only; omega) (by dsimp only; omega)
    rw [decide_eq_true rfl] at hsv
    dsimp only at hsv
    have hfl : (fromS (t, q, l, e, n, b)).1.length ≤ 1000000 := by
      unfold fromS; split
      · rw [fromL_len]; dsimp only; omega
      · simp
    simp only [cond_false, htw, Option.bind_some, c3, cond_true, hwr, hrwr, hy1, hy2, hfr, hrfr, beq_self_eq_true, hs, samech_ok hfl, hsv]
theorem pure (q : Int × (List Int) × (List (Int × (List Int) × (List Int) × Int × Int × Int)) × Int × Int × Bool × (List Int)) (h : wfIns F_law21_ImageBytes.sig.pars q) : F_law21_ImageBytes mx q = some true := by
  obtain ⟨t, qs, l, e, n, b, a⟩ := q
  exact main (v := (t, qs, l, e, n, b)) (wfV_of h.1) (fun k hk => wfK_of (h.1.2.2.1.1 k hk)) (bytes8_of h.2.1.1)
end Go.Proofs.Ytkggcbfkhkgeaaa.imageBytes
