/- The plain law of ImageBack. -/
import Derived.Test.YtkggcbfkhkgeaaaKF
namespace Go.Proofs.Ytkggcbfkhkgeaaa.imageBack
open Go.Abs
set_option maxRecDepth 100000
theorem newq_ok {n : Nat} (h1 : 1 ≤ n) (h2 : n ≤ 4) : F_image_New mx (List.replicate n 0) = some (0, List.replicate n 0, [], 0, 0, false, 0) := by
  have hq : quotasOk (List.replicate n 0) := ⟨by simpa using h1, by simpa using h2, fun x hx => by rw [List.mem_replicate] at hx; rw [hx.2]; exact ⟨by decide, by decide⟩⟩
  have c1 : Nat.ble (List.replicate n (0 : Int)).length 4294967296 = true := ble_t (by rw [List.length_replicate]; omega)
  simp only [F_image_New, quotas_ok, decide_eq_true hq, Option.bind_some, Bool.not_true, cond_false, C_slices_Clone_int, c1, cond_true]
theorem main {v : Img} (hv : wfV v) (hwk : ∀ k ∈ v.2.2.1, wfK k) (hby : ∀ k ∈ v.2.2.1, bytesI k.2.1 ∧ bytesI k.2.2.1) {a : List Int} (ha : bytesI a) : F_law21_ImageBack mx (v.1, v.2.1, v.2.2.1, v.2.2.2.1, v.2.2.2.2.1, v.2.2.2.2.2, a) = some true := by
  obtain ⟨b1, e1, f1⟩ := great_some v (by have := hv.2.1; omega)
  have e1 : F_ref21_Great mx (v.1, v.2.1, v.2.2.1, v.2.2.2.1, v.2.2.2.2.1, v.2.2.2.2.2) = some b1 := e1
  have hwr := write_ok hv.2.2 hwk
  have hwr : F_image_Write mx (v.1, v.2.1, v.2.2.1, v.2.2.2.1, v.2.2.2.2.1, v.2.2.2.2.2) = _ := hwr
  simp only [F_law21_ImageBack, alive_ok, e1, Option.bind_some, Bool.not_true, cond_false]
  cases b1 with
  | true => rfl
  | false =>
    obtain ⟨f2, f3⟩ := f1 rfl
    by_cases h1 : 100000 < a.length
    · rw [decide_eq_true (show (100000 : Int) < (a.length : Int) by omega)]; rfl
    rw [decide_eq_false (show ¬ (100000 : Int) < (a.length : Int) by omega)]
    have hs := same_img (v := v) (w := v) (by omega) (by omega)
    rw [decide_eq_true rfl] at hs
    have part1 : F_law21_ImageBack.s126 mx v.1 v.2.1 v.2.2.1 v.2.2.2.1 v.2.2.2.2.1 v.2.2.2.2.2 (writeS v) = some (.inr ()) := by
      simp only [F_law21_ImageBack.s126, ieq]
      by_cases g1 : (writeS v).2 = 0
      · have hw : writeS v = ((writeS v).1, 0) := Prod.ext rfl g1
        obtain ⟨k1, k2, k3⟩ := writeS_ok hw
        have hrd := read_sm hw (by rw [← k2]; exact imgB_bytes k1 hwk hby) hwk
        rw [decide_eq_true g1]
        simp only [cond_true, hrd, Option.bind_some]
        have hs : F_image_Same mx ((withE v).1, (withE v).2.1, (withE v).2.2.1, (withE v).2.2.2.1, (withE v).2.2.2.2.1, (withE v).2.2.2.2.2.1, v.1, v.2.1, v.2.2.1, v.2.2.2.1, v.2.2.2.2.1, v.2.2.2.2.2) = some true := hs
        rw [hs]; rfl
      · rw [decide_eq_false g1]; rfl
    have part2 : F_law21_ImageBack.s510 mx v.1 v.2.1 v.2.2.1 v.2.2.2.1 v.2.2.2.2.1 v.2.2.2.2.2 (fromS v) = some (.inr ()) := by
      obtain ⟨hb, e2, _⟩ := heavy_some (fromS v).1 (by unfold fromS; split <;> simp [fromL_len]; omega)
      by_cases g1 : okI v
      case neg =>
        have : F_law21_ImageBack.s1020 mx (fromS v) = some false := by
          unfold fromS; rw [if_neg g1]; rfl
        simp only [F_law21_ImageBack.s510, this, Option.bind_some, cond_false]
      have hf : fromS v = (fromL v, 0) := by unfold fromS; rw [if_pos g1]
      rw [hf] at e2 ⊢
      have hs2 : F_law21_ImageBack.s1020 mx (fromL v, 0) = some (!hb) := by
        simp only [F_law21_ImageBack.s1020, beq_self_eq_true, cond_true, e2, Option.bind_some]
      simp only [F_law21_ImageBack.s510, hs2, Option.bind_some]
      cases hb with
      | true => rfl
      | false =>
        have q1 := g1.2.1.1
        have q2 := g1.2.1.2.1
        simp only [Bool.not_false, cond_true, lez, Int.le_refl, decide_true, Bool.and_self, decide_eq_true (show (v.2.1.length : Int) ≤ 4294967296 by omega), Int.toNat_natCast, newq_ok q1 q2, Option.bind_some]
        have hap := apply_ok (v := ((0 : Int), List.replicate v.2.1.length (0 : Int), ([] : List Kept), (0 : Int), (0 : Int), false)) (fun k hk => by cases hk) (cs := fromL v) (fun c hc => by
          unfold fromL at hc
          simp only [List.mem_append, List.mem_singleton, List.mem_cons, List.not_mem_nil, or_false, List.mem_map, qsCh, List.mem_range] at hc
          have z : ∀ k t bb h n y, wfC (k, t, I0, bb, h, n, y) := fun _ _ _ _ _ _ => ⟨⟨Int.le_refl 0, (by decide : (0 : Int) ≤ 4294967295)⟩, Int.le_refl 0, (by decide : (0 : Int) ≤ 18446744073709551615)⟩
          rcases hc with ((rfl | ⟨i, hi, rfl⟩) | ⟨k, hk', rfl⟩) | rfl | rfl
          · exact z _ _ _ _ _ _
          · exact z _ _ _ _ _ _
          · exact hwk k hk'
          · exact z _ _ _ _ _ _
          · exact z _ _ _ _ _ _)
        have hap : F_image_Apply mx (0, List.replicate v.2.1.length 0, [], 0, 0, false, fromL v) = _ := hap
        rw [hap]
        have hok0 : okI (0, List.replicate v.2.1.length 0, [], 0, 0, false) := ⟨⟨Int.le_refl 0, (by decide : (0 : Int) ≤ 1099511627776)⟩, ⟨by simpa using q1, by simpa using q2, fun x hx => by
          rw [List.mem_replicate] at hx; rw [hx.2]; exact ⟨by decide, by decide⟩⟩, by simp, ⟨Int.le_refl 0, (by decide : (0 : Int) ≤ 2147483647)⟩, ⟨Int.le_refl 0, (by decide : (0 : Int) ≤ 2147483647)⟩, fun k hk => (by cases hk), by simp⟩
        have hap2 : applyS (0, List.replicate v.2.1.length 0, [], 0, 0, false) (fromL v) = withE v ∨ applyS (0, List.replicate v.2.1.length 0, [], 0, 0, false) (fromL v) = zeroI 3 := by
          obtain ⟨m1, m2⟩ := fromL_ok g1
          have hce : chErr (fromL v) = if 65536 < (chBytes (fromL v)).length then 3 else 0 := by
            unfold chErr; rw [if_neg (show ¬ 4096 < (fromL v).length by omega), if_pos m2]
          unfold applyS
          rw [if_pos hok0, from_apply g1, hce]
          by_cases m3 : 65536 < (chBytes (fromL v)).length
          · simp only [if_pos m3]; rw [if_neg (by decide)]; exact .inr rfl
          · simp only [if_neg m3]; exact .inl rfl
        rcases hap2 with hap2 | hap2
        · rw [hap2]
          have hs : F_image_Same mx ((withE v).1, (withE v).2.1, (withE v).2.2.1, (withE v).2.2.2.1, (withE v).2.2.2.2.1, (withE v).2.2.2.2.2.1, v.1, v.2.1, v.2.2.1, v.2.2.2.1, v.2.2.2.2.1, v.2.2.2.2.2) = some true := hs
          simp only [Option.bind_some, hs]
          rfl
        · rw [hap2]; rfl
    simp only [cond_false, hwr, Option.bind_some, part1, from_ok hv.2.2, part2]
    by_cases h2 : 65536 < a.length
    · rw [read_big h2]; rfl
    obtain ⟨y, hy, hR⟩ := read_tot ha (by omega)
    rw [hy]
    rcases hR with rfl | ⟨w, rfl, hw1, hw2⟩
    · rfl
    · have hwr2 := write_ok (v := w) (fun k hk => (hw1.1 k hk).1) hw1.2
      rw [hw2] at hwr2
      have hwr2 : F_image_Write mx ((withE w).1, (withE w).2.1, (withE w).2.2.1, (withE w).2.2.2.1, (withE w).2.2.2.2.1, (withE w).2.2.2.2.2.1) = _ := hwr2
      simp only [Option.bind_some, hwr2]
      simp only [withE, bne_self_eq_false, cond_false, beq_self_eq_true, cond_true]
theorem pure (q : Int × (List Int) × (List (Int × (List Int) × (List Int) × Int × Int × Int)) × Int × Int × Bool × (List Int)) (h : wfIns F_law21_ImageBack.sig.pars q) : F_law21_ImageBack mx q = some true := by
  obtain ⟨t, qs, l, e, n, b, a⟩ := q
  exact main (v := (t, qs, l, e, n, b)) (wfV_of h.1) (fun k hk => wfK_of (h.1.2.2.1.1 k hk)) (fun k hk => ⟨bytes_of (h.1.2.2.1.1 k hk).2.1, bytes_of (h.1.2.2.1.1 k hk).2.2.1⟩) (bytes8_of h.2.1.1)
end Go.Proofs.Ytkggcbfkhkgeaaa.imageBack
