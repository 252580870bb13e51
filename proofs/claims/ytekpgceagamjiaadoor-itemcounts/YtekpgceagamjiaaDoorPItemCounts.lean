/- The plain law of ItemCounts. -/
import Derived.Test.YtekpgceagamjiaaDoorK
namespace Go.Proofs.YtekpgceagamjiaaDoor.itemCounts
open Go.Abs
set_option maxRecDepth 100000
theorem take_dec {l : List Int} {i : Nat} (hi : i < l.length) : decI 0 (l.take (i + 1)) = decI 0 (l.take i) * 10 + ((l.getD i 0).toNat - 48) := by
  rw [List.take_add_one, List.getElem?_eq_getElem hi, Option.toList_some, decI_app, List.getD_eq_getElem?_getD, List.getElem?_eq_getElem hi]
  rfl
theorem take_le {l : List Int} (i : Nat) : decI 0 (l.take i) ≤ decI 0 l := by
  have h := decI_split (l.take i) (l.drop i) 0
  rw [List.take_append_drop] at h
  rw [h]
  exact decI_mono _ _
theorem mem_at {l : List Int} {i : Nat} (hi : i < l.length) : l.getD i 0 ∈ l := by
  rw [List.getD_eq_getElem?_getD, List.getElem?_eq_getElem hi]
  exact List.getElem_mem hi
theorem loop_ok {l : List Int} (hb : bytesI l) (hl : l.length ≤ 20) : iter mx (F_ref09_Number.l122 mx l) ((0 : Int), (0 : Int)) = some (if DigI l ∧ decI 0 l < 18446744073709551616 then .inr (decI 0 l : Int) else .inl (0, false)) := by
  obtain ⟨r, hr, hq⟩ := iter_inv (f := F_ref09_Number.l122 mx l) (fun s => ∃ i : Nat, s = ((decI 0 (l.take i) : Int), (i : Int)) ∧ i ≤ l.length ∧ decI 0 (l.take i) < 18446744073709551616 ∧ DigI (l.take i)) (fun s => l.length - s.2.toNat)
    (fun r => r = if DigI l ∧ decI 0 l < 18446744073709551616 then .inr (decI 0 l : Int) else .inl (0, false)) ((0 : Int), (0 : Int)) ⟨0, rfl, by omega, (by rw [List.take_zero]; show 0 < 18446744073709551616; omega), fun x hx => by simp at hx⟩ (lt_N0 (by dsimp only; omega))
    (fun s ⟨i, e, hi, ha, hd⟩ => by
      subst e
      by_cases g : i < l.length
      · have hc := hb _ (mem_at g)
        have hm := mem_at g
        by_cases g1 : l.getD i 0 < 48
        · refine .inr ⟨.inl (0, false), ?_, ?_⟩
          · show F_ref09_Number.l122 mx l ((decI 0 (l.take i) : Int), (i : Int)) = some (.fin (.inl (0, false)))
            simp only [F_ref09_Number.l122, ltd g, lez, Bool.and_self, cond_true, Int.toNat_natCast, decide_eq_true g1]
          · rw [if_neg]
            intro h
            have := h.1 _ hm
            omega
        by_cases g2 : 57 < l.getD i 0
        · refine .inr ⟨.inl (0, false), ?_, ?_⟩
          · show F_ref09_Number.l122 mx l ((decI 0 (l.take i) : Int), (i : Int)) = some (.fin (.inl (0, false)))
            simp only [F_ref09_Number.l122, ltd g, lez, Bool.and_self, cond_true, cond_false, Int.toNat_natCast, decide_eq_false g1, decide_eq_true g2]
          · rw [if_neg]
            intro h
            have := h.1 _ hm
            omega
        have hs := take_dec g
        have hle := take_le (l := l) (i + 1)
        generalize hA : decI 0 (l.take i) = A at ha hs
        obtain ⟨d, hd1⟩ : ∃ d : Nat, l.getD i 0 = 48 + (d : Int) := ⟨(l.getD i 0 - 48).toNat, by omega⟩
        have hd9 : d ≤ 9 := by omega
        have hs : decI 0 (l.take (i + 1)) = A * 10 + d := by rw [hs, hd1]; omega
        have w1 : IntKind.u64.wrap (IntKind.u8.wrap (48 + (d : Int) - 48)) = (d : Int) := by
          have : IntKind.u8.wrap (48 + (d : Int) - 48) = (d : Int) := by
            have : IntKind.u8.wrap (48 + (d : Int) - 48) = (48 + (d : Int) - 48) % 256 := by simp [IntKind.wrap, IntKind.signed, IntKind.bits]
            rw [this]; omega
          rw [this, IntKind.wrap_u64]; omega
        have w2 : IntKind.u64.wrap ((IntKind.u64.wrap (18446744073709551615 - (d : Int))).tdiv 10) = (((18446744073709551615 - d) / 10 : Nat) : Int) := by
          have : IntKind.u64.wrap (18446744073709551615 - (d : Int)) = 18446744073709551615 - (d : Int) := by rw [IntKind.wrap_u64]; omega
          rw [this, Int.tdiv_eq_ediv_of_nonneg (by omega), IntKind.wrap_u64]
          omega
        by_cases g3 : (18446744073709551615 - d) / 10 < A
        · refine .inr ⟨.inl (0, false), ?_, ?_⟩
          · show F_ref09_Number.l122 mx l ((A : Int), (i : Int)) = some (.fin (.inl (0, false)))
            simp only [F_ref09_Number.l122, ltd g, lez, Bool.and_self, cond_true, cond_false, Int.toNat_natCast, decide_eq_false g1, decide_eq_false g2]
            simp only [hd1, w1, w2, decide_eq_true (show (((18446744073709551615 - d) / 10 : Nat) : Int) < (A : Int) by omega), cond_true]
          · rw [if_neg]
            intro h
            have := h.2
            omega
        · have w3 : IntKind.u64.wrap (IntKind.u64.wrap (10 * (A : Int)) + (d : Int)) = ((A * 10 + d : Nat) : Int) := by
            have : IntKind.u64.wrap (10 * (A : Int)) = 10 * (A : Int) := by rw [IntKind.wrap_u64]; omega
            rw [this, IntKind.wrap_u64]; omega
          refine .inl ⟨((decI 0 (l.take (i + 1)) : Int), ((i + 1 : Nat) : Int)), ?_, ⟨i + 1, rfl, by omega, by rw [hs]; omega, ?_⟩, by dsimp only; omega⟩
          · show F_ref09_Number.l122 mx l ((A : Int), (i : Int)) = _
            simp only [F_ref09_Number.l122, ltd g, lez, Bool.and_self, cond_true, cond_false, Int.toNat_natCast, decide_eq_false g1, decide_eq_false g2]
            simp only [hd1, w1, w2, decide_eq_false (show ¬ (((18446744073709551615 - d) / 10 : Nat) : Int) < (A : Int) by omega), cond_false, w3, hs]
            rw [inc64 (by omega)]
          · intro x hx
            rw [List.take_add_one, List.getElem?_eq_getElem g, Option.toList_some] at hx
            rcases List.mem_append.1 hx with hx | hx
            · exact hd x hx
            · rw [List.mem_singleton] at hx
              rw [List.getD_eq_getElem?_getD, List.getElem?_eq_getElem g] at g1 g2
              subst hx
              have g1 : ¬ l[i] < 48 := g1
              have g2 : ¬ 57 < l[i] := g2
              omega
      · have : i = l.length := by omega
        subst this
        refine .inr ⟨.inr (decI 0 l : Int), ?_, ?_⟩
        · rw [List.take_length]
          simp only [F_ref09_Number.l122, nltd, cond_false]
        · rw [List.take_length] at ha hd
          rw [if_pos ⟨hd, ha⟩])
  rw [hr, hq]
theorem ref_num {l : List Int} (hb : bytesI l) : F_ref09_Number mx l = some (numI l) := by
  unfold numI
  by_cases h1 : l.length < 1
  · have : l = [] := List.length_eq_zero_iff.1 (by omega)
    subst this
    rw [if_pos (.inl (by simp))]
    rfl
  have hne : (l == ([] : List Int)) = false := by
    cases l with
    | nil => simp at h1
    | cons x r => rfl
  by_cases h2 : 20 < l.length
  · rw [if_pos (.inr (.inl h2))]
    simp only [F_ref09_Number, F_ref09_Number.s6, hne, cond_false, decide_eq_true (show (20 : Int) < (l.length : Int) by omega), cond_true, Option.bind_some]
  have d2 : decide ((20 : Int) < (l.length : Int)) = false := decide_eq_false (by omega)
  have d3 : decide ((0 : Int) < (l.length : Int)) = true := decide_eq_true (by omega)
  by_cases h3 : l.getD 0 0 = 48 ∧ 1 < l.length
  · rw [if_pos (.inr (.inr h3))]
    have h4 : (l == ([48] : List Int)) = false := by
      rw [beq_eq_false_iff_ne]
      intro e
      rw [e] at h3
      simp at h3
    simp only [F_ref09_Number, F_ref09_Number.s6, hne, d2, d3, h3.1, h4, cond_false, cond_true, beq_self_eq_true, Bool.not_false, Option.bind_some]
  rw [if_neg (show ¬ badI l from fun h => by rcases h with h | h | h <;> omega)]
  have hs : F_ref09_Number.s6 mx l = some (.inr ()) := by
    simp only [F_ref09_Number.s6, hne, d2, d3, cond_false, cond_true]
    by_cases h5 : l.getD 0 0 = 48
    · have h6 : l = [48] := by
        cases l with
        | nil => simp at h1
        | cons x r =>
          have hx : x = 48 := h5
          have h8 : ¬ 1 < (x :: r).length := fun h => h3 ⟨h5, h⟩
          rw [List.length_cons] at h8
          have hr : r = [] := List.length_eq_zero_iff.1 (by omega)
          rw [hx, hr]
      subst h6
      rfl
    · rw [beq_eq_false_iff_ne.2 h5]; rfl
  simp only [F_ref09_Number, hs, Option.bind_some, loop_ok hb (by omega)]
  by_cases h7 : DigI l ∧ decI 0 l < 18446744073709551616
  · rw [if_pos h7, if_pos h7]
  · rw [if_neg h7, if_neg h7]
theorem wr (x : Int) : 0 ≤ IntKind.u64.wrap x ∧ IntKind.u64.wrap x ≤ 18446744073709551615 := by rw [IntKind.wrap_u64]; omega
theorem count_both {l : List Int} (hb : bytesI l) {n : Int} (h0 : 0 ≤ n) (h1 : n ≤ 18446744073709551615) (down : Bool) : ∃ y, F_item_Count mx (l, n, down) = some y ∧ F_ref09_Count mx (l, n, down) = some y := by
  obtain ⟨r0, r1⟩ := numI_range l
  generalize hk : numI l = k at r0 r1
  obtain ⟨k, is⟩ := k
  simp only [F_item_Count, F_ref09_Count, F_item_Count.s14, F_ref09_Count.s30, item_num hb, ref_num hb, hk, Option.bind_some]
  cases is with
  | false => exact ⟨_, rfl, rfl⟩
  | true =>
    cases down with
    | false =>
      simp only [Bool.not_true, Bool.not_false, cond_true, cond_false, Option.bind_some, item_text (wr _).1 (wr _).2, ref_text (wr _).1 (wr _).2]
      exact ⟨_, rfl, rfl⟩
    | true =>
      simp only [Bool.not_true, cond_false, Option.bind_some, item_text (wr _).1 (wr _).2]
      unfold mnI
      by_cases g : k < n
      · rw [if_neg (by omega), decide_eq_true g]
        have : IntKind.u64.wrap (k - k) = 0 := by rw [IntKind.wrap_u64]; omega
        simp only [this, cond_true, Option.bind_some, ref_text (show (0 : Int) ≤ 0 by omega) (show (0 : Int) ≤ 18446744073709551615 by omega)]
        exact ⟨_, rfl, rfl⟩
      · rw [decide_eq_false g]
        have : (if n < k then n else k) = n := by split <;> omega
        rw [this]
        simp only [cond_false, Option.bind_some, ref_text (wr _).1 (wr _).2]
        exact ⟨_, rfl, rfl⟩
theorem join_both {a b : List Int} (ha : a.length ≤ 2000) (hb : b.length ≤ 2000) : ∃ y, F_item_Join mx (a, b) = some y ∧ F_ref09_Join mx (a, b) = some y := by
  have w1 : IntKind.i64.wrap ((a.length : Int) + (b.length : Int)) = (a.length : Int) + (b.length : Int) := w64 (by omega) (by omega)
  have w2 : IntKind.i64.wrap ((512 : Int) - (a.length : Int)) = (512 : Int) - (a.length : Int) := w64 (by omega) (by omega)
  simp only [F_item_Join, F_ref09_Join, w1, w2, ble_t (show a.length + b.length ≤ 140737488351232 by omega), cond_true]
  by_cases g : (512 : Int) < (a.length : Int) + (b.length : Int)
  · rw [decide_eq_true g]
    by_cases g1 : (512 : Int) < (a.length : Int)
    · rw [decide_eq_true g1]; exact ⟨_, rfl, rfl⟩
    · rw [decide_eq_false g1, decide_eq_true (show (512 : Int) - (a.length : Int) < (b.length : Int) by omega)]; exact ⟨_, rfl, rfl⟩
  · rw [decide_eq_false g, decide_eq_false (show ¬ (512 : Int) < (a.length : Int) by omega), decide_eq_false (show ¬ (512 : Int) - (a.length : Int) < (b.length : Int) by omega)]; exact ⟨_, rfl, rfl⟩
theorem main (s t : List Int) (n : Int) (down : Bool) (hs : bytesI s) (h0 : 0 ≤ n) (h1 : n ≤ 18446744073709551615) : F_law09_ItemCounts mx (s, t, n, down) = some true := by
  by_cases g1 : (2000 : Int) < (s.length : Int)
  · simp only [F_law09_ItemCounts, decide_eq_true g1, cond_true]
  by_cases g2 : (2000 : Int) < (t.length : Int)
  · simp only [F_law09_ItemCounts, decide_eq_false g1, decide_eq_true g2, cond_true, cond_false]
  obtain ⟨y, c1, c2⟩ := count_both hs h0 h1 down
  obtain ⟨z, j1, j2⟩ := join_both (a := s) (b := t) (by omega) (by omega)
  simp only [F_law09_ItemCounts, decide_eq_false g1, decide_eq_false g2, cond_false, item_num hs, ref_num hs, c1, c2, j1, j2, Option.bind_some, beq_self_eq_true, cond_true, item_text h0 h1, ref_text h0 h1]
theorem pure (p : (tupT (insL F_law09_ItemCounts.sig.pars)).den) (h : wfIns F_law09_ItemCounts.sig.pars p) : F_law09_ItemCounts mx p = some true := by
  obtain ⟨s, t, n, down⟩ := p
  exact main s t n down (fun x hx => by have := h.1.1.1 x hx; omega) (wfu64 h.2.2.1.1).1 (wfu64 h.2.2.1.1).2
end Go.Proofs.YtekpgceagamjiaaDoor.itemCounts
