/- An image is read. -/
import Derived.Test.YtmkfifilpkhfoaaKIv
namespace Go.Proofs.Ytmkfifilpkhfoaa
open Go.Abs
set_option maxRecDepth 100000
def Rd (a : List Int) : Prop := bytesI a ∧ a.length ≤ 70000
theorem Rd.drop {a : List Int} (h : Rd a) (n : Nat) : Rd (a.drop n) := ⟨bytesI_drop h.1 n, by rw [List.length_drop]; have := h.2; omega⟩
theorem Rd.take {a : List Int} (h : Rd a) (n : Nat) : Rd (a.take n) := ⟨bytesI_take h.1 n, by rw [List.length_take]; have := h.2; omega⟩
theorem Rd.right {a b : List Int} (h : Rd (a ++ b)) : Rd b := ⟨fun x hx => h.1 x (List.mem_append.2 (.inr hx)), by have := h.2; rw [List.length_append] at this; omega⟩
theorem wide_eq {a : List Int} {v e : Int} {n : Nat} (h : F_code_Read mx a = some (v, (n : Int), e)) (hn : n ≤ a.length) (bad : Bool) : F_image_reader_wide mx (a, bad) = some (v, a.drop n, bad || (e != 0)) := by
  have hs : F_image_reader_wide.s14 mx a bad (v, (n : Int), e) = some (a, bad || (e != 0)) := by
    cases bad <;> rfl
  simp only [F_image_reader_wide, h, Option.bind_some, hs, lez, decide_eq_true (show (n : Int) ≤ (a.length : Int) by omega), Int.le_refl, decide_true, Bool.and_self, cond_true, Int.toNat_natCast, List.take_length]
theorem wide_tot {a : List Int} (ha : Rd a) (bad : Bool) : ∃ v rest bad', F_image_reader_wide mx (a, bad) = some (v, rest, bad') ∧ (0 ≤ v ∧ v ≤ 18446744073709551615) ∧ Rd rest := by
  obtain ⟨v, n, e, h1, h2, h3, h4⟩ := codeRead_tot ha.1 (by have := ha.2; omega)
  exact ⟨v, a.drop n, _, wide_eq h1 h4 bad, ⟨h2, h3⟩, ha.drop n⟩
theorem wide_sm {n : Nat} (hn : n < 18446744073709551616) {rest : List Int} (hr : Rd rest) (bad : Bool) : F_image_reader_wide mx (sm n ++ rest, bad) = some ((n : Int), rest, bad) := by
  have h := codeRead_sm hn hr.1 (by have := hr.2; omega)
  rw [wide_eq h (by rw [List.length_append]; omega), List.drop_left']
  · simp
  · rfl
theorem num_tot {a : List Int} (ha : Rd a) (bad : Bool) {m : Int} (hm0 : 0 ≤ m) (hm : m ≤ 4611686018427387904) : ∃ v rest bad', F_image_reader_num mx (a, bad, m) = some (v, rest, bad') ∧ (0 ≤ v ∧ v ≤ m) ∧ Rd rest := by
  obtain ⟨v, rest, b, h1, ⟨h2, h2'⟩, h3⟩ := wide_tot ha bad
  simp only [F_image_reader_num, h1, Option.bind_some]
  rw [wu64 hm0 (by omega)]
  by_cases h : m < v
  · rw [decide_eq_true h]; exact ⟨0, rest, true, rfl, ⟨Int.le_refl _, hm0⟩, h3⟩
  · rw [decide_eq_false h, w64 (n := v) (by omega) (by omega)]; exact ⟨v, rest, b, rfl, ⟨h2, by omega⟩, h3⟩
theorem num_sm {n : Nat} {rest : List Int} (hr : Rd rest) (bad : Bool) {m : Int} (h0 : (n : Int) ≤ m) (hm : m ≤ 4611686018427387904) : F_image_reader_num mx (sm n ++ rest, bad, m) = some ((n : Int), rest, bad) := by
  simp only [F_image_reader_num, wide_sm (show n < 18446744073709551616 by omega) hr bad, Option.bind_some]
  rw [wu64 (by omega) (by omega), decide_eq_false (show ¬ m < (n : Int) by omega), w64 (n := (n : Int)) (by omega) (by omega)]; rfl
theorem text_tot {a : List Int} (ha : Rd a) (bad : Bool) : ∃ s rest bad', F_image_reader_text mx (a, bad) = some (s, rest, bad') ∧ Rd s ∧ Rd rest := by
  have hl := ha.2
  obtain ⟨v, rest, b, h1, ⟨h2, h2'⟩, h3⟩ := num_tot ha bad (m := (a.length : Int)) (by omega) (by omega)
  simp only [F_image_reader_text, h1, Option.bind_some]
  by_cases h : (rest.length : Int) < v
  · rw [decide_eq_true h]; exact ⟨[], rest, true, rfl, ⟨fun x hx => (by cases hx), by simp⟩, h3⟩
  · rw [decide_eq_false h]
    simp only [cond_false, decide_eq_true h2, decide_eq_true (show v ≤ (rest.length : Int) by omega), Int.le_refl, decide_true, Bool.and_self, cond_true]
    exact ⟨_, _, _, rfl, (h3.take _).drop _, (h3.take _).drop _⟩
theorem text_sm {s rest : List Int} (hs : Rd (s ++ rest)) (bad : Bool) : F_image_reader_text mx (txt s ++ rest, bad) = some (s, rest, bad) := by
  have hl := hs.2
  rw [List.length_append] at hl
  have h := num_sm (n := s.length) hs bad (m := ((txt s ++ rest).length : Int)) (by unfold txt; simp only [List.length_append]; omega) (by
    have := txt_len s
    rw [List.length_append]; omega)
  have e : sm s.length ++ (s ++ rest) = txt s ++ rest := by unfold txt; rw [List.append_assoc]
  rw [e] at h
  simp only [F_image_reader_text, h, Option.bind_some, decide_eq_false (show ¬ ((s ++ rest).length : Int) < (s.length : Int) by rw [List.length_append]; omega), cond_false, lez, decide_eq_true (show (s.length : Int) ≤ ((s ++ rest).length : Int) by rw [List.length_append]; omega), Int.le_refl, decide_true, Bool.and_self, cond_true, Int.toNat_natCast, List.drop_zero, List.take_length]
  rw [List.take_left' rfl, List.drop_left' rfl]

/-! ### any bytes -/
def wfIm (v : Img) : Prop := (∀ k ∈ v.2.2.1, (k.2.1.length ≤ 140737488351232 ∧ k.2.2.1.length ≤ 140737488351232) ∧ bytesI k.2.1 ∧ bytesI k.2.2.1) ∧ ∀ k ∈ v.2.2.1, wfK k
def ReadTo (a : List Int) (y : Int × List Int × List Kept × Int × Int × Bool × Int) : Prop := y = zeroI 8 ∨ ∃ v, y = withE v ∧ wfIm v ∧ writeS v = (a, 0)
theorem quotas_loop (cnt : Int) (hc : cnt ≤ 4) (x : List Int × Bool) (t : Int) {a : List Int} (ha : Rd a) (bad : Bool) : ∃ r, iter mx (F_image_Read.l250 mx (cnt, x)) ((0 : Int), a, bad, t, ([] : List Int), (0 : Int), (0 : Int), false) = some r ∧
    ∃ rest bad' q, r = (rest, bad', t, q, 0, 0, false) ∧ Rd rest ∧ q.length ≤ 4 := by
  refine iter_inv (f := F_image_Read.l250 mx (cnt, x)) (fun s => ∃ (k : Nat) (rest : List Int) (b : Bool) (q : List Int), s = ((k : Int), rest, b, t, q, 0, 0, false) ∧ q.length = k ∧ k ≤ 4 ∧ Rd rest) (fun s => 4 - s.1.toNat)
    (fun r => ∃ rest bad' q, r = (rest, bad', t, q, 0, 0, false) ∧ Rd rest ∧ q.length ≤ 4) _ ⟨0, a, bad, [], rfl, rfl, by omega, ha⟩ (lt_N0 (by dsimp only; omega)) (fun s ⟨k, rest, b, q, e, hq, hk, hr⟩ => ?_)
  subst e
  by_cases h : (k : Int) < cnt
  · obtain ⟨v, rest', b', h1, h2, h3⟩ := num_tot hr b (m := 16) (by decide) (by decide)
    have c1 : Nat.ble (q.length + 1) 4294967296 = true := ble_t (by omega)
    refine .inl ⟨(((k + 1 : Nat) : Int), rest', b', t, q ++ [v], 0, 0, false), ?_, ⟨k + 1, rest', b', q ++ [v], rfl, by simp [hq], by omega, h3⟩, by dsimp only; omega⟩
    simp only [F_image_Read.l250, decide_eq_true h, cond_true, h1, Option.bind_some, List.length_singleton, c1]
    rw [inc64 (by omega)]
  · refine .inr ⟨(rest, b, t, q, 0, 0, false), ?_, rest, b, q, rfl, hr, by omega⟩
    simp only [F_image_Read.l250, decide_eq_false h, cond_false]
theorem items_loop (cnt : Int) (hc : cnt ≤ 1024) (x : List Int × Bool) (t : Int) (q : List Int) (e n : Int) (bb : Bool) {a : List Int} (ha : Rd a) (bad : Bool) : ∃ r, iter mx (F_image_Read.l2042 mx (cnt, x)) ((0 : Int), a, bad, t, q, ([] : List Kept), e, n, bb) = some r ∧
    (r = .inl (8, 0, 0, 0, false) ∨ ∃ rest bad' l, r = .inr (rest, bad', t, q, l, e, n, bb) ∧ wfIm (t, q, l, e, n, bb)) := by
  refine iter_inv (f := F_image_Read.l2042 mx (cnt, x)) (fun s => ∃ (k : Nat) (rest : List Int) (b : Bool) (l : List Kept), s = ((k : Int), rest, b, t, q, l, e, n, bb) ∧ l.length = k ∧ k ≤ 1024 ∧ Rd rest ∧ wfIm (t, q, l, e, n, bb)) (fun s => 1024 - s.1.toNat)
    (fun r => r = .inl (8, 0, 0, 0, false) ∨ ∃ rest bad' l, r = .inr (rest, bad', t, q, l, e, n, bb) ∧ wfIm (t, q, l, e, n, bb)) _ ⟨0, a, bad, [], rfl, rfl, by omega, ha, ⟨fun k hk => (by cases hk), fun k hk => (by cases hk)⟩⟩ (lt_N0 (by dsimp only; omega)) (fun s ⟨k, rest, b, l, es, hq, hk, hr, hw⟩ => ?_)
  subst es
  by_cases h : (k : Int) < cnt
  · obtain ⟨v1, r1, b1, p1, i1, j1⟩ := num_tot hr b (m := 4) (by decide) (by decide)
    obtain ⟨s2, r2, b2, p2, i2, j2⟩ := text_tot j1 b1
    obtain ⟨s3, r3, b3, p3, i3, j3⟩ := text_tot j2 b2
    obtain ⟨v4, r4, b4, p4, i4, j4⟩ := num_tot j3 b3 (m := 4294967295) (by decide) (by decide)
    obtain ⟨v5, r5, b5, p5, i5, j5⟩ := num_tot j4 b4 (m := 1099511627776) (by decide) (by decide)
    obtain ⟨v6, r6, b6, p6, i6, j6⟩ := wide_tot j5 b5
    have c1 : Nat.ble (l.length + 1) 4294967296 = true := ble_t (by omega)
    have w4 : IntKind.u32.wrap v4 = v4 := wu32 i4.1 i4.2
    have hst : F_image_Read.l2042 mx (cnt, x) ((k : Int), rest, b, t, q, l, e, n, bb) = some (bif b6 then .fin (.inl (8, 0, 0, 0, false)) else .next (((k + 1 : Nat) : Int), r6, b6, t, q, l ++ [(v1, s2, s3, v4, v5, v6)], e, n, bb)) := by
      simp only [F_image_Read.l2042, decide_eq_true h, cond_true, p1, p2, p3, p4, p5, p6, Option.bind_some, List.length_singleton, c1, w4]
      rw [inc64 (by omega)]
      cases b6 <;> rfl
    rw [hst]
    cases b6 with
    | true => exact .inr ⟨_, rfl, .inl rfl⟩
    | false =>
      refine .inl ⟨_, rfl, ⟨k + 1, r6, false, l ++ [(v1, s2, s3, v4, v5, v6)], rfl, by simp [hq], by omega, j6, ?_⟩, by dsimp only; omega⟩
      refine ⟨fun y hy => ?_, fun y hy => ?_⟩
      · rcases List.mem_append.1 hy with hy | hy
        · exact hw.1 y hy
        · rw [List.mem_singleton] at hy; subst hy
          have := i2.2
          have := i3.2
          exact ⟨⟨by dsimp only; omega, by dsimp only; omega⟩, i2.1, i3.1⟩
      · rcases List.mem_append.1 hy with hy | hy
        · exact hw.2 y hy
        · rw [List.mem_singleton] at hy; subst hy
          exact ⟨i4, i6⟩
  · refine .inr ⟨.inr (rest, b, t, q, l, e, n, bb), ?_, .inr ⟨rest, b, l, rfl, hw⟩⟩
    simp only [F_image_Read.l2042, decide_eq_false h, cond_false]
theorem equal_ok (a b : List Int) : F_bytes_Equal mx (a, b) = some (decide (a = b)) := by
  simp only [F_bytes_Equal]; congr 1; rw [Bool.eq_iff_iff]; simp
theorem read_tot {a : List Int} (ha : bytesI a) (hl : a.length ≤ 65536) : ∃ y, F_image_Read mx a = some y ∧ ReadTo a y := by
  have hR : Rd a := ⟨ha, by omega⟩
  obtain ⟨v1, r1, b1, p1, i1, j1⟩ := num_tot hR false (m := 1099511627776) (by decide) (by decide)
  obtain ⟨v2, r2, b2, p2, i2, j2⟩ := num_tot j1 b1 (m := 4) (by decide) (by decide)
  obtain ⟨x3, p3, r3, b3, q, rfl, j3, hq⟩ := quotas_loop v2 i2.2 (r2, b2) v1 j2 b2
  obtain ⟨v4, r4, b4, p4, i4, j4⟩ := num_tot j3 b3 (m := 2147483647) (by decide) (by decide)
  obtain ⟨v5, r5, b5, p5, i5, j5⟩ := num_tot j4 b4 (m := 2147483647) (by decide) (by decide)
  obtain ⟨v6, r6, b6, p6, i6, j6⟩ := num_tot j5 b5 (m := 255) (by decide) (by decide)
  obtain ⟨v7, r7, b7, p7, i7, j7⟩ := num_tot j6 b6 (m := 1024) (by decide) (by decide)
  obtain ⟨x8, p8, h8⟩ := items_loop v7 i7.2 (r7, b7) v1 q v4 v5 (v6 == 1) j7 b7
  simp only [F_image_Read, decide_eq_false (show ¬ (65536 : Int) < (a.length : Int) by omega), cond_false, p1, p2, Option.bind_some, p3, p4, p5, p6, p7, p8]
  rcases h8 with rfl | ⟨rest, bad', l, rfl, hw⟩
  · exact ⟨zeroI 8, rfl, .inl rfl⟩
  · have hwr := write_ok (v := (v1, q, l, v4, v5, (v6 == 1))) (fun k hk => (hw.1 k hk).1) hw.2
    simp only [hwr, Option.bind_some, equal_ok, bne_int]
    cases bad' with
    | true => exact ⟨zeroI 8, rfl, .inl rfl⟩
    | false =>
      by_cases g1 : (writeS (v1, q, l, v4, v5, (v6 == 1))).2 = 0
      · by_cases g2 : (writeS (v1, q, l, v4, v5, (v6 == 1))).1 = a
        · rw [decide_eq_true g1, decide_eq_true g2]
          exact ⟨withE (v1, q, l, v4, v5, (v6 == 1)), rfl, .inr ⟨_, rfl, hw, Prod.ext g2 g1⟩⟩
        · rw [decide_eq_true g1, decide_eq_false g2]; exact ⟨zeroI 8, rfl, .inl rfl⟩
      · rw [decide_eq_false g1]; exact ⟨zeroI 8, rfl, .inl rfl⟩

/-! ### what was written -/
theorem writeS_ok {v : Img} {a : List Int} (h : writeS v = (a, 0)) : okI v ∧ imgB v = a ∧ a.length ≤ 65536 := by
  unfold writeS at h
  by_cases h1 : okI v
  · rw [if_pos h1] at h
    by_cases h2 : 65536 < (imgB v).length
    · rw [if_pos h2] at h; cases h
    · rw [if_neg h2] at h; cases h; exact ⟨h1, rfl, by omega⟩
  · rw [if_neg h1] at h; cases h
theorem numsB_cons (x : Int) (l : List Int) : numsB (x :: l) = sm x.toNat ++ numsB l := rfl
theorem keptsB_cons (x : Kept) (l : List Kept) : keptsB (x :: l) = keptB x ++ keptsB l := rfl
theorem quotas_sm (x : List Int × Bool) (t : Int) (q : List Int) (hq : q.length ≤ 4) (h16 : ∀ y ∈ q, 0 ≤ y ∧ y ≤ 16) {rest : List Int} (hr : Rd (numsB q ++ rest)) :
    iter mx (F_image_Read.l250 mx ((q.length : Int), x)) ((0 : Int), numsB q ++ rest, false, t, ([] : List Int), (0 : Int), (0 : Int), false) = some (rest, false, t, q, 0, 0, false) := by
  have hd : ∀ i, i ≤ q.length → Rd (numsB (q.drop i) ++ rest) := fun i => by
    induction i with
    | zero => intro _; exact hr
    | succ i ih =>
      intro hi
      have := ih (by omega)
      rw [List.drop_eq_getElem_cons (show i < q.length by omega), numsB_cons, List.append_assoc] at this
      exact this.right
  have := iter_count (f := F_image_Read.l250 mx ((q.length : Int), x)) (fun i => ((i : Int), numsB (q.drop i) ++ rest, false, t, q.take i, (0 : Int), (0 : Int), false)) q.length (r := (rest, false, t, q, 0, 0, false)) (lt_N0 (by omega)) (fun i hi => by
    obtain ⟨y1, y2⟩ := h16 _ (List.getElem_mem hi)
    have hn := hd (i + 1) hi
    have e : numsB (q.drop i) ++ rest = sm q[i].toNat ++ (numsB (q.drop (i + 1)) ++ rest) := by rw [List.drop_eq_getElem_cons hi, numsB_cons, List.append_assoc]
    have hx := num_sm (n := q[i].toNat) hn false (m := 16) (by omega) (by decide)
    rw [← e, show ((q[i].toNat : Nat) : Int) = q[i] by omega] at hx
    have c1 : Nat.ble ((q.take i).length + 1) 4294967296 = true := ble_t (by rw [List.length_take]; omega)
    simp only [F_image_Read.l250, ltd hi, cond_true, hx, Option.bind_some, List.length_singleton, c1]
    rw [inc64 (by omega), take_succ' hi 0, getD_some hi]) (by
    simp only [F_image_Read.l250, nltd, cond_false, List.take_length]
    rw [List.drop_eq_nil_of_le (Nat.le_refl _)]; rfl)
  exact this
theorem items_sm (x : List Int × Bool) (t : Int) (q : List Int) (l : List Kept) (e n : Int) (bb : Bool) (hl : l.length ≤ 1024) (hk : ∀ k ∈ l, (0 ≤ k.1 ∧ k.1 ≤ 4) ∧ itemOk k.2) (hw : ∀ k ∈ l, wfK k) {rest : List Int} (hr : Rd (keptsB l ++ rest)) :
    iter mx (F_image_Read.l2042 mx ((l.length : Int), x)) ((0 : Int), keptsB l ++ rest, false, t, q, ([] : List Kept), e, n, bb) = some (.inr (rest, false, t, q, l, e, n, bb)) := by
  have hd : ∀ i, i ≤ l.length → Rd (keptsB (l.drop i) ++ rest) := fun i => by
    induction i with
    | zero => intro _; exact hr
    | succ i ih =>
      intro hi
      have := ih (by omega)
      rw [List.drop_eq_getElem_cons (show i < l.length by omega), keptsB_cons, List.append_assoc] at this
      exact this.right
  have := iter_count (f := F_image_Read.l2042 mx ((l.length : Int), x)) (fun i => ((i : Int), keptsB (l.drop i) ++ rest, false, t, q, l.take i, e, n, bb)) l.length (r := .inr (rest, false, t, q, l, e, n, bb)) (lt_N0 (by omega)) (fun i hi => by
    obtain ⟨⟨y1, y2⟩, y3⟩ := hk _ (List.getElem_mem hi)
    obtain ⟨⟨z1, z2⟩, z3, z4⟩ := hw _ (List.getElem_mem hi)
    have hn := hd i (by omega)
    have e0 : keptsB (l.drop i) ++ rest = sm l[i].1.toNat ++ (txt l[i].2.1 ++ (txt l[i].2.2.1 ++ (sm l[i].2.2.2.1.toNat ++ (sm l[i].2.2.2.2.1.toNat ++ (sm l[i].2.2.2.2.2.toNat ++ (keptsB (l.drop (i + 1)) ++ rest)))))) := by
      rw [List.drop_eq_getElem_cons hi, keptsB_cons]
      simp only [keptB, List.append_assoc]
    have hi4 := y3.2.2.2
    obtain ⟨A, hA⟩ : ∃ A, keptsB (l.drop (i + 1)) ++ rest = A := ⟨_, rfl⟩
    have g6 : Rd A := by rw [← hA]; exact hd (i + 1) hi
    rw [hA] at e0
    rw [e0] at hn ⊢
    have g1 := hn.right
    have g2 : Rd (txt l[i].2.2.1 ++ (sm l[i].2.2.2.1.toNat ++ (sm l[i].2.2.2.2.1.toNat ++ (sm l[i].2.2.2.2.2.toNat ++ A)))) := g1.right
    have g3 : Rd (sm l[i].2.2.2.1.toNat ++ (sm l[i].2.2.2.2.1.toNat ++ (sm l[i].2.2.2.2.2.toNat ++ A))) := g2.right
    have g4 : Rd (sm l[i].2.2.2.2.1.toNat ++ (sm l[i].2.2.2.2.2.toNat ++ A)) := g3.right
    have g5 : Rd (sm l[i].2.2.2.2.2.toNat ++ A) := g4.right
    have p1 := num_sm (n := l[i].1.toNat) g1 false (m := 4) (by omega) (by decide)
    have p2 := text_sm (s := l[i].2.1) (rest := txt l[i].2.2.1 ++ (sm l[i].2.2.2.1.toNat ++ (sm l[i].2.2.2.2.1.toNat ++ (sm l[i].2.2.2.2.2.toNat ++ A)))) (by unfold txt at g1; rw [List.append_assoc] at g1; exact g1.right) false
    have p3 := text_sm (s := l[i].2.2.1) (rest := sm l[i].2.2.2.1.toNat ++ (sm l[i].2.2.2.2.1.toNat ++ (sm l[i].2.2.2.2.2.toNat ++ A))) (by
      have := g2
      unfold txt at this
      rw [List.append_assoc] at this
      exact this.right) false
    have p4 := num_sm (n := l[i].2.2.2.1.toNat) g4 false (m := 4294967295) (by omega) (by decide)
    have p5 := num_sm (n := l[i].2.2.2.2.1.toNat) g5 false (m := 1099511627776) (by omega) (by decide)
    have p6 := wide_sm (n := l[i].2.2.2.2.2.toNat) (by omega) g6 false
    rw [show ((l[i].1.toNat : Nat) : Int) = l[i].1 by omega] at p1
    rw [show ((l[i].2.2.2.1.toNat : Nat) : Int) = l[i].2.2.2.1 by omega] at p4
    rw [show ((l[i].2.2.2.2.1.toNat : Nat) : Int) = l[i].2.2.2.2.1 by omega] at p5
    rw [show ((l[i].2.2.2.2.2.toNat : Nat) : Int) = l[i].2.2.2.2.2 by omega] at p6
    have c1 : Nat.ble ((l.take i).length + 1) 4294967296 = true := ble_t (by rw [List.length_take]; omega)
    have w4 : IntKind.u32.wrap l[i].2.2.2.1 = l[i].2.2.2.1 := wu32 z1 z2
    simp only [F_image_Read.l2042, ltd hi, cond_true, p1, p2, p3, p4, p5, p6, Option.bind_some, List.length_singleton, c1, w4, cond_false, hA]
    rw [inc64 (by omega), take_succ' hi K0, getD_some hi]) (by
    simp only [F_image_Read.l2042, nltd, cond_false, List.take_length]
    rw [List.drop_eq_nil_of_le (Nat.le_refl _)]; rfl)
  exact this
theorem read_sm {v : Img} {a : List Int} (h : writeS v = (a, 0)) (ha : bytesI a) (hw : ∀ k ∈ v.2.2.1, wfK k) : F_image_Read mx a = some (withE v) := by
  obtain ⟨hok, himg, hl⟩ := writeS_ok h
  have hwr := write_ok (okI_len hok) hw
  rw [h] at hwr
  obtain ⟨t, q, l, e, n, b⟩ := v
  obtain ⟨⟨t1, t2⟩, ⟨q1, q2, q3⟩, l1, ⟨e1, e2⟩, ⟨n1, n2⟩, hk, _⟩ := id hok
  dsimp only at t1 t2 q1 q2 q3 l1 e1 e2 n1 n2 hk hw
  have hR : Rd a := ⟨ha, by omega⟩
  have hs1 : sm (if b then 1 else 0) = [if b then 1 else 0] := by cases b <;> rfl
  have e0 : a = sm t.toNat ++ (sm q.length ++ (numsB q ++ (sm e.toNat ++ (sm n.toNat ++ (sm (if b then 1 else 0) ++ (sm l.length ++ (keptsB l ++ []))))))) := by
    rw [← himg, hs1]
    simp only [imgB, headB, List.append_assoc, List.append_nil]
  rw [e0] at hR
  have g1 := hR.right
  have g2 : Rd (numsB q ++ (sm e.toNat ++ (sm n.toNat ++ (sm (if b then 1 else 0) ++ (sm l.length ++ (keptsB l ++ [])))))) := g1.right
  have g3 : Rd (sm e.toNat ++ (sm n.toNat ++ (sm (if b then 1 else 0) ++ (sm l.length ++ (keptsB l ++ []))))) := g2.right
  have g4 : Rd (sm n.toNat ++ (sm (if b then 1 else 0) ++ (sm l.length ++ (keptsB l ++ [])))) := g3.right
  have g5 : Rd (sm (if b then 1 else 0) ++ (sm l.length ++ (keptsB l ++ []))) := g4.right
  have g6 : Rd (sm l.length ++ (keptsB l ++ [])) := g5.right
  have g7 : Rd (keptsB l ++ []) := g6.right
  have p1 := num_sm (n := t.toNat) g1 false (m := 1099511627776) (by omega) (by decide)
  rw [← e0, show ((t.toNat : Nat) : Int) = t by omega] at p1
  have p2 := num_sm (n := q.length) g2 false (m := 4) (by omega) (by decide)
  have p3 := quotas_sm (numsB q ++ (sm e.toNat ++ (sm n.toNat ++ (sm (if b then 1 else 0) ++ (sm l.length ++ (keptsB l ++ []))))), false) t q q2 q3 g2
  have p4 := num_sm (n := e.toNat) g4 false (m := 2147483647) (by omega) (by decide)
  rw [show ((e.toNat : Nat) : Int) = e by omega] at p4
  have p5 := num_sm (n := n.toNat) g5 false (m := 2147483647) (by omega) (by decide)
  rw [show ((n.toNat : Nat) : Int) = n by omega] at p5
  have p6 := num_sm (n := if b then 1 else 0) g6 false (m := 255) (by cases b <;> decide) (by decide)
  have p7 := num_sm (n := l.length) g7 false (m := 1024) (by omega) (by decide)
  have p8 := items_sm (keptsB l ++ [], false) t q l e n b l1 (fun k hk' => ⟨⟨(hk k hk').1, by have := (hk k hk').2.1; omega⟩, (hk k hk').2.2.1⟩) hw g7
  have hb : (((if b then 1 else 0 : Nat) : Int) == 1) = b := by cases b <;> rfl
  simp only [F_image_Read, decide_eq_false (show ¬ (65536 : Int) < (a.length : Int) by omega), cond_false, p1, p2, Option.bind_some, p3, p4, p5, p6, p7, hb, p8, hwr, bne_self_eq_false, equal_ok, decide_true, Bool.not_true]
  rfl
theorem read_big {a : List Int} (h : 65536 < a.length) : F_image_Read mx a = some (zeroI 3) := by
  simp only [F_image_Read, decide_eq_true (show (65536 : Int) < (a.length : Int) by omega), cond_true]; rfl
/-- An image is what its bytes tell. -/
theorem write_inj {v w : Img} {a : List Int} (h1 : writeS v = (a, 0)) (h2 : writeS w = (a, 0)) (ha : bytesI a) (hv : ∀ k ∈ v.2.2.1, wfK k) (hw : ∀ k ∈ w.2.2.1, wfK k) : v = w := by
  have a1 := read_sm h1 ha hv
  rw [read_sm h2 ha hw] at a1
  have a1 := Option.some.inj a1
  obtain ⟨t, q, l, e, n, b⟩ := v
  obtain ⟨t', q', l', e', n', b'⟩ := w
  simp only [withE, Prod.mk.injEq] at a1
  obtain ⟨rfl, rfl, rfl, rfl, rfl, rfl, _⟩ := a1
  rfl
end Go.Proofs.Ytmkfifilpkhfoaa
