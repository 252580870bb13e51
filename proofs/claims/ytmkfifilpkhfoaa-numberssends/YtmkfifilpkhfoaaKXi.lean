/- The document's own bytes of images. -/
import Derived.Test.YtmkfifilpkhfoaaKXr
import Derived.Test.YtmkfifilpkhfoaaKXc
namespace Go.Proofs.Ytmkfifilpkhfoaa
open Go.Abs
set_option maxRecDepth 100000
theorem rinums_ok {l : List Int} (hl : okNums l) : F_ref21_small mx l = some (numsB l) := by
  obtain ⟨h1, h2⟩ := hl
  have := iter_count (f := F_ref21_small.l58 mx l) (fun i => (numsB (l.take i), (i : Int))) l.length (r := numsB l) (lt_N0 (by omega)) (fun i hi => by
    obtain ⟨b1, b2⟩ := h2 _ (getD_lt (d := 0) hi)
    have hn := numsB_len (l.take i)
    rw [List.length_take] at hn
    have hs := sm_len (l.getD i 0).toNat
    have c1 : Nat.ble ((numsB (l.take i)).length + (sm (l.getD i 0).toNat).length) 140737488351232 = true := ble_t (by omega)
    simp only [F_ref21_small.l58, ltd hi, lez, Bool.and_self, cond_true, Int.toNat_natCast, rsmall_wrap b1 (show l.getD i 0 ≤ 18446744073709551615 by omega), Option.bind_some, c1]
    rw [inc64 (by omega), take_succ' hi 0, numsB, numsB, List.map_append, List.flatten_append]
    simp) (by simp only [F_ref21_small.l58, nltd, cond_false, List.take_length])
  have this : iter mx (F_ref21_small.l58 mx l) (([] : List Int), (0 : Int)) = _ := this
  simp only [F_ref21_small, this, Option.bind_some]
theorem rinums1 {x : Int} (h1 : 0 ≤ x) (h2 : x ≤ 9223372036854775807) : F_ref21_small mx [x] = some (sm x.toNat) := by
  have := rinums_ok (l := [x]) ⟨by simp, fun y hy => by rw [List.mem_singleton] at hy; subst hy; exact ⟨h1, h2⟩⟩
  simpa [numsB] using this
theorem rinums2 {x y : Int} (h1 : 0 ≤ x) (h2 : x ≤ 9223372036854775807) (h3 : 0 ≤ y) (h4 : y ≤ 9223372036854775807) : F_ref21_small mx [x, y] = some (sm x.toNat ++ sm y.toNat) := by
  have := rinums_ok (l := [x, y]) ⟨by simp, fun z hz => by
    rcases List.mem_cons.1 hz with rfl | hz
    · exact ⟨h1, h2⟩
    · rw [List.mem_singleton] at hz; subst hz; exact ⟨h3, h4⟩⟩
  simpa [numsB] using this
theorem rwrite_ok {v : Img} (hb : ∀ k ∈ v.2.2.1, k.2.1.length ≤ 140737488351232 ∧ k.2.2.1.length ≤ 140737488351232) (hw : ∀ k ∈ v.2.2.1, wfK k) : F_ref21_Write mx v = some (writeS v) := by
  have hck := rcheck_ok (v := v) hb
  have hh := fun h => headB_len (v := v) h
  obtain ⟨t, q, l, e, n, b⟩ := v
  dsimp only at hck hw
  simp only [F_ref21_Write, hck, Option.bind_some, writeS, bne_int]
  by_cases h1 : okI (t, q, l, e, n, b)
  case neg => simp only [if_neg h1]; rfl
  simp only [if_pos h1, decide_true, Bool.not_true, cond_false]
  obtain ⟨⟨t1, t2⟩, ⟨q1, q2, q3⟩, l1, ⟨e1, e2⟩, ⟨n1, n2⟩, hk, _⟩ := id h1
  dsimp only at t1 t2 q1 q2 q3 l1 e1 e2 n1 n2 hk
  have hh := hh h1
  have s1 := sm_len t.toNat
  have s2 := sm_len q.length
  have s3 := numsB_len q
  have s4 := sm_len e.toNat
  have s5 := sm_len n.toNat
  have s6 := sm_len l.length
  have g1 := rinums2 (x := t) (y := (q.length : Int)) t1 (by omega) (by omega) (by omega)
  rw [Int.toNat_natCast] at g1
  have g2 := rinums_ok (l := q) ⟨by omega, fun x hx => ⟨(q3 x hx).1, by have := (q3 x hx).2; omega⟩⟩
  have d1 : Nat.ble ((sm t.toNat ++ sm q.length).length + (numsB q).length) 140737488351232 = true := ble_t (by rw [List.length_append]; omega)
  have g3 := rinums2 (x := e) (y := n) e1 (by omega) n1 (by omega)
  have d2 : Nat.ble ((sm t.toNat ++ sm q.length ++ numsB q).length + (sm e.toNat ++ sm n.toNat).length) 140737488351232 = true := ble_t (by simp only [List.length_append]; omega)
  have c1 : Nat.ble ((sm t.toNat ++ sm q.length ++ numsB q ++ (sm e.toNat ++ sm n.toNat)).length + 1) 140737488351232 = true := ble_t (by simp only [List.length_append]; omega)
  have g4 : F_ref21_Write.s254 mx b (sm t.toNat ++ sm q.length ++ numsB q ++ (sm e.toNat ++ sm n.toNat)) = some (sm t.toNat ++ sm q.length ++ numsB q ++ (sm e.toNat ++ sm n.toNat) ++ [if b then 1 else 0]) := by
    simp only [F_ref21_Write.s254, c1, cond_true]
    cases b <;> rfl
  have g5 := rinums1 (x := (l.length : Int)) (by omega) (by omega)
  rw [Int.toNat_natCast] at g5
  have d3 : Nat.ble ((sm t.toNat ++ sm q.length ++ numsB q ++ (sm e.toNat ++ sm n.toNat) ++ [if b then 1 else 0]).length + (sm l.length).length) 140737488351232 = true := ble_t (by simp only [List.length_append, List.length_singleton]; omega)
  have hhd : sm t.toNat ++ sm q.length ++ numsB q ++ (sm e.toNat ++ sm n.toNat) ++ [if b then 1 else 0] ++ sm l.length = headB (t, q, l, e, n, b) := rfl
  have hlen : ∀ i, i ≤ l.length → (keptsB (l.take i)).length ≤ 400 * i := fun i => by
    induction i with
    | zero => intro _; simp [keptsB]
    | succ i ih =>
      intro hi
      rw [take_succ' (l := l) (k := i) (by omega) K0, keptsB_app, keptsB_one, List.length_append]
      have := ih (by omega)
      have := keptB_len (hk _ (getD_lt (d := K0) (show i < l.length by omega))).2.2.1
      omega
  have hloop := iter_count (f := F_ref21_Write.l4090 mx l) (fun i => (headB (t, q, l, e, n, b) ++ keptsB (l.take i), (i : Int))) l.length (r := imgB (t, q, l, e, n, b)) (lt_N0 (by omega)) (fun i hi => by
    obtain ⟨k1, k2, k3, k4⟩ := hk _ (getD_lt (d := K0) hi)
    obtain ⟨⟨w1, w2⟩, w3, w4⟩ := hw _ (getD_lt (d := K0) hi)
    have hl := hlen i (by omega)
    have hkl := keptB_len k3
    have e3 : headB (t, q, l, e, n, b) ++ keptsB (l.take i) ++ keptB (l.getD i K0) = headB (t, q, l, e, n, b) ++ keptsB (l.take (i + 1)) := by
      rw [take_succ' hi K0, keptsB_app, keptsB_one, List.append_assoc]
    have hA : (headB (t, q, l, e, n, b) ++ keptsB (l.take i)).length ≤ 1000000 := by rw [List.length_append]; omega
    generalize headB (t, q, l, e, n, b) ++ keptsB (l.take i) = A at e3 hA
    have i1 := k3.2.1
    have i2 := k3.2.2.1
    have i3 := k3.2.2.2
    have p1 := rinums1 (x := (l.getD i K0).1) k1 (by omega)
    have p2 := ritem_bytes (x := (l.getD i K0).2) (by omega) (by omega) ⟨w1, w2⟩ ⟨i3.1, by omega⟩ ⟨w3, w4⟩
    have a1 := sm_len (l.getD i K0).1.toNat
    have e4 : A ++ sm (l.getD i K0).1.toNat ++ itemB (l.getD i K0).2 = A ++ keptB (l.getD i K0) := by
      simp only [keptB, itemB, List.append_assoc]
    have hil : (itemB (l.getD i K0).2).length ≤ 1000 := by
      have := congrArg List.length e4
      simp only [List.length_append] at this
      omega
    have d1 : Nat.ble (A.length + (sm (l.getD i K0).1.toNat).length) 140737488351232 = true := ble_t (by omega)
    have d2 : Nat.ble ((A ++ sm (l.getD i K0).1.toNat).length + (itemB (l.getD i K0).2).length) 140737488351232 = true := ble_t (by simp only [List.length_append]; omega)
    rw [e3] at e4
    simp only [F_ref21_Write.l4090, ltd hi, lez, Bool.and_self, cond_true, Int.toNat_natCast, p1, Option.bind_some, d1, p2, d2, e4]
    rw [inc64 (by omega)]) (by simp only [F_ref21_Write.l4090, nltd, cond_false, List.take_length]; rfl)
  have hloop : iter mx (F_ref21_Write.l4090 mx l) (headB (t, q, l, e, n, b) ++ keptsB (l.take 0), (0 : Int)) = _ := hloop
  rw [show headB (t, q, l, e, n, b) ++ keptsB (l.take 0) = headB (t, q, l, e, n, b) by simp [keptsB]] at hloop
  simp only [g1, g2, d1, cond_true, g3, d2, g4, g5, d3, hhd, hloop, Option.bind_some]
  by_cases h : 65536 < (imgB (t, q, l, e, n, b)).length
  · rw [decide_eq_true (show (65536 : Int) < (((imgB (t, q, l, e, n, b)).length : Nat) : Int) by omega), if_pos h]; rfl
  · rw [decide_eq_false (show ¬ (65536 : Int) < (((imgB (t, q, l, e, n, b)).length : Nat) : Int) by omega), if_neg h]; rfl
/-! ### numbers that are read -/
theorem wuinc {k : Nat} (h : k ≤ 1000000) : IntKind.u64.wrap ((k : Int) + 1) = ((k + 1 : Nat) : Int) := by rw [wu64 (by omega) (by omega)]; rfl
theorem rquotas_loop (cnt : Int) (hc : cnt ≤ 4) (x : List Int × Bool) (t : Int) {a : List Int} (ha : Rd a) (bad : Bool) : ∃ r, iter mx (F_ref21_Read.l506 mx (cnt, x)) ((0 : Int), a, bad, t, ([] : List Int), (0 : Int), (0 : Int), false) = some r ∧
    ∃ rest bad' q, r = (rest, bad', t, q, 0, 0, false) ∧ Rd rest ∧ q.length ≤ 4 := by
  refine iter_inv (f := F_ref21_Read.l506 mx (cnt, x)) (fun s => ∃ (k : Nat) (rest : List Int) (b : Bool) (q : List Int), s = ((k : Int), rest, b, t, q, 0, 0, false) ∧ q.length = k ∧ k ≤ 4 ∧ Rd rest) (fun s => 4 - s.1.toNat)
    (fun r => ∃ rest bad' q, r = (rest, bad', t, q, 0, 0, false) ∧ Rd rest ∧ q.length ≤ 4) _ ⟨0, a, bad, [], rfl, rfl, by omega, ha⟩ (lt_N0 (by dsimp only; omega)) (fun s ⟨k, rest, b, q, e, hq, hk, hr⟩ => ?_)
  subst e
  by_cases h : (k : Int) < cnt
  · cases b with
    | true =>
      refine .inr ⟨(rest, true, t, q, 0, 0, false), ?_, rest, true, q, rfl, hr, by omega⟩
      simp only [F_ref21_Read.l506, F_ref21_Read.s2024, decide_eq_true h, cond_true, Bool.not_true, cond_false, Option.bind_some]
    | false =>
      obtain ⟨v, rest', b', h1, h2, _, h3⟩ := rnum_tot hr false (m := 16) (by decide)
      have c1 : Nat.ble (q.length + 1) 4294967296 = true := ble_t (by omega)
      have w1 : IntKind.i64.wrap v = v := w64 (by omega) (by omega)
      refine .inl ⟨(((k + 1 : Nat) : Int), rest', b', t, q ++ [v], 0, 0, false), ?_, ⟨k + 1, rest', b', q ++ [v], rfl, by simp [hq], by omega, h3⟩, by dsimp only; omega⟩
      simp only [F_ref21_Read.l506, F_ref21_Read.s2024, decide_eq_true h, cond_true, Bool.not_false, h1, Option.bind_some, List.length_singleton, c1, w1]
      rw [wuinc (by omega)]
  · refine .inr ⟨(rest, b, t, q, 0, 0, false), ?_, rest, b, q, rfl, hr, by omega⟩
    simp only [F_ref21_Read.l506, F_ref21_Read.s2024, decide_eq_false h, cond_false, Option.bind_some]
theorem ritems_loop (cnt : Int) (hc : cnt ≤ 1024) (x : List Int × Bool) (t : Int) (q : List Int) (e n : Int) (bb : Bool) {a : List Int} (ha : Rd a) (bad : Bool) : ∃ r, iter mx (F_ref21_Read.l16378 mx (cnt, x)) ((0 : Int), a, bad, t, q, ([] : List Kept), e, n, bb) = some r ∧
    ∃ rest bad' l, r = (rest, bad', t, q, l, e, n, bb) ∧ wfIm (t, q, l, e, n, bb) := by
  refine iter_inv (f := F_ref21_Read.l16378 mx (cnt, x)) (fun s => ∃ (k : Nat) (rest : List Int) (b : Bool) (l : List Kept), s = ((k : Int), rest, b, t, q, l, e, n, bb) ∧ l.length = k ∧ k ≤ 1024 ∧ Rd rest ∧ wfIm (t, q, l, e, n, bb)) (fun s => 1024 - s.1.toNat)
    (fun r => ∃ rest bad' l, r = (rest, bad', t, q, l, e, n, bb) ∧ wfIm (t, q, l, e, n, bb)) _ ⟨0, a, bad, [], rfl, rfl, by omega, ha, ⟨fun k hk => (by cases hk), fun k hk => (by cases hk)⟩⟩ (lt_N0 (by dsimp only; omega)) (fun s ⟨k, rest, b, l, es, hq, hk, hr, hw⟩ => ?_)
  subst es
  by_cases h : (k : Int) < cnt
  · cases b with
    | true =>
      refine .inr ⟨(rest, true, t, q, l, e, n, bb), ?_, rest, true, l, rfl, hw⟩
      simp only [F_ref21_Read.l16378, F_ref21_Read.s65512, decide_eq_true h, cond_true, Bool.not_true, cond_false, Option.bind_some]
    | false =>
      obtain ⟨v1, r1, b1, p1, i1, _, j1⟩ := rnum_tot hr false (m := 4) (by decide)
      obtain ⟨s2, s3, v4, v5, v6, r6, b6, p6, i2, i3, i4, i6, j6⟩ := ritm_tot j1 b1
      have c1 : Nat.ble (l.length + 1) 4294967296 = true := ble_t (by omega)
      have w1 : IntKind.i64.wrap v1 = v1 := w64 (by omega) (by omega)
      refine .inl ⟨(((k + 1 : Nat) : Int), r6, b6, t, q, l ++ [(v1, s2, s3, v4, v5, v6)], e, n, bb), ?_, ⟨k + 1, r6, b6, l ++ [(v1, s2, s3, v4, v5, v6)], rfl, by simp [hq], by omega, j6, ?_⟩, by dsimp only; omega⟩
      · simp only [F_ref21_Read.l16378, F_ref21_Read.s65512, decide_eq_true h, cond_true, Bool.not_false, p1, p6, Option.bind_some, List.length_singleton, c1, w1]
        rw [wuinc (by omega)]
      · refine ⟨fun y hy => ?_, fun y hy => ?_⟩
        · rcases List.mem_append.1 hy with hy | hy
          · exact hw.1 y hy
          · rw [List.mem_singleton] at hy; subst hy
            have := i2.2
            have := i3.2
            exact ⟨⟨by dsimp only; omega, by dsimp only; omega⟩, i2.1, i3.1⟩
        · rcases List.mem_append.1 hy with hy | hy
          · exact hw.2 y hy
          · rw [List.mem_singleton] at hy; subst hy
            exact ⟨i4, i6⟩
  · refine .inr ⟨(rest, b, t, q, l, e, n, bb), ?_, rest, b, l, rfl, hw⟩
    simp only [F_ref21_Read.l16378, F_ref21_Read.s65512, decide_eq_false h, cond_false, Option.bind_some]
theorem rimg_tot {a : List Int} (ha : bytesI a) (hl : a.length ≤ 65536) : ∃ y, F_ref21_Read mx a = some y ∧ ReadTo a y := by
  have hR : Rd a := ⟨ha, by omega⟩
  obtain ⟨v1, r1, b1, p1, i1, _, j1⟩ := rnum_tot hR false (m := 1099511627776) (by decide)
  obtain ⟨v2, r2, b2, p2, i2, _, j2⟩ := rnum_tot j1 b1 (m := 4) (by decide)
  obtain ⟨x3, p3, r3, b3, q, rfl, j3, hq⟩ := rquotas_loop v2 i2.2 (r2, b2) (IntKind.i64.wrap v1) j2 b2
  obtain ⟨v4, r4, b4, p4, i4, _, j4⟩ := rnum_tot j3 b3 (m := 2147483647) (by decide)
  obtain ⟨v5, r5, b5, p5, i5, _, j5⟩ := rnum_tot j4 b4 (m := 2147483647) (by decide)
  obtain ⟨v6, r6, b6, p6, j6⟩ := rbyte_tot j5 b5
  obtain ⟨v7, r7, b7, p7, i7, _, j7⟩ := rnum_tot j6 b6 (m := 1024) (by decide)
  obtain ⟨x8, p8, rest, bad', l, rfl, hw⟩ := ritems_loop v7 i7.2 (r7, b7) (IntKind.i64.wrap v1) q (IntKind.i64.wrap v4) (IntKind.i64.wrap v5) (v6 == 1) j7 b7
  simp only [F_ref21_Read, decide_eq_false (show ¬ (65536 : Int) < (a.length : Int) by omega), cond_false, p1, p2, Option.bind_some, p3, p4, p5, p6, p7, p8]
  generalize IntKind.i64.wrap v1 = w1 at hw ⊢
  generalize IntKind.i64.wrap v4 = w4 at hw ⊢
  generalize IntKind.i64.wrap v5 = w5 at hw ⊢
  have hwr := rwrite_ok (v := (w1, q, l, w4, w5, (v6 == 1))) (fun k hk => (hw.1 k hk).1) hw.2
  simp only [hwr, Option.bind_some, bne_int]
  cases bad' with
  | true => exact ⟨zeroI 8, rfl, .inl rfl⟩
  | false =>
    by_cases g1 : (writeS (w1, q, l, w4, w5, (v6 == 1))).2 = 0
    · by_cases g2 : (writeS (w1, q, l, w4, w5, (v6 == 1))).1 = a
      · rw [decide_eq_true g1, show ((writeS (w1, q, l, w4, w5, (v6 == 1))).1 == a) = true from beq_iff_eq.2 g2]
        exact ⟨withE (w1, q, l, w4, w5, (v6 == 1)), rfl, .inr ⟨_, rfl, hw, Prod.ext g2 g1⟩⟩
      · rw [decide_eq_true g1, show ((writeS (w1, q, l, w4, w5, (v6 == 1))).1 == a) = false from beq_eq_false_iff_ne.2 g2]; exact ⟨zeroI 8, rfl, .inl rfl⟩
    · rw [decide_eq_false g1]; exact ⟨zeroI 8, rfl, .inl rfl⟩
theorem rquotas_sm (x : List Int × Bool) (t : Int) (q : List Int) (hq : q.length ≤ 4) (h16 : ∀ y ∈ q, 0 ≤ y ∧ y ≤ 16) {rest : List Int} (hr : Rd (numsB q ++ rest)) :
    iter mx (F_ref21_Read.l506 mx ((q.length : Int), x)) ((0 : Int), numsB q ++ rest, false, t, ([] : List Int), (0 : Int), (0 : Int), false) = some (rest, false, t, q, 0, 0, false) := by
  have hd : ∀ i, i ≤ q.length → Rd (numsB (q.drop i) ++ rest) := fun i => by
    induction i with
    | zero => intro _; exact hr
    | succ i ih =>
      intro hi
      have := ih (by omega)
      rw [List.drop_eq_getElem_cons (show i < q.length by omega), numsB_cons, List.append_assoc] at this
      exact this.right
  have := iter_count (f := F_ref21_Read.l506 mx ((q.length : Int), x)) (fun i => ((i : Int), numsB (q.drop i) ++ rest, false, t, q.take i, (0 : Int), (0 : Int), false)) q.length (r := (rest, false, t, q, 0, 0, false)) (lt_N0 (by omega)) (fun i hi => by
    obtain ⟨y1, y2⟩ := h16 _ (List.getElem_mem hi)
    have hn := hd (i + 1) hi
    have e : numsB (q.drop i) ++ rest = sm q[i].toNat ++ (numsB (q.drop (i + 1)) ++ rest) := by rw [List.drop_eq_getElem_cons hi, numsB_cons, List.append_assoc]
    have hx := rnum_sm (n := q[i].toNat) (by omega) hn false (m := 16) (by omega)
    rw [← e, show ((q[i].toNat : Nat) : Int) = q[i] by omega] at hx
    have c1 : Nat.ble ((q.take i).length + 1) 4294967296 = true := ble_t (by rw [List.length_take]; omega)
    have w1 : IntKind.i64.wrap q[i] = q[i] := w64 (by omega) (by omega)
    simp only [F_ref21_Read.l506, F_ref21_Read.s2024, ltd hi, cond_true, Bool.not_false, hx, Option.bind_some, List.length_singleton, c1, w1]
    rw [wuinc (by omega), take_succ' hi 0, getD_some hi]) (by
    simp only [F_ref21_Read.l506, F_ref21_Read.s2024, nltd, cond_false, List.take_length, Option.bind_some]
    rw [List.drop_eq_nil_of_le (Nat.le_refl _)]; rfl)
  exact this
theorem ritems_sm (x : List Int × Bool) (t : Int) (q : List Int) (l : List Kept) (e n : Int) (bb : Bool) (hl : l.length ≤ 1024) (hk : ∀ k ∈ l, (0 ≤ k.1 ∧ k.1 ≤ 4) ∧ itemOk k.2) (hw : ∀ k ∈ l, wfK k) {rest : List Int} (hr : Rd (keptsB l ++ rest)) :
    iter mx (F_ref21_Read.l16378 mx ((l.length : Int), x)) ((0 : Int), keptsB l ++ rest, false, t, q, ([] : List Kept), e, n, bb) = some (rest, false, t, q, l, e, n, bb) := by
  have hd : ∀ i, i ≤ l.length → Rd (keptsB (l.drop i) ++ rest) := fun i => by
    induction i with
    | zero => intro _; exact hr
    | succ i ih =>
      intro hi
      have := ih (by omega)
      rw [List.drop_eq_getElem_cons (show i < l.length by omega), keptsB_cons, List.append_assoc] at this
      exact this.right
  have := iter_count (f := F_ref21_Read.l16378 mx ((l.length : Int), x)) (fun i => ((i : Int), keptsB (l.drop i) ++ rest, false, t, q, l.take i, e, n, bb)) l.length (r := (rest, false, t, q, l, e, n, bb)) (lt_N0 (by omega)) (fun i hi => by
    obtain ⟨⟨y1, y2⟩, y3⟩ := hk _ (List.getElem_mem hi)
    obtain ⟨⟨z1, z2⟩, z3, z4⟩ := hw _ (List.getElem_mem hi)
    have hn := hd i (by omega)
    have e0 : keptsB (l.drop i) ++ rest = sm l[i].1.toNat ++ (itemB l[i].2 ++ (keptsB (l.drop (i + 1)) ++ rest)) := by
      rw [List.drop_eq_getElem_cons hi, keptsB_cons]
      simp only [keptB, itemB, List.append_assoc]
    obtain ⟨A, hA⟩ : ∃ A, keptsB (l.drop (i + 1)) ++ rest = A := ⟨_, rfl⟩
    rw [hA] at e0
    rw [e0] at hn ⊢
    have g1 := hn.right
    have p1 := rnum_sm (n := l[i].1.toNat) (by omega) g1 false (m := 4) (by omega)
    have p2 := ritm_sm (x := l[i].2) (rest := A) g1 y3.2.2.2 ⟨⟨z1, z2⟩, z3, z4⟩ false
    rw [show ((l[i].1.toNat : Nat) : Int) = l[i].1 by omega] at p1
    have c1 : Nat.ble ((l.take i).length + 1) 4294967296 = true := ble_t (by rw [List.length_take]; omega)
    have w1 : IntKind.i64.wrap l[i].1 = l[i].1 := w64 (by omega) (by omega)
    simp only [F_ref21_Read.l16378, F_ref21_Read.s65512, ltd hi, cond_true, Bool.not_false, p1, p2, Option.bind_some, List.length_singleton, c1, w1, hA]
    rw [wuinc (by omega), take_succ' hi K0, getD_some hi]) (by
    simp only [F_ref21_Read.l16378, F_ref21_Read.s65512, nltd, cond_false, List.take_length, Option.bind_some]
    rw [List.drop_eq_nil_of_le (Nat.le_refl _)]; rfl)
  exact this
theorem rimg_sm {v : Img} {a : List Int} (h : writeS v = (a, 0)) (ha : bytesI a) (hw : ∀ k ∈ v.2.2.1, wfK k) : F_ref21_Read mx a = some (withE v) := by
  obtain ⟨hok, himg, hl⟩ := writeS_ok h
  have hwr := rwrite_ok (okI_len hok) hw
  rw [h] at hwr
  obtain ⟨t, q, l, e, n, b⟩ := v
  obtain ⟨⟨t1, t2⟩, ⟨q1, q2, q3⟩, l1, ⟨e1, e2⟩, ⟨n1, n2⟩, hk, _⟩ := id hok
  dsimp only at t1 t2 q1 q2 q3 l1 e1 e2 n1 n2 hk hw
  have hR : Rd a := ⟨ha, by omega⟩
  have e0 : a = sm t.toNat ++ (sm q.length ++ (numsB q ++ (sm e.toNat ++ (sm n.toNat ++ ((if b then 1 else 0) :: (sm l.length ++ (keptsB l ++ []))))))) := by
    rw [← himg]
    simp only [imgB, headB, List.append_assoc, List.append_nil, List.singleton_append, List.cons_append, List.nil_append]
  rw [e0] at hR
  have g1 := hR.right
  have g2 : Rd (numsB q ++ (sm e.toNat ++ (sm n.toNat ++ ((if b then 1 else 0) :: (sm l.length ++ (keptsB l ++ [])))))) := g1.right
  have g3 : Rd (sm e.toNat ++ (sm n.toNat ++ ((if b then 1 else 0) :: (sm l.length ++ (keptsB l ++ []))))) := g2.right
  have g4 : Rd (sm n.toNat ++ ((if b then 1 else 0) :: (sm l.length ++ (keptsB l ++ [])))) := g3.right
  have g5 : Rd ((if b then 1 else 0) :: (sm l.length ++ (keptsB l ++ []))) := g4.right
  have g6 : Rd (sm l.length ++ (keptsB l ++ [])) := (show Rd ([if b then 1 else 0] ++ (sm l.length ++ (keptsB l ++ []))) from g5).right
  have g7 : Rd (keptsB l ++ []) := g6.right
  have p1 := rnum_sm (n := t.toNat) (by omega) g1 false (m := 1099511627776) (by omega)
  rw [← e0, show ((t.toNat : Nat) : Int) = t by omega] at p1
  have p2 := rnum_sm (n := q.length) (by omega) g2 false (m := 4) (by omega)
  have wt : IntKind.i64.wrap t = t := w64 (by omega) (by omega)
  have p3 := rquotas_sm (numsB q ++ (sm e.toNat ++ (sm n.toNat ++ ((if b then 1 else 0) :: (sm l.length ++ (keptsB l ++ []))))), false) t q q2 q3 g2
  have p4 := rnum_sm (n := e.toNat) (by omega) g4 false (m := 2147483647) (by omega)
  rw [show ((e.toNat : Nat) : Int) = e by omega] at p4
  have p5 := rnum_sm (n := n.toNat) (by omega) g5 false (m := 2147483647) (by omega)
  rw [show ((n.toNat : Nat) : Int) = n by omega] at p5
  have p6 := rbyte_sm (if b then 1 else 0) (sm l.length ++ (keptsB l ++ [])) false
  have p7 := rnum_sm (n := l.length) (by omega) g7 false (m := 1024) (by omega)
  have p8 := ritems_sm (keptsB l ++ [], false) t q l e n b l1 (fun k hk' => ⟨⟨(hk k hk').1, by have := (hk k hk').2.1; omega⟩, (hk k hk').2.2.1⟩) hw g7
  have hb : ((if b then (1 : Int) else 0) == 1) = b := by cases b <;> rfl
  have we : IntKind.i64.wrap e = e := w64 (by omega) (by omega)
  have wn : IntKind.i64.wrap n = n := w64 (by omega) (by omega)
  simp only [F_ref21_Read, decide_eq_false (show ¬ (65536 : Int) < (a.length : Int) by omega), cond_false, p1, p2, Option.bind_some, wt, p3, p4, p5, p6, p7, hb, we, wn, p8, hwr, bne_self_eq_false, beq_self_eq_true, Bool.not_true]
  rfl
theorem rimg_big {a : List Int} (h : 65536 < a.length) : F_ref21_Read mx a = some (zeroI 3) := by
  simp only [F_ref21_Read, decide_eq_true (show (65536 : Int) < (a.length : Int) by omega), cond_true]; rfl
/-- Both read alike. -/
theorem both_read {a : List Int} (ha : bytesI a) : ∃ y, F_image_Read mx a = some y ∧ F_ref21_Read mx a = some y ∧ y.2.1.length ≤ 1000 ∧ y.2.2.1.length ≤ 2000 := by
  have zl : ∀ e, (zeroI e).2.1.length ≤ 1000 ∧ (zeroI e).2.2.1.length ≤ 2000 := fun e => ⟨by simp [zeroI], by simp [zeroI]⟩
  by_cases h : 65536 < a.length
  · exact ⟨_, read_big h, rimg_big h, zl 3⟩
  obtain ⟨y1, e1, h1⟩ := read_tot ha (by omega)
  obtain ⟨y2, e2, h2⟩ := rimg_tot ha (by omega)
  rcases h1 with rfl | ⟨v, rfl, w1, w2⟩
  · rcases h2 with rfl | ⟨v, rfl, w1, w2⟩
    · exact ⟨_, e1, e2, zl 8⟩
    · rw [read_sm w2 ha w1.2] at e1
      exact ⟨_, by rw [read_sm w2 ha w1.2], e2, by have := (writeS_ok w2).1.2.1.2.1; simp only [withE]; omega, by have := (writeS_ok w2).1.2.2.1; simp only [withE]; omega⟩
  · refine ⟨_, e1, rimg_sm w2 ha w1.2, by have := (writeS_ok w2).1.2.1.2.1; simp only [withE]; omega, by have := (writeS_ok w2).1.2.2.1; simp only [withE]; omega⟩
end Go.Proofs.Ytmkfifilpkhfoaa
