/- The document's own reading of changes. -/
import Derived.Test.YtmkfifilpkhfoaaKXr
import Derived.Test.YtmkfifilpkhfoaaKNa
namespace Go.Proofs.Ytmkfifilpkhfoaa
open Go.Abs
set_option maxRecDepth 100000
theorem rch_tot {a : List Int} (ha : Rd a) (bad : Bool) : ∃ c rest bad', F_ref01_Reader_change mx (a, bad) = some (chOut c rest bad') ∧ wfC c ∧ bytesC c ∧ Rd rest := by
  have hE : bytesI ([] : List Int) := fun x hx => by cases hx
  have z : (0 ≤ (0 : Int) ∧ (0 : Int) ≤ 4294967295) ∧ (0 ≤ (0 : Int) ∧ (0 : Int) ≤ 18446744073709551615) := by decide
  obtain ⟨kd, r1, b1, p1, j1⟩ := rbyte_tot ha bad
  obtain ⟨tn, k, v, f, d, cs, b, how, n, yes, r3, b3, p3, w1, w2, y1, y2, y3, j3⟩ : ∃ tn k v f d cs b how n yes r3 b3, F_ref01_Reader_change.s14 mx (kd, r1, b1) = some (r3, b3, kd, tn, k, v, f, d, cs, b, how, n, yes) ∧
      (0 ≤ f ∧ f ≤ 4294967295) ∧ (0 ≤ cs ∧ cs ≤ 18446744073709551615) ∧ bytesI k ∧ bytesI v ∧ bytesI b ∧ Rd r3 := by
    simp only [F_ref01_Reader_change.s14]
    generalize (kd == (1 : Int)) = B1
    generalize (kd == (2 : Int)) = B2
    generalize (kd == (3 : Int)) = B3
    generalize (kd == (4 : Int)) = B4
    generalize (kd == (5 : Int)) = B5
    generalize (kd == (6 : Int)) = B6
    generalize (kd == (7 : Int)) = B7
    obtain ⟨va, ra, ba, pa, ia, _, ja⟩ := rnum_tot j1 b1 (m := 4) (by decide)
    obtain ⟨vb, rb, bb, pb, ib, _, jb⟩ := rnum_tot j1 b1 (m := 1099511627776) (by decide)
    obtain ⟨vc, rc, bc, pc, ic, _, jc⟩ := rnum_tot j1 b1 (m := 2147483647) (by decide)
    cases B1 with
    | true =>
      obtain ⟨s1, s2, v3, v4, v5, r5, b5, p5, i1, i2, i3, i5, j5⟩ := ritm_tot ja ba
      simp only [cond_true, pa, p5, Option.bind_some]
      exact ⟨_, _, _, _, _, _, _, _, _, _, _, _, rfl, i3, i5, i1.1, i2.1, hE, j5⟩
    | false =>
    cases B2 with
    | true =>
      obtain ⟨s1, q1, c1, e1, i1, l1⟩ := rtxt_tot ja ba
      obtain ⟨v2, q2, c2, e2, l2⟩ := rbyte_tot l1 c1
      simp only [cond_true, cond_false, pa, e1, e2, Option.bind_some]
      exact ⟨_, _, _, _, _, _, _, _, _, _, _, _, rfl, z.1, z.2, hE, hE, i1.1, l2⟩
    | false =>
    cases B3 with
    | true =>
      simp only [cond_true, cond_false, pa, Option.bind_some]
      exact ⟨_, _, _, _, _, _, _, _, _, _, _, _, rfl, z.1, z.2, hE, hE, hE, ja⟩
    | false =>
    cases B4 with
    | true =>
      simp only [cond_true, cond_false, pb, Option.bind_some]
      exact ⟨_, _, _, _, _, _, _, _, _, _, _, _, rfl, z.1, z.2, hE, hE, hE, jb⟩
    | false =>
    cases B5 with
    | true =>
      obtain ⟨vd, rd, bd, pd, id', _, jd⟩ := rnum_tot ja ba (m := 16) (by decide)
      simp only [cond_true, cond_false, pa, pd, Option.bind_some]
      exact ⟨_, _, _, _, _, _, _, _, _, _, _, _, rfl, z.1, z.2, hE, hE, hE, jd⟩
    | false =>
    cases B6 with
    | true =>
      obtain ⟨v2, q2, c2, e2, l2⟩ := rbyte_tot jc bc
      simp only [cond_true, cond_false, pc, e2, Option.bind_some]
      exact ⟨_, _, _, _, _, _, _, _, _, _, _, _, rfl, z.1, z.2, hE, hE, hE, l2⟩
    | false =>
    cases B7 with
    | true =>
      simp only [cond_true, cond_false, pc, Option.bind_some]
      exact ⟨_, _, _, _, _, _, _, _, _, _, _, _, rfl, z.1, z.2, hE, hE, hE, jc⟩
    | false => exact ⟨_, _, _, _, _, _, _, _, _, _, _, _, rfl, z.1, z.2, hE, hE, hE, j1⟩
  refine ⟨(kd, tn, (k, v, f, d, cs), b, how, n, yes), r3, b3, ?_, ⟨w1, w2⟩, ⟨y1, y2, y3⟩, j3⟩
  simp only [F_ref01_Reader_change, p1, p3, Option.bind_some]
  rfl
theorem rnumI {n : Int} (h0 : 0 ≤ n) (h1 : n ≤ 1099511627776) {rest : List Int} (hr : Rd rest) {m : Int} (hm : n ≤ m) : F_ref01_Reader_Number mx (sm n.toNat ++ rest, false, m) = some (n, rest, false) := by
  have := rnum_sm (n := n.toNat) (by omega) hr false (m := m) (by omega)
  rw [this]; congr 2; omega
theorem rch_sm {c : Chg} (hc : chOk c) (hw : wfC c) {rest : List Int} (hr : Rd (putB c ++ rest)) : F_ref01_Reader_change mx (putB c ++ rest, false) = some (chOut c rest false) := by
  obtain ⟨kd, t, ⟨k, v, f, d, cs⟩, b, how, n, yes⟩ := c
  obtain ⟨⟨w1, w2⟩, w3, w4⟩ := hw
  obtain ⟨⟨t1, t2⟩, hc⟩ := hc
  dsimp only at w1 w2 w3 w4 t1 t2 hc
  rcases hc with h | h | h | h | h | h | h
  · obtain ⟨rfl, ⟨⟨h1, h2⟩, h3, h4, h5⟩, rfl, rfl, rfl, rfl⟩ := h
    have e0 : putB (1, t, (k, v, f, d, cs), [], 0, 0, false) ++ rest = 1 :: (sm t.toNat ++ (itemB (k, v, f, d, cs) ++ rest)) := by
      simp only [putB, itemB, reduceIte, List.append_assoc, List.singleton_append, List.cons_append, List.nil_append]
    rw [e0] at hr ⊢
    have g0 : Rd (sm t.toNat ++ (itemB (k, v, f, d, cs) ++ rest)) := (show Rd ([1] ++ _) from hr).right
    have p1 := rbyte_sm 1 (sm t.toNat ++ (itemB (k, v, f, d, cs) ++ rest)) false
    have p2 := rnumI t1 (by omega) g0.right (m := 4) (by omega)
    have p3 := ritm_sm (x := (k, v, f, d, cs)) g0.right ⟨h4, h5⟩ ⟨⟨w1, w2⟩, w3, w4⟩ false
    simp only [F_ref01_Reader_change, p1, Option.bind_some, F_ref01_Reader_change.s14, cond_true, p2, beq_self_eq_true, p3]
    rw [w64 (n := t) (by omega) (by omega)]; rfl
  · obtain ⟨rfl, ⟨⟨h1, h2⟩, h3⟩, ⟨z1, z2, z3, z4, z5⟩, rfl, rfl⟩ := h
    dsimp only at z1 z2 z3 z4 z5
    subst z1 z2 z3 z4 z5
    have e0 : putB (2, t, ([], [], 0, 0, 0), b, how, 0, false) ++ rest = 2 :: (sm t.toNat ++ (txt b ++ (how :: rest))) := by
      simp only [putB, reduceIte, Int.reduceEq, List.append_assoc, List.singleton_append, List.cons_append, List.nil_append]
    rw [e0] at hr ⊢
    have g0 : Rd (sm t.toNat ++ (txt b ++ (how :: rest))) := (show Rd ([2] ++ _) from hr).right
    have g1 := g0.right
    have p1 := rbyte_sm 2 (sm t.toNat ++ (txt b ++ (how :: rest))) false
    have p2 := rnumI t1 (by omega) g1 (m := 4) (by omega)
    have p3 := rtxt_sm (s := b) (rest := how :: rest) (by
      have := g1
      unfold txt at this
      rw [List.append_assoc] at this
      exact this.right) false
    have p4 := rbyte_sm how rest false
    have e1 : ((2 : Int) == 1) = false := rfl
    simp only [F_ref01_Reader_change, p1, Option.bind_some, F_ref01_Reader_change.s14, e1, cond_true, cond_false, p2, beq_self_eq_true, p3, p4]
    rw [w64 (n := t) (by omega) (by omega)]; rfl
  · obtain ⟨rfl, ⟨z1, z2, z3, z4, z5⟩, rfl, rfl, rfl, rfl⟩ := h
    dsimp only at z1 z2 z3 z4 z5
    subst z1 z2 z3 z4 z5
    have e0 : putB (3, t, ([], [], 0, 0, 0), [], 0, 0, false) ++ rest = 3 :: (sm t.toNat ++ rest) := by
      simp only [putB, reduceIte, Int.reduceEq, List.append_assoc, List.singleton_append, List.cons_append, List.nil_append]
    rw [e0] at hr ⊢
    have g0 : Rd (sm t.toNat ++ rest) := (show Rd ([3] ++ _) from hr).right
    have p1 := rbyte_sm 3 (sm t.toNat ++ rest) false
    have p2 := rnumI t1 (by omega) g0.right (m := 4) (by omega)
    have e1 : ((3 : Int) == 1) = false := rfl
    have e2 : ((3 : Int) == 2) = false := rfl
    simp only [F_ref01_Reader_change, p1, Option.bind_some, F_ref01_Reader_change.s14, e1, e2, cond_true, cond_false, p2, beq_self_eq_true]
    rw [w64 (n := t) (by omega) (by omega)]; rfl
  · obtain ⟨rfl, ⟨h1, h2⟩, rfl, ⟨z1, z2, z3, z4, z5⟩, rfl, rfl, rfl⟩ := h
    dsimp only at z1 z2 z3 z4 z5
    subst z1 z2 z3 z4 z5
    have e0 : putB (4, 0, ([], [], 0, 0, 0), [], 0, n, false) ++ rest = 4 :: (sm n.toNat ++ rest) := by
      simp only [putB, reduceIte, Int.reduceEq, List.append_assoc, List.singleton_append, List.cons_append, List.nil_append]
    rw [e0] at hr ⊢
    have g0 : Rd (sm n.toNat ++ rest) := (show Rd ([4] ++ _) from hr).right
    have p1 := rbyte_sm 4 (sm n.toNat ++ rest) false
    have p2 := rnumI h1 (by omega) g0.right (m := 1099511627776) (by omega)
    have e1 : ((4 : Int) == 1) = false := rfl
    have e2 : ((4 : Int) == 2) = false := rfl
    have e3 : ((4 : Int) == 3) = false := rfl
    simp only [F_ref01_Reader_change, p1, Option.bind_some, F_ref01_Reader_change.s14, e1, e2, e3, cond_true, cond_false, p2, beq_self_eq_true]
    rw [w64 (n := n) (by omega) (by omega)]; rfl
  · obtain ⟨rfl, ⟨h1, h2⟩, ⟨z1, z2, z3, z4, z5⟩, rfl, rfl, rfl⟩ := h
    dsimp only at z1 z2 z3 z4 z5
    subst z1 z2 z3 z4 z5
    have e0 : putB (5, t, ([], [], 0, 0, 0), [], 0, n, false) ++ rest = 5 :: (sm t.toNat ++ (sm n.toNat ++ rest)) := by
      simp only [putB, reduceIte, Int.reduceEq, List.append_assoc, List.singleton_append, List.cons_append, List.nil_append]
    rw [e0] at hr ⊢
    have g0 : Rd (sm t.toNat ++ (sm n.toNat ++ rest)) := (show Rd ([5] ++ _) from hr).right
    have g1 := g0.right
    have p1 := rbyte_sm 5 (sm t.toNat ++ (sm n.toNat ++ rest)) false
    have p2 := rnumI t1 (by omega) g1 (m := 4) (by omega)
    have p3 := rnumI h1 (by omega) g1.right (m := 16) (by omega)
    have e1 : ((5 : Int) == 1) = false := rfl
    have e2 : ((5 : Int) == 2) = false := rfl
    have e3 : ((5 : Int) == 3) = false := rfl
    have e4 : ((5 : Int) == 4) = false := rfl
    simp only [F_ref01_Reader_change, p1, Option.bind_some, F_ref01_Reader_change.s14, e1, e2, e3, e4, cond_true, cond_false, p2, p3, beq_self_eq_true]
    rw [w64 (n := t) (by omega) (by omega), w64 (n := n) (by omega) (by omega)]; rfl
  · obtain ⟨rfl, ⟨h1, h2⟩, rfl, ⟨z1, z2, z3, z4, z5⟩, rfl, rfl⟩ := h
    dsimp only at z1 z2 z3 z4 z5
    subst z1 z2 z3 z4 z5
    have e0 : putB (6, 0, ([], [], 0, 0, 0), [], 0, n, yes) ++ rest = 6 :: (sm n.toNat ++ ((if yes then 1 else 0) :: rest)) := by
      simp only [putB, reduceIte, Int.reduceEq, List.append_assoc, List.singleton_append, List.cons_append, List.nil_append]
    rw [e0] at hr ⊢
    have g0 : Rd (sm n.toNat ++ ((if yes then 1 else 0) :: rest)) := (show Rd ([6] ++ _) from hr).right
    have p1 := rbyte_sm 6 (sm n.toNat ++ ((if yes then 1 else 0) :: rest)) false
    have p2 := rnumI h1 (by omega) g0.right (m := 2147483647) (by omega)
    have p3 := rbyte_sm (if yes then 1 else 0) rest false
    have e1 : ((6 : Int) == 1) = false := rfl
    have e2 : ((6 : Int) == 2) = false := rfl
    have e3 : ((6 : Int) == 3) = false := rfl
    have e4 : ((6 : Int) == 4) = false := rfl
    have e5 : ((6 : Int) == 5) = false := rfl
    simp only [F_ref01_Reader_change, p1, Option.bind_some, F_ref01_Reader_change.s14, e1, e2, e3, e4, e5, cond_true, cond_false, p2, p3, beq_self_eq_true]
    rw [w64 (n := n) (by omega) (by omega)]
    cases yes <;> rfl
  · obtain ⟨rfl, ⟨h1, h2⟩, rfl, ⟨z1, z2, z3, z4, z5⟩, rfl, rfl, rfl⟩ := h
    dsimp only at z1 z2 z3 z4 z5
    subst z1 z2 z3 z4 z5
    have e0 : putB (7, 0, ([], [], 0, 0, 0), [], 0, n, false) ++ rest = 7 :: (sm n.toNat ++ rest) := by
      simp only [putB, reduceIte, Int.reduceEq, List.append_assoc, List.singleton_append, List.cons_append, List.nil_append]
    rw [e0] at hr ⊢
    have g0 : Rd (sm n.toNat ++ rest) := (show Rd ([7] ++ _) from hr).right
    have p1 := rbyte_sm 7 (sm n.toNat ++ rest) false
    have p2 := rnumI h1 (by omega) g0.right (m := 2147483647) (by omega)
    have e1 : ((7 : Int) == 1) = false := rfl
    have e2 : ((7 : Int) == 2) = false := rfl
    have e3 : ((7 : Int) == 3) = false := rfl
    have e4 : ((7 : Int) == 4) = false := rfl
    have e5 : ((7 : Int) == 5) = false := rfl
    have e6 : ((7 : Int) == 6) = false := rfl
    simp only [F_ref01_Reader_change, p1, Option.bind_some, F_ref01_Reader_change.s14, e1, e2, e3, e4, e5, e6, cond_true, cond_false, p2, beq_self_eq_true]
    rw [w64 (n := n) (by omega) (by omega)]; rfl
theorem uinc {k : Nat} (h : k ≤ 1000000) : IntKind.u64.wrap ((k : Int) + 1) = ((k + 1 : Nat) : Int) := by
  rw [wu64 (by omega) (by omega)]; omega
theorem rof_tot {a : List Int} (ha : bytesI a) (hl : a.length ≤ 65536) : ∃ y, F_ref01_OfChanges mx a = some y ∧ (y = ([], 8) ∨ (y.2 = 0 ∧ IsCh a y.1)) := by
  obtain ⟨cnt, r1, b1, p1, i1, _, j1⟩ := rnum_tot (a := a) ⟨ha, by omega⟩ false (m := 4096) (by decide)
  obtain ⟨r, hr, l, rest, b, rfl, hw⟩ := iter_inv (f := F_ref01_OfChanges.l506 mx (cnt, r1, b1)) (fun s => ∃ (k : Nat) (l : List Chg) (rest : List Int) (b : Bool), s = (l, (k : Int), rest, b) ∧ l.length = k ∧ k ≤ 4096 ∧ Rd rest ∧ ∀ c ∈ l, wfC c ∧ bytesC c) (fun s => 4096 - s.2.1.toNat)
    (fun r => ∃ l rest b, r = (l, rest, b) ∧ ∀ c ∈ l, wfC c ∧ bytesC c) (([] : List Chg), (0 : Int), r1, b1) ⟨0, [], r1, b1, rfl, rfl, by omega, j1, fun c hc => by cases hc⟩ (lt_N0 (by dsimp only; omega)) (fun s ⟨k, l, rest, b, es, hk, hk2, hrd, hw⟩ => by
      subst es
      by_cases h : (k : Int) < cnt
      · cases b with
        | true => exact .inr ⟨(l, rest, true), by simp only [F_ref01_OfChanges.l506, F_ref01_OfChanges.s2024, decide_eq_true h, cond_true, Bool.not_true, cond_false, Option.bind_some], l, rest, true, rfl, hw⟩
        | false =>
        obtain ⟨c, rest', b', p2, q1, q2, q3⟩ := rch_tot hrd false
        have c1 : Nat.ble (l.length + 1) 4294967296 = true := ble_t (by omega)
        refine .inl ⟨(l ++ [c], ((k + 1 : Nat) : Int), rest', b'), ?_, ⟨k + 1, l ++ [c], rest', b', rfl, by simp [hk], by omega, q3, fun x hx => ?_⟩, by dsimp only; omega⟩
        · simp only [F_ref01_OfChanges.l506, F_ref01_OfChanges.s2024, decide_eq_true h, cond_true, Bool.not_false, Option.bind_some, p2, chOut, List.length_singleton, c1]
          rw [uinc (by omega)]
        · rcases List.mem_append.1 hx with hx | hx
          · exact hw x hx
          · rw [List.mem_singleton] at hx; subst hx; exact ⟨q1, q2⟩
      · refine .inr ⟨(l, rest, b), ?_, l, rest, b, rfl, hw⟩
        simp only [F_ref01_OfChanges.l506, F_ref01_OfChanges.s2024, decide_eq_false h, cond_false, Option.bind_some])
  simp only [F_ref01_OfChanges, decide_eq_false (show ¬ (65536 : Int) < (a.length : Int) by omega), cond_false, p1, Option.bind_some, hr]
  simp only [rchanges_ok (fun c hc => (hw c hc).1), Option.bind_some, bne_int]
  cases b with
  | true => exact ⟨([], 8), rfl, .inl rfl⟩
  | false =>
    by_cases g1 : chErr l = 0
    case neg => rw [decide_eq_false g1]; exact ⟨([], 8), rfl, .inl rfl⟩
    simp only [if_pos g1]
    by_cases g2 : chBytes l = a
    · rw [decide_eq_true g1, g2, beq_self_eq_true]; exact ⟨(l, 0), rfl, .inr ⟨rfl, g1, g2, hw⟩⟩
    · rw [decide_eq_true g1, beq_eq_false_iff_ne.2 g2]; exact ⟨([], 8), rfl, .inl rfl⟩
theorem rof_sm {cs : List Chg} {a : List Int} (h : IsCh a cs) (ha : bytesI a) : F_ref01_OfChanges mx a = some (cs, 0) := by
  obtain ⟨h1, h2, hw⟩ := h
  obtain ⟨h3, h4, h5⟩ := chErr_zero.1 h1
  have hl : a.length ≤ 65536 := by rw [← h2]; exact h5
  have e0 : a = sm cs.length ++ (putsB cs ++ []) := by rw [← h2, List.append_nil]; rfl
  have hR : Rd a := ⟨ha, by omega⟩
  rw [e0] at hR
  have g1 := hR.right
  have p1 := rnum_sm (n := cs.length) (by omega) g1 false (m := 4096) (by omega)
  rw [← e0] at p1
  have hd : ∀ i, i ≤ cs.length → Rd (putsB (cs.drop i) ++ []) := fun i => by
    induction i with
    | zero => intro _; exact g1
    | succ i ih =>
      intro hi
      have := ih (by omega)
      rw [List.drop_eq_getElem_cons (show i < cs.length by omega), putsB_cons, List.append_assoc] at this
      exact this.right
  have hloop := iter_count (f := F_ref01_OfChanges.l506 mx ((cs.length : Int), putsB cs ++ [], false)) (fun i => (cs.take i, (i : Int), putsB (cs.drop i) ++ [], false)) cs.length (r := (cs, [], false)) (lt_N0 (by omega)) (fun i hi => by
    have hn := hd i (by omega)
    have e1 : putsB (cs.drop i) ++ [] = putB cs[i] ++ (putsB (cs.drop (i + 1)) ++ []) := by rw [List.drop_eq_getElem_cons hi, putsB_cons, List.append_assoc]
    rw [e1] at hn ⊢
    have p2 := rch_sm (h4 _ (List.getElem_mem hi)) (hw _ (List.getElem_mem hi)).1 hn
    have c1 : Nat.ble ((cs.take i).length + 1) 4294967296 = true := ble_t (by rw [List.length_take]; omega)
    simp only [F_ref01_OfChanges.l506, F_ref01_OfChanges.s2024, ltd hi, cond_true, Bool.not_false, p2, Option.bind_some, chOut, List.length_singleton, c1]
    rw [uinc (by omega), take_succ' hi C0, getD_some hi]) (by
    simp only [F_ref01_OfChanges.l506, F_ref01_OfChanges.s2024, nltd, cond_false, Option.bind_some, List.take_length]
    rw [List.drop_eq_nil_of_le (Nat.le_refl _)]; rfl)
  have hloop : iter mx (F_ref01_OfChanges.l506 mx ((cs.length : Int), putsB cs ++ [], false)) (([] : List Chg), (0 : Int), putsB cs ++ [], false) = _ := hloop
  simp only [F_ref01_OfChanges, decide_eq_false (show ¬ (65536 : Int) < (a.length : Int) by omega), cond_false, p1, Option.bind_some, hloop, rchanges_ok (fun c hc => (hw c hc).1), h1, if_pos, h2, bne_self_eq_false, Bool.not_true, beq_self_eq_true]
/-- Both read alike. -/
theorem rof_both {a : List Int} (ha : bytesI a) : ∃ y, F_code_OfChanges mx a = some y ∧ F_ref01_OfChanges mx a = some y ∧ (y.2 = 0 ↔ ∃ cs, IsCh a cs) := by
  by_cases hl : 65536 < a.length
  · refine ⟨([], 3), ?_, ?_, ⟨fun h => (by cases h), fun ⟨cs, h1, h2, _⟩ => ?_⟩⟩
    · simp only [F_code_OfChanges, decide_eq_true (show (65536 : Int) < (a.length : Int) by omega), cond_true]
    · simp only [F_ref01_OfChanges, decide_eq_true (show (65536 : Int) < (a.length : Int) by omega), cond_true]
    · have := (chErr_zero.1 h1).2.2; rw [h2] at this; omega
  by_cases h : ∃ cs, IsCh a cs
  · obtain ⟨cs, h⟩ := h
    exact ⟨(cs, 0), of_sm h ha, rof_sm h ha, ⟨fun _ => ⟨cs, h⟩, fun _ => rfl⟩⟩
  · obtain ⟨y, h1, h2⟩ := of_tot ha
    obtain ⟨z, g1, g2⟩ := rof_tot ha (by omega)
    have hy : y = ([], 8) := by
      rcases h2 with ⟨h2, h3⟩ | ⟨h2, _⟩ | ⟨_, h2⟩
      · exact Prod.ext h2 h3
      · omega
      · exact absurd ⟨_, h2⟩ h
    have hz : z = ([], 8) := by
      rcases g2 with g2 | ⟨_, g2⟩
      · exact g2
      · exact absurd ⟨_, g2⟩ h
    subst hy hz
    exact ⟨_, h1, g1, ⟨fun h => (by cases h), fun hh => absurd hh h⟩⟩
end Go.Proofs.Ytmkfifilpkhfoaa
