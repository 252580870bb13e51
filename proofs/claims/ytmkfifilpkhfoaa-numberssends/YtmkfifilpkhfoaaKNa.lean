/- Changes are read from bytes. -/
import Derived.Test.YtmkfifilpkhfoaaKIu
namespace Go.Proofs.Ytmkfifilpkhfoaa
open Go.Abs
set_option maxRecDepth 100000
theorem cwide_eq {a : List Int} {v e : Int} {n : Nat} (h : F_code_Read mx a = some (v, (n : Int), e)) (hn : n ≤ a.length) (bad : Bool) : F_code_reader_wide mx (a, bad) = some (v, a.drop n, bad || (e != 0)) := by
  have hs : F_code_reader_wide.s14 mx a bad (v, (n : Int), e) = some (a, bad || (e != 0)) := by
    cases bad <;> rfl
  simp only [F_code_reader_wide, h, Option.bind_some, hs, lez, decide_eq_true (show (n : Int) ≤ (a.length : Int) by omega), Int.le_refl, decide_true, Bool.and_self, cond_true, Int.toNat_natCast, List.take_length]
theorem cwide_tot {a : List Int} (ha : Rd a) (bad : Bool) : ∃ v rest bad', F_code_reader_wide mx (a, bad) = some (v, rest, bad') ∧ (0 ≤ v ∧ v ≤ 18446744073709551615) ∧ Rd rest := by
  obtain ⟨v, n, e, h1, h2, h3, h4⟩ := codeRead_tot ha.1 (by have := ha.2; omega)
  exact ⟨v, a.drop n, _, cwide_eq h1 h4 bad, ⟨h2, h3⟩, ha.drop n⟩
theorem cwide_sm {n : Nat} (hn : n < 18446744073709551616) {rest : List Int} (hr : Rd rest) (bad : Bool) : F_code_reader_wide mx (sm n ++ rest, bad) = some ((n : Int), rest, bad) := by
  have h := codeRead_sm hn hr.1 (by have := hr.2; omega)
  rw [cwide_eq h (by rw [List.length_append]; omega), List.drop_left']
  · simp
  · rfl
theorem cnum_tot {a : List Int} (ha : Rd a) (bad : Bool) {m : Int} (hm0 : 0 ≤ m) (hm : m ≤ 4611686018427387904) : ∃ v rest bad', F_code_reader_num mx (a, bad, m) = some (v, rest, bad') ∧ (0 ≤ v ∧ v ≤ m) ∧ Rd rest := by
  obtain ⟨v, rest, b, h1, ⟨h2, h2'⟩, h3⟩ := cwide_tot ha bad
  simp only [F_code_reader_num, h1, Option.bind_some]
  rw [wu64 hm0 (by omega)]
  by_cases h : m < v
  · rw [decide_eq_true h]; exact ⟨0, rest, true, rfl, ⟨Int.le_refl _, hm0⟩, h3⟩
  · rw [decide_eq_false h, w64 (n := v) (by omega) (by omega)]; exact ⟨v, rest, b, rfl, ⟨h2, by omega⟩, h3⟩
theorem cnum_sm {n : Int} (h0 : 0 ≤ n) {rest : List Int} (hr : Rd rest) (bad : Bool) {m : Int} (h1 : n ≤ m) (hm : m ≤ 4611686018427387904) : F_code_reader_num mx (sm n.toNat ++ rest, bad, m) = some (n, rest, bad) := by
  simp only [F_code_reader_num, cwide_sm (show n.toNat < 18446744073709551616 by omega) hr bad, Option.bind_some]
  rw [wu64 (by omega) (by omega), decide_eq_false (show ¬ m < ((n.toNat : Nat) : Int) by omega), w64 (n := ((n.toNat : Nat) : Int)) (by omega) (by omega), show ((n.toNat : Nat) : Int) = n by omega]; rfl
theorem cbyte_tot {a : List Int} (ha : Rd a) (bad : Bool) : ∃ v rest bad', F_code_reader_byte mx (a, bad) = some (v, rest, bad') ∧ Rd rest := by
  simp only [F_code_reader_byte, ieq]
  by_cases h : a.length = 0
  · rw [decide_eq_true (show (a.length : Int) = 0 by omega)]; exact ⟨0, a, true, rfl, ha⟩
  · simp only [decide_eq_false (show ¬ (a.length : Int) = 0 by omega), cond_false, decide_eq_true (show (0 : Int) < (a.length : Int) by omega), decide_eq_true (show (1 : Int) ≤ (a.length : Int) by omega), Int.le_refl, decide_true, Bool.and_self, cond_true, Int.toNat_natCast, List.take_length]
    exact ⟨_, _, _, rfl, ha.drop 1⟩
theorem cbyte_sm (x : Int) (rest : List Int) (bad : Bool) : F_code_reader_byte mx (x :: rest, bad) = some (x, rest, bad) := by
  have h1 : (x :: rest).length = rest.length + 1 := List.length_cons
  simp only [F_code_reader_byte, ieq, decide_eq_false (show ¬ ((x :: rest).length : Int) = 0 by omega), cond_false, decide_eq_true (show (0 : Int) < ((x :: rest).length : Int) by omega), decide_eq_true (show (1 : Int) ≤ ((x :: rest).length : Int) by omega), Int.le_refl, decide_true, Bool.and_self, cond_true, Int.toNat_natCast, List.take_length]
  rfl
theorem cut_eq {a : List Int} (hl : a.length ≤ 70000) {v e : Int} {n : Nat} (h : F_code_Read mx a = some (v, (n : Int), e)) (hn : n ≤ a.length) (hv : 0 ≤ v ∧ v ≤ 18446744073709551615) :
    F_code_cut mx a = some (if e = 0 ∧ v ≤ (a.length : Int) - (n : Int) then ((a.drop n).take v.toNat, a.drop (n + v.toNat), 0) else ([], [], 8)) := by
  have w1 : IntKind.u64.wrap (IntKind.i64.wrap ((a.length : Int) - (n : Int))) = (a.length : Int) - (n : Int) := by rw [w64 (by omega) (by omega), wu64 (by omega) (by omega)]
  simp only [F_code_cut, h, Option.bind_some, w1, bne_int]
  by_cases g1 : e = 0
  case neg => rw [decide_eq_false g1, if_neg (fun hh => g1 hh.1)]; rfl
  rw [decide_eq_true g1]
  by_cases g2 : v ≤ (a.length : Int) - (n : Int)
  case neg => rw [decide_eq_true (show (a.length : Int) - (n : Int) < v by omega), if_neg (fun hh => g2 hh.2)]; rfl
  obtain ⟨m, rfl⟩ := Int.eq_ofNat_of_zero_le hv.1
  have w2 : IntKind.i64.wrap ((n : Int) + IntKind.i64.wrap (m : Int)) = ((n + m : Nat) : Int) := by rw [w64 (n := (m : Int)) (by omega) (by omega), w64 (by omega) (by omega)]; omega
  have hdl : (a.drop n).length = a.length - n := List.length_drop
  simp only [decide_eq_false (show ¬ (a.length : Int) - (n : Int) < (m : Int) by omega), Bool.not_true, cond_false, lez, decide_eq_true (show (n : Int) ≤ (a.length : Int) by omega), Int.le_refl, decide_true, Bool.and_self, cond_true, Int.toNat_natCast, List.take_length, decide_eq_true (show (m : Int) ≤ ((a.drop n).length : Int) by omega), w2,
    decide_eq_true (show ((n + m : Nat) : Int) ≤ (a.length : Int) by omega), List.drop_zero, if_pos (show e = 0 ∧ (m : Int) ≤ (a.length : Int) - (n : Int) from ⟨g1, g2⟩)]
theorem ctext_tot {a : List Int} (ha : Rd a) (bad : Bool) : ∃ s rest bad', F_code_reader_text mx (a, bad) = some (s, rest, bad') ∧ Rd s ∧ Rd rest := by
  obtain ⟨v, n, e, h1, h2, h3, h4⟩ := codeRead_tot ha.1 (by have := ha.2; omega)
  have hc := cut_eq ha.2 h1 h4 ⟨h2, h3⟩
  by_cases g : e = 0 ∧ v ≤ (a.length : Int) - (n : Int)
  · rw [if_pos g] at hc
    simp only [F_code_reader_text, hc, Option.bind_some, bne_self_eq_false, cond_false]
    exact ⟨_, _, _, rfl, (ha.drop _).take _, ha.drop _⟩
  · rw [if_neg g] at hc
    simp only [F_code_reader_text, hc, Option.bind_some]
    exact ⟨[], a, true, rfl, ⟨fun x hx => (by cases hx), by simp⟩, ha⟩
theorem ctext_sm {s rest : List Int} (hs : Rd (s ++ rest)) (hl2 : (txt s ++ rest).length ≤ 70000) (bad : Bool) : F_code_reader_text mx (txt s ++ rest, bad) = some (s, rest, bad) := by
  have hl := hs.2
  rw [List.length_append] at hl
  have h := codeRead_sm (n := s.length) (by omega) hs.1 (by rw [List.length_append]; omega)
  have e : sm s.length ++ (s ++ rest) = txt s ++ rest := by unfold txt; rw [List.append_assoc]
  rw [e] at h
  have hla : (txt s ++ rest).length = (sm s.length).length + s.length + rest.length := by unfold txt; simp only [List.length_append]
  have hc := cut_eq hl2 h (by omega) ⟨by omega, by omega⟩
  rw [if_pos ⟨rfl, by omega⟩, Int.toNat_natCast] at hc
  have e1 : ((txt s ++ rest).drop (sm s.length).length).take s.length = s := by
    rw [← e, List.drop_left' rfl, List.take_left' rfl]
  have e2 : (txt s ++ rest).drop ((sm s.length).length + s.length) = rest := by
    rw [show (sm s.length).length + s.length = (txt s).length by unfold txt; rw [List.length_append], List.drop_left' rfl]
  rw [e1, e2] at hc
  simp only [F_code_reader_text, hc, Option.bind_some, bne_self_eq_false, cond_false]

/-! ### a change -/
def chOut (c : Chg) (rest : List Int) (bad : Bool) : Int × Int × List Int × List Int × Int × Int × Int × List Int × Int × Int × Bool × List Int × Bool :=
  (c.1, c.2.1, c.2.2.1.1, c.2.2.1.2.1, c.2.2.1.2.2.1, c.2.2.1.2.2.2.1, c.2.2.1.2.2.2.2, c.2.2.2.1, c.2.2.2.2.1, c.2.2.2.2.2.1, c.2.2.2.2.2.2, rest, bad)
def bytesC (c : Chg) : Prop := bytesI c.2.2.1.1 ∧ bytesI c.2.2.1.2.1 ∧ bytesI c.2.2.2.1
theorem ch_tot {a : List Int} (ha : Rd a) (bad : Bool) : ∃ c rest bad', F_code_reader_change mx (a, bad) = some (chOut c rest bad') ∧ wfC c ∧ bytesC c ∧ Rd rest := by
  have hE : bytesI ([] : List Int) := fun x hx => by cases hx
  obtain ⟨kd, r1, b1, p1, j1⟩ := cbyte_tot ha bad
  obtain ⟨tn, r2, b2, p2, j2⟩ : ∃ tn r2 b2, F_code_reader_change.s14 mx (kd, r1, b1) = some (r2, b2, kd, tn, [], [], 0, 0, 0, [], 0, 0, false) ∧ Rd r2 := by
    simp only [F_code_reader_change.s14]
    obtain ⟨B, hB⟩ : ∃ B, F_code_reader_change.s116 mx (kd, r1, b1) = some B := by
      simp only [F_code_reader_change.s116]
      cases (kd == (1 : Int)) <;> cases (kd == (2 : Int)) <;> cases (kd == (3 : Int)) <;> exact ⟨_, rfl⟩
    rw [hB]
    cases B with
    | false => exact ⟨0, r1, b1, rfl, j1⟩
    | true =>
      obtain ⟨v, r2, b2, p2, _, j2⟩ := cnum_tot j1 b1 (m := 4) (by decide) (by decide)
      simp only [Option.bind_some, cond_true, p2]
      exact ⟨v, r2, b2, rfl, j2⟩
  obtain ⟨k, v, f, d, cs, b, how, n, yes, r3, b3, p3, w1, w2, y1, y2, y3, j3⟩ : ∃ k v f d cs b how n yes r3 b3, F_code_reader_change.s30 mx (r2, b2, kd, tn, [], [], 0, 0, 0, [], 0, 0, false) = some (r3, b3, kd, tn, k, v, f, d, cs, b, how, n, yes) ∧
      (0 ≤ f ∧ f ≤ 4294967295) ∧ (0 ≤ cs ∧ cs ≤ 18446744073709551615) ∧ bytesI k ∧ bytesI v ∧ bytesI b ∧ Rd r3 := by
    have z : (0 ≤ (0 : Int) ∧ (0 : Int) ≤ 4294967295) ∧ (0 ≤ (0 : Int) ∧ (0 : Int) ≤ 18446744073709551615) := by decide
    simp only [F_code_reader_change.s30, ieq]
    by_cases k1 : kd = 1
    · rw [decide_eq_true k1]
      obtain ⟨s1, q1, c1, e1, i1, l1⟩ := ctext_tot j2 b2
      obtain ⟨s2, q2, c2, e2, i2, l2⟩ := ctext_tot l1 c1
      obtain ⟨v3, q3, c3, e3, i3, l3⟩ := cnum_tot l2 c2 (m := 4294967295) (by decide) (by decide)
      obtain ⟨v4, q4, c4, e4, i4, l4⟩ := cnum_tot l3 c3 (m := 1099511627776) (by decide) (by decide)
      obtain ⟨v5, q5, c5, e5, i5, l5⟩ := cwide_tot l4 c4
      simp only [cond_true, e1, e2, e3, e4, e5, Option.bind_some]
      exact ⟨_, _, _, _, _, _, _, _, _, _, _, rfl, by rw [wu32 i3.1 i3.2]; exact i3, i5, i1.1, i2.1, hE, l5⟩
    rw [decide_eq_false k1]
    by_cases k2 : kd = 2
    · rw [decide_eq_true k2]
      obtain ⟨s1, q1, c1, e1, i1, l1⟩ := ctext_tot j2 b2
      obtain ⟨v2, q2, c2, e2, l2⟩ := cbyte_tot l1 c1
      simp only [cond_true, cond_false, e1, e2, Option.bind_some]
      exact ⟨_, _, _, _, _, _, _, _, _, _, _, rfl, z.1, z.2, hE, hE, i1.1, l2⟩
    rw [decide_eq_false k2]
    obtain ⟨B, hB⟩ : ∃ B, F_code_reader_change.s3934 mx (r2, b2, kd, tn, [], [], 0, 0, 0, [], 0, 0, false) = some B := by
      simp only [F_code_reader_change.s3934]
      cases (kd == (4 : Int)) <;> cases (kd == (5 : Int)) <;> cases (kd == (6 : Int)) <;> exact ⟨_, rfl⟩
    simp only [cond_false, hB, Option.bind_some]
    cases B with
    | false => exact ⟨_, _, _, _, _, _, _, _, _, _, _, rfl, z.1, z.2, hE, hE, hE, j2⟩
    | true =>
      obtain ⟨v1, q1, c1, e1, i1, l1⟩ := cnum_tot j2 b2 (m := 1099511627776) (by decide) (by decide)
      simp only [cond_true, e1, Option.bind_some]
      exact ⟨_, _, _, _, _, _, _, _, _, _, _, rfl, z.1, z.2, hE, hE, hE, l1⟩
  obtain ⟨yes', r4, b4, p4, j4⟩ : ∃ yes' r4 b4, F_code_reader_change.s62 mx (r3, b3, kd, tn, k, v, f, d, cs, b, how, n, yes) = some (r4, b4, kd, tn, k, v, f, d, cs, b, how, n, yes') ∧ Rd r4 := by
    simp only [F_code_reader_change.s62, ieq]
    by_cases k6 : kd = 6
    · rw [decide_eq_true k6]
      obtain ⟨v1, q1, c1, e1, l1⟩ := cbyte_tot j3 b3
      simp only [cond_true, e1, Option.bind_some]
      exact ⟨_, _, _, rfl, l1⟩
    · rw [decide_eq_false k6]; exact ⟨_, _, _, rfl, j3⟩
  refine ⟨(kd, tn, (k, v, f, d, cs), b, how, n, yes'), r4, b4, ?_, ⟨w1, w2⟩, ⟨y1, y2, y3⟩, j4⟩
  simp only [F_code_reader_change, p1, p2, p3, p4, Option.bind_some]
  rfl
theorem ch_sm {c : Chg} (hc : chOk c) (hw : wfC c) {rest : List Int} (hr : Rd (putB c ++ rest)) : F_code_reader_change mx (putB c ++ rest, false) = some (chOut c rest false) := by
  obtain ⟨kd, t, ⟨k, v, f, d, cs⟩, b, how, n, yes⟩ := c
  obtain ⟨⟨w1, w2⟩, w3, w4⟩ := hw
  obtain ⟨⟨t1, t2⟩, hc⟩ := hc
  dsimp only at w1 w2 w3 w4 t1 t2 hc
  rcases hc with h | h | h | h | h | h | h
  · obtain ⟨rfl, ⟨⟨h1, h2⟩, h3, h4, h5⟩, rfl, rfl, rfl, rfl⟩ := h
    have e0 : putB (1, t, (k, v, f, d, cs), [], 0, 0, false) ++ rest = 1 :: (sm t.toNat ++ (txt k ++ (txt v ++ (sm f.toNat ++ (sm d.toNat ++ (sm cs.toNat ++ rest)))))) := by
      simp only [putB, reduceIte, List.append_assoc, List.singleton_append, List.cons_append, List.nil_append]
    rw [e0] at hr ⊢
    have g0 : Rd (sm t.toNat ++ (txt k ++ (txt v ++ (sm f.toNat ++ (sm d.toNat ++ (sm cs.toNat ++ rest)))))) := (show Rd ([1] ++ _) from hr).right
    have g1 := g0.right
    have g2 : Rd (txt v ++ (sm f.toNat ++ (sm d.toNat ++ (sm cs.toNat ++ rest)))) := g1.right
    have g3 : Rd (sm f.toNat ++ (sm d.toNat ++ (sm cs.toNat ++ rest))) := g2.right
    have g4 := g3.right
    have g5 := g4.right
    have g6 := g5.right
    have p1 := cbyte_sm 1 (sm t.toNat ++ (txt k ++ (txt v ++ (sm f.toNat ++ (sm d.toNat ++ (sm cs.toNat ++ rest)))))) false
    have p2 := cnum_sm t1 g1 false (m := 4) (by omega) (by decide)
    have p3 := ctext_sm (s := k) (rest := txt v ++ (sm f.toNat ++ (sm d.toNat ++ (sm cs.toNat ++ rest)))) (by
      have := g1
      unfold txt at this ⊢
      rw [List.append_assoc] at this
      exact this.right) g1.2 false
    have p4 := ctext_sm (s := v) (rest := sm f.toNat ++ (sm d.toNat ++ (sm cs.toNat ++ rest))) (by
      have := g2
      unfold txt at this
      rw [List.append_assoc] at this
      exact this.right) g2.2 false
    have p5 := cnum_sm w1 g4 false (m := 4294967295) w2 (by decide)
    have p6 := cnum_sm h4 g5 false (m := 1099511627776) h5 (by decide)
    have p7 := cwide_sm (n := cs.toNat) (by omega) g6 false
    rw [show ((cs.toNat : Nat) : Int) = cs by omega] at p7
    have s1 : F_code_reader_change.s116 mx (1, sm t.toNat ++ (txt k ++ (txt v ++ (sm f.toNat ++ (sm d.toNat ++ (sm cs.toNat ++ rest))))), false) = some true := rfl
    have e6 : ((1 : Int) == 6) = false := rfl
    simp only [F_code_reader_change, p1, Option.bind_some, F_code_reader_change.s14, s1, cond_true, p2, F_code_reader_change.s30, beq_self_eq_true, p3, p4, p5, p6, p7, F_code_reader_change.s62, e6, cond_false]
    rw [wu32 w1 w2]; rfl
  · obtain ⟨rfl, ⟨⟨h1, h2⟩, h3⟩, ⟨z1, z2, z3, z4, z5⟩, rfl, rfl⟩ := h
    dsimp only at z1 z2 z3 z4 z5
    subst z1 z2 z3 z4 z5
    have e0 : putB (2, t, ([], [], 0, 0, 0), b, how, 0, false) ++ rest = 2 :: (sm t.toNat ++ (txt b ++ (how :: rest))) := by
      simp only [putB, reduceIte, Int.reduceEq, List.append_assoc, List.singleton_append, List.cons_append, List.nil_append]
    rw [e0] at hr ⊢
    have g0 : Rd (sm t.toNat ++ (txt b ++ (how :: rest))) := (show Rd ([2] ++ _) from hr).right
    have g1 := g0.right
    have p1 := cbyte_sm 2 (sm t.toNat ++ (txt b ++ (how :: rest))) false
    have p2 := cnum_sm t1 g1 false (m := 4) (by omega) (by decide)
    have p3 := ctext_sm (s := b) (rest := how :: rest) (by
      have := g1
      unfold txt at this
      rw [List.append_assoc] at this
      exact this.right) g1.2 false
    have p4 := cbyte_sm how rest false
    have s1 : F_code_reader_change.s116 mx (2, sm t.toNat ++ (txt b ++ (how :: rest)), false) = some true := rfl
    have e1 : ((2 : Int) == 1) = false := rfl
    have e6 : ((2 : Int) == 6) = false := rfl
    simp only [F_code_reader_change, p1, Option.bind_some, F_code_reader_change.s14, s1, cond_true, p2, F_code_reader_change.s30, e1, cond_false, beq_self_eq_true, p3, p4, F_code_reader_change.s62, e6]
    rfl
  · obtain ⟨rfl, ⟨z1, z2, z3, z4, z5⟩, rfl, rfl, rfl, rfl⟩ := h
    dsimp only at z1 z2 z3 z4 z5
    subst z1 z2 z3 z4 z5
    have e0 : putB (3, t, ([], [], 0, 0, 0), [], 0, 0, false) ++ rest = 3 :: (sm t.toNat ++ rest) := by
      simp only [putB, reduceIte, Int.reduceEq, List.append_assoc, List.singleton_append, List.cons_append, List.nil_append]
    rw [e0] at hr ⊢
    have g0 : Rd (sm t.toNat ++ rest) := (show Rd ([3] ++ _) from hr).right
    have g1 := g0.right
    have p1 := cbyte_sm 3 (sm t.toNat ++ rest) false
    have p2 := cnum_sm t1 g1 false (m := 4) (by omega) (by decide)
    have s1 : F_code_reader_change.s116 mx (3, sm t.toNat ++ rest, false) = some true := rfl
    have e1 : ((3 : Int) == 1) = false := rfl
    have e2 : ((3 : Int) == 2) = false := rfl
    have e6 : ((3 : Int) == 6) = false := rfl
    have s2 : F_code_reader_change.s3934 mx (rest, false, 3, t, [], [], 0, 0, 0, [], 0, 0, false) = some false := rfl
    simp only [F_code_reader_change, p1, Option.bind_some, F_code_reader_change.s14, s1, cond_true, p2, F_code_reader_change.s30, e1, e2, cond_false, s2, F_code_reader_change.s62, e6]
    rfl
  · obtain ⟨rfl, ⟨h1, h2⟩, rfl, ⟨z1, z2, z3, z4, z5⟩, rfl, rfl, rfl⟩ := h
    dsimp only at z1 z2 z3 z4 z5
    subst z1 z2 z3 z4 z5
    have e0 : putB (4, 0, ([], [], 0, 0, 0), [], 0, n, false) ++ rest = 4 :: (sm n.toNat ++ rest) := by
      simp only [putB, reduceIte, Int.reduceEq, List.append_assoc, List.singleton_append, List.cons_append, List.nil_append]
    rw [e0] at hr ⊢
    have g0 : Rd (sm n.toNat ++ rest) := (show Rd ([4] ++ _) from hr).right
    have g1 := g0.right
    have p1 := cbyte_sm 4 (sm n.toNat ++ rest) false
    have p2 := cnum_sm h1 g1 false (m := 1099511627776) (by omega) (by decide)
    have s1 : F_code_reader_change.s116 mx (4, sm n.toNat ++ rest, false) = some false := rfl
    have e1 : ((4 : Int) == 1) = false := rfl
    have e2 : ((4 : Int) == 2) = false := rfl
    have e6 : ((4 : Int) == 6) = false := rfl
    have s2 : F_code_reader_change.s3934 mx (sm n.toNat ++ rest, false, 4, 0, [], [], 0, 0, 0, [], 0, 0, false) = some true := rfl
    simp only [F_code_reader_change, p1, Option.bind_some, F_code_reader_change.s14, s1, cond_false, p2, F_code_reader_change.s30, e1, e2, s2, cond_true, F_code_reader_change.s62, e6]
    rfl
  · obtain ⟨rfl, ⟨h1, h2⟩, ⟨z1, z2, z3, z4, z5⟩, rfl, rfl, rfl⟩ := h
    dsimp only at z1 z2 z3 z4 z5
    subst z1 z2 z3 z4 z5
    have e0 : putB (5, t, ([], [], 0, 0, 0), [], 0, n, false) ++ rest = 5 :: (sm t.toNat ++ (sm n.toNat ++ rest)) := by
      simp only [putB, reduceIte, Int.reduceEq, List.append_assoc, List.singleton_append, List.cons_append, List.nil_append]
    rw [e0] at hr ⊢
    have g0 : Rd (sm t.toNat ++ (sm n.toNat ++ rest)) := (show Rd ([5] ++ _) from hr).right
    have g1 := g0.right
    have g2 := g1.right
    have p1 := cbyte_sm 5 (sm t.toNat ++ (sm n.toNat ++ rest)) false
    have p2 := cnum_sm t1 g1 false (m := 4) (by omega) (by decide)
    have p3 := cnum_sm h1 g2 false (m := 1099511627776) (by omega) (by decide)
    have s1 : F_code_reader_change.s116 mx (5, sm t.toNat ++ (sm n.toNat ++ rest), false) = some true := rfl
    have e1 : ((5 : Int) == 1) = false := rfl
    have e2 : ((5 : Int) == 2) = false := rfl
    have e6 : ((5 : Int) == 6) = false := rfl
    have s2 : F_code_reader_change.s3934 mx (sm n.toNat ++ rest, false, 5, t, [], [], 0, 0, 0, [], 0, 0, false) = some true := rfl
    simp only [F_code_reader_change, p1, Option.bind_some, F_code_reader_change.s14, s1, cond_true, p2, F_code_reader_change.s30, e1, e2, cond_false, s2, p3, F_code_reader_change.s62, e6]
    rfl
  · obtain ⟨rfl, ⟨h1, h2⟩, rfl, ⟨z1, z2, z3, z4, z5⟩, rfl, rfl⟩ := h
    dsimp only at z1 z2 z3 z4 z5
    subst z1 z2 z3 z4 z5
    have e0 : putB (6, 0, ([], [], 0, 0, 0), [], 0, n, yes) ++ rest = 6 :: (sm n.toNat ++ ((if yes then 1 else 0) :: rest)) := by
      simp only [putB, reduceIte, Int.reduceEq, List.append_assoc, List.singleton_append, List.cons_append, List.nil_append]
    rw [e0] at hr ⊢
    have g0 : Rd (sm n.toNat ++ ((if yes then 1 else 0) :: rest)) := (show Rd ([6] ++ _) from hr).right
    have g1 := g0.right
    have p1 := cbyte_sm 6 (sm n.toNat ++ ((if yes then 1 else 0) :: rest)) false
    have p2 := cnum_sm h1 g1 false (m := 1099511627776) (by omega) (by decide)
    have p3 := cbyte_sm (if yes then 1 else 0) rest false
    have s1 : F_code_reader_change.s116 mx (6, sm n.toNat ++ ((if yes then 1 else 0) :: rest), false) = some false := rfl
    have e1 : ((6 : Int) == 1) = false := rfl
    have e2 : ((6 : Int) == 2) = false := rfl
    have s2 : F_code_reader_change.s3934 mx (sm n.toNat ++ ((if yes then 1 else 0) :: rest), false, 6, 0, [], [], 0, 0, 0, [], 0, 0, false) = some true := rfl
    have hb : ((if yes then (1 : Int) else 0) == 1) = yes := by cases yes <;> rfl
    simp only [F_code_reader_change, p1, Option.bind_some, F_code_reader_change.s14, s1, cond_false, p2, F_code_reader_change.s30, e1, e2, s2, cond_true, F_code_reader_change.s62, beq_self_eq_true, p3, hb]
    rfl
  · obtain ⟨rfl, ⟨h1, h2⟩, rfl, ⟨z1, z2, z3, z4, z5⟩, rfl, rfl, rfl⟩ := h
    dsimp only at z1 z2 z3 z4 z5
    subst z1 z2 z3 z4 z5
    have e0 : putB (7, 0, ([], [], 0, 0, 0), [], 0, n, false) ++ rest = 7 :: (sm n.toNat ++ rest) := by
      simp only [putB, reduceIte, Int.reduceEq, List.append_assoc, List.singleton_append, List.cons_append, List.nil_append]
    rw [e0] at hr ⊢
    have g0 : Rd (sm n.toNat ++ rest) := (show Rd ([7] ++ _) from hr).right
    have g1 := g0.right
    have p1 := cbyte_sm 7 (sm n.toNat ++ rest) false
    have p2 := cnum_sm h1 g1 false (m := 1099511627776) (by omega) (by decide)
    have s1 : F_code_reader_change.s116 mx (7, sm n.toNat ++ rest, false) = some false := rfl
    have e1 : ((7 : Int) == 1) = false := rfl
    have e2 : ((7 : Int) == 2) = false := rfl
    have e6 : ((7 : Int) == 6) = false := rfl
    have s2 : F_code_reader_change.s3934 mx (sm n.toNat ++ rest, false, 7, 0, [], [], 0, 0, 0, [], 0, 0, false) = some true := rfl
    simp only [F_code_reader_change, p1, Option.bind_some, F_code_reader_change.s14, s1, cond_false, p2, F_code_reader_change.s30, e1, e2, s2, cond_true, F_code_reader_change.s62, e6]
    rfl

/-! ### changes -/
/-- Bytes that are changes. -/
def IsCh (a : List Int) (cs : List Chg) : Prop := chErr cs = 0 ∧ chBytes cs = a ∧ (∀ c ∈ cs, wfC c ∧ bytesC c)
theorem of_tot {a : List Int} (ha : bytesI a) : ∃ y, F_code_OfChanges mx a = some y ∧ ((y.1 = [] ∧ y.2 = 8) ∨ (65536 < a.length ∧ y = ([], 3)) ∨ (y.2 = 0 ∧ IsCh a y.1)) := by
  by_cases hl : 65536 < a.length
  · refine ⟨([], 3), ?_, .inr (.inl ⟨hl, rfl⟩)⟩
    simp only [F_code_OfChanges, decide_eq_true (show (65536 : Int) < (a.length : Int) by omega), cond_true]
  obtain ⟨cnt, r1, b1, p1, i1, j1⟩ := cnum_tot (a := a) ⟨ha, by omega⟩ false (m := 4096) (by decide) (by decide)
  obtain ⟨r, hr, hQ⟩ := iter_inv (f := F_code_OfChanges.l250 mx (cnt, r1, b1)) (fun s => ∃ (k : Nat) (l : List Chg) (rest : List Int) (b : Bool), s = (l, (k : Int), rest, b) ∧ l.length = k ∧ k ≤ 4096 ∧ Rd rest ∧ ∀ c ∈ l, wfC c ∧ bytesC c) (fun s => 4096 - s.2.1.toNat)
    (fun r => r = .inl 8 ∨ ∃ l rest b, r = .inr (l, rest, b) ∧ ∀ c ∈ l, wfC c ∧ bytesC c) (([] : List Chg), (0 : Int), r1, b1) ⟨0, [], r1, b1, rfl, rfl, by omega, j1, fun c hc => by cases hc⟩ (lt_N0 (by dsimp only; omega)) (fun s ⟨k, l, rest, b, es, hk, hk2, hrd, hw⟩ => by
      subst es
      by_cases h : (k : Int) < cnt
      · obtain ⟨c, rest', b', p2, q1, q2, q3⟩ := ch_tot hrd b
        have c1 : Nat.ble (l.length + 1) 4294967296 = true := ble_t (by omega)
        have hst : F_code_OfChanges.l250 mx (cnt, r1, b1) (l, (k : Int), rest, b) = some (bif b' then .fin (.inl 8) else .next (l ++ [c], ((k + 1 : Nat) : Int), rest', b')) := by
          simp only [F_code_OfChanges.l250, decide_eq_true h, cond_true, p2, Option.bind_some, chOut, List.length_singleton, c1]
          rw [inc64 (by omega)]
          cases b' <;> rfl
        rw [hst]
        cases b' with
        | true => exact .inr ⟨_, rfl, .inl rfl⟩
        | false =>
          refine .inl ⟨_, rfl, ⟨k + 1, l ++ [c], rest', false, rfl, by simp [hk], by omega, q3, fun x hx => ?_⟩, by dsimp only; omega⟩
          rcases List.mem_append.1 hx with hx | hx
          · exact hw x hx
          · rw [List.mem_singleton] at hx; subst hx; exact ⟨q1, q2⟩
      · refine .inr ⟨.inr (l, rest, b), ?_, .inr ⟨l, rest, b, rfl, hw⟩⟩
        simp only [F_code_OfChanges.l250, decide_eq_false h, cond_false])
  simp only [F_code_OfChanges, decide_eq_false (show ¬ (65536 : Int) < (a.length : Int) by omega), cond_false, p1, Option.bind_some, hr]
  rcases hQ with rfl | ⟨l, rest, b, rfl, hw⟩
  · exact ⟨([], 8), rfl, .inl ⟨rfl, rfl⟩⟩
  · simp only [changes_ok (fun c hc => (hw c hc).1), Option.bind_some, equal_ok, bne_int]
    cases b with
    | true => exact ⟨([], 8), rfl, .inl ⟨rfl, rfl⟩⟩
    | false =>
      by_cases g1 : chErr l = 0
      case neg => rw [decide_eq_false g1]; exact ⟨([], 8), rfl, .inl ⟨rfl, rfl⟩⟩
      simp only [if_pos g1]
      by_cases g2 : chBytes l = a
      · rw [decide_eq_true g1, decide_eq_true g2]; exact ⟨(l, 0), rfl, .inr (.inr ⟨rfl, g1, g2, hw⟩)⟩
      · rw [decide_eq_true g1, decide_eq_false g2]; exact ⟨([], 8), rfl, .inl ⟨rfl, rfl⟩⟩
theorem putsB_cons (c : Chg) (l : List Chg) : putsB (c :: l) = putB c ++ putsB l := rfl
theorem of_sm {cs : List Chg} {a : List Int} (h : IsCh a cs) (ha : bytesI a) : F_code_OfChanges mx a = some (cs, 0) := by
  obtain ⟨h1, h2, hw⟩ := h
  obtain ⟨h3, h4, h5⟩ := chErr_zero.1 h1
  have hl : a.length ≤ 65536 := by rw [← h2]; exact h5
  have e0 : a = sm cs.length ++ (putsB cs ++ []) := by rw [← h2, List.append_nil]; rfl
  have hR : Rd a := ⟨ha, by omega⟩
  rw [e0] at hR
  have g1 := hR.right
  have p1 := cnum_sm (n := (cs.length : Int)) (by omega) g1 false (m := 4096) (by omega) (by decide)
  rw [Int.toNat_natCast, ← e0] at p1
  have hd : ∀ i, i ≤ cs.length → Rd (putsB (cs.drop i) ++ []) := fun i => by
    induction i with
    | zero => intro _; exact g1
    | succ i ih =>
      intro hi
      have := ih (by omega)
      rw [List.drop_eq_getElem_cons (show i < cs.length by omega), putsB_cons, List.append_assoc] at this
      exact this.right
  have hloop := iter_count (f := F_code_OfChanges.l250 mx ((cs.length : Int), putsB cs ++ [], false)) (fun i => (cs.take i, (i : Int), putsB (cs.drop i) ++ [], false)) cs.length (r := .inr (cs, [], false)) (lt_N0 (by omega)) (fun i hi => by
    have hn := hd i (by omega)
    have e1 : putsB (cs.drop i) ++ [] = putB cs[i] ++ (putsB (cs.drop (i + 1)) ++ []) := by rw [List.drop_eq_getElem_cons hi, putsB_cons, List.append_assoc]
    rw [e1] at hn ⊢
    have p2 := ch_sm (h4 _ (List.getElem_mem hi)) (hw _ (List.getElem_mem hi)).1 hn
    have c1 : Nat.ble ((cs.take i).length + 1) 4294967296 = true := ble_t (by rw [List.length_take]; omega)
    simp only [F_code_OfChanges.l250, ltd hi, cond_true, p2, Option.bind_some, chOut, List.length_singleton, c1, cond_false]
    rw [inc64 (by omega), take_succ' hi C0, getD_some hi]) (by
    simp only [F_code_OfChanges.l250, nltd, cond_false, List.take_length]
    rw [List.drop_eq_nil_of_le (Nat.le_refl _)]; rfl)
  have hloop : iter mx (F_code_OfChanges.l250 mx ((cs.length : Int), putsB cs ++ [], false)) (([] : List Chg), (0 : Int), putsB cs ++ [], false) = _ := hloop
  simp only [F_code_OfChanges, decide_eq_false (show ¬ (65536 : Int) < (a.length : Int) by omega), cond_false, p1, Option.bind_some, hloop, changes_ok (fun c hc => (hw c hc).1), h1, if_pos, equal_ok, h2, decide_true, bne_self_eq_false, Bool.not_true]
theorem isCh_inj {a : List Int} (ha : bytesI a) {c d : List Chg} (h1 : IsCh a c) (h2 : IsCh a d) : c = d := by
  have := of_sm h1 ha
  rw [of_sm h2 ha] at this
  exact (Prod.ext_iff.1 (Option.some.inj this)).1.symm
end Go.Proofs.Ytmkfifilpkhfoaa
