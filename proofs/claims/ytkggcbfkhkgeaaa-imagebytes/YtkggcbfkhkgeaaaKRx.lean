/- The document's own reading of an image. -/
import Derived.Test.YtkggcbfkhkgeaaaKRw
namespace Go.Proofs.Ytkggcbfkhkgeaaa
open Go.Abs
set_option maxRecDepth 100000
theorem rs30_ok {a : List Int} (hl : a.length ≤ 1000000) (i : Nat) : F_ref01_Read.s30 mx a (i : Int) = some (if i < a.length ∧ i < 10 ∧ ¬ (i = 9 ∧ 1 < a.getD i 0) ∧ ¬ (0 < i ∧ a.getD i 0 = 0) then .inr () else .inl (0, 0, 8)) := by
  simp only [F_ref01_Read.s30]
  by_cases h1 : i < a.length
  case neg => rw [decide_eq_true (show (a.length : Int) ≤ (i : Int) by omega), if_neg (fun hh => h1 hh.1)]; rfl
  rw [decide_eq_false (show ¬ (a.length : Int) ≤ (i : Int) by omega)]
  by_cases h2 : i < 10
  case neg => rw [decide_eq_true (show (10 : Int) ≤ (i : Int) by omega), if_neg (fun hh => h2 hh.2.1)]; rfl
  rw [decide_eq_false (show ¬ (10 : Int) ≤ (i : Int) by omega)]
  simp only [cond_false, ieq]
  have tail : (bif decide ((0 : Int) < (i : Int)) then (bif decide ((0 : Int) ≤ (i : Int)) && decide ((i : Int) < (a.length : Int)) then (bif decide (a.getD (i : Int).toNat 0 = 0) then some (.inl (0, 0, 8)) else some (.inr ())) else none) else some (.inr ())) = (some (if 0 < i ∧ a.getD i 0 = 0 then .inl (0, 0, 8) else .inr ()) : Option ((Int × Int × Int) ⊕ Unit)) := by
    simp only [lez, ltd h1, Bool.and_self, cond_true, Int.toNat_natCast]
    by_cases h3 : 0 < i
    · rw [decide_eq_true (show (0 : Int) < (i : Int) by omega)]
      by_cases h4 : a.getD i 0 = 0
      · rw [decide_eq_true h4, if_pos ⟨h3, h4⟩]; rfl
      · rw [decide_eq_false h4, if_neg (fun hh => h4 hh.2)]; rfl
    · rw [decide_eq_false (show ¬ (0 : Int) < (i : Int) by omega), if_neg (fun hh => h3 hh.1)]; rfl
  by_cases h9 : i = 9
  · have e9 : a.getD 9 0 = a.getD i 0 := by rw [h9]
    rw [decide_eq_true (show (i : Int) = 9 by omega), decide_eq_true (show (9 : Int) < (a.length : Int) by omega), e9]
    by_cases h5 : 1 < a.getD i 0
    · rw [decide_eq_true h5, if_neg (fun hh => hh.2.2.1 ⟨h9, h5⟩)]; rfl
    · rw [decide_eq_false h5]
      simp only [cond_true, cond_false, tail]
      by_cases h6 : 0 < i ∧ a.getD i 0 = 0
      · rw [if_pos h6, if_neg (fun hh => hh.2.2.2 h6)]
      · rw [if_neg h6, if_pos ⟨h1, h2, fun hh => h5 hh.2, h6⟩]
  · rw [decide_eq_false (show ¬ (i : Int) = 9 by omega)]
    simp only [cond_false, tail]
    by_cases h6 : 0 < i ∧ a.getD i 0 = 0
    · rw [if_pos h6, if_neg (fun hh => hh.2.2.2 h6)]
    · rw [if_neg h6, if_pos ⟨h1, h2, fun hh => h9 hh.1, h6⟩]
theorem rread_tot {a : List Int} (hb : bytesI a) (hl : a.length ≤ 1000000) : ∃ (v : Int) (n : Nat) (e : Int), F_ref01_Read mx a = some (v, (n : Int), e) ∧ (0 ≤ v ∧ v ≤ 18446744073709551615) ∧ n ≤ a.length := by
  obtain ⟨i, h1, h2, h3, h4, h5⟩ := rread_cnt hl
  simp only [F_ref01_Read, h1, Option.bind_some, rs30_ok hl]
  by_cases h : i < a.length ∧ i < 10 ∧ ¬ (i = 9 ∧ 1 < a.getD i 0) ∧ ¬ (0 < i ∧ a.getD i 0 = 0)
  · obtain ⟨v, g1, g2, g3⟩ := rread_val hb h.1 hl
    rw [if_pos h]
    simp only [g1, Option.bind_some]
    rw [inc64 (by omega)]
    exact ⟨v, i + 1, 0, rfl, g2, h.1⟩
  · rw [if_neg h]; exact ⟨0, 0, 8, rfl, ⟨by decide, by decide⟩, Nat.zero_le _⟩
theorem rread_sm {n : Nat} (hn : n < 18446744073709551616) {rest : List Int} (hr : bytesI rest) (hl : rest.length ≤ 900000) : F_ref01_Read mx (sm n ++ rest) = some ((n : Int), (((sm n).length : Nat) : Int), 0) := by
  have e0 : (128 : Nat) ^ (10 + 1) = 151115727451828646838272 := by decide
  have hs := sm_len n
  obtain ⟨s1, s2, s3, s4⟩ := sm_shape 10 n (by rw [e0]; omega)
  have hlen10 : (sm n).length ≤ 10 := by
    -- eleven bytes tell of more
    rcases Nat.lt_or_ge 10 (sm n).length with hc | hc
    · exfalso
      have hv := vl_sm 10 n (by rw [e0]; omega)
      have hg : ∀ (l : List Int), (∀ x ∈ l, 0 ≤ x) → 1 ≤ l.length → l.getD (l.length - 1) 0 ≠ 0 → l.getD (l.length - 1) 0 < 128 → 128 ^ (l.length - 1) ≤ vl l := fun l => by
        induction l with
        | nil => intro _ h; simp at h
        | cons y l ih =>
          intro hx hh hne hlt
          cases l with
          | nil =>
            simp at hne hlt
            have := hx y (by simp)
            simp [vl]; omega
          | cons z l =>
            have hge : ∀ k, (y :: z :: l).getD (k + 1) 0 = (z :: l).getD k 0 := fun k => by simp
            have hla : (y :: z :: l).length - 1 = ((z :: l).length - 1) + 1 := by simp
            rw [hla, hge] at hne hlt
            have := ih (fun x hx' => hx x (by simp at hx' ⊢; exact .inr hx')) (by simp) hne hlt
            rw [hla, Nat.pow_succ, vl]; omega
      have hnn : ∀ x ∈ smF 10 n, 0 ≤ x := fun x hx => (smF_bytes 10 n (by rw [e0]; omega) x hx).1
      have := hg (smF 10 n) hnn (show 1 ≤ (sm n).length by omega) (s3 (show 1 < (sm n).length by omega)) s2
      rw [hv] at this
      have h11 : (sm n).length = 11 := by omega
      have h11 : (smF 10 n).length = 11 := h11
      rw [h11] at this
      have : 128 ^ 10 ≤ n := this
      have : (128 : Nat) ^ 10 = 1180591620717411303424 := by decide
      omega
    · exact hc
  have hbs := sm_bytes hn
  have hb : bytesI (sm n ++ rest) := app_bytes hbs hr
  have hla : (sm n ++ rest).length = (sm n).length + rest.length := List.length_append
  have hget : ∀ j, j < (sm n).length → (sm n ++ rest).getD j 0 = (sm n).getD j 0 := fun j hj => by
    rw [getD_some (by omega), getD_some hj, List.getElem_append_left hj]
  obtain ⟨i, h1, h2, h3, h4, h5⟩ := rread_cnt (a := sm n ++ rest) (by omega)
  have s2 : (sm n).getD ((sm n).length - 1) 0 < 128 := s2
  have s3 : 1 < (sm n).length → (sm n).getD ((sm n).length - 1) 0 ≠ 0 := s3
  have s1 : ∀ j, j + 1 < (sm n).length → 128 ≤ (sm n).getD j 0 := s1
  have hi : i = (sm n).length - 1 := by
    rcases Nat.lt_trichotomy i ((sm n).length - 1) with h | h | h
    · have := h5 (by omega) (by omega)
      rw [hget i (by omega)] at this
      have := s1 i (by omega)
      omega
    · exact h
    · have := h4 ((sm n).length - 1) h
      rw [hget _ (by omega)] at this
      omega
  have hv := vl_sm 10 n (by rw [e0]; omega)
  have hv : vl (sm n) = n := hv
  have htk : (sm n ++ rest).take (i + 1) = sm n := by rw [hi, show (sm n).length - 1 + 1 = (sm n).length by omega, List.take_left' rfl]
  have hcond : i < (sm n ++ rest).length ∧ i < 10 ∧ ¬ (i = 9 ∧ 1 < (sm n ++ rest).getD i 0) ∧ ¬ (0 < i ∧ (sm n ++ rest).getD i 0 = 0) := by
    refine ⟨by omega, by omega, fun hh => ?_, fun hh => ?_⟩
    · -- ten bytes, the last above one
      have hg : ∀ (l : List Int) (c : Int), 1 ≤ l.length → (∀ x ∈ l, 0 ≤ x) → l.getD (l.length - 1) 0 = c → 0 ≤ c → c < 128 → c.toNat * 128 ^ (l.length - 1) ≤ vl l := fun l => by
        induction l with
        | nil => intro c h; simp at h
        | cons y l ih =>
          intro c hh hx hc h0 hlt
          cases l with
          | nil =>
            simp at hc
            simp [vl]; omega
          | cons z l =>
            have hge : ∀ k, (y :: z :: l).getD (k + 1) 0 = (z :: l).getD k 0 := fun k => by simp
            have hla : (y :: z :: l).length - 1 = ((z :: l).length - 1) + 1 := by simp
            rw [hla, hge] at hc
            have := ih c (by simp) (fun x hx' => hx x (by simp at hx' ⊢; exact .inr hx')) hc h0 hlt
            rw [hla, Nat.pow_succ, ← Nat.mul_assoc, vl]; omega
      have h9 := hg (sm n) ((sm n).getD ((sm n).length - 1) 0) hs.1 (fun x hx => (hbs x hx).1) rfl (bytesI_getD hbs _).1 s2
      rw [hget i (by omega), hi] at hh
      have : (sm n).length - 1 = 9 := hh.1
      rw [hv] at h9
      have hc := hh.2
      rw [this] at h9 hc
      have e9 : (128 : Nat) ^ 9 = 9223372036854775808 := by decide
      rw [e9] at h9
      omega
    · rw [hget i (by omega), hi] at hh
      exact s3 (by omega) hh.2
  obtain ⟨v, g1, g2, g3⟩ := rread_val hb hcond.1 (by omega)
  rw [htk, hv] at g3
  simp only [F_ref01_Read, h1, Option.bind_some, rs30_ok (a := sm n ++ rest) (by omega), if_pos hcond, g1]
  rw [inc64 (by omega), g3 hn]
  congr 3
  omega
/-! ### the reader -/
theorem rnum_tot {a : List Int} (ha : Rd a) (bad : Bool) {m : Int} (hm : 0 ≤ m) : ∃ v rest bad', F_ref01_Reader_Number mx (a, bad, m) = some (v, rest, bad') ∧ (0 ≤ v ∧ v ≤ m) ∧ (0 ≤ v ∧ v ≤ 18446744073709551615) ∧ Rd rest := by
  obtain ⟨v, n, e, h1, h2, h4⟩ := rread_tot ha.1 (by have := ha.2; omega)
  simp only [F_ref01_Reader_Number, h1, Option.bind_some, F_ref01_Reader_Number.s28, bne_int]
  by_cases g1 : e = 0
  case neg => rw [decide_eq_false g1]; exact ⟨0, a, true, rfl, ⟨Int.le_refl _, hm⟩, ⟨by decide, by decide⟩, ha⟩
  rw [decide_eq_true g1]
  by_cases g2 : m < v
  · rw [decide_eq_true g2]; exact ⟨0, a, true, rfl, ⟨Int.le_refl _, hm⟩, ⟨by decide, by decide⟩, ha⟩
  · rw [decide_eq_false g2]
    simp only [Bool.not_true, cond_false, Option.bind_some, lez, decide_eq_true (show (n : Int) ≤ (a.length : Int) by omega), Int.le_refl, decide_true, Bool.and_self, cond_true, Int.toNat_natCast, List.take_length]
    exact ⟨v, a.drop n, bad, rfl, ⟨h2.1, by omega⟩, h2, ha.drop n⟩
theorem rnum_sm {n : Nat} (hn : n < 18446744073709551616) {rest : List Int} (hr : Rd rest) (bad : Bool) {m : Int} (h0 : (n : Int) ≤ m) : F_ref01_Reader_Number mx (sm n ++ rest, bad, m) = some ((n : Int), rest, bad) := by
  have h := rread_sm hn hr.1 (by have := hr.2; omega)
  simp only [F_ref01_Reader_Number, h, Option.bind_some, F_ref01_Reader_Number.s28, bne_self_eq_false, cond_false, decide_eq_false (show ¬ m < (n : Int) by omega), lez, decide_eq_true (show ((sm n).length : Int) ≤ ((sm n ++ rest).length : Int) by rw [List.length_append]; omega), Int.le_refl, decide_true, Bool.and_self, cond_true, Int.toNat_natCast, List.take_length]
  rw [List.drop_left' rfl]
theorem rtxt_tot {a : List Int} (ha : Rd a) (bad : Bool) : ∃ s rest bad', F_ref01_Reader_Text mx (a, bad) = some (s, rest, bad') ∧ Rd s ∧ Rd rest := by
  obtain ⟨v, n, e, h1, h2, h4⟩ := rread_tot ha.1 (by have := ha.2; omega)
  have hl := ha.2
  have hE : Rd ([] : List Int) := ⟨fun x hx => (by cases hx), by simp⟩
  have w1 : IntKind.u64.wrap (IntKind.i64.wrap ((a.length : Int) - (n : Int))) = (a.length : Int) - (n : Int) := by rw [w64 (by omega) (by omega), wu64 (by omega) (by omega)]
  simp only [F_ref01_Reader_Text, h1, Option.bind_some, F_ref01_Reader_Text.s28, bne_int, w1]
  by_cases g1 : e = 0
  case neg => rw [decide_eq_false g1]; exact ⟨[], a, true, rfl, hE, ha⟩
  rw [decide_eq_true g1]
  by_cases g2 : (a.length : Int) - (n : Int) < v
  · rw [decide_eq_true g2]; exact ⟨[], a, true, rfl, hE, ha⟩
  · rw [decide_eq_false g2]
    have w2 : IntKind.i64.wrap ((n : Int) + IntKind.i64.wrap v) = (n : Int) + v := by rw [w64 (n := v) (by omega) (by omega), w64 (by omega) (by omega)]
    simp only [Bool.not_true, cond_false, Option.bind_some, w2, lez, decide_eq_true (show (n : Int) ≤ (n : Int) + v by omega), decide_eq_true (show (n : Int) + v ≤ (a.length : Int) by omega), decide_eq_true (show (0 : Int) ≤ (n : Int) + v by omega), Int.le_refl, decide_true, Bool.and_self, cond_true]
    exact ⟨_, _, _, rfl, (ha.take _).drop _, (ha.take _).drop _⟩
theorem rtxt_sm {s rest : List Int} (hs : Rd (s ++ rest)) (bad : Bool) : F_ref01_Reader_Text mx (txt s ++ rest, bad) = some (s, rest, bad) := by
  have hl := hs.2
  rw [List.length_append] at hl
  have hsl := sm_len s.length
  have h := rread_sm (n := s.length) (by omega) hs.1 (by rw [List.length_append]; omega)
  have e : sm s.length ++ (s ++ rest) = txt s ++ rest := by unfold txt; rw [List.append_assoc]
  rw [e] at h
  have hla : (txt s ++ rest).length = (sm s.length).length + s.length + rest.length := by unfold txt; simp only [List.length_append]
  have w1 : IntKind.u64.wrap (IntKind.i64.wrap (((txt s ++ rest).length : Int) - ((sm s.length).length : Int))) = (s.length : Int) + (rest.length : Int) := by rw [hla, w64 (by omega) (by omega), wu64 (by omega) (by omega)]; omega
  have w2 : IntKind.i64.wrap (((sm s.length).length : Int) + IntKind.i64.wrap (s.length : Int)) = (((sm s.length).length + s.length : Nat) : Int) := by rw [w64 (n := (s.length : Int)) (by omega) (by omega), w64 (by omega) (by omega)]; omega
  simp only [F_ref01_Reader_Text, h, Option.bind_some, F_ref01_Reader_Text.s28, bne_self_eq_false, cond_false, w1, decide_eq_false (show ¬ (s.length : Int) + (rest.length : Int) < (s.length : Int) by omega), w2, lez,
    decide_eq_true (show ((sm s.length).length : Int) ≤ (((sm s.length).length + s.length : Nat) : Int) by omega), decide_eq_true (show (((sm s.length).length + s.length : Nat) : Int) ≤ ((txt s ++ rest).length : Int) by omega), Int.le_refl, decide_true, Bool.and_self, cond_true, Int.toNat_natCast, List.take_length]
  have e1 : ((txt s ++ rest).take ((sm s.length).length + s.length)).drop (sm s.length).length = s := by
    rw [show (sm s.length).length + s.length = (txt s).length by unfold txt; rw [List.length_append], List.take_left' rfl]
    unfold txt; rw [List.drop_left' rfl]
  have e2 : (txt s ++ rest).drop ((sm s.length).length + s.length) = rest := by
    rw [show (sm s.length).length + s.length = (txt s).length by unfold txt; rw [List.length_append], List.drop_left' rfl]
  rw [e1, e2]
theorem rbyte_tot {a : List Int} (ha : Rd a) (bad : Bool) : ∃ v rest bad', F_ref01_Reader_Byte mx (a, bad) = some (v, rest, bad') ∧ Rd rest := by
  simp only [F_ref01_Reader_Byte, ieq]
  by_cases h : a.length = 0
  · rw [decide_eq_true (show (a.length : Int) = 0 by omega)]; exact ⟨0, a, true, rfl, ha⟩
  · simp only [decide_eq_false (show ¬ (a.length : Int) = 0 by omega), cond_false, decide_eq_true (show (0 : Int) < (a.length : Int) by omega), decide_eq_true (show (1 : Int) ≤ (a.length : Int) by omega), Int.le_refl, decide_true, Bool.and_self, cond_true, Int.toNat_natCast, List.take_length]
    exact ⟨_, _, _, rfl, ha.drop 1⟩
theorem rbyte_sm (x : Int) (rest : List Int) (bad : Bool) : F_ref01_Reader_Byte mx (x :: rest, bad) = some (x, rest, bad) := by
  have h1 : (x :: rest).length = rest.length + 1 := List.length_cons
  simp only [F_ref01_Reader_Byte, ieq, decide_eq_false (show ¬ ((x :: rest).length : Int) = 0 by omega), cond_false, decide_eq_true (show (0 : Int) < ((x :: rest).length : Int) by omega), decide_eq_true (show (1 : Int) ≤ ((x :: rest).length : Int) by omega), Int.le_refl, decide_true, Bool.and_self, cond_true, Int.toNat_natCast, List.take_length]
  rfl
theorem ritm_tot {a : List Int} (ha : Rd a) (bad : Bool) : ∃ s1 s2 v3 v4 v5 rest bad', F_ref01_Reader_Item mx (a, bad) = some (s1, s2, v3, v4, v5, rest, bad') ∧ Rd s1 ∧ Rd s2 ∧ (0 ≤ v3 ∧ v3 ≤ 4294967295) ∧ (0 ≤ v5 ∧ v5 ≤ 18446744073709551615) ∧ Rd rest := by
  obtain ⟨s1, r1, b1, p1, i1, j1⟩ := rtxt_tot ha bad
  obtain ⟨s2, r2, b2, p2, i2, j2⟩ := rtxt_tot j1 b1
  obtain ⟨v3, r3, b3, p3, i3, _, j3⟩ := rnum_tot j2 b2 (m := 4294967295) (by decide)
  obtain ⟨v4, r4, b4, p4, i4, _, j4⟩ := rnum_tot j3 b3 (m := 1099511627776) (by decide)
  obtain ⟨v5, r5, b5, p5, i5, _, j5⟩ := rnum_tot j4 b4 (m := 18446744073709551615) (by decide)
  simp only [F_ref01_Reader_Item, p1, p2, p3, p4, p5, Option.bind_some]
  exact ⟨_, _, _, _, _, _, _, rfl, i1, i2, by rw [wu32 i3.1 i3.2]; exact i3, i5, j5⟩
theorem ritm_sm {x : Itm} {rest : List Int} (h : Rd (itemB x ++ rest)) (hx : itemOk x) (hw : (0 ≤ x.2.2.1 ∧ x.2.2.1 ≤ 4294967295) ∧ 0 ≤ x.2.2.2.2 ∧ x.2.2.2.2 ≤ 18446744073709551615) (bad : Bool) :
    F_ref01_Reader_Item mx (itemB x ++ rest, bad) = some (x.1, x.2.1, x.2.2.1, x.2.2.2.1, x.2.2.2.2, rest, bad) := by
  obtain ⟨⟨w1, w2⟩, w3, w4⟩ := hw
  have hi4 := hx.2.2.2
  have e0 : itemB x ++ rest = txt x.1 ++ (txt x.2.1 ++ (sm x.2.2.1.toNat ++ (sm x.2.2.2.1.toNat ++ (sm x.2.2.2.2.toNat ++ rest)))) := by
    simp only [itemB, List.append_assoc]
  rw [e0] at h ⊢
  have g2 := h.right
  have g3 : Rd (sm x.2.2.1.toNat ++ (sm x.2.2.2.1.toNat ++ (sm x.2.2.2.2.toNat ++ rest))) := g2.right
  have g4 := g3.right
  have g5 := g4.right
  have g6 := g5.right
  have p1 := rtxt_sm (s := x.1) (rest := txt x.2.1 ++ (sm x.2.2.1.toNat ++ (sm x.2.2.2.1.toNat ++ (sm x.2.2.2.2.toNat ++ rest)))) (by unfold txt at h; rw [List.append_assoc] at h; exact h.right) bad
  have p2 := rtxt_sm (s := x.2.1) (rest := sm x.2.2.1.toNat ++ (sm x.2.2.2.1.toNat ++ (sm x.2.2.2.2.toNat ++ rest))) (by
    have := g2
    unfold txt at this
    rw [List.append_assoc] at this
    exact this.right) bad
  have p3 := rnum_sm (n := x.2.2.1.toNat) (by omega) g4 bad (m := 4294967295) (by omega)
  have p4 := rnum_sm (n := x.2.2.2.1.toNat) (by omega) g5 bad (m := 1099511627776) (by omega)
  have p5 := rnum_sm (n := x.2.2.2.2.toNat) (by omega) g6 bad (m := 18446744073709551615) (by omega)
  rw [show ((x.2.2.1.toNat : Nat) : Int) = x.2.2.1 by omega] at p3
  rw [show ((x.2.2.2.1.toNat : Nat) : Int) = x.2.2.2.1 by omega] at p4
  rw [show ((x.2.2.2.2.toNat : Nat) : Int) = x.2.2.2.2 by omega] at p5
  simp only [F_ref01_Reader_Item, p1, p2, p3, p4, p5, Option.bind_some]
  rw [wu32 w1 w2, w64 (n := x.2.2.2.1) (by omega) (by omega)]
theorem wuinc {k : Nat} (h : k ≤ 1000000) : IntKind.u64.wrap ((k : Int) + 1) = ((k + 1 : Nat) : Int) := by rw [wu64 (by omega) (by omega)]; rfl
theorem rquotas_loop (cnt : Int) (hc : cnt ≤ 4) (x : List Int × Bool) (t : Int) {a : List Int} (ha : Rd a) (bad : Bool) : ∃ r, iter mx (F_ref21_Read.l506 mx (cnt, x)) ((0 : Int), a, bad, t, ([] : List Int), (0 : Int), (0 : Int), false) = some r ∧
    ∃ rest bad' q, r = (rest, bad', t, q, 0, 0, false) ∧ Rd rest ∧ q.length ≤ 4 := by
  refine iter_inv (f := F_ref21_Read.l506 mx (cnt, x)) (fun s => ∃ (k : Nat) (rest : List Int) (b : Bool) (q : List Int), s = ((k : Int), rest, b, t, q, 0, 0, false) ∧ q.length = k ∧ k ≤ 4 ∧ Rd rest) (fun s => 4 - s.1.toNat)
    (fun r => ∃ rest bad' q, r = (rest, bad', t, q, 0, 0, false) ∧ Rd rest ∧ q.length ≤ 4) _ ⟨0, a, bad, [], rfl, rfl, by omega, ha⟩ (lt_N0 (by dsimp only; omega)) (fun s ⟨k, rest, b, q, e, hq, hk, hr⟩ => ?_)
  subst e
  by_cases h : (k : Int) < cnt
  · cases b with
    | true =>
      refine .inr ⟨(rest, true, t, q, 0, 0, false), ?_, rest, true, q, rfl, hr, by omega⟩
      simp only [F_ref21_Read.l506, F_ref21_Read.s2024, decide_eq_true h, cond_true, Bool.not_true, cond_false, Option.bind_some]
    | false =>
      obtain ⟨v, rest', b', h1, h2, _, h3⟩ := rnum_tot hr false (m := 16) (by decide)
      have c1 : Nat.ble (q.length + 1) 4294967296 = true := ble_t (by omega)
      have w1 : IntKind.i64.wrap v = v := w64 (by omega) (by omega)
      refine .inl ⟨(((k + 1 : Nat) : Int), rest', b', t, q ++ [v], 0, 0, false), ?_, ⟨k + 1, rest', b', q ++ [v], rfl, by simp [hq], by omega, h3⟩, by dsimp only; omega⟩
      simp only [F_ref21_Read.l506, F_ref21_Read.s2024, decide_eq_true h, cond_true, Bool.not_false, h1, Option.bind_some, List.length_singleton, c1, w1]
      rw [wuinc (by omega)]
  · refine .inr ⟨(rest, b, t, q, 0, 0, false), ?_, rest, b, q, rfl, hr, by omega⟩
    simp only [F_ref21_Read.l506, F_ref21_Read.s2024, decide_eq_false h, cond_false, Option.bind_some]
theorem ritems_loop (cnt : Int) (hc : cnt ≤ 1024) (x : List Int × Bool) (t : Int) (q : List Int) (e n : Int) (bb : Bool) {a : List Int} (ha : Rd a) (bad : Bool) : ∃ r, iter mx (F_ref21_Read.l16378 mx (cnt, x)) ((0 : Int), a, bad, t, q, ([] : List Kept), e, n, bb) = some r ∧
    ∃ rest bad' l, r = (rest, bad', t, q, l, e, n, bb) ∧ wfIm (t, q, l, e, n, bb) := by
  refine iter_inv (f := F_ref21_Read.l16378 mx (cnt, x)) (fun s => ∃ (k : Nat) (rest : List Int) (b : Bool) (l : List Kept), s = ((k : Int), rest, b, t, q, l, e, n, bb) ∧ l.length = k ∧ k ≤ 1024 ∧ Rd rest ∧ wfIm (t, q, l, e, n, bb)) (fun s => 1024 - s.1.toNat)
    (fun r => ∃ rest bad' l, r = (rest, bad', t, q, l, e, n, bb) ∧ wfIm (t, q, l, e, n, bb)) _ ⟨0, a, bad, [], rfl, rfl, by omega, ha, ⟨fun k hk => (by cases hk), fun k hk => (by cases hk)⟩⟩ (lt_N0 (by dsimp only; omega)) (fun s ⟨k, rest, b, l, es, hq, hk, hr, hw⟩ => ?_)
  subst es
  by_cases h : (k : Int) < cnt
  · cases b with
    | true =>
      refine .inr ⟨(rest, true, t, q, l, e, n, bb), ?_, rest, true, l, rfl, hw⟩
      simp only [F_ref21_Read.l16378, F_ref21_Read.s65512, decide_eq_true h, cond_true, Bool.not_true, cond_false, Option.bind_some]
    | false =>
      obtain ⟨v1, r1, b1, p1, i1, _, j1⟩ := rnum_tot hr false (m := 4) (by decide)
      obtain ⟨s2, s3, v4, v5, v6, r6, b6, p6, i2, i3, i4, i6, j6⟩ := ritm_tot j1 b1
      have c1 : Nat.ble (l.length + 1) 4294967296 = true := ble_t (by omega)
      have w1 : IntKind.i64.wrap v1 = v1 := w64 (by omega) (by omega)
      refine .inl ⟨(((k + 1 : Nat) : Int), r6, b6, t, q, l ++ [(v1, s2, s3, v4, v5, v6)], e, n, bb), ?_, ⟨k + 1, r6, b6, l ++ [(v1, s2, s3, v4, v5, v6)], rfl, by simp [hq], by omega, j6, ?_⟩, by dsimp only; omega⟩
      · simp only [F_ref21_Read.l16378, F_ref21_Read.s65512, decide_eq_true h, cond_true, Bool.not_false, p1, p6, Option.bind_some, List.length_singleton, c1, w1]
        rw [wuinc (by omega)]
      · refine ⟨fun y hy => ?_, fun y hy => ?_⟩
        · rcases List.mem_append.1 hy with hy | hy
          · exact hw.1 y hy
          · rw [List.mem_singleton] at hy; subst hy
            have := i2.2
            have := i3.2
            exact ⟨⟨by dsimp only; omega, by dsimp only; omega⟩, i2.1, i3.1⟩
        · rcases List.mem_append.1 hy with hy | hy
          · exact hw.2 y hy
          · rw [List.mem_singleton] at hy; subst hy
            exact ⟨i4, i6⟩
  · refine .inr ⟨(rest, b, t, q, l, e, n, bb), ?_, rest, b, l, rfl, hw⟩
    simp only [F_ref21_Read.l16378, F_ref21_Read.s65512, decide_eq_false h, cond_false, Option.bind_some]
theorem rimg_tot {a : List Int} (ha : bytesI a) (hl : a.length ≤ 65536) : ∃ y, F_ref21_Read mx a = some y ∧ ReadTo a y := by
  have hR : Rd a := ⟨ha, hl⟩
  obtain ⟨v1, r1, b1, p1, i1, _, j1⟩ := rnum_tot hR false (m := 1099511627776) (by decide)
  obtain ⟨v2, r2, b2, p2, i2, _, j2⟩ := rnum_tot j1 b1 (m := 4) (by decide)
  obtain ⟨x3, p3, r3, b3, q, rfl, j3, hq⟩ := rquotas_loop v2 i2.2 (r2, b2) (IntKind.i64.wrap v1) j2 b2
  obtain ⟨v4, r4, b4, p4, i4, _, j4⟩ := rnum_tot j3 b3 (m := 2147483647) (by decide)
  obtain ⟨v5, r5, b5, p5, i5, _, j5⟩ := rnum_tot j4 b4 (m := 2147483647) (by decide)
  obtain ⟨v6, r6, b6, p6, j6⟩ := rbyte_tot j5 b5
  obtain ⟨v7, r7, b7, p7, i7, _, j7⟩ := rnum_tot j6 b6 (m := 1024) (by decide)
  obtain ⟨x8, p8, rest, bad', l, rfl, hw⟩ := ritems_loop v7 i7.2 (r7, b7) (IntKind.i64.wrap v1) q (IntKind.i64.wrap v4) (IntKind.i64.wrap v5) (v6 == 1) j7 b7
  simp only [F_ref21_Read, decide_eq_false (show ¬ (65536 : Int) < (a.length : Int) by omega), cond_false, p1, p2, Option.bind_some, p3, p4, p5, p6, p7, p8]
  generalize IntKind.i64.wrap v1 = w1 at hw ⊢
  generalize IntKind.i64.wrap v4 = w4 at hw ⊢
  generalize IntKind.i64.wrap v5 = w5 at hw ⊢
  have hwr := rwrite_ok (v := (w1, q, l, w4, w5, (v6 == 1))) (fun k hk => (hw.1 k hk).1) hw.2
  simp only [hwr, Option.bind_some, bne_int]
  cases bad' with
  | true => exact ⟨zeroI 8, rfl, .inl rfl⟩
  | false =>
    by_cases g1 : (writeS (w1, q, l, w4, w5, (v6 == 1))).2 = 0
    · by_cases g2 : (writeS (w1, q, l, w4, w5, (v6 == 1))).1 = a
      · rw [decide_eq_true g1, show ((writeS (w1, q, l, w4, w5, (v6 == 1))).1 == a) = true from beq_iff_eq.2 g2]
        exact ⟨withE (w1, q, l, w4, w5, (v6 == 1)), rfl, .inr ⟨_, rfl, hw, Prod.ext g2 g1⟩⟩
      · rw [decide_eq_true g1, show ((writeS (w1, q, l, w4, w5, (v6 == 1))).1 == a) = false from beq_eq_false_iff_ne.2 g2]; exact ⟨zeroI 8, rfl, .inl rfl⟩
    · rw [decide_eq_false g1]; exact ⟨zeroI 8, rfl, .inl rfl⟩
theorem rquotas_sm (x : List Int × Bool) (t : Int) (q : List Int) (hq : q.length ≤ 4) (h16 : ∀ y ∈ q, 0 ≤ y ∧ y ≤ 16) {rest : List Int} (hr : Rd (numsB q ++ rest)) :
    iter mx (F_ref21_Read.l506 mx ((q.length : Int), x)) ((0 : Int), numsB q ++ rest, false, t, ([] : List Int), (0 : Int), (0 : Int), false) = some (rest, false, t, q, 0, 0, false) := by
  have hd : ∀ i, i ≤ q.length → Rd (numsB (q.drop i) ++ rest) := fun i => by
    induction i with
    | zero => intro _; exact hr
    | succ i ih =>
      intro hi
      have := ih (by omega)
      rw [List.drop_eq_getElem_cons (show i < q.length by omega), numsB_cons, List.append_assoc] at this
      exact this.right
  have := iter_count (f := F_ref21_Read.l506 mx ((q.length : Int), x)) (fun i => ((i : Int), numsB (q.drop i) ++ rest, false, t, q.take i, (0 : Int), (0 : Int), false)) q.length (r := (rest, false, t, q, 0, 0, false)) (lt_N0 (by omega)) (fun i hi => by
    obtain ⟨y1, y2⟩ := h16 _ (List.getElem_mem hi)
    have hn := hd (i + 1) hi
    have e : numsB (q.drop i) ++ rest = sm q[i].toNat ++ (numsB (q.drop (i + 1)) ++ rest) := by rw [List.drop_eq_getElem_cons hi, numsB_cons, List.append_assoc]
    have hx := rnum_sm (n := q[i].toNat) (by omega) hn false (m := 16) (by omega)
    rw [← e, show ((q[i].toNat : Nat) : Int) = q[i] by omega] at hx
    have c1 : Nat.ble ((q.take i).length + 1) 4294967296 = true := ble_t (by rw [List.length_take]; omega)
    have w1 : IntKind.i64.wrap q[i] = q[i] := w64 (by omega) (by omega)
    simp only [F_ref21_Read.l506, F_ref21_Read.s2024, ltd hi, cond_true, Bool.not_false, hx, Option.bind_some, List.length_singleton, c1, w1]
    rw [wuinc (by omega), take_succ' hi 0, getD_some hi]) (by
    simp only [F_ref21_Read.l506, F_ref21_Read.s2024, nltd, cond_false, List.take_length, Option.bind_some]
    rw [List.drop_eq_nil_of_le (Nat.le_refl _)]; rfl)
  exact this
theorem ritems_sm (x : List Int × Bool) (t : Int) (q : List Int) (l : List Kept) (e n : Int) (bb : Bool) (hl : l.length ≤ 1024) (hk : ∀ k ∈ l, (0 ≤ k.1 ∧ k.1 ≤ 4) ∧ itemOk k.2) (hw : ∀ k ∈ l, wfK k) {rest : List Int} (hr : Rd (keptsB l ++ rest)) :
    iter mx (F_ref21_Read.l16378 mx ((l.length : Int), x)) ((0 : Int), keptsB l ++ rest, false, t, q, ([] : List Kept), e, n, bb) = some (rest, false, t, q, l, e, n, bb) := by
  have hd : ∀ i, i ≤ l.length → Rd (keptsB (l.drop i) ++ rest) := fun i => by
    induction i with
    | zero => intro _; exact hr
    | succ i ih =>
      intro hi
      have := ih (by omega)
      rw [List.drop_eq_getElem_cons (show i < l.length by omega), keptsB_cons, List.append_assoc] at this
      exact this.right
  have := iter_count (f := F_ref21_Read.l16378 mx ((l.length : Int), x)) (fun i => ((i : Int), keptsB (l.drop i) ++ rest, false, t, q, l.take i, e, n, bb)) l.length (r := (rest, false, t, q, l, e, n, bb)) (lt_N0 (by omega)) (fun i hi => by
    obtain ⟨⟨y1, y2⟩, y3⟩ := hk _ (List.getElem_mem hi)
    obtain ⟨⟨z1, z2⟩, z3, z4⟩ := hw _ (List.getElem_mem hi)
    have hn := hd i (by omega)
    have e0 : keptsB (l.drop i) ++ rest = sm l[i].1.toNat ++ (itemB l[i].2 ++ (keptsB (l.drop (i + 1)) ++ rest)) := by
      rw [List.drop_eq_getElem_cons hi, keptsB_cons]
      simp only [keptB, itemB, List.append_assoc]
    obtain ⟨A, hA⟩ : ∃ A, keptsB (l.drop (i + 1)) ++ rest = A := ⟨_, rfl⟩
    rw [hA] at e0
    rw [e0] at hn ⊢
    have g1 := hn.right
    have p1 := rnum_sm (n := l[i].1.toNat) (by omega) g1 false (m := 4) (by omega)
    have p2 := ritm_sm (x := l[i].2) (rest := A) g1 y3 ⟨⟨z1, z2⟩, z3, z4⟩ false
    rw [show ((l[i].1.toNat : Nat) : Int) = l[i].1 by omega] at p1
    have c1 : Nat.ble ((l.take i).length + 1) 4294967296 = true := ble_t (by rw [List.length_take]; omega)
    have w1 : IntKind.i64.wrap l[i].1 = l[i].1 := w64 (by omega) (by omega)
    simp only [F_ref21_Read.l16378, F_ref21_Read.s65512, ltd hi, cond_true, Bool.not_false, p1, p2, Option.bind_some, List.length_singleton, c1, w1, hA]
    rw [wuinc (by omega), take_succ' hi K0, getD_some hi]) (by
    simp only [F_ref21_Read.l16378, F_ref21_Read.s65512, nltd, cond_false, List.take_length, Option.bind_some]
    rw [List.drop_eq_nil_of_le (Nat.le_refl _)]; rfl)
  exact this
theorem rimg_sm {v : Img} {a : List Int} (h : writeS v = (a, 0)) (ha : bytesI a) (hw : ∀ k ∈ v.2.2.1, wfK k) : F_ref21_Read mx a = some (withE v) := by
  obtain ⟨hok, himg, hl⟩ := writeS_ok h
  have hwr := rwrite_ok (okI_len hok) hw
  rw [h] at hwr
  obtain ⟨t, q, l, e, n, b⟩ := v
  obtain ⟨⟨t1, t2⟩, ⟨q1, q2, q3⟩, l1, ⟨e1, e2⟩, ⟨n1, n2⟩, hk, _⟩ := id hok
  dsimp only at t1 t2 q1 q2 q3 l1 e1 e2 n1 n2 hk hw
  have hR : Rd a := ⟨ha, hl⟩
  have e0 : a = sm t.toNat ++ (sm q.length ++ (numsB q ++ (sm e.toNat ++ (sm n.toNat ++ ((if b then 1 else 0) :: (sm l.length ++ (keptsB l ++ []))))))) := by
    rw [← himg]
    simp only [imgB, headB, List.append_assoc, List.append_nil, List.singleton_append, List.cons_append, List.nil_append]
  rw [e0] at hR
  have g1 := hR.right
  have g2 : Rd (numsB q ++ (sm e.toNat ++ (sm n.toNat ++ ((if b then 1 else 0) :: (sm l.length ++ (keptsB l ++ [])))))) := g1.right
  have g3 : Rd (sm e.toNat ++ (sm n.toNat ++ ((if b then 1 else 0) :: (sm l.length ++ (keptsB l ++ []))))) := g2.right
  have g4 : Rd (sm n.toNat ++ ((if b then 1 else 0) :: (sm l.length ++ (keptsB l ++ [])))) := g3.right
  have g5 : Rd ((if b then 1 else 0) :: (sm l.length ++ (keptsB l ++ []))) := g4.right
  have g6 : Rd (sm l.length ++ (keptsB l ++ [])) := (show Rd ([if b then 1 else 0] ++ (sm l.length ++ (keptsB l ++ []))) from g5).right
  have g7 : Rd (keptsB l ++ []) := g6.right
  have p1 := rnum_sm (n := t.toNat) (by omega) g1 false (m := 1099511627776) (by omega)
  rw [← e0, show ((t.toNat : Nat) : Int) = t by omega] at p1
  have p2 := rnum_sm (n := q.length) (by omega) g2 false (m := 4) (by omega)
  have wt : IntKind.i64.wrap t = t := w64 (by omega) (by omega)
  have p3 := rquotas_sm (numsB q ++ (sm e.toNat ++ (sm n.toNat ++ ((if b then 1 else 0) :: (sm l.length ++ (keptsB l ++ []))))), false) t q q2 q3 g2
  have p4 := rnum_sm (n := e.toNat) (by omega) g4 false (m := 2147483647) (by omega)
  rw [show ((e.toNat : Nat) : Int) = e by omega] at p4
  have p5 := rnum_sm (n := n.toNat) (by omega) g5 false (m := 2147483647) (by omega)
  rw [show ((n.toNat : Nat) : Int) = n by omega] at p5
  have p6 := rbyte_sm (if b then 1 else 0) (sm l.length ++ (keptsB l ++ [])) false
  have p7 := rnum_sm (n := l.length) (by omega) g7 false (m := 1024) (by omega)
  have p8 := ritems_sm (keptsB l ++ [], false) t q l e n b l1 (fun k hk' => ⟨⟨(hk k hk').1, by have := (hk k hk').2.1; omega⟩, (hk k hk').2.2.1⟩) hw g7
  have hb : ((if b then (1 : Int) else 0) == 1) = b := by cases b <;> rfl
  have we : IntKind.i64.wrap e = e := w64 (by omega) (by omega)
  have wn : IntKind.i64.wrap n = n := w64 (by omega) (by omega)
  simp only [F_ref21_Read, decide_eq_false (show ¬ (65536 : Int) < (a.length : Int) by omega), cond_false, p1, p2, Option.bind_some, wt, p3, p4, p5, p6, p7, hb, we, wn, p8, hwr, bne_self_eq_false, beq_self_eq_true, Bool.not_true]
  rfl
theorem rimg_big {a : List Int} (h : 65536 < a.length) : F_ref21_Read mx a = some (zeroI 3) := by
  simp only [F_ref21_Read, decide_eq_true (show (65536 : Int) < (a.length : Int) by omega), cond_true]; rfl
/-- Both read alike. -/
theorem both_read {a : List Int} (ha : bytesI a) : ∃ y, F_image_Read mx a = some y ∧ F_ref21_Read mx a = some y ∧ y.2.1.length ≤ 1000 ∧ y.2.2.1.length ≤ 2000 := by
  have zl : ∀ e, (zeroI e).2.1.length ≤ 1000 ∧ (zeroI e).2.2.1.length ≤ 2000 := fun e => ⟨by simp [zeroI], by simp [zeroI]⟩
  by_cases h : 65536 < a.length
  · exact ⟨_, read_big h, rimg_big h, zl 3⟩
  obtain ⟨y1, e1, h1⟩ := read_tot ha (by omega)
  obtain ⟨y2, e2, h2⟩ := rimg_tot ha (by omega)
  rcases h1 with rfl | ⟨v, rfl, w1, w2⟩
  · rcases h2 with rfl | ⟨v, rfl, w1, w2⟩
    · exact ⟨_, e1, e2, zl 8⟩
    · rw [read_sm w2 ha w1.2] at e1
      exact ⟨_, by rw [read_sm w2 ha w1.2], e2, by have := (writeS_ok w2).1.2.1.2.1; simp only [withE]; omega, by have := (writeS_ok w2).1.2.2.1; simp only [withE]; omega⟩
  · refine ⟨_, e1, rimg_sm w2 ha w1.2, by have := (writeS_ok w2).1.2.1.2.1; simp only [withE]; omega, by have := (writeS_ok w2).1.2.2.1; simp only [withE]; omega⟩
end Go.Proofs.Ytkggcbfkhkgeaaa
