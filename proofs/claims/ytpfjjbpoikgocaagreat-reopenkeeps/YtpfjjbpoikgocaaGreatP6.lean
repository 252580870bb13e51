/- What is proved: the statement ReopenKeeps of this seat: for every input the law returns true, and each argument reads afterwards as it read before. Conditions: none. -/
import Derived.Test.YtpfjjbpoikgocaaGreatP5
import Derived.Test.YtpfjjbpoikgocaaGreatRows
noncomputable section
namespace Go.Proofs.YtpfjjbpoikgocaaGreat
open Go.Abs
set_option maxRecDepth 100000
theorem Qk7 {n : Nat} (hn : n < 18446744073709551616) {rest : List Int} (hr : QV rest) (hl : rest.length ≤ 900000) : Qr mx (sm n ++ rest) = some ((n : Int), (((sm n).length : Nat) : Int), 0) := by
 have e0 : (128 : Nat) ^ (10 + 1) = 151115727451828646838272 := by decide
 have hs := ZD n
 obtain ⟨s1, s2, s3, s4⟩ := Qk3 10 n (by rw [e0]; omega)
 have hlen10 : (sm n).length ≤ 10 := by
  rcases Nat.lt_or_ge 10 (sm n).length with hc | hc
  ·exfalso
   have hv := Qpw 10 n (by rw [e0]; omega)
   have hg : ∀ (l : List Int), (∀ x ∈ l, 0 ≤ x) → 1 ≤ l.length → l.getD (l.length - 1) 0 ≠ 0 → l.getD (l.length - 1) 0 < 128 → 128 ^ (l.length - 1) ≤ vl l := fun l => by
    induction l with
    | nil => intro _ h; simp at h
    | cons y l ih =>
     intro hx hh hne hlt
     cases l with
     | nil =>
      simp at hne hlt
      have := hx y (by simp)
      simp [vl]; omega
     | cons z l =>
      have hge : ∀ k, (y :: z :: l).getD (k + 1) 0 = (z :: l).getD k 0 := fun k => by simp
      have hla : (y :: z :: l).length - 1 = ((z :: l).length - 1) + 1 := by simp
      rw [hla, hge] at hne hlt
      have := ih (fun x hx' => hx x (by simp at hx' ⊢; exact .inr hx')) (by simp) hne hlt
      rw [hla, Nat.pow_succ, vl]; omega
   have hnn : ∀ x ∈ smF 10 n, 0 ≤ x := fun x hx => (Qd0 10 n (by rw [e0]; omega) x hx).1
   have := hg (smF 10 n) hnn (show 1 ≤ (sm n).length by omega) (s3 (show 1 < (sm n).length by omega)) s2
   rw [hv] at this
   have h11 : (sm n).length = 11 := by omega
   have h11 : (smF 10 n).length = 11 := h11
   rw [h11] at this
   have : 128 ^ 10 ≤ n := this
   have : (128 : Nat) ^ 10 = 1180591620717411303424 := by decide
   omega
  ·exact hc
 have hbs := Ju hn
 have hb : QV (sm n ++ rest) := Qn6 hbs hr
 have hla : (sm n ++ rest).length = (sm n).length + rest.length := List.length_append
 have hget : ∀ j, j < (sm n).length → (sm n ++ rest).getD j 0 = (sm n).getD j 0 := fun j hj => by
  rw [getD_some (by omega), getD_some hj, List.getElem_append_left hj]
 obtain ⟨i, h1, h2, h3, h4, h5⟩ := QiV (a := sm n ++ rest) (by omega)
 have s2 : (sm n).getD ((sm n).length - 1) 0 < 128 := s2
 have s3 : 1 < (sm n).length → (sm n).getD ((sm n).length - 1) 0 ≠ 0 := s3
 have s1 : ∀ j, j + 1 < (sm n).length → 128 ≤ (sm n).getD j 0 := s1
 have hi : i = (sm n).length - 1 := by
  rcases Nat.lt_trichotomy i ((sm n).length - 1) with h | h | h
  ·have := h5 (by omega) (by omega)
   rw [hget i (by omega)] at this
   have := s1 i (by omega)
   omega
  ·exact h
  ·have := h4 ((sm n).length - 1) h
   rw [hget _ (by omega)] at this
   omega
 have hv := Qpw 10 n (by rw [e0]; omega)
 have hv : vl (sm n) = n := hv
 have htk : (sm n ++ rest).take (i + 1) = sm n := by rw [hi, show (sm n).length - 1 + 1 = (sm n).length by omega, List.take_left' rfl]
 have hcond : i < (sm n ++ rest).length ∧ i < 10 ∧ ¬ (i = 9 ∧ 1 < (sm n ++ rest).getD i 0) ∧ ¬ (0 < i ∧ (sm n ++ rest).getD i 0 = 0) := by
  refine ⟨by omega, by omega, fun hh => ?_, fun hh => ?_⟩
  ·
   have hg : ∀ (l : List Int) (c : Int), 1 ≤ l.length → (∀ x ∈ l, 0 ≤ x) → l.getD (l.length - 1) 0 = c → 0 ≤ c → c < 128 → c.toNat * 128 ^ (l.length - 1) ≤ vl l := fun l => by
    induction l with
    | nil => intro c h; simp at h
    | cons y l ih =>
     intro c hh hx hc h0 hlt
     cases l with
     | nil =>
      simp at hc
      simp [vl]; omega
     | cons z l =>
      have hge : ∀ k, (y :: z :: l).getD (k + 1) 0 = (z :: l).getD k 0 := fun k => by simp
      have hla : (y :: z :: l).length - 1 = ((z :: l).length - 1) + 1 := by simp
      rw [hla, hge] at hc
      have := ih c (by simp) (fun x hx' => hx x (by simp at hx' ⊢; exact .inr hx')) hc h0 hlt
      rw [hla, Nat.pow_succ, ← Nat.mul_assoc, vl]; omega
   have h9 := hg (sm n) ((sm n).getD ((sm n).length - 1) 0) hs.1 (fun x hx => (hbs x hx).1) rfl (QdO hbs _).1 s2
   rw [hget i (by omega), hi] at hh
   have : (sm n).length - 1 = 9 := hh.1
   rw [hv] at h9
   have hc := hh.2
   rw [this] at h9 hc
   have e9 : (128 : Nat) ^ 9 = 9223372036854775808 := by decide
   rw [e9] at h9
   omega
  ·rw [hget i (by omega), hi] at hh
   exact s3 (by omega) hh.2
 obtain ⟨v, g1, g2, g3⟩ := QiT hb hcond.1 (by omega)
 rw [htk, hv] at g3
 simp only [Qr, h1, Option.bind_some, QmR (a := sm n ++ rest) (by omega), if_pos hcond, g1]
 rw [Z8 (by omega), g3 hn]
 congr 3
 omega
theorem Vt {a : List Int} (ha : Rd a) (bad : Bool) {m : Int} (hm : 0 ≤ m) : ∃ v rest bad', Qd mx (a, bad, m) = some (v, rest, bad') ∧ (0 ≤ v ∧ v ≤ m) ∧ (0 ≤ v ∧ v ≤ 18446744073709551615) ∧ Rd rest := by
 obtain ⟨v, n, e, h1, h2, h4⟩ := QiU ha.1 (by have := ha.2; omega)
 simp only [Qd, h1, Option.bind_some, Qd.a, Vf]
 by_cases g1 : e = 0
 case neg => rw [decide_eq_false g1]; exact ⟨0, a, true, rfl, ⟨Int.le_refl _, hm⟩, ⟨by decide, by decide⟩, ha⟩
 rw [decide_eq_true g1]
 by_cases g2 : m < v
 ·rw [decide_eq_true g2]; exact ⟨0, a, true, rfl, ⟨Int.le_refl _, hm⟩, ⟨by decide, by decide⟩, ha⟩
 ·rw [decide_eq_false g2]
  simp only [Bool.not_true, cond_false, Option.bind_some, lez, decide_eq_true (show (n : Int) ≤ (a.length : Int) by omega), Int.le_refl, decide_true, Bool.and_self, cond_true, Int.toNat_natCast, List.take_length]
  exact ⟨v, a.drop n, bad, rfl, ⟨h2.1, by omega⟩, h2, ha.drop n⟩
theorem Qa5 {n : Nat} (hn : n < 18446744073709551616) {rest : List Int} (hr : Rd rest) (bad : Bool) {m : Int} (h0 : (n : Int) ≤ m) : Qd mx (sm n ++ rest, bad, m) = some ((n : Int), rest, bad) := by
 have h := Qk7 hn hr.1 (by have := hr.2; omega)
 simp only [Qd, h, Option.bind_some, Qd.a, bne_self_eq_false, cond_false, decide_eq_false (show ¬ m < (n : Int) by omega), lez, decide_eq_true (show ((sm n).length : Int) ≤ ((sm n ++ rest).length : Int) by rw [List.length_append]; omega), Int.le_refl, decide_true, Bool.and_self, cond_true, Int.toNat_natCast, List.take_length]
 rw [List.drop_left' rfl]
theorem QhZ {a : List Int} (ha : Rd a) (bad : Bool) : ∃ s rest bad', QG mx (a, bad) = some (s, rest, bad') ∧ Rd s ∧ Rd rest := by
 obtain ⟨v, n, e, h1, h2, h4⟩ := QiU ha.1 (by have := ha.2; omega)
 have hl := ha.2
 have hE : Rd ([] : List Int) := ⟨fun x hx => (by cases hx), by simp⟩
 have w1 : IntKind.u64.wrap (IntKind.i64.wrap ((a.length : Int) - (n : Int))) = (a.length : Int) - (n : Int) := by rw [w64 (by omega) (by omega), wu64 (by omega) (by omega)]
 simp only [QG, h1, Option.bind_some, QG.a, Vf, w1]
 by_cases g1 : e = 0
 case neg => rw [decide_eq_false g1]; exact ⟨[], a, true, rfl, hE, ha⟩
 rw [decide_eq_true g1]
 by_cases g2 : (a.length : Int) - (n : Int) < v
 ·rw [decide_eq_true g2]; exact ⟨[], a, true, rfl, hE, ha⟩
 ·rw [decide_eq_false g2]
  have w2 : IntKind.i64.wrap ((n : Int) + IntKind.i64.wrap v) = (n : Int) + v := by rw [w64 (n := v) (by omega) (by omega), w64 (by omega) (by omega)]
  simp only [Bool.not_true, cond_false, Option.bind_some, w2, lez, decide_eq_true (show (n : Int) ≤ (n : Int) + v by omega), decide_eq_true (show (n : Int) + v ≤ (a.length : Int) by omega), decide_eq_true (show (0 : Int) ≤ (n : Int) + v by omega), Int.le_refl, decide_true, Bool.and_self, cond_true]
  exact ⟨_, _, _, rfl, (ha.take _).drop _, (ha.take _).drop _⟩
theorem Qkf {s rest : List Int} (hs : Rd (s ++ rest)) (bad : Bool) : QG mx (txt s ++ rest, bad) = some (s, rest, bad) := by
 have hl := hs.2
 rw [List.length_append] at hl
 have hsl := ZD s.length
 have h := Qk7 (n := s.length) (by omega) hs.1 (by rw [List.length_append]; omega)
 have e : sm s.length ++ (s ++ rest) = txt s ++ rest := by unfold txt; rw [List.append_assoc]
 rw [e] at h
 have hla : (txt s ++ rest).length = (sm s.length).length + s.length + rest.length := by unfold txt; simp only [List.length_append]
 have w1 : IntKind.u64.wrap (IntKind.i64.wrap (((txt s ++ rest).length : Int) - ((sm s.length).length : Int))) = (s.length : Int) + (rest.length : Int) := by rw [hla, w64 (by omega) (by omega), wu64 (by omega) (by omega)]; omega
 have w2 : IntKind.i64.wrap (((sm s.length).length : Int) + IntKind.i64.wrap (s.length : Int)) = (((sm s.length).length + s.length : Nat) : Int) := by rw [w64 (n := (s.length : Int)) (by omega) (by omega), w64 (by omega) (by omega)]; omega
 simp only [QG, h, Option.bind_some, QG.a, bne_self_eq_false, cond_false, w1, decide_eq_false (show ¬ (s.length : Int) + (rest.length : Int) < (s.length : Int) by omega), w2, lez,
  decide_eq_true (show ((sm s.length).length : Int) ≤ (((sm s.length).length + s.length : Nat) : Int) by omega), decide_eq_true (show (((sm s.length).length + s.length : Nat) : Int) ≤ ((txt s ++ rest).length : Int) by omega), Int.le_refl, decide_true, Bool.and_self, cond_true, Int.toNat_natCast, List.take_length]
 have e1 : ((txt s ++ rest).take ((sm s.length).length + s.length)).drop (sm s.length).length = s := by
  rw [show (sm s.length).length + s.length = (txt s).length by unfold txt; rw [List.length_append], List.take_left' rfl]
  unfold txt; rw [List.drop_left' rfl]
 have e2 : (txt s ++ rest).drop ((sm s.length).length + s.length) = rest := by
  rw [show (sm s.length).length + s.length = (txt s).length by unfold txt; rw [List.length_append], List.drop_left' rfl]
 rw [e1, e2]
theorem Qd3 {a : List Int} (ha : Rd a) (bad : Bool) : ∃ v rest bad', Zd mx (a, bad) = some (v, rest, bad') ∧ Rd rest := by
 simp only [Zd, ieq]
 by_cases h : a.length = 0
 ·rw [decide_eq_true (show (a.length : Int) = 0 by omega)]; exact ⟨0, a, true, rfl, ha⟩
 ·simp only [decide_eq_false (show ¬ (a.length : Int) = 0 by omega), cond_false, decide_eq_true (show (0 : Int) < (a.length : Int) by omega), decide_eq_true (show (1 : Int) ≤ (a.length : Int) by omega), Int.le_refl, decide_true, Bool.and_self, cond_true, Int.toNat_natCast, List.take_length]
  exact ⟨_, _, _, rfl, ha.drop 1⟩
theorem QaU (x : Int) (rest : List Int) (bad : Bool) : Zd mx (x :: rest, bad) = some (x, rest, bad) := by
 have h1 : (x :: rest).length = rest.length + 1 := List.length_cons
 simp only [Zd, ieq, decide_eq_false (show ¬ ((x :: rest).length : Int) = 0 by omega), cond_false, decide_eq_true (show (0 : Int) < ((x :: rest).length : Int) by omega), decide_eq_true (show (1 : Int) ≤ ((x :: rest).length : Int) by omega), Int.le_refl, decide_true, Bool.and_self, cond_true, Int.toNat_natCast, List.take_length]
 rfl
theorem Qlc {a : List Int} (ha : Rd a) (bad : Bool) : ∃ s1 s2 v3 v4 v5 rest bad', ZF mx (a, bad) = some (s1, s2, v3, v4, v5, rest, bad') ∧ Rd s1 ∧ Rd s2 ∧ (0 ≤ v3 ∧ v3 ≤ 4294967295) ∧ (0 ≤ v5 ∧ v5 ≤ 18446744073709551615) ∧ Rd rest := by
 obtain ⟨s1, r1, b1, p1, i1, j1⟩ := QhZ ha bad
 obtain ⟨s2, r2, b2, p2, i2, j2⟩ := QhZ j1 b1
 obtain ⟨v3, r3, b3, p3, i3, _, j3⟩ := Vt j2 b2 (m := 4294967295) (by decide)
 obtain ⟨v4, r4, b4, p4, i4, _, j4⟩ := Vt j3 b3 (m := 1099511627776) (by decide)
 obtain ⟨v5, r5, b5, p5, i5, _, j5⟩ := Vt j4 b4 (m := 18446744073709551615) (by decide)
 simp only [ZF, p1, p2, p3, p4, p5, Option.bind_some]
 exact ⟨_, _, _, _, _, _, _, rfl, i1, i2, by rw [wu32 i3.1 i3.2]; exact i3, i5, j5⟩
theorem QmV {x : Itm} {rest : List Int} (h : Rd (Qcm x ++ rest)) (hx : 0 ≤ x.2.2.2.1 ∧ x.2.2.2.1 ≤ 1099511627776) (hw : (0 ≤ x.2.2.1 ∧ x.2.2.1 ≤ 4294967295) ∧ 0 ≤ x.2.2.2.2 ∧ x.2.2.2.2 ≤ 18446744073709551615) (bad : Bool) :
  ZF mx (Qcm x ++ rest, bad) = some (x.1, x.2.1, x.2.2.1, x.2.2.2.1, x.2.2.2.2, rest, bad) := by
 obtain ⟨⟨w1, w2⟩, w3, w4⟩ := hw
 have hi4 := hx
 have e0 : Qcm x ++ rest = txt x.1 ++ (txt x.2.1 ++ (sm x.2.2.1.toNat ++ (sm x.2.2.2.1.toNat ++ (sm x.2.2.2.2.toNat ++ rest)))) := by
  simp only [Qcm, List.append_assoc]
 rw [e0] at h ⊢
 have g2 := h.right
 have g3 : Rd (sm x.2.2.1.toNat ++ (sm x.2.2.2.1.toNat ++ (sm x.2.2.2.2.toNat ++ rest))) := g2.right
 have g4 := g3.right
 have g5 := g4.right
 have g6 := g5.right
 have p1 := Qkf (s := x.1) (rest := txt x.2.1 ++ (sm x.2.2.1.toNat ++ (sm x.2.2.2.1.toNat ++ (sm x.2.2.2.2.toNat ++ rest)))) (by unfold txt at h; rw [List.append_assoc] at h; exact h.right) bad
 have p2 := Qkf (s := x.2.1) (rest := sm x.2.2.1.toNat ++ (sm x.2.2.2.1.toNat ++ (sm x.2.2.2.2.toNat ++ rest))) (by
  have := g2
  unfold txt at this
  rw [List.append_assoc] at this
  exact this.right) bad
 have p3 := Qa5 (n := x.2.2.1.toNat) (by omega) g4 bad (m := 4294967295) (by omega)
 have p4 := Qa5 (n := x.2.2.2.1.toNat) (by omega) g5 bad (m := 1099511627776) (by omega)
 have p5 := Qa5 (n := x.2.2.2.2.toNat) (by omega) g6 bad (m := 18446744073709551615) (by omega)
 rw [show ((x.2.2.1.toNat : Nat) : Int) = x.2.2.1 by omega] at p3
 rw [show ((x.2.2.2.1.toNat : Nat) : Int) = x.2.2.2.1 by omega] at p4
 rw [show ((x.2.2.2.2.toNat : Nat) : Int) = x.2.2.2.2 by omega] at p5
 simp only [ZF, p1, p2, p3, p4, p5, Option.bind_some]
 rw [wu32 w1 w2, w64 (n := x.2.2.2.1) (by omega) (by omega)]
end Go.Proofs.YtpfjjbpoikgocaaGreat
namespace Go.Proofs.YtpfjjbpoikgocaaGreat
open Go.Abs
set_option maxRecDepth 100000
theorem Qos (kd t : Int) (k v : List Int) (f d cs : Int) (b : List Int) (how n : Int) (yes : Bool) (x : Kept) :
  ZZ.a mx kd t k b n x = some (Qfo (kd, t, (k, v, f, d, cs), b, how, n, yes) x) := by
 simp only [ZZ.a, Qfo, ieq]
 have nmd : ∀ y : List Int, (bif decide (x.1 = t) then some (x.2.1 == y) else some false) = some (decide (nm x = (t, y))) := fun y => by
  by_cases h : x.1 = t
  ·rw [decide_eq_true h, cond_true]; congr 1
   rw [Bool.eq_iff_iff, beq_iff_eq, decide_eq_true_eq]
   exact ⟨fun hh => Prod.ext h hh, fun hh => congrArg Prod.snd hh⟩
  ·rw [decide_eq_false h, decide_eq_false (fun hh => h (congrArg Prod.fst hh))]; rfl
 by_cases k1 : kd = 1
 ·rw [decide_eq_true k1, if_pos k1, cond_true]; exact nmd k
 rw [decide_eq_false k1, if_neg k1]
 by_cases k2 : kd = 2
 ·rw [decide_eq_true k2, if_pos k2, cond_false, cond_true]; exact nmd b
 rw [decide_eq_false k2, if_neg k2]
 by_cases k3 : kd = 3
 ·rw [decide_eq_true k3, if_pos k3]; rfl
 rw [decide_eq_false k3, if_neg k3]
 by_cases k4 : kd = 4
 ·rw [decide_eq_true k4, if_pos k4]
  simp only [cond_false, cond_true, Qkk, Option.bind_some]
 ·rw [decide_eq_false k4, if_neg k4]; rfl
theorem QpT {l : List Kept} (hl : l.length ≤ 1000000) (kd t : Int) (k v : List Int) (f d cs : Int) (b : List Int) (how n : Int) (yes : Bool) :
  ZZ mx (l, kd, t, k, v, f, d, cs, b, how, n, yes) = some (QaF (kd, t, (k, v, f, d, cs), b, how, n, yes) l) := by
 have hlen : ∀ i, ((l.take i).foldl (fun acc x => bif !Qfo (kd, t, (k, v, f, d, cs), b, how, n, yes) x then acc ++ [x] else acc) []).length ≤ l.length := fun i => by
  rw [QcR, List.nil_append]
  exact Nat.le_trans (List.length_filter_le _ _) (by rw [List.length_take]; omega)
 have := Qak (f := ZZ.b mx l kd t k b n) l K0 (fun acc x => bif !Qfo (kd, t, (k, v, f, d, cs), b, how, n, yes) x then acc ++ [x] else acc) [] (fun i s => (s, (i : Int))) (r := l.filter (fun x => !Qfo (kd, t, (k, v, f, d, cs), b, how, n, yes) x)) (Z7 (by omega)) (fun i hi => by
  have c1 : Nat.ble (((l.take i).foldl (fun acc x => bif !Qfo (kd, t, (k, v, f, d, cs), b, how, n, yes) x then acc ++ [x] else acc) []).length + 1) 4294967296 = true := ZQ (by have := hlen i; omega)
  simp only [ZZ.b, ltd hi, lez, Bool.and_self, cond_true, Int.toNat_natCast, Qos kd t k v f d cs b how n yes, Option.bind_some, List.length_singleton, c1]
  rw [Z8 (by omega)]
  cases Qfo (kd, t, (k, v, f, d, cs), b, how, n, yes) (l.getD i K0) <;> rfl) (by
  simp only [ZZ.b, nltd, cond_false]; rw [QcR]; rfl)
 have this : iter mx (ZZ.b mx l kd t k b n) (([] : List Kept), (0 : Int)) = _ := this
 simp only [ZZ, this, Option.bind_some]
 rfl
theorem Qkt {c : Chg} (h1 : c.1 ≠ 1) (h2 : c.1 ≠ 2) (h3 : c.1 ≠ 3) (h4 : c.1 ≠ 4) (l : List Kept) : QaF c l = l := by
 unfold QaF
 refine List.filter_eq_self.2 fun k _ => ?_
 unfold Qfo
 rw [if_neg h1, if_neg h2, if_neg h3, if_neg h4]; rfl
abbrev ImgE := Int × List Int × List Kept × Int × Int × Bool × Int
def RRes (y : ImgE) : Int ⊕ Img → Prop
 | .inl e => y.2.2.2.2.2.2 = e ∧ e ≠ 0
 | .inr w => y = QdU w
theorem QmT {v : Img} (h : okI v) {c : Chg} (hc : chOk c) :
  ∃ y, QP mx (v.1, v.2.1, v.2.2.1, v.2.2.2.1, v.2.2.2.2.1, v.2.2.2.2.2, c.1, c.2.1, c.2.2.1.1, c.2.2.1.2.1, c.2.2.1.2.2.1, c.2.2.1.2.2.2.1, c.2.2.1.2.2.2.2, c.2.2.2) = some y ∧ RRes y (oneS v c) := by
 obtain ⟨t, q, l, e, n, b⟩ := v
 obtain ⟨kd, tn, ⟨k, v, f, d, cs⟩, bb, how, nn, yes⟩ := c
 have hq : q.length ≤ 4 := h.2.1.2.1
 have hl : l.length ≤ 1024 := h.2.2.1
 obtain ⟨⟨t1, t2⟩, hc⟩ := hc
 dsimp only at t1 t2 hc
 have c1 : Nat.ble q.length 4294967296 = true := ZQ (by omega)
 have c2 : Nat.ble l.length 4294967296 = true := ZQ (by omega)
 have htw : Ja mx (t, q, l, e, n, b) = some (t, q, l, e, n, b) := by simp only [Ja, c1, c2, cond_true]
 have hlf := QpT (l := l) (by omega) kd tn k v f d cs bb how nn yes
 have hsub : (QaF (kd, tn, (k, v, f, d, cs), bb, how, nn, yes) l).length ≤ 1024 := Nat.le_trans (Qgd _ _).length_le hl
 dsimp only
 have open1 : ∀ r, QP.a mx q kd tn (t, q, l, e, n, b) = some (.inr r) → QP mx (t, q, l, e, n, b, kd, tn, k, v, f, d, cs, bb, how, nn, yes) =
   (QP.c mx t e kd tn k v f d cs nn yes (t, q, l, e, n, b) (QaF (kd, tn, (k, v, f, d, cs), bb, how, nn, yes) l)).bind fun x28 =>
    match x28 with
    | .inl x29 => some (x29.2.1, x29.2.2.1, x29.2.2.2.1, x29.2.2.2.2.1, x29.2.2.2.2.2.1, x29.2.2.2.2.2.2, x29.1)
    | .inr x30 => some (x30.1, x30.2.1, x30.2.2.1, x30.2.2.2.1, x30.2.2.2.2.1, x30.2.2.2.2.2, (0 : Int)) := fun r hr => by
  simp only [QP, htw, Option.bind_some, hr, hlf]
  rfl
 have bad : ∀ kd', kd = kd' → kd' ≠ 4 → kd' ≠ 6 → kd' ≠ 7 → (q.length : Int) ≤ tn → ∃ y, QP mx (t, q, l, e, n, b, kd, tn, k, v, f, d, cs, bb, how, nn, yes) = some y ∧ RRes y (oneS (t, q, l, e, n, b) (kd, tn, (k, v, f, d, cs), bb, how, nn, yes)) := fun kd' e0 k4 k6 k7 g1 => by
  subst e0
  have hs : QP.a mx q kd tn (t, q, l, e, n, b) = some (.inl (2, t, q, l, e, n, b)) := by
   simp only [QP.a, bne_iff_ne.2 k4, bne_iff_ne.2 k6, bne_iff_ne.2 k7, decide_eq_true g1, cond_true]
  refine ⟨(t, q, l, e, n, b, 2), ?_, ?_⟩
  ·simp only [QP, htw, Option.bind_some, hs]
  ·dsimp only [oneS]; rw [if_pos ⟨k4, k6, k7, g1⟩]; exact ⟨rfl, by decide⟩
 have good : ∀ kd', kd = kd' → kd' ≠ 4 → kd' ≠ 6 → kd' ≠ 7 → ¬ (q.length : Int) ≤ tn → QP.a mx q kd tn (t, q, l, e, n, b) = some (.inr ()) := fun kd' e0 k4 k6 k7 g1 => by
  subst e0
  simp only [QP.a, bne_iff_ne.2 k4, bne_iff_ne.2 k6, bne_iff_ne.2 k7, decide_eq_false g1, cond_true, cond_false]
 have e21 : ((2 : Int) == 1) = false := rfl
 have e24 : ((2 : Int) == 4) = false := rfl
 have e25 : ((2 : Int) == 5) = false := rfl
 have e26 : ((2 : Int) == 6) = false := rfl
 have e27 : ((2 : Int) == 7) = false := rfl
 have e31 : ((3 : Int) == 1) = false := rfl
 have e34 : ((3 : Int) == 4) = false := rfl
 have e35 : ((3 : Int) == 5) = false := rfl
 have e36 : ((3 : Int) == 6) = false := rfl
 have e37 : ((3 : Int) == 7) = false := rfl
 have e41 : ((4 : Int) == 1) = false := rfl
 have e51 : ((5 : Int) == 1) = false := rfl
 have e54 : ((5 : Int) == 4) = false := rfl
 have e61 : ((6 : Int) == 1) = false := rfl
 have e64 : ((6 : Int) == 4) = false := rfl
 have e65 : ((6 : Int) == 5) = false := rfl
 have e71 : ((7 : Int) == 1) = false := rfl
 have e74 : ((7 : Int) == 4) = false := rfl
 have e75 : ((7 : Int) == 5) = false := rfl
 have e76 : ((7 : Int) == 6) = false := rfl
 rcases hc with h0 | h0 | h0 | h0 | h0 | h0 | h0
 ·obtain ⟨rfl, ⟨⟨h1, h2⟩, h3, h4, h5⟩, _⟩ := h0
  by_cases g1 : (q.length : Int) ≤ tn
  ·exact bad 1 rfl (by decide) (by decide) (by decide) g1
  rw [open1 () (good 1 rfl (by decide) (by decide) (by decide) g1)]
  have hsz := Qk6 (k, v, f, d, cs) (show k.length ≤ 140737488351232 by omega) (show v.length ≤ 140737488351232 by omega)
  have hdu := Qkk (k, v, f, d, cs) t
  dsimp only at hsz hdu
  dsimp only [oneS]
  rw [if_neg (fun hh => g1 hh.2.2.2), if_pos rfl]
  simp only [QP.c, beq_self_eq_true, cond_true, hsz, Option.bind_some]
  by_cases g2 : 256 < 8 + k.length + v.length
  ·rw [decide_eq_true (show (256 : Int) < ((8 + k.length + v.length : Nat) : Int) by omega), if_pos g2]
   exact ⟨_, rfl, rfl, by decide⟩
  rw [decide_eq_false (show ¬ (256 : Int) < ((8 + k.length + v.length : Nat) : Int) by omega), if_neg g2]
  have c3 : Nat.ble ((QaF (1, tn, (k, v, f, d, cs), bb, how, nn, yes) l).length + 1) 4294967296 = true := ZQ (by omega)
  simp only [cond_false, QP.b, hdu, Option.bind_some, List.length_singleton, c3, cond_true]
  cases g3 : dueB (k, v, f, d, cs) t with
  | true =>
   rw [if_pos rfl]
   simp only [Bool.not_true, cond_false, Option.bind_some, decide_eq_false (show ¬ (1024 : Int) < ((QaF (1, tn, (k, v, f, d, cs), bb, how, nn, yes) l).length : Int) by omega)]
   exact ⟨_, rfl, rfl⟩
  | false =>
   rw [if_neg (by decide)]
   simp only [Bool.not_false, cond_true, Option.bind_some, List.length_append, List.length_singleton]
   by_cases g4 : (QaF (1, tn, (k, v, f, d, cs), bb, how, nn, yes) l).length = 1024
   ·rw [if_pos g4, decide_eq_true (show (1024 : Int) < (((QaF (1, tn, (k, v, f, d, cs), bb, how, nn, yes) l).length + 1 : Nat) : Int) by omega)]
    exact ⟨_, rfl, rfl, by decide⟩
   ·rw [if_neg g4, decide_eq_false (show ¬ (1024 : Int) < (((QaF (1, tn, (k, v, f, d, cs), bb, how, nn, yes) l).length + 1 : Nat) : Int) by omega)]
    exact ⟨_, rfl, rfl⟩
 ·obtain ⟨rfl, _⟩ := h0
  by_cases g1 : (q.length : Int) ≤ tn
  ·exact bad 2 rfl (by decide) (by decide) (by decide) g1
  rw [open1 () (good 2 rfl (by decide) (by decide) (by decide) g1)]
  dsimp only [oneS]
  rw [if_neg (fun hh => g1 hh.2.2.2), if_neg (by decide), if_neg (by decide), if_neg (by decide), if_neg (by decide), if_neg (by decide)]
  simp only [QP.c, e21, e24, e25, e26, e27, cond_false, Option.bind_some]
  exact ⟨_, rfl, rfl⟩
 ·obtain ⟨rfl, _⟩ := h0
  by_cases g1 : (q.length : Int) ≤ tn
  ·exact bad 3 rfl (by decide) (by decide) (by decide) g1
  rw [open1 () (good 3 rfl (by decide) (by decide) (by decide) g1)]
  dsimp only [oneS]
  rw [if_neg (fun hh => g1 hh.2.2.2), if_neg (by decide), if_neg (by decide), if_neg (by decide), if_neg (by decide), if_neg (by decide)]
  simp only [QP.c, e31, e34, e35, e36, e37, cond_false, Option.bind_some]
  exact ⟨_, rfl, rfl⟩
 ·obtain ⟨rfl, _⟩ := h0
  rw [open1 () rfl]
  dsimp only [oneS]
  rw [if_neg (fun hh => hh.1 rfl), if_neg (by decide), if_pos rfl]
  simp only [QP.c, e41, cond_false, beq_self_eq_true, cond_true]
  by_cases g1 : nn < t
  ·rw [decide_eq_true g1, if_pos g1]; exact ⟨_, rfl, rfl, by decide⟩
  ·rw [decide_eq_false g1, if_neg g1]; exact ⟨_, rfl, rfl⟩
 ·obtain ⟨rfl, _⟩ := h0
  by_cases g1 : (q.length : Int) ≤ tn
  ·exact bad 5 rfl (by decide) (by decide) (by decide) g1
  rw [open1 () (good 5 rfl (by decide) (by decide) (by decide) g1)]
  dsimp only [oneS]
  rw [if_neg (fun hh => g1 hh.2.2.2), if_neg (by decide), if_neg (by decide), if_pos rfl]
  have c3 : Nat.blt tn.toNat q.length = true := Qas (by omega)
  simp only [QP.c, e51, e54, cond_false, beq_self_eq_true, cond_true, decide_eq_true t1, decide_eq_true (show tn < (q.length : Int) by omega), Bool.and_self, c3, Option.bind_some]
  rw [Qkt (by dsimp only; omega) (by dsimp only; omega) (by dsimp only; omega) (by dsimp only; omega)]
  exact ⟨_, rfl, rfl⟩
 ·obtain ⟨rfl, _⟩ := h0
  rw [open1 () rfl]
  dsimp only [oneS]
  rw [if_neg (fun hh => hh.2.1 rfl), if_neg (by decide), if_neg (by decide), if_neg (by decide), if_pos rfl]
  simp only [QP.c, e61, e64, e65, cond_false, beq_self_eq_true, cond_true]
  by_cases g1 : nn < e
  ·rw [decide_eq_true g1, if_pos g1]; exact ⟨_, rfl, rfl, by decide⟩
  ·rw [decide_eq_false g1, if_neg g1, Qkt (by dsimp only; omega) (by dsimp only; omega) (by dsimp only; omega) (by dsimp only; omega)]; exact ⟨_, rfl, rfl⟩
 ·obtain ⟨rfl, _⟩ := h0
  rw [open1 () rfl]
  dsimp only [oneS]
  rw [if_neg (fun hh => hh.2.2.1 rfl), if_neg (by decide), if_neg (by decide), if_neg (by decide), if_neg (by decide), if_pos rfl]
  simp only [QP.c, e71, e74, e75, e76, cond_false, beq_self_eq_true, cond_true, Option.bind_some]
  rw [Qkt (by dsimp only; omega) (by dsimp only; omega) (by dsimp only; omega) (by dsimp only; omega)]
  exact ⟨_, rfl, rfl⟩
theorem Qlb (cs : List Chg) (hlen : cs.length ≤ 4096) : ∀ (rest : List Chg) (i : Nat) (v : Img) (fuel : Nat), cs.drop i = rest → i ≤ cs.length → (∀ c ∈ rest, chOk c) → okI v → rest.length < fuel →
  QaG (Zi.b mx cs) fuel ((i : Int), v) = match VU v rest with
  | .inl e => some (.inl (e, 0, 0, 0, false))
  | .inr w => some (.inr w)
 | [], i, v, fuel, hd, hi, _, hs, hf => by
  obtain ⟨f, rfl⟩ : ∃ f, fuel = f + 1 := ⟨fuel - 1, by omega⟩
  have : i = cs.length := by have := congrArg List.length hd; rw [List.length_drop, List.length_nil] at this; omega
  subst this
  refine Jr ?_
  simp only [Zi.b, nltd, cond_false]
 | c :: rest, i, v, fuel, hd, hi, hc, hs, hf => by
  obtain ⟨f, rfl⟩ : ∃ f, fuel = f + 1 := ⟨fuel - 1, by omega⟩
  have hil : i < cs.length := by
   have := congrArg List.length hd
   rw [List.length_drop, List.length_cons] at this; omega
  have hci : cs.getD i C0 = c := by
   rw [getD_some hil]
   have := List.drop_eq_getElem_cons hil
   rw [hd] at this
   exact (List.cons.inj this).1.symm
  have hd' : cs.drop (i + 1) = rest := by
   have := List.drop_eq_getElem_cons hil
   rw [hd] at this
   exact (List.cons.inj this).2.symm
  obtain ⟨y, e1, e2⟩ := QmT hs (hc c (by simp))
  have hst : Zi.b mx cs ((i : Int), v) = some (bif y.2.2.2.2.2.2 != 0 then .fin (.inl (y.2.2.2.2.2.2, 0, 0, 0, false)) else .next (((i + 1 : Nat) : Int), y.1, y.2.1, y.2.2.1, y.2.2.2.1, y.2.2.2.2.1, y.2.2.2.2.2.1)) := by
   simp only [Zi.b, ltd hil, lez, Bool.and_self, cond_true, Int.toNat_natCast]
   rw [show cs.getD i (0, 0, ([], [], 0, 0, 0), [], 0, 0, false) = c from hci, e1]
   simp only [Option.bind_some]
   rw [Z8 (by omega)]
   cases (y.2.2.2.2.2.2 != 0) <;> rfl
  rw [VU]
  cases ho : oneS v c with
  | inl e =>
   rw [ho] at e2
   obtain ⟨e3, hne⟩ := e2
   rw [e3, Vf, decide_eq_false hne] at hst
   rw [Jr hst]
  | inr w =>
   rw [ho] at e2
   have e2 : y = QdU w := e2
   rw [e2] at hst
   have hst : Zi.b mx cs ((i : Int), v) = some (.next (((i + 1 : Nat) : Int), w)) := hst
   rw [Jl hst]
   exact Qlb cs hlen rest (i + 1) w f hd' (by omega) (fun x hx => hc x (by simp [hx])) (Qnh hs (hc c (by simp)) ho) (by rw [List.length_cons] at hf; omega)
theorem Qja {v : Img} (hb : ∀ k ∈ v.2.2.1, k.2.1.length ≤ 140737488351232 ∧ k.2.2.1.length ≤ 140737488351232) {cs : List Chg} (hw : ∀ c ∈ cs, wfC c) :
  Zi mx (v.1, v.2.1, v.2.2.1, v.2.2.2.1, v.2.2.2.2.1, v.2.2.2.2.2, cs) = some (Qac v cs) := by
 have hck := Qi8 (v := v) hb
 obtain ⟨t, q, l, e, n, b⟩ := v
 dsimp only at hck ⊢
 simp only [Zi, hck, Option.bind_some]
 unfold Qac
 by_cases h1 : okI (t, q, l, e, n, b)
 case neg => rw [if_neg h1, if_neg h1]; rfl
 rw [if_pos h1, if_pos h1]
 simp only [Zi.a, beq_self_eq_true, cond_true, Qce hw, Option.bind_some, Vf]
 by_cases h2 : VX cs = 0
 case neg => simp only [if_neg h2, decide_eq_false h2]; rfl
 simp only [if_pos h2]
 rw [h2]
 simp only [decide_true, Bool.not_true, cond_false]
 obtain ⟨h3, h4, h5⟩ := VJ.1 h2
 have hq : q.length ≤ 4 := h1.2.1.2.1
 have hl : l.length ≤ 1024 := h1.2.2.1
 have c1 : Nat.ble q.length 4294967296 = true := ZQ (by omega)
 have c2 : Nat.ble l.length 4294967296 = true := ZQ (by omega)
 have htw : Ja mx (t, q, l, e, n, b) = some (t, q, l, e, n, b) := by simp only [Ja, c1, c2, cond_true]
 have hloop := Qlb cs h3 cs 0 (t, q, l, e, n, b) N0 (by simp) (by omega) h4 h1 (by unfold N0; omega)
 have hloop : iter mx (Zi.b mx cs) ((0 : Int), t, q, l, e, n, b) = _ := hloop
 rw [htw]
 simp only [Option.bind_some, hloop]
 cases VU (t, q, l, e, n, b) cs with
 | inl err => rfl
 | inr w => rfl
theorem Qoy {v w : Img} (h1 : v.2.1.length ≤ 1000000000000000000) (h2 : v.2.2.1.length ≤ 1000000000000000000) : QS mx (v.1, v.2.1, v.2.2.1, v.2.2.2.1, v.2.2.2.2.1, v.2.2.2.2.2, w) = some (decide (v = w)) := by
 obtain ⟨t, q, l, e, n, b⟩ := v
 obtain ⟨t', q', l', e', n', b'⟩ := w
 dsimp only at h1 h2
 simp only [QS, Vf]
 by_cases g1 : t = t'
 case neg => rw [decide_eq_false g1, decide_eq_false (fun h => g1 (congrArg (fun z : Img => z.1) h))]; rfl
 rw [decide_eq_true g1]
 by_cases g2 : e = e'
 case neg => rw [decide_eq_false g2, decide_eq_false (fun h => g2 (congrArg (fun z : Img => z.2.2.2.1) h))]; rfl
 rw [decide_eq_true g2]
 by_cases g3 : n = n'
 case neg => rw [decide_eq_false g3, decide_eq_false (fun h => g3 (congrArg (fun z : Img => z.2.2.2.2.1) h))]; rfl
 rw [decide_eq_true g3]
 by_cases g4 : b = b'
 case neg => rw [show (b == b') = false by simpa using g4, decide_eq_false (fun h => g4 (congrArg (fun z : Img => z.2.2.2.2.2) h))]; rfl
 rw [show (b == b') = true by simpa using g4]
 by_cases g5 : q.length = q'.length
 case neg => rw [decide_eq_false (show ¬ (q.length : Int) = (q'.length : Int) by omega), decide_eq_false (fun h => g5 (congrArg (fun z : Img => z.2.1.length) h))]; rfl
 rw [decide_eq_true (show (q.length : Int) = (q'.length : Int) by omega)]
 by_cases g6 : l.length = l'.length
 case neg => rw [decide_eq_false (show ¬ (l.length : Int) = (l'.length : Int) by omega), decide_eq_false (fun h => g6 (congrArg (fun z : Img => z.2.2.1.length) h))]; rfl
 rw [decide_eq_true (show (l.length : Int) = (l'.length : Int) by omega)]
 simp only [Bool.not_true, cond_false]
 rcases JF (f := QS.a mx q q') (fun i => (i : Int)) q.length (fun i => q.getD i 0 = q'.getD i 0) (Z7 h1) (fun _ => .inl false) (.inr ())
  (fun i hi hp _ => by
   simp only [QS.a, ltd hi, lez, Bool.and_self, cond_true, Int.toNat_natCast, ltd (show i < q'.length by omega), hp, bne_self_eq_false, cond_false]
   rw [Z8 (by omega)])
  (fun i hi hp _ => by
   have : (q.getD i 0 != q'.getD i 0) = true := by simpa using hp
   simp only [QS.a, ltd hi, lez, Bool.and_self, cond_true, Int.toNat_natCast, ltd (show i < q'.length by omega), this])
  (fun _ => by simp only [QS.a, nltd, cond_false]) with ⟨hh, e1⟩ | ⟨i, hi, hp, _, e1⟩
 ·have e1 : iter mx (QS.a mx q q') (0 : Int) = _ := e1
  have hqq : q = q' := List.ext_getElem g5 fun i h1 h2 => by
   have := hh i h1
   rwa [getD_some h1, getD_some h2] at this
  rw [e1]
  simp only [Option.bind_some]
  rcases JF (f := QS.b mx l l') (fun i => (i : Int)) l.length (fun i => l.getD i K0 = l'.getD i K0) (Z7 h2) (fun _ => .inl false) (.inr ())
   (fun i hi hp _ => by
    simp only [QS.b, ltd hi, lez, Bool.and_self, cond_true, Int.toNat_natCast, ltd (show i < l'.length by omega), Qlp, decide_eq_true hp, Bool.not_true, cond_false]
    rw [Z8 (by omega)])
   (fun i hi hp _ => by
    simp only [QS.b, ltd hi, lez, Bool.and_self, cond_true, Int.toNat_natCast, ltd (show i < l'.length by omega), Qlp, decide_eq_false hp, Bool.not_false])
   (fun _ => by simp only [QS.b, nltd, cond_false]) with ⟨hh2, e2⟩ | ⟨i, hi, hp, _, e2⟩
  ·have e2 : iter mx (QS.b mx l l') (0 : Int) = _ := e2
   have hll : l = l' := List.ext_getElem g6 fun i h1 h2 => by
    have := hh2 i h1
    rwa [getD_some h1, getD_some h2] at this
   rw [e2, decide_eq_true (show (t, q, l, e, n, b) = (t', q', l', e', n', b') by rw [g1, g2, g3, g4, hqq, hll])]; rfl
  ·have e2 : iter mx (QS.b mx l l') (0 : Int) = _ := e2
   rw [e2, decide_eq_false (fun h => hp (by rw [show l = l' from congrArg (fun z : Img => z.2.2.1) h]))]; rfl
 ·have e1 : iter mx (QS.a mx q q') (0 : Int) = _ := e1
  rw [e1, decide_eq_false (fun h => hp (by rw [show q = q' from congrArg (fun z : Img => z.2.1) h]))]; rfl
end Go.Proofs.YtpfjjbpoikgocaaGreat
namespace Go.Proofs.YtpfjjbpoikgocaaGreat
open Go.Abs
set_option maxRecDepth 100000
theorem QfT {l : List Int} (hl : Qli l) : Zr mx l = some (ZY l) := by
 obtain ⟨h1, h2⟩ := hl
 have := QL (f := Zr.a mx l) (fun i => (ZY (l.take i), (i : Int))) l.length (r := ZY l) (Z7 (by omega)) (fun i hi => by
  obtain ⟨b1, b2⟩ := h2 _ (Zt (d := 0) hi)
  have hn := Qa2 (l.take i)
  rw [List.length_take] at hn
  have hs := ZD (l.getD i 0).toNat
  have c1 : Nat.ble ((ZY (l.take i)).length + (sm (l.getD i 0).toNat).length) 140737488351232 = true := ZQ (by omega)
  simp only [Zr.a, ltd hi, lez, Bool.and_self, cond_true, Int.toNat_natCast, Qcd b1 (show l.getD i 0 ≤ 18446744073709551615 by omega), Option.bind_some, c1]
  rw [Z8 (by omega), QH hi 0, ZY, ZY, List.map_append, List.flatten_append]
  simp) (by simp only [Zr.a, nltd, cond_false, List.take_length])
 have this : iter mx (Zr.a mx l) (([] : List Int), (0 : Int)) = _ := this
 simp only [Zr, this, Option.bind_some]
theorem QmY {x : Int} (h1 : 0 ≤ x) (h2 : x ≤ 9223372036854775807) : Zr mx [x] = some (sm x.toNat) := by
 have := QfT (l := [x]) ⟨by simp, fun y hy => by rw [List.mem_singleton] at hy; subst hy; exact ⟨h1, h2⟩⟩
 simpa [ZY] using this
theorem QmX {x y : Int} (h1 : 0 ≤ x) (h2 : x ≤ 9223372036854775807) (h3 : 0 ≤ y) (h4 : y ≤ 9223372036854775807) : Zr mx [x, y] = some (sm x.toNat ++ sm y.toNat) := by
 have := QfT (l := [x, y]) ⟨by simp, fun z hz => by
  rcases List.mem_cons.1 hz with rfl | hz
  ·exact ⟨h1, h2⟩
  ·rw [List.mem_singleton] at hz; subst hz; exact ⟨h3, h4⟩⟩
 simpa [ZY] using this
theorem Qd1 {v : Img} (hb : ∀ k ∈ v.2.2.1, k.2.1.length ≤ 140737488351232 ∧ k.2.2.1.length ≤ 140737488351232) (hw : ∀ k ∈ v.2.2.1, wfK k) : QT mx v = some (Q6 v) := by
 have hck := Qi8 (v := v) hb
 have hh := fun h => Qjw (v := v) h
 obtain ⟨t, q, l, e, n, b⟩ := v
 dsimp only at hck hw
 simp only [QT, hck, Option.bind_some, Q6, Vf]
 by_cases h1 : okI (t, q, l, e, n, b)
 case neg => simp only [if_neg h1]; rfl
 simp only [if_pos h1, decide_true, Bool.not_true, cond_false]
 obtain ⟨⟨t1, t2⟩, ⟨q1, q2, q3⟩, l1, ⟨e1, e2⟩, ⟨n1, n2⟩, hk, _⟩ := id h1
 dsimp only at t1 t2 q1 q2 q3 l1 e1 e2 n1 n2 hk
 have hh := hh h1
 have s1 := ZD t.toNat
 have s2 := ZD q.length
 have s3 := Qa2 q
 have s4 := ZD e.toNat
 have s5 := ZD n.toNat
 have s6 := ZD l.length
 have g1 := QmX (x := t) (y := (q.length : Int)) t1 (by omega) (by omega) (by omega)
 rw [Int.toNat_natCast] at g1
 have g2 := QfT (l := q) ⟨by omega, fun x hx => ⟨(q3 x hx).1, by have := (q3 x hx).2; omega⟩⟩
 have d1 : Nat.ble ((sm t.toNat ++ sm q.length).length + (ZY q).length) 140737488351232 = true := ZQ (by rw [List.length_append]; omega)
 have g3 := QmX (x := e) (y := n) e1 (by omega) n1 (by omega)
 have d2 : Nat.ble ((sm t.toNat ++ sm q.length ++ ZY q).length + (sm e.toNat ++ sm n.toNat).length) 140737488351232 = true := ZQ (by simp only [List.length_append]; omega)
 have c1 : Nat.ble ((sm t.toNat ++ sm q.length ++ ZY q ++ (sm e.toNat ++ sm n.toNat)).length + 1) 140737488351232 = true := ZQ (by simp only [List.length_append]; omega)
 have g4 : QT.a mx b (sm t.toNat ++ sm q.length ++ ZY q ++ (sm e.toNat ++ sm n.toNat)) = some (sm t.toNat ++ sm q.length ++ ZY q ++ (sm e.toNat ++ sm n.toNat) ++ [if b then 1 else 0]) := by
  simp only [QT.a, c1, cond_true]
  cases b <;> rfl
 have g5 := QmY (x := (l.length : Int)) (by omega) (by omega)
 rw [Int.toNat_natCast] at g5
 have d3 : Nat.ble ((sm t.toNat ++ sm q.length ++ ZY q ++ (sm e.toNat ++ sm n.toNat) ++ [if b then 1 else 0]).length + (sm l.length).length) 140737488351232 = true := ZQ (by simp only [List.length_append, List.length_singleton]; omega)
 have hhd : sm t.toNat ++ sm q.length ++ ZY q ++ (sm e.toNat ++ sm n.toNat) ++ [if b then 1 else 0] ++ sm l.length = Qbx (t, q, l, e, n, b) := rfl
 have hlen : ∀ i, i ≤ l.length → (Zo (l.take i)).length ≤ 400 * i := fun i => by
  induction i with
  | zero => intro _; simp [Zo]
  | succ i ih =>
   intro hi
   rw [QH (l := l) (k := i) (by omega) K0, Qdh, Qdg, List.length_append]
   have := ih (by omega)
   have := Qef (hk _ (Zt (d := K0) (show i < l.length by omega))).2.2.1
   omega
 have hloop := QL (f := QT.b mx l) (fun i => (Qbx (t, q, l, e, n, b) ++ Zo (l.take i), (i : Int))) l.length (r := imgB (t, q, l, e, n, b)) (Z7 (by omega)) (fun i hi => by
  obtain ⟨k1, k2, k3, k4⟩ := hk _ (Zt (d := K0) hi)
  obtain ⟨⟨w1, w2⟩, w3, w4⟩ := hw _ (Zt (d := K0) hi)
  have hl := hlen i (by omega)
  have hkl := Qef k3
  have e3 : Qbx (t, q, l, e, n, b) ++ Zo (l.take i) ++ QeQ (l.getD i K0) = Qbx (t, q, l, e, n, b) ++ Zo (l.take (i + 1)) := by
   rw [QH hi K0, Qdh, Qdg, List.append_assoc]
  have hA : (Qbx (t, q, l, e, n, b) ++ Zo (l.take i)).length ≤ 1000000 := by rw [List.length_append]; omega
  generalize Qbx (t, q, l, e, n, b) ++ Zo (l.take i) = A at e3 hA
  have i1 := k3.2.1
  have i2 := k3.2.2.1
  have i3 := k3.2.2.2
  have p1 := QmY (x := (l.getD i K0).1) k1 (by omega)
  have p2 := QfS (x := (l.getD i K0).2) (by omega) (by omega) ⟨w1, w2⟩ ⟨i3.1, by omega⟩ ⟨w3, w4⟩
  have a1 := ZD (l.getD i K0).1.toNat
  have e4 : A ++ sm (l.getD i K0).1.toNat ++ Qcm (l.getD i K0).2 = A ++ QeQ (l.getD i K0) := by
   simp only [QeQ, Qcm, List.append_assoc]
  have hil : (Qcm (l.getD i K0).2).length ≤ 1000 := by
   have := congrArg List.length e4
   simp only [List.length_append] at this
   omega
  have d1 : Nat.ble (A.length + (sm (l.getD i K0).1.toNat).length) 140737488351232 = true := ZQ (by omega)
  have d2 : Nat.ble ((A ++ sm (l.getD i K0).1.toNat).length + (Qcm (l.getD i K0).2).length) 140737488351232 = true := ZQ (by simp only [List.length_append]; omega)
  rw [e3] at e4
  simp only [QT.b, ltd hi, lez, Bool.and_self, cond_true, Int.toNat_natCast, p1, Option.bind_some, d1, p2, d2, e4]
  rw [Z8 (by omega)]) (by simp only [QT.b, nltd, cond_false, List.take_length]; rfl)
 have hloop : iter mx (QT.b mx l) (Qbx (t, q, l, e, n, b) ++ Zo (l.take 0), (0 : Int)) = _ := hloop
 rw [show Qbx (t, q, l, e, n, b) ++ Zo (l.take 0) = Qbx (t, q, l, e, n, b) by simp [Zo]] at hloop
 simp only [g1, g2, d1, cond_true, g3, d2, g4, g5, d3, hhd, hloop, Option.bind_some]
 by_cases h : 65536 < (imgB (t, q, l, e, n, b)).length
 ·rw [decide_eq_true (show (65536 : Int) < (((imgB (t, q, l, e, n, b)).length : Nat) : Int) by omega), if_pos h]; rfl
 ·rw [decide_eq_false (show ¬ (65536 : Int) < (((imgB (t, q, l, e, n, b)).length : Nat) : Int) by omega), if_neg h]; rfl
theorem Qop {k : Nat} (h : k ≤ 1000000) : IntKind.u64.wrap ((k : Int) + 1) = ((k + 1 : Nat) : Int) := by rw [wu64 (by omega) (by omega)]; rfl
theorem QiW (cnt : Int) (hc : cnt ≤ 4) (x : List Int × Bool) (t : Int) {a : List Int} (ha : Rd a) (bad : Bool) : ∃ r, iter mx (Qj.b mx (cnt, x)) ((0 : Int), a, bad, t, ([] : List Int), (0 : Int), (0 : Int), false) = some r ∧
  ∃ rest bad' q, r = (rest, bad', t, q, 0, 0, false) ∧ Rd rest ∧ q.length ≤ 4 := by
 refine V9 (f := Qj.b mx (cnt, x)) (fun s => ∃ (k : Nat) (rest : List Int) (b : Bool) (q : List Int), s = ((k : Int), rest, b, t, q, 0, 0, false) ∧ q.length = k ∧ k ≤ 4 ∧ Rd rest) (fun s => 4 - s.1.toNat)
  (fun r => ∃ rest bad' q, r = (rest, bad', t, q, 0, 0, false) ∧ Rd rest ∧ q.length ≤ 4) _ ⟨0, a, bad, [], rfl, rfl, by omega, ha⟩ (Z7 (by dsimp only; omega)) (fun s ⟨k, rest, b, q, e, hq, hk, hr⟩ => ?_)
 subst e
 by_cases h : (k : Int) < cnt
 ·cases b with
  | true =>
   refine .inr ⟨(rest, true, t, q, 0, 0, false), ?_, rest, true, q, rfl, hr, by omega⟩
   simp only [Qj.b, Qj.a, decide_eq_true h, cond_true, Bool.not_true, cond_false, Option.bind_some]
  | false =>
   obtain ⟨v, rest', b', h1, h2, _, h3⟩ := Vt hr false (m := 16) (by decide)
   have c1 : Nat.ble (q.length + 1) 4294967296 = true := ZQ (by omega)
   have w1 : IntKind.i64.wrap v = v := w64 (by omega) (by omega)
   refine .inl ⟨(((k + 1 : Nat) : Int), rest', b', t, q ++ [v], 0, 0, false), ?_, ⟨k + 1, rest', b', q ++ [v], rfl, by simp [hq], by omega, h3⟩, by dsimp only; omega⟩
   simp only [Qj.b, Qj.a, decide_eq_true h, cond_true, Bool.not_false, h1, Option.bind_some, List.length_singleton, c1, w1]
   rw [Qop (by omega)]
 ·refine .inr ⟨(rest, b, t, q, 0, 0, false), ?_, rest, b, q, rfl, hr, by omega⟩
  simp only [Qj.b, Qj.a, decide_eq_false h, cond_false, Option.bind_some]
theorem Qkg (cnt : Int) (hc : cnt ≤ 1024) (x : List Int × Bool) (t : Int) (q : List Int) (e n : Int) (bb : Bool) {a : List Int} (ha : Rd a) (bad : Bool) : ∃ r, iter mx (Qj.d mx (cnt, x)) ((0 : Int), a, bad, t, q, ([] : List Kept), e, n, bb) = some r ∧
  ∃ rest bad' l, r = (rest, bad', t, q, l, e, n, bb) ∧ wfIm (t, q, l, e, n, bb) := by
 refine V9 (f := Qj.d mx (cnt, x)) (fun s => ∃ (k : Nat) (rest : List Int) (b : Bool) (l : List Kept), s = ((k : Int), rest, b, t, q, l, e, n, bb) ∧ l.length = k ∧ k ≤ 1024 ∧ Rd rest ∧ wfIm (t, q, l, e, n, bb)) (fun s => 1024 - s.1.toNat)
  (fun r => ∃ rest bad' l, r = (rest, bad', t, q, l, e, n, bb) ∧ wfIm (t, q, l, e, n, bb)) _ ⟨0, a, bad, [], rfl, rfl, by omega, ha, ⟨fun k hk => (by cases hk), fun k hk => (by cases hk)⟩⟩ (Z7 (by dsimp only; omega)) (fun s ⟨k, rest, b, l, es, hq, hk, hr, hw⟩ => ?_)
 subst es
 by_cases h : (k : Int) < cnt
 ·cases b with
  | true =>
   refine .inr ⟨(rest, true, t, q, l, e, n, bb), ?_, rest, true, l, rfl, hw⟩
   simp only [Qj.d, Qj.c, decide_eq_true h, cond_true, Bool.not_true, cond_false, Option.bind_some]
  | false =>
   obtain ⟨v1, r1, b1, p1, i1, _, j1⟩ := Vt hr false (m := 4) (by decide)
   obtain ⟨s2, s3, v4, v5, v6, r6, b6, p6, i2, i3, i4, i6, j6⟩ := Qlc j1 b1
   have c1 : Nat.ble (l.length + 1) 4294967296 = true := ZQ (by omega)
   have w1 : IntKind.i64.wrap v1 = v1 := w64 (by omega) (by omega)
   refine .inl ⟨(((k + 1 : Nat) : Int), r6, b6, t, q, l ++ [(v1, s2, s3, v4, v5, v6)], e, n, bb), ?_, ⟨k + 1, r6, b6, l ++ [(v1, s2, s3, v4, v5, v6)], rfl, by simp [hq], by omega, j6, ?_⟩, by dsimp only; omega⟩
   ·simp only [Qj.d, Qj.c, decide_eq_true h, cond_true, Bool.not_false, p1, p6, Option.bind_some, List.length_singleton, c1, w1]
    rw [Qop (by omega)]
   ·refine ⟨fun y hy => ?_, fun y hy => ?_⟩
    ·rcases List.mem_append.1 hy with hy | hy
     ·exact hw.1 y hy
     ·rw [List.mem_singleton] at hy; subst hy
      have := i2.2
      have := i3.2
      exact ⟨⟨by dsimp only; omega, by dsimp only; omega⟩, i2.1, i3.1⟩
    ·rcases List.mem_append.1 hy with hy | hy
     ·exact hw.2 y hy
     ·rw [List.mem_singleton] at hy; subst hy
      exact ⟨i4, i6⟩
 ·refine .inr ⟨(rest, b, t, q, l, e, n, bb), ?_, rest, b, l, rfl, hw⟩
  simp only [Qj.d, Qj.c, decide_eq_false h, cond_false, Option.bind_some]
theorem QoA {a : List Int} (ha : QV a) (hl : a.length ≤ 65536) : ∃ y, Qj mx a = some y ∧ Qps a y := by
 have hR : Rd a := ⟨ha, by omega⟩
 obtain ⟨v1, r1, b1, p1, i1, _, j1⟩ := Vt hR false (m := 1099511627776) (by decide)
 obtain ⟨v2, r2, b2, p2, i2, _, j2⟩ := Vt j1 b1 (m := 4) (by decide)
 obtain ⟨x3, p3, r3, b3, q, rfl, j3, hq⟩ := QiW v2 i2.2 (r2, b2) (IntKind.i64.wrap v1) j2 b2
 obtain ⟨v4, r4, b4, p4, i4, _, j4⟩ := Vt j3 b3 (m := 2147483647) (by decide)
 obtain ⟨v5, r5, b5, p5, i5, _, j5⟩ := Vt j4 b4 (m := 2147483647) (by decide)
 obtain ⟨v6, r6, b6, p6, j6⟩ := Qd3 j5 b5
 obtain ⟨v7, r7, b7, p7, i7, _, j7⟩ := Vt j6 b6 (m := 1024) (by decide)
 obtain ⟨x8, p8, rest, bad', l, rfl, hw⟩ := Qkg v7 i7.2 (r7, b7) (IntKind.i64.wrap v1) q (IntKind.i64.wrap v4) (IntKind.i64.wrap v5) (v6 == 1) j7 b7
 simp only [Qj, decide_eq_false (show ¬ (65536 : Int) < (a.length : Int) by omega), cond_false, p1, p2, Option.bind_some, p3, p4, p5, p6, p7, p8]
 generalize IntKind.i64.wrap v1 = w1 at hw ⊢
 generalize IntKind.i64.wrap v4 = w4 at hw ⊢
 generalize IntKind.i64.wrap v5 = w5 at hw ⊢
 have hwr := Qd1 (v := (w1, q, l, w4, w5, (v6 == 1))) (fun k hk => (hw.1 k hk).1) hw.2
 simp only [hwr, Option.bind_some, Vf]
 cases bad' with
 | true => exact ⟨QfI 8, rfl, .inl rfl⟩
 | false =>
  by_cases g1 : (Q6 (w1, q, l, w4, w5, (v6 == 1))).2 = 0
  ·by_cases g2 : (Q6 (w1, q, l, w4, w5, (v6 == 1))).1 = a
   ·rw [decide_eq_true g1, show ((Q6 (w1, q, l, w4, w5, (v6 == 1))).1 == a) = true from beq_iff_eq.2 g2]
    exact ⟨QdU (w1, q, l, w4, w5, (v6 == 1)), rfl, .inr ⟨_, rfl, hw, Prod.ext g2 g1⟩⟩
   ·rw [decide_eq_true g1, show ((Q6 (w1, q, l, w4, w5, (v6 == 1))).1 == a) = false from beq_eq_false_iff_ne.2 g2]; exact ⟨QfI 8, rfl, .inl rfl⟩
  ·rw [decide_eq_false g1]; exact ⟨QfI 8, rfl, .inl rfl⟩
theorem QlX (x : List Int × Bool) (t : Int) (q : List Int) (hq : q.length ≤ 4) (h16 : ∀ y ∈ q, 0 ≤ y ∧ y ≤ 16) {rest : List Int} (hr : Rd (ZY q ++ rest)) :
  iter mx (Qj.b mx ((q.length : Int), x)) ((0 : Int), ZY q ++ rest, false, t, ([] : List Int), (0 : Int), (0 : Int), false) = some (rest, false, t, q, 0, 0, false) := by
 have hd : ∀ i, i ≤ q.length → Rd (ZY (q.drop i) ++ rest) := fun i => by
  induction i with
  | zero => intro _; exact hr
  | succ i ih =>
   intro hi
   have := ih (by omega)
   rw [List.drop_eq_getElem_cons (show i < q.length by omega), Qdb, List.append_assoc] at this
   exact this.right
 have := QL (f := Qj.b mx ((q.length : Int), x)) (fun i => ((i : Int), ZY (q.drop i) ++ rest, false, t, q.take i, (0 : Int), (0 : Int), false)) q.length (r := (rest, false, t, q, 0, 0, false)) (Z7 (by omega)) (fun i hi => by
  obtain ⟨y1, y2⟩ := h16 _ (List.getElem_mem hi)
  have hn := hd (i + 1) hi
  have e : ZY (q.drop i) ++ rest = sm q[i].toNat ++ (ZY (q.drop (i + 1)) ++ rest) := by rw [List.drop_eq_getElem_cons hi, Qdb, List.append_assoc]
  have hx := Qa5 (n := q[i].toNat) (by omega) hn false (m := 16) (by omega)
  rw [← e, show ((q[i].toNat : Nat) : Int) = q[i] by omega] at hx
  have c1 : Nat.ble ((q.take i).length + 1) 4294967296 = true := ZQ (by rw [List.length_take]; omega)
  have w1 : IntKind.i64.wrap q[i] = q[i] := w64 (by omega) (by omega)
  simp only [Qj.b, Qj.a, ltd hi, cond_true, Bool.not_false, hx, Option.bind_some, List.length_singleton, c1, w1]
  rw [Qop (by omega), QH hi 0, getD_some hi]) (by
  simp only [Qj.b, Qj.a, nltd, cond_false, List.take_length, Option.bind_some]
  rw [List.drop_eq_nil_of_le (Nat.le_refl _)]; rfl)
 exact this
theorem QmW (x : List Int × Bool) (t : Int) (q : List Int) (l : List Kept) (e n : Int) (bb : Bool) (hl : l.length ≤ 1024) (hk : ∀ k ∈ l, (0 ≤ k.1 ∧ k.1 ≤ 4) ∧ QbK k.2) (hw : ∀ k ∈ l, wfK k) {rest : List Int} (hr : Rd (Zo l ++ rest)) :
  iter mx (Qj.d mx ((l.length : Int), x)) ((0 : Int), Zo l ++ rest, false, t, q, ([] : List Kept), e, n, bb) = some (rest, false, t, q, l, e, n, bb) := by
 have hd : ∀ i, i ≤ l.length → Rd (Zo (l.drop i) ++ rest) := fun i => by
  induction i with
  | zero => intro _; exact hr
  | succ i ih =>
   intro hi
   have := ih (by omega)
   rw [List.drop_eq_getElem_cons (show i < l.length by omega), Qcl, List.append_assoc] at this
   exact this.right
 have := QL (f := Qj.d mx ((l.length : Int), x)) (fun i => ((i : Int), Zo (l.drop i) ++ rest, false, t, q, l.take i, e, n, bb)) l.length (r := (rest, false, t, q, l, e, n, bb)) (Z7 (by omega)) (fun i hi => by
  obtain ⟨⟨y1, y2⟩, y3⟩ := hk _ (List.getElem_mem hi)
  obtain ⟨⟨z1, z2⟩, z3, z4⟩ := hw _ (List.getElem_mem hi)
  have hn := hd i (by omega)
  have e0 : Zo (l.drop i) ++ rest = sm l[i].1.toNat ++ (Qcm l[i].2 ++ (Zo (l.drop (i + 1)) ++ rest)) := by
   rw [List.drop_eq_getElem_cons hi, Qcl]
   simp only [QeQ, Qcm, List.append_assoc]
  obtain ⟨A, hA⟩ : ∃ A, Zo (l.drop (i + 1)) ++ rest = A := ⟨_, rfl⟩
  rw [hA] at e0
  rw [e0] at hn ⊢
  have g1 := hn.right
  have p1 := Qa5 (n := l[i].1.toNat) (by omega) g1 false (m := 4) (by omega)
  have p2 := QmV (x := l[i].2) (rest := A) g1 y3.2.2.2 ⟨⟨z1, z2⟩, z3, z4⟩ false
  rw [show ((l[i].1.toNat : Nat) : Int) = l[i].1 by omega] at p1
  have c1 : Nat.ble ((l.take i).length + 1) 4294967296 = true := ZQ (by rw [List.length_take]; omega)
  have w1 : IntKind.i64.wrap l[i].1 = l[i].1 := w64 (by omega) (by omega)
  simp only [Qj.d, Qj.c, ltd hi, cond_true, Bool.not_false, p1, p2, Option.bind_some, List.length_singleton, c1, w1, hA]
  rw [Qop (by omega), QH hi K0, getD_some hi]) (by
  simp only [Qj.d, Qj.c, nltd, cond_false, List.take_length, Option.bind_some]
  rw [List.drop_eq_nil_of_le (Nat.le_refl _)]; rfl)
 exact this
theorem QpF {v : Img} {a : List Int} (h : Q6 v = (a, 0)) (ha : QV a) (hw : ∀ k ∈ v.2.2.1, wfK k) : Qj mx a = some (QdU v) := by
 obtain ⟨hok, himg, hl⟩ := Qaw h
 have hwr := Qd1 (QbO hok) hw
 rw [h] at hwr
 obtain ⟨t, q, l, e, n, b⟩ := v
 obtain ⟨⟨t1, t2⟩, ⟨q1, q2, q3⟩, l1, ⟨e1, e2⟩, ⟨n1, n2⟩, hk, _⟩ := id hok
 dsimp only at t1 t2 q1 q2 q3 l1 e1 e2 n1 n2 hk hw
 have hR : Rd a := ⟨ha, by omega⟩
 have e0 : a = sm t.toNat ++ (sm q.length ++ (ZY q ++ (sm e.toNat ++ (sm n.toNat ++ ((if b then 1 else 0) :: (sm l.length ++ (Zo l ++ []))))))) := by
  rw [← himg]
  simp only [imgB, Qbx, List.append_assoc, List.append_nil, List.singleton_append, List.cons_append, List.nil_append]
 rw [e0] at hR
 have g1 := hR.right
 have g2 : Rd (ZY q ++ (sm e.toNat ++ (sm n.toNat ++ ((if b then 1 else 0) :: (sm l.length ++ (Zo l ++ [])))))) := g1.right
 have g3 : Rd (sm e.toNat ++ (sm n.toNat ++ ((if b then 1 else 0) :: (sm l.length ++ (Zo l ++ []))))) := g2.right
 have g4 : Rd (sm n.toNat ++ ((if b then 1 else 0) :: (sm l.length ++ (Zo l ++ [])))) := g3.right
 have g5 : Rd ((if b then 1 else 0) :: (sm l.length ++ (Zo l ++ []))) := g4.right
 have g6 : Rd (sm l.length ++ (Zo l ++ [])) := (show Rd ([if b then 1 else 0] ++ (sm l.length ++ (Zo l ++ []))) from g5).right
 have g7 : Rd (Zo l ++ []) := g6.right
 have p1 := Qa5 (n := t.toNat) (by omega) g1 false (m := 1099511627776) (by omega)
 rw [← e0, show ((t.toNat : Nat) : Int) = t by omega] at p1
 have p2 := Qa5 (n := q.length) (by omega) g2 false (m := 4) (by omega)
 have wt : IntKind.i64.wrap t = t := w64 (by omega) (by omega)
 have p3 := QlX (ZY q ++ (sm e.toNat ++ (sm n.toNat ++ ((if b then 1 else 0) :: (sm l.length ++ (Zo l ++ []))))), false) t q q2 q3 g2
 have p4 := Qa5 (n := e.toNat) (by omega) g4 false (m := 2147483647) (by omega)
 rw [show ((e.toNat : Nat) : Int) = e by omega] at p4
 have p5 := Qa5 (n := n.toNat) (by omega) g5 false (m := 2147483647) (by omega)
 rw [show ((n.toNat : Nat) : Int) = n by omega] at p5
 have p6 := QaU (if b then 1 else 0) (sm l.length ++ (Zo l ++ [])) false
 have p7 := Qa5 (n := l.length) (by omega) g7 false (m := 1024) (by omega)
 have p8 := QmW (Zo l ++ [], false) t q l e n b l1 (fun k hk' => ⟨⟨(hk k hk').1, by have := (hk k hk').2.1; omega⟩, (hk k hk').2.2.1⟩) hw g7
 have hb : ((if b then (1 : Int) else 0) == 1) = b := by cases b <;> rfl
 have we : IntKind.i64.wrap e = e := w64 (by omega) (by omega)
 have wn : IntKind.i64.wrap n = n := w64 (by omega) (by omega)
 simp only [Qj, decide_eq_false (show ¬ (65536 : Int) < (a.length : Int) by omega), cond_false, p1, p2, Option.bind_some, wt, p3, p4, p5, p6, p7, hb, we, wn, p8, hwr, bne_self_eq_false, beq_self_eq_true, Bool.not_true]
 rfl
end Go.Proofs.YtpfjjbpoikgocaaGreat
namespace Go.Proofs.YtpfjjbpoikgocaaGreat
open Go.Abs
set_option maxRecDepth 100000
theorem QpI {a : List Int} (ha : Rd a) (bad : Bool) : ∃ c rest bad', Qg mx (a, bad) = some (QjP c rest bad') ∧ wfC c ∧ Qb7 c ∧ Rd rest := by
 have hE : QV ([] : List Int) := fun x hx => by cases hx
 have z : (0 ≤ (0 : Int) ∧ (0 : Int) ≤ 4294967295) ∧ (0 ≤ (0 : Int) ∧ (0 : Int) ≤ 18446744073709551615) := by decide
 obtain ⟨kd, r1, b1, p1, j1⟩ := Qd3 ha bad
 obtain ⟨tn, k, v, f, d, cs, b, how, n, yes, r3, b3, p3, w1, w2, y1, y2, y3, j3⟩ : ∃ tn k v f d cs b how n yes r3 b3, Qg.a mx (kd, r1, b1) = some (r3, b3, kd, tn, k, v, f, d, cs, b, how, n, yes) ∧
   (0 ≤ f ∧ f ≤ 4294967295) ∧ (0 ≤ cs ∧ cs ≤ 18446744073709551615) ∧ QV k ∧ QV v ∧ QV b ∧ Rd r3 := by
  simp only [Qg.a]
  generalize (kd == (1 : Int)) = B1
  generalize (kd == (2 : Int)) = B2
  generalize (kd == (3 : Int)) = B3
  generalize (kd == (4 : Int)) = B4
  generalize (kd == (5 : Int)) = B5
  generalize (kd == (6 : Int)) = B6
  generalize (kd == (7 : Int)) = B7
  obtain ⟨va, ra, ba, pa, ia, _, ja⟩ := Vt j1 b1 (m := 4) (by decide)
  obtain ⟨vb, rb, bb, pb, ib, _, jb⟩ := Vt j1 b1 (m := 1099511627776) (by decide)
  obtain ⟨vc, rc, bc, pc, ic, _, jc⟩ := Vt j1 b1 (m := 2147483647) (by decide)
  cases B1 with
  | true =>
   obtain ⟨s1, s2, v3, v4, v5, r5, b5, p5, i1, i2, i3, i5, j5⟩ := Qlc ja ba
   simp only [cond_true, pa, p5, Option.bind_some]
   exact ⟨_, _, _, _, _, _, _, _, _, _, _, _, rfl, i3, i5, i1.1, i2.1, hE, j5⟩
  | false =>
  cases B2 with
  | true =>
   obtain ⟨s1, q1, c1, e1, i1, l1⟩ := QhZ ja ba
   obtain ⟨v2, q2, c2, e2, l2⟩ := Qd3 l1 c1
   simp only [cond_true, cond_false, pa, e1, e2, Option.bind_some]
   exact ⟨_, _, _, _, _, _, _, _, _, _, _, _, rfl, z.1, z.2, hE, hE, i1.1, l2⟩
  | false =>
  cases B3 with
  | true =>
   simp only [cond_true, cond_false, pa, Option.bind_some]
   exact ⟨_, _, _, _, _, _, _, _, _, _, _, _, rfl, z.1, z.2, hE, hE, hE, ja⟩
  | false =>
  cases B4 with
  | true =>
   simp only [cond_true, cond_false, pb, Option.bind_some]
   exact ⟨_, _, _, _, _, _, _, _, _, _, _, _, rfl, z.1, z.2, hE, hE, hE, jb⟩
  | false =>
  cases B5 with
  | true =>
   obtain ⟨vd, rd, bd, pd, id', _, jd⟩ := Vt ja ba (m := 16) (by decide)
   simp only [cond_true, cond_false, pa, pd, Option.bind_some]
   exact ⟨_, _, _, _, _, _, _, _, _, _, _, _, rfl, z.1, z.2, hE, hE, hE, jd⟩
  | false =>
  cases B6 with
  | true =>
   obtain ⟨v2, q2, c2, e2, l2⟩ := Qd3 jc bc
   simp only [cond_true, cond_false, pc, e2, Option.bind_some]
   exact ⟨_, _, _, _, _, _, _, _, _, _, _, _, rfl, z.1, z.2, hE, hE, hE, l2⟩
  | false =>
  cases B7 with
  | true =>
   simp only [cond_true, cond_false, pc, Option.bind_some]
   exact ⟨_, _, _, _, _, _, _, _, _, _, _, _, rfl, z.1, z.2, hE, hE, hE, jc⟩
  | false => exact ⟨_, _, _, _, _, _, _, _, _, _, _, _, rfl, z.1, z.2, hE, hE, hE, j1⟩
 refine ⟨(kd, tn, (k, v, f, d, cs), b, how, n, yes), r3, b3, ?_, ⟨w1, w2⟩, ⟨y1, y2, y3⟩, j3⟩
 simp only [Qg, p1, p3, Option.bind_some]
 rfl
theorem QiY {n : Int} (h0 : 0 ≤ n) (h1 : n ≤ 1099511627776) {rest : List Int} (hr : Rd rest) {m : Int} (hm : n ≤ m) : Qd mx (sm n.toNat ++ rest, false, m) = some (n, rest, false) := by
 have := Qa5 (n := n.toNat) (by omega) hr false (m := m) (by omega)
 rw [this]; congr 2; omega
theorem Qqt {c : Chg} (hc : chOk c) (hw : wfC c) {rest : List Int} (hr : Rd (putB c ++ rest)) : Qg mx (putB c ++ rest, false) = some (QjP c rest false) := by
 obtain ⟨kd, t, ⟨k, v, f, d, cs⟩, b, how, n, yes⟩ := c
 obtain ⟨⟨w1, w2⟩, w3, w4⟩ := hw
 obtain ⟨⟨t1, t2⟩, hc⟩ := hc
 dsimp only at w1 w2 w3 w4 t1 t2 hc
 rcases hc with h | h | h | h | h | h | h
 ·obtain ⟨rfl, ⟨⟨h1, h2⟩, h3, h4, h5⟩, rfl, rfl, rfl, rfl⟩ := h
  have e0 : putB (1, t, (k, v, f, d, cs), [], 0, 0, false) ++ rest = 1 :: (sm t.toNat ++ (Qcm (k, v, f, d, cs) ++ rest)) := by
   simp only [putB, Qcm, reduceIte, List.append_assoc, List.singleton_append, List.cons_append, List.nil_append]
  rw [e0] at hr ⊢
  have g0 : Rd (sm t.toNat ++ (Qcm (k, v, f, d, cs) ++ rest)) := (show Rd ([1] ++ _) from hr).right
  have p1 := QaU 1 (sm t.toNat ++ (Qcm (k, v, f, d, cs) ++ rest)) false
  have p2 := QiY t1 (by omega) g0.right (m := 4) (by omega)
  have p3 := QmV (x := (k, v, f, d, cs)) g0.right ⟨h4, h5⟩ ⟨⟨w1, w2⟩, w3, w4⟩ false
  simp only [Qg, p1, Option.bind_some, Qg.a, cond_true, p2, beq_self_eq_true, p3]
  rw [w64 (n := t) (by omega) (by omega)]; rfl
 ·obtain ⟨rfl, ⟨⟨h1, h2⟩, h3⟩, ⟨z1, z2, z3, z4, z5⟩, rfl, rfl⟩ := h
  dsimp only at z1 z2 z3 z4 z5
  subst z1 z2 z3 z4 z5
  have e0 : putB (2, t, ([], [], 0, 0, 0), b, how, 0, false) ++ rest = 2 :: (sm t.toNat ++ (txt b ++ (how :: rest))) := by
   simp only [putB, reduceIte, Int.reduceEq, List.append_assoc, List.singleton_append, List.cons_append, List.nil_append]
  rw [e0] at hr ⊢
  have g0 : Rd (sm t.toNat ++ (txt b ++ (how :: rest))) := (show Rd ([2] ++ _) from hr).right
  have g1 := g0.right
  have p1 := QaU 2 (sm t.toNat ++ (txt b ++ (how :: rest))) false
  have p2 := QiY t1 (by omega) g1 (m := 4) (by omega)
  have p3 := Qkf (s := b) (rest := how :: rest) (by
   have := g1
   unfold txt at this
   rw [List.append_assoc] at this
   exact this.right) false
  have p4 := QaU how rest false
  have e1 : ((2 : Int) == 1) = false := rfl
  simp only [Qg, p1, Option.bind_some, Qg.a, e1, cond_true, cond_false, p2, beq_self_eq_true, p3, p4]
  rw [w64 (n := t) (by omega) (by omega)]; rfl
 ·obtain ⟨rfl, ⟨z1, z2, z3, z4, z5⟩, rfl, rfl, rfl, rfl⟩ := h
  dsimp only at z1 z2 z3 z4 z5
  subst z1 z2 z3 z4 z5
  have e0 : putB (3, t, ([], [], 0, 0, 0), [], 0, 0, false) ++ rest = 3 :: (sm t.toNat ++ rest) := by
   simp only [putB, reduceIte, Int.reduceEq, List.append_assoc, List.singleton_append, List.cons_append, List.nil_append]
  rw [e0] at hr ⊢
  have g0 : Rd (sm t.toNat ++ rest) := (show Rd ([3] ++ _) from hr).right
  have p1 := QaU 3 (sm t.toNat ++ rest) false
  have p2 := QiY t1 (by omega) g0.right (m := 4) (by omega)
  have e1 : ((3 : Int) == 1) = false := rfl
  have e2 : ((3 : Int) == 2) = false := rfl
  simp only [Qg, p1, Option.bind_some, Qg.a, e1, e2, cond_true, cond_false, p2, beq_self_eq_true]
  rw [w64 (n := t) (by omega) (by omega)]; rfl
 ·obtain ⟨rfl, ⟨h1, h2⟩, rfl, ⟨z1, z2, z3, z4, z5⟩, rfl, rfl, rfl⟩ := h
  dsimp only at z1 z2 z3 z4 z5
  subst z1 z2 z3 z4 z5
  have e0 : putB (4, 0, ([], [], 0, 0, 0), [], 0, n, false) ++ rest = 4 :: (sm n.toNat ++ rest) := by
   simp only [putB, reduceIte, Int.reduceEq, List.append_assoc, List.singleton_append, List.cons_append, List.nil_append]
  rw [e0] at hr ⊢
  have g0 : Rd (sm n.toNat ++ rest) := (show Rd ([4] ++ _) from hr).right
  have p1 := QaU 4 (sm n.toNat ++ rest) false
  have p2 := QiY h1 (by omega) g0.right (m := 1099511627776) (by omega)
  have e1 : ((4 : Int) == 1) = false := rfl
  have e2 : ((4 : Int) == 2) = false := rfl
  have e3 : ((4 : Int) == 3) = false := rfl
  simp only [Qg, p1, Option.bind_some, Qg.a, e1, e2, e3, cond_true, cond_false, p2, beq_self_eq_true]
  rw [w64 (n := n) (by omega) (by omega)]; rfl
 ·obtain ⟨rfl, ⟨h1, h2⟩, ⟨z1, z2, z3, z4, z5⟩, rfl, rfl, rfl⟩ := h
  dsimp only at z1 z2 z3 z4 z5
  subst z1 z2 z3 z4 z5
  have e0 : putB (5, t, ([], [], 0, 0, 0), [], 0, n, false) ++ rest = 5 :: (sm t.toNat ++ (sm n.toNat ++ rest)) := by
   simp only [putB, reduceIte, Int.reduceEq, List.append_assoc, List.singleton_append, List.cons_append, List.nil_append]
  rw [e0] at hr ⊢
  have g0 : Rd (sm t.toNat ++ (sm n.toNat ++ rest)) := (show Rd ([5] ++ _) from hr).right
  have g1 := g0.right
  have p1 := QaU 5 (sm t.toNat ++ (sm n.toNat ++ rest)) false
  have p2 := QiY t1 (by omega) g1 (m := 4) (by omega)
  have p3 := QiY h1 (by omega) g1.right (m := 16) (by omega)
  have e1 : ((5 : Int) == 1) = false := rfl
  have e2 : ((5 : Int) == 2) = false := rfl
  have e3 : ((5 : Int) == 3) = false := rfl
  have e4 : ((5 : Int) == 4) = false := rfl
  simp only [Qg, p1, Option.bind_some, Qg.a, e1, e2, e3, e4, cond_true, cond_false, p2, p3, beq_self_eq_true]
  rw [w64 (n := t) (by omega) (by omega), w64 (n := n) (by omega) (by omega)]; rfl
 ·obtain ⟨rfl, ⟨h1, h2⟩, rfl, ⟨z1, z2, z3, z4, z5⟩, rfl, rfl⟩ := h
  dsimp only at z1 z2 z3 z4 z5
  subst z1 z2 z3 z4 z5
  have e0 : putB (6, 0, ([], [], 0, 0, 0), [], 0, n, yes) ++ rest = 6 :: (sm n.toNat ++ ((if yes then 1 else 0) :: rest)) := by
   simp only [putB, reduceIte, Int.reduceEq, List.append_assoc, List.singleton_append, List.cons_append, List.nil_append]
  rw [e0] at hr ⊢
  have g0 : Rd (sm n.toNat ++ ((if yes then 1 else 0) :: rest)) := (show Rd ([6] ++ _) from hr).right
  have p1 := QaU 6 (sm n.toNat ++ ((if yes then 1 else 0) :: rest)) false
  have p2 := QiY h1 (by omega) g0.right (m := 2147483647) (by omega)
  have p3 := QaU (if yes then 1 else 0) rest false
  have e1 : ((6 : Int) == 1) = false := rfl
  have e2 : ((6 : Int) == 2) = false := rfl
  have e3 : ((6 : Int) == 3) = false := rfl
  have e4 : ((6 : Int) == 4) = false := rfl
  have e5 : ((6 : Int) == 5) = false := rfl
  simp only [Qg, p1, Option.bind_some, Qg.a, e1, e2, e3, e4, e5, cond_true, cond_false, p2, p3, beq_self_eq_true]
  rw [w64 (n := n) (by omega) (by omega)]
  cases yes <;> rfl
 ·obtain ⟨rfl, ⟨h1, h2⟩, rfl, ⟨z1, z2, z3, z4, z5⟩, rfl, rfl, rfl⟩ := h
  dsimp only at z1 z2 z3 z4 z5
  subst z1 z2 z3 z4 z5
  have e0 : putB (7, 0, ([], [], 0, 0, 0), [], 0, n, false) ++ rest = 7 :: (sm n.toNat ++ rest) := by
   simp only [putB, reduceIte, Int.reduceEq, List.append_assoc, List.singleton_append, List.cons_append, List.nil_append]
  rw [e0] at hr ⊢
  have g0 : Rd (sm n.toNat ++ rest) := (show Rd ([7] ++ _) from hr).right
  have p1 := QaU 7 (sm n.toNat ++ rest) false
  have p2 := QiY h1 (by omega) g0.right (m := 2147483647) (by omega)
  have e1 : ((7 : Int) == 1) = false := rfl
  have e2 : ((7 : Int) == 2) = false := rfl
  have e3 : ((7 : Int) == 3) = false := rfl
  have e4 : ((7 : Int) == 4) = false := rfl
  have e5 : ((7 : Int) == 5) = false := rfl
  have e6 : ((7 : Int) == 6) = false := rfl
  simp only [Qg, p1, Option.bind_some, Qg.a, e1, e2, e3, e4, e5, e6, cond_true, cond_false, p2, beq_self_eq_true]
  rw [w64 (n := n) (by omega) (by omega)]; rfl
theorem uinc {k : Nat} (h : k ≤ 1000000) : IntKind.u64.wrap ((k : Int) + 1) = ((k + 1 : Nat) : Int) := by
 rw [wu64 (by omega) (by omega)]; omega
theorem QpE {a : List Int} (ha : QV a) (hl : a.length ≤ 65536) : ∃ y, Qo mx a = some y ∧ (y = ([], 8) ∨ (y.2 = 0 ∧ IsCh a y.1)) := by
 obtain ⟨cnt, r1, b1, p1, i1, _, j1⟩ := Vt (a := a) ⟨ha, by omega⟩ false (m := 4096) (by decide)
 obtain ⟨r, hr, l, rest, b, rfl, hw⟩ := V9 (f := Qo.b mx (cnt, r1, b1)) (fun s => ∃ (k : Nat) (l : List Chg) (rest : List Int) (b : Bool), s = (l, (k : Int), rest, b) ∧ l.length = k ∧ k ≤ 4096 ∧ Rd rest ∧ ∀ c ∈ l, wfC c ∧ Qb7 c) (fun s => 4096 - s.2.1.toNat)
  (fun r => ∃ l rest b, r = (l, rest, b) ∧ ∀ c ∈ l, wfC c ∧ Qb7 c) (([] : List Chg), (0 : Int), r1, b1) ⟨0, [], r1, b1, rfl, rfl, by omega, j1, fun c hc => by cases hc⟩ (Z7 (by dsimp only; omega)) (fun s ⟨k, l, rest, b, es, hk, hk2, hrd, hw⟩ => by
   subst es
   by_cases h : (k : Int) < cnt
   ·cases b with
    | true => exact .inr ⟨(l, rest, true), by simp only [Qo.b, Qo.a, decide_eq_true h, cond_true, Bool.not_true, cond_false, Option.bind_some], l, rest, true, rfl, hw⟩
    | false =>
    obtain ⟨c, rest', b', p2, q1, q2, q3⟩ := QpI hrd false
    have c1 : Nat.ble (l.length + 1) 4294967296 = true := ZQ (by omega)
    refine .inl ⟨(l ++ [c], ((k + 1 : Nat) : Int), rest', b'), ?_, ⟨k + 1, l ++ [c], rest', b', rfl, by simp [hk], by omega, q3, fun x hx => ?_⟩, by dsimp only; omega⟩
    ·simp only [Qo.b, Qo.a, decide_eq_true h, cond_true, Bool.not_false, Option.bind_some, p2, QjP, List.length_singleton, c1]
     rw [uinc (by omega)]
    ·rcases List.mem_append.1 hx with hx | hx
     ·exact hw x hx
     ·rw [List.mem_singleton] at hx; subst hx; exact ⟨q1, q2⟩
   ·refine .inr ⟨(l, rest, b), ?_, l, rest, b, rfl, hw⟩
    simp only [Qo.b, Qo.a, decide_eq_false h, cond_false, Option.bind_some])
 simp only [Qo, decide_eq_false (show ¬ (65536 : Int) < (a.length : Int) by omega), cond_false, p1, Option.bind_some, hr]
 simp only [Qce (fun c hc => (hw c hc).1), Option.bind_some, Vf]
 cases b with
 | true => exact ⟨([], 8), rfl, .inl rfl⟩
 | false =>
  by_cases g1 : VX l = 0
  case neg => rw [decide_eq_false g1]; exact ⟨([], 8), rfl, .inl rfl⟩
  simp only [if_pos g1]
  by_cases g2 : Ji l = a
  ·rw [decide_eq_true g1, g2, beq_self_eq_true]; exact ⟨(l, 0), rfl, .inr ⟨rfl, g1, g2, hw⟩⟩
  ·rw [decide_eq_true g1, beq_eq_false_iff_ne.2 g2]; exact ⟨([], 8), rfl, .inl rfl⟩
theorem Qqq {cs : List Chg} {a : List Int} (h : IsCh a cs) (ha : QV a) : Qo mx a = some (cs, 0) := by
 obtain ⟨h1, h2, hw⟩ := h
 obtain ⟨h3, h4, h5⟩ := VJ.1 h1
 have hl : a.length ≤ 65536 := by rw [← h2]; exact h5
 have e0 : a = sm cs.length ++ (Z3 cs ++ []) := by rw [← h2, List.append_nil]; rfl
 have hR : Rd a := ⟨ha, by omega⟩
 rw [e0] at hR
 have g1 := hR.right
 have p1 := Qa5 (n := cs.length) (by omega) g1 false (m := 4096) (by omega)
 rw [← e0] at p1
 have hd : ∀ i, i ≤ cs.length → Rd (Z3 (cs.drop i) ++ []) := fun i => by
  induction i with
  | zero => intro _; exact g1
  | succ i ih =>
   intro hi
   have := ih (by omega)
   rw [List.drop_eq_getElem_cons (show i < cs.length by omega), Qc7, List.append_assoc] at this
   exact this.right
 have hloop := QL (f := Qo.b mx ((cs.length : Int), Z3 cs ++ [], false)) (fun i => (cs.take i, (i : Int), Z3 (cs.drop i) ++ [], false)) cs.length (r := (cs, [], false)) (Z7 (by omega)) (fun i hi => by
  have hn := hd i (by omega)
  have e1 : Z3 (cs.drop i) ++ [] = putB cs[i] ++ (Z3 (cs.drop (i + 1)) ++ []) := by rw [List.drop_eq_getElem_cons hi, Qc7, List.append_assoc]
  rw [e1] at hn ⊢
  have p2 := Qqt (h4 _ (List.getElem_mem hi)) (hw _ (List.getElem_mem hi)).1 hn
  have c1 : Nat.ble ((cs.take i).length + 1) 4294967296 = true := ZQ (by rw [List.length_take]; omega)
  simp only [Qo.b, Qo.a, ltd hi, cond_true, Bool.not_false, p2, Option.bind_some, QjP, List.length_singleton, c1]
  rw [uinc (by omega), QH hi C0, getD_some hi]) (by
  simp only [Qo.b, Qo.a, nltd, cond_false, Option.bind_some, List.take_length]
  rw [List.drop_eq_nil_of_le (Nat.le_refl _)]; rfl)
 have hloop : iter mx (Qo.b mx ((cs.length : Int), Z3 cs ++ [], false)) (([] : List Chg), (0 : Int), Z3 cs ++ [], false) = _ := hloop
 simp only [Qo, decide_eq_false (show ¬ (65536 : Int) < (a.length : Int) by omega), cond_false, p1, Option.bind_some, hloop, Qce (fun c hc => (hw c hc).1), h1, if_pos, h2, bne_self_eq_false, Bool.not_true, beq_self_eq_true]
end Go.Proofs.YtpfjjbpoikgocaaGreat
namespace Go.Proofs.YtpfjjbpoikgocaaGreat
open Go.Abs
set_option maxRecDepth 100000
theorem Qpj {d : List Int} (h : d.length ≤ 140737488351232) : Vl mx d = some d := by
 simp only [Vl, ZQ h, cond_true]
theorem Qiw (d : List Int) : JC mx d = some (if okD d then 0 else 20) := Qdk d
theorem Qq7 (n : Int) : QbH mx n = some (if 1 ≤ n ∧ n ≤ 4096 then (List.replicate (n * 64).toNat 0, 0) else ([], 20)) := Qlk n
theorem Qpm {d : List Int} (h : d.length ≤ 1000000000000) : JJ mx d = some (((d.length / 64 : Nat) : Int)) := by
 simp only [JJ, show ((d.length : Int).tdiv (64 : Int)) = ((d.length / 64 : Nat) : Int) from VZ _ 64]
 rw [w64 (by omega) (by omega)]
theorem Qp8 {d : List Int} {n : Nat} (hd : d.length ≤ 262144) (h : n < d.length / 64) : Jt mx (d, (n : Int)) = some (QB d n) := by
 have hm := Nat.div_mul_le_self d.length 64
 have h2 : 64 * (n + 1) ≤ 64 * (d.length / 64) := Nat.mul_le_mul_left 64 h
 simp only [Jt]
 rw [w64 (n := (n : Int) * 64) (by omega) (by omega), w64 (n := (n : Int) * 64 + 64) (by omega) (by omega)]
 have e : (decide ((0 : Int) ≤ (n : Int) * 64) && decide ((n : Int) * 64 ≤ (n : Int) * 64 + 64) && decide ((n : Int) * 64 + 64 ≤ (d.length : Int)) && decide ((d.length : Int) ≤ (d.length : Int))) = true := by simp; omega
 have e2 : (d.take ((n : Int) * 64 + 64).toNat).drop ((n : Int) * 64).toNat = QB d n := by
  unfold QB
  rw [show ((n : Int) * 64 + 64).toNat = 64 * n + 64 by omega, show ((n : Int) * 64).toNat = 64 * n by omega, List.drop_take, show 64 * n + 64 - 64 * n = 64 by omega]
 rw [e, cond_true, e2, ZQ (by rw [QaN h]; omega), cond_true]
theorem Qqc {d : List Int} (hd : d.length ≤ 1000000000000) (p : Put) : Qaa mx (d, p) = some (Jq d p) := by
 obtain ⟨n, x⟩ := p
 simp only [Qaa, Qpm hd, Option.bind_some, Jq]
 by_cases h1 : n < 0
 ·have : decide (n < 0) = true := by simpa using h1
  rw [this, if_neg (by omega)]; rfl
 ·have e1 : decide (n < 0) = false := by simpa using h1
  by_cases h2 : ((d.length / 64 : Nat) : Int) ≤ n
  ·have e2 : decide (((d.length / 64 : Nat) : Int) ≤ n) = true := by simpa using h2
   rw [e1, e2, if_neg (by omega)]; rfl
  ·have e2 : decide (((d.length / 64 : Nat) : Int) ≤ n) = false := by simpa using h2
   rw [e1, e2, if_pos (by omega)]
   by_cases h3 : x.length = 64
   ·have : ((x.length : Int) != 64) = false := by rw [h3]; rfl
    rw [this, if_pos h3]; rfl
   ·have : ((x.length : Int) != 64) = true := bne_iff_ne.2 fun h => h3 (by omega)
    rw [this, if_neg h3]; rfl
theorem Qjb (d : List Int) (p : Put) (l : List Put) : VW d (p :: l) = if Jq d p = 0 then VW d l else Jq d p := by
 unfold VW
 by_cases h : Jq d p = 0
 ·rw [if_pos h]; simp [h]
 ·rw [if_neg h]; simp [h]
theorem QnY {d : List Int} {l : List Put} (hd : d.length ≤ 1000000000000) (hl : l.length ≤ 1000000000000000000) :
  iter mx (QD.b mx d l) ((0 : Int), (0 : Int)) = some (VW d l) := by
 obtain ⟨r, hr, hq⟩ := V9 (f := QD.b mx d l) (fun s => ∃ k : Nat, s.2 = (k : Int) ∧ k ≤ l.length ∧ VW d l = if s.1 = 0 then VW d (l.drop k) else s.1) (fun s => l.length - s.2.toNat) (fun r => r = VW d l) ((0 : Int), (0 : Int)) ⟨0, rfl, Nat.zero_le _, by simp⟩ (by
  simp only [Int.toNat_zero, Nat.sub_zero]; exact Z7 hl) (fun s ⟨k, e, hk, hp⟩ => by
  obtain ⟨s, i⟩ := s
  dsimp only at e hp
  subst e
  by_cases h1 : k < l.length
  ·by_cases h2 : s = 0
   ·left
    subst h2
    rw [if_pos rfl] at hp
    refine ⟨(Jq d (l.getD k (0, [])), ((k + 1 : Nat) : Int)), ?_, ⟨k + 1, rfl, by omega, ?_⟩, by dsimp only; omega⟩
    ·simp only [QD.b, QD.a, ltd h1, beq_self_eq_true, lez, Bool.and_self, cond_true, Option.bind_some, Int.toNat_natCast]
     rw [Qqc hd, Option.bind_some, Z8 (by omega)]
    ·dsimp only
     rw [hp, List.drop_eq_getElem_cons h1, Qjb, getD_some h1]
   ·right
    have h2' : (s == 0) = false := by simpa using h2
    exact ⟨s, by simp only [QD.b, QD.a, ltd h1, h2', cond_true, cond_false, Option.bind_some], by rw [hp, if_neg h2]⟩
  ·right
   have h1' : decide ((k : Int) < (l.length : Int)) = false := by simp; omega
   refine ⟨s, by simp only [QD.b, QD.a, h1', cond_false, Option.bind_some], ?_⟩
   rw [hp]
   by_cases h2 : s = 0
   ·rw [if_pos h2, List.drop_eq_nil_of_le (by omega), h2]; rfl
   ·rw [if_neg h2])
 rw [hq] at hr
 exact hr
theorem QnX {d : List Int} {l : List Put} {e : Int} (he : e ≠ 0) : iter mx (QD.b mx d l) (e, (0 : Int)) = some e := by
 obtain ⟨r, hr, hq⟩ := V9 (f := QD.b mx d l) (fun s => s = (e, (0 : Int))) (fun _ => 0) (fun r => r = e) (e, (0 : Int)) rfl (Z7 (by omega)) (fun s hs => by
  subst hs
  right
  have h2' : (e == 0) = false := by simpa using he
  refine ⟨e, ?_, rfl⟩
  simp only [QD.b, QD.a, h2']
  cases decide ((0 : Int) < (l.length : Int)) <;> rfl)
 rw [hq] at hr
 exact hr
theorem QpB {d x : List Int} {a j : Nat} (h1 : a + j < d.length) (h2 : j < x.length) : (d.take a ++ x.take j ++ d.drop (a + j)).set (a + j) (x.getD j 0) = d.take a ++ x.take (j + 1) ++ d.drop (a + (j + 1)) := by
 have hl : (d.take a ++ x.take j).length = a + j := by simp; omega
 rw [List.set_append, if_neg (by omega), hl, Nat.sub_self, List.drop_eq_getElem_cons h1, List.set_cons_zero, getD_some h2, show x.take (j + 1) = x.take j ++ [x[j]] from (List.take_append_getElem h2).symm]
 simp only [List.append_assoc, List.cons_append, List.nil_append, Nat.add_assoc]
theorem QqL {l : List Put} {d : List Int} {k : Nat} (hk : k < l.length) (hd : d.length ≤ 262144) (h : Jq d (l.getD k (0, [])) = 0) :
  iter mx (QD.c mx l ((k : Int), d)) ((0 : Int), d) = some (wr1 d (l.getD k (0, []))) := by
 obtain ⟨h1, h2, h3⟩ := Qa0 h
 generalize hp : l.getD k (0, []) = p at h1 h2 h3
 obtain ⟨q, x⟩ := p
 dsimp only at h1 h2 h3
 obtain ⟨q, rfl⟩ := Int.eq_ofNat_of_zero_le h1
 have hm := Nat.div_mul_le_self d.length 64
 obtain ⟨r, hr, hq⟩ := V9 (f := QD.c mx l ((k : Int), d)) (fun s => ∃ j : Nat, s.1 = (j : Int) ∧ j ≤ 64 ∧ s.2 = d.take (64 * q) ++ x.take j ++ d.drop (64 * q + j)) (fun s => 64 - s.1.toNat) (fun r => r = wr1 d ((q : Int), x)) ((0 : Int), d) ⟨0, rfl, by omega, by simp⟩ (Z7 (by omega)) (fun s ⟨j, e, hj, hs⟩ => by
  obtain ⟨i, s⟩ := s
  dsimp only at e hs
  subst e
  have hsl : s.length = d.length := by rw [hs]; simp; omega
  have hq1 : 64 * q + 64 ≤ d.length := by omega
  by_cases hj2 : j < 64
  ·left
   have e0 : decide ((j : Int) < 64) = true := by simp; omega
   have e1 : IntKind.i64.wrap (IntKind.i64.wrap ((q : Int) * 64) + (j : Int)) = ((64 * q + j : Nat) : Int) := by
    rw [w64 (n := (q : Int) * 64) (by omega) (by omega), w64 (by omega) (by omega)]; omega
   refine ⟨(((j + 1 : Nat) : Int), d.take (64 * q) ++ x.take (j + 1) ++ d.drop (64 * q + (j + 1))), ?_, ⟨j + 1, rfl, by omega, rfl⟩, by dsimp only; omega⟩
   simp only [QD.c, e0, ltd hk, lez, Bool.and_self, cond_true, Int.toNat_natCast, hp, e1, ltd (show j < x.length by omega), ltd (show 64 * q + j < s.length by omega), Qas (show 64 * q + j < s.length by omega)]
   rw [hs, QpB (x := x) (j := j) (a := 64 * q) (by omega) (by omega), Z8 (by omega)]
  ·right
   have e0 : decide ((j : Int) < 64) = false := by simp; omega
   refine ⟨s, by simp only [QD.c, e0, cond_false], ?_⟩
   have : j = 64 := by omega
   subst this
   rw [hs, List.take_of_length_le (l := x) (by omega)]
   simp only [wr1, Int.toNat_natCast])
 rw [hq] at hr
 exact hr
theorem QkE {d : List Int} {l : List Put} {n : Nat} (hn : n ≤ l.length) (hd : d.length ≤ 262144) (h : ∀ p ∈ l, Jq d p = 0) (hl : l.length ≤ 1000000000000000000) :
  iter mx (QD.d mx l (n : Int)) ((0 : Int), d) = some (wr d (l.take n)) := by
 have hlt : (l.take n).length = n := by rw [List.length_take]; omega
 have hget : ∀ k, k < n → (l.take n).getD k (0, []) = l.getD k (0, []) := fun k hk => by
  rw [getD_some (by omega), getD_some (by omega), List.getElem_take]
 refine Qak (f := QD.d mx l (n : Int)) (l.take n) (0, []) wr1 d (fun k s => ((k : Int), s)) (Z7 (by omega)) (fun k hk => ?_) (by simp only [QD.d, hlt, nltd, cond_false]; rfl)
 rw [hlt] at hk
 have hlen : (((l.take n).take k).foldl wr1 d).length = d.length := QfL fun p hp => h p (List.mem_of_mem_take (List.mem_of_mem_take hp))
 simp only [QD.d, ltd hk, cond_true]
 rw [QqL (by omega) (by rw [hlen]; exact hd) (by rw [QbW hlen]; exact h _ (Zt (by omega))), Option.bind_some, Z8 (by omega), hget k hk]
theorem do02 {d : List Int} {l : List Put} {m : Int} (hd0 : d.length ≤ 1000000000000) (hl : l.length ≤ 1000000000000000000) : QD mx (d, l, m) = some (doS d l m) := by
 simp only [QD, Qiw, Option.bind_some, doS]
 by_cases hd : okD d
 ·rw [if_pos hd, if_pos hd]
  simp only [QnY hd0 hl, Option.bind_some]
  by_cases hp : VW d l = 0
  ·rw [if_pos hp, hp]
   by_cases h1 : m < 0
   ·have : decide (m < 0) = true := by simpa using h1
    rw [this, if_neg (by omega)]; rfl
   ·have e1 : decide (m < 0) = false := by simpa using h1
    by_cases h2 : (l.length : Int) < m
    ·have : decide ((l.length : Int) < m) = true := by simpa using h2
     rw [e1, this, if_neg (by omega)]; rfl
    ·have e2 : decide ((l.length : Int) < m) = false := by simpa using h2
     rw [e1, e2, if_pos (by omega), Qpj (by omega)]
     obtain ⟨n, rfl⟩ := Int.eq_ofNat_of_zero_le (show 0 ≤ m by omega)
     simp only [Option.bind_some, QkE (n := n) (by omega) hd.2.1 (QeI.1 hp) hl, Int.toNat_natCast]
     rfl
  ·have : (VW d l != 0) = true := bne_iff_ne.2 hp
   rw [if_neg hp, this]; rfl
 ·rw [if_neg hd, if_neg hd, QnX (by decide), Option.bind_some]; rfl
theorem Qk4 {l : List Put} (hl : l.length ≤ 1000000000) : Zc mx (l, l) = some true := by
 have hr := Qak (f := Zc.a mx l l) l (0, []) (fun (s : Unit) _ => s) () (fun k _ => (k : Int)) (r := .inr ()) (Z7 (by omega)) (fun k hk => by
  simp only [Zc.a, ltd hk, lez, Bool.and_self, cond_true, Int.toNat_natCast, bne_self_eq_false, beq_self_eq_true, Bool.not_true, cond_false]
  rw [Z8 (by omega)])
  (by simp only [Zc.a, nltd, cond_false])
 have hr : iter mx (Zc.a mx l l) (0 : Int) = _ := hr
 simp only [Zc, bne_self_eq_false, cond_false, hr, Option.bind_some]
end Go.Proofs.YtpfjjbpoikgocaaGreat
namespace Go.Proofs.YtpfjjbpoikgocaaGreat
open Go.Abs
set_option maxRecDepth 100000
theorem QkJ {m k : Nat} (hm : m ≤ 4294967295) : IntKind.u8.wrap ((IntKind.u32.wrap ((m : Int).tdiv ((256 ^ k : Nat) : Int))).tmod (256 : Int)) = bAt (m : Int) k := by
 rw [VZ]
 have h1 : m / 256 ^ k ≤ m := Nat.div_le_self _ _
 unfold bAt
 rw [Int.toNat_natCast]
 generalize m / 256 ^ k = q at h1 ⊢
 rw [wu32 (by omega) (by omega), show (q : Int).tmod (256 : Int) = ((q % 256 : Nat) : Int) from QbD _ 256]
 rw [wu8 (by omega) (by omega)]
theorem Qgq {n : Int} (h : Z6 n) : JT mx n = some (le4 n) := by
 obtain ⟨h1, h2⟩ := h
 obtain ⟨m, rfl⟩ := Int.eq_ofNat_of_zero_le h1
 have hm : m ≤ 4294967295 := by omega
 have e0 : IntKind.u8.wrap ((m : Int).tmod (256 : Int)) = bAt (m : Int) 0 := by
  have := QkJ (m := m) (k := 0) hm
  rw [show ((256 ^ 0 : Nat) : Int) = 1 from rfl, Int.tdiv_one, wu32 (by omega) (by omega)] at this
  exact this
 have e3 : IntKind.u8.wrap (IntKind.u32.wrap ((m : Int).tdiv (16777216 : Int))) = bAt (m : Int) 3 := by
  have h3 : (m : Int).tdiv (16777216 : Int) = ((m / 16777216 : Nat) : Int) := VZ m 16777216
  rw [h3, wu32 (by omega) (by omega), wu8 (by omega) (by omega)]
  unfold bAt
  rw [Int.toNat_natCast, show 256 ^ 3 = 16777216 from rfl, Nat.mod_eq_of_lt (by omega)]
 have e1 := QkJ (m := m) (k := 1) hm
 have e2 := QkJ (m := m) (k := 2) hm
 rw [show ((256 ^ 1 : Nat) : Int) = 256 from rfl] at e1
 rw [show ((256 ^ 2 : Nat) : Int) = 65536 from rfl] at e2
 simp only [JT, e0, e1, e2, e3]
 rfl
theorem Qqw {x : List Int} (hx : x.length ≤ 64) : iter mx (Q5.a mx) x = some (x ++ List.replicate (64 - x.length) 0) := by
 have := QL (f := Q5.a mx) (fun i => x ++ List.replicate i 0) (64 - x.length) (r := x ++ List.replicate (64 - x.length) 0) (Z7 (by omega)) (fun i hi => by
  have hl : (x ++ List.replicate i (0 : Int)).length = x.length + i := by simp
  have c1 : decide (((x ++ List.replicate i (0 : Int)).length : Int) < 64) = true := decide_eq_true (by omega)
  have c2 : Nat.ble ((x ++ List.replicate i (0 : Int)).length + 1) 140737488351232 = true := ZQ (by omega)
  simp only [Q5.a, c1, c2, cond_true]
  rw [List.append_assoc, ← List.replicate_succ']) (by
  have hl : (x ++ List.replicate (64 - x.length) (0 : Int)).length = x.length + (64 - x.length) := by simp
  have c1 : decide (((x ++ List.replicate (64 - x.length) (0 : Int)).length : Int) < 64) = false := decide_eq_false (by omega)
  simp only [Q5.a, c1, cond_false])
 simpa using this
theorem QoC {g n s p : Int} (hg : Z6 g) (hn : Z6 n) (hs : Z6 s) (hp : Z6 p) {r : List Int} (hr : r.length ≤ 65536) {i : Nat} (hi : i < Qp r) :
  Q5.b mx g n s p r (Qp r : Int) ((List.range i).map (fun j => blk g n s p (Qp r) j (Jw r j)), (i : Int)) =
   some (.next ((List.range (i + 1)).map (fun j => blk g n s p (Qp r) j (Jw r j)), ((i + 1 : Nat) : Int))) := by
 have hpa := J4 hr
 have e1 : decide ((i : Int) < (Qp r : Int)) = true := decide_eq_true (by omega)
 have w1 : IntKind.i64.wrap ((i : Int) * 43) = (i : Int) * 43 := w64 (by omega) (by omega)
 have w2 : IntKind.i64.wrap ((i : Int) * 43 + 43) = (i : Int) * 43 + 43 := w64 (by omega) (by omega)
 have m1 : mnI (r.length : Int) ((i : Int) * 43) = ((min r.length (43 * i) : Nat) : Int) := by unfold mnI; split <;> omega
 have m2 : mnI (r.length : Int) ((i : Int) * 43 + 43) = ((min r.length (43 * i + 43) : Nat) : Int) := by unfold mnI; split <;> omega
 have d1 : decide ((0 : Int) ≤ ((min r.length (43 * i) : Nat) : Int)) = true := decide_eq_true (by omega)
 have d2 : decide (((min r.length (43 * i) : Nat) : Int) ≤ ((min r.length (43 * i + 43) : Nat) : Int)) = true := decide_eq_true (by omega)
 have d3 : decide (((min r.length (43 * i + 43) : Nat) : Int) ≤ (r.length : Int)) = true := decide_eq_true (by omega)
 have hpc : (r.take (min r.length (43 * i + 43))).drop (min r.length (43 * i)) = Jw r i := by
  unfold Jw
  rcases Nat.le_total (43 * i) r.length with h | h
  ·rw [Nat.min_eq_right h]
   rcases Nat.le_total (43 * i + 43) r.length with h2 | h2
   ·rw [Nat.min_eq_right h2, List.drop_take, show 43 * i + 43 - 43 * i = 43 by omega]
   ·rw [Nat.min_eq_left h2, List.take_length, List.take_of_length_le (by rw [List.length_drop]; omega)]
  ·rw [Nat.min_eq_left h, List.drop_eq_nil_of_le (by rw [List.length_take]; omega), List.drop_eq_nil_of_le h]; rfl
 have hle := Qbr r i
 have u1 : IntKind.u8.wrap ((i : Int).tmod (256 : Int)) = bAt (i : Int) 0 := by
  rw [show (i : Int).tmod (256 : Int) = ((i % 256 : Nat) : Int) from QbD i 256, wu8 (by omega) (by omega)]
  simp [bAt]
 have u2 : IntKind.u8.wrap (IntKind.i64.wrap ((i : Int).tdiv (256 : Int))) = bAt (i : Int) 1 := by
  rw [show (i : Int).tdiv (256 : Int) = ((i / 256 : Nat) : Int) from VZ i 256, w64 (by omega) (by omega), wu8 (by omega) (by omega)]
  unfold bAt
  rw [Int.toNat_natCast, Nat.pow_one, Nat.mod_eq_of_lt (by omega)]
 have u3 : IntKind.u8.wrap ((Qp r : Int).tmod (256 : Int)) = bAt (Qp r : Int) 0 := by
  rw [show (Qp r : Int).tmod (256 : Int) = ((Qp r % 256 : Nat) : Int) from QbD _ 256, wu8 (by omega) (by omega)]
  simp [bAt]
 have u4 : IntKind.u8.wrap (IntKind.i64.wrap ((Qp r : Int).tdiv (256 : Int))) = bAt (Qp r : Int) 1 := by
  rw [show (Qp r : Int).tdiv (256 : Int) = ((Qp r / 256 : Nat) : Int) from VZ _ 256, w64 (by omega) (by omega), wu8 (by omega) (by omega)]
  unfold bAt
  rw [Int.toNat_natCast, Nat.pow_one, Nat.mod_eq_of_lt (by omega)]
 have u5 : IntKind.u8.wrap (((Jw r i).length : Nat) : Int) = (((Jw r i).length : Nat) : Int) := wu8 (by omega) (by omega)
 have l4 : ∀ x, (le4 x).length = 4 := fun _ => rfl
 have c0 : Nat.ble 4 140737488351232 = true := rfl
 have c1 : Nat.ble (4 + 4) 140737488351232 = true := rfl
 have c2 : Nat.ble (4 + 4 + 4) 140737488351232 = true := rfl
 have c3 : Nat.ble (4 + 4 + 4 + 4) 140737488351232 = true := rfl
 have c4 : Nat.ble (4 + 4 + 4 + 4 + 5) 140737488351232 = true := rfl
 have hbody : le4 g ++ le4 n ++ le4 s ++ le4 p ++ [bAt (i : Int) 0, bAt (i : Int) 1, bAt (Qp r : Int) 0, bAt (Qp r : Int) 1, (((Jw r i).length : Nat) : Int)] = hdr g n s p (Qp r) i (Jw r i).length := rfl
 have c5 : Nat.ble (21 + (Jw r i).length) 140737488351232 = true := ZQ (by omega)
 have hlen : (hdr g n s p (Qp r) i (Jw r i).length ++ Jw r i).length = 21 + (Jw r i).length := by rw [List.length_append, QeR]
 have hpad := Qqw (x := hdr g n s p (Qp r) i (Jw r i).length ++ Jw r i) (by rw [hlen]; omega)
 have hblk : (hdr g n s p (Qp r) i (Jw r i).length ++ Jw r i) ++ List.replicate (64 - (hdr g n s p (Qp r) i (Jw r i).length ++ Jw r i).length) 0 = blk g n s p (Qp r) i (Jw r i) := by
  rw [hlen, show 64 - (21 + (Jw r i).length) = 43 - (Jw r i).length by omega, List.append_assoc]
  rfl
 rw [hblk] at hpad
 have c6 : Nat.ble (i + 1) 4294967296 = true := ZQ (by omega)
 simp only [Q5.b, e1, cond_true, w1, w2, m1, m2, d1, d2, d3, Int.le_refl, decide_true, Bool.and_self, Int.toNat_natCast, hpc, Qgq hg, Qgq hn, Qgq hs, Qgq hp, Option.bind_some, l4, c0, c1, List.length_append, c2, c3, u1, u2, u3, u4, u5, List.length_cons, List.length_nil, Nat.zero_add, Nat.reduceAdd, c4]
 rw [hbody]
 have cx : ∀ k, k ≤ 100 → Nat.ble k 140737488351232 = true := fun k hk => ZQ (by omega)
 simp only [cx 8 (by decide), cx 12 (by decide), cx 16 (by decide), cx 21 (by decide), c5, cond_true, hpad, Option.bind_some, List.length_map, List.length_range, c6]
 rw [Z8 (by omega), List.range_succ, List.map_append]
 simp only [List.map_cons, List.map_nil]
theorem QfX {g n s p : Int} (hg : Z6 g) (hn : Z6 n) (hs : Z6 s) (hp : Z6 p) {r : List Int} (hrl : r.length ≤ 140737488351232) :
  Q5 mx (g, n, s, p, r) = some (if g = 0 ∨ n = 0 then ([], 2) else if 65536 < r.length then ([], 3) else (frame g n s p r, 0)) := by
 simp only [Q5, ieq]
 by_cases h1 : g = 0
 ·rw [if_pos (.inl h1), decide_eq_true h1]; rfl
 ·by_cases h2 : n = 0
  ·rw [if_pos (.inr h2), decide_eq_false h1, decide_eq_true h2]; rfl
  ·rw [if_neg (by omega), decide_eq_false h1, decide_eq_false h2]
   by_cases h3 : 65536 < r.length
   ·rw [if_pos h3, decide_eq_true (show (65536 : Int) < (r.length : Int) by omega)]; rfl
   ·have hr : r.length ≤ 65536 := by omega
    have hpa := J4 hr
    have e4 : mxI 1 (IntKind.i64.wrap ((IntKind.i64.wrap (IntKind.i64.wrap ((r.length : Int) + 43) - 1)).tdiv 43)) = (Qp r : Int) := by
     rw [w64 (n := (r.length : Int) + 43) (by omega) (by omega), w64 (n := (r.length : Int) + 43 - 1) (by omega) (by omega)]
     have : ((r.length : Int) + 43 - 1).tdiv 43 = (((r.length + 42) / 43 : Nat) : Int) := by
      rw [show (r.length : Int) + 43 - 1 = ((r.length + 42 : Nat) : Int) by omega]; exact VZ _ 43
     rw [this, w64 (by omega) (by omega)]
     unfold mxI Qp
     split <;> omega
    rw [if_neg h3, decide_eq_false (show ¬ (65536 : Int) < (r.length : Int) by omega)]
    simp only [cond_false, e4]
    have := QL (f := Q5.b mx g n s p r (Qp r : Int)) (fun i => ((List.range i).map (fun j => blk g n s p (Qp r) j (Jw r j)), (i : Int))) (Qp r) (r := frame g n s p r) (Z7 (by omega))
     (fun i hi => QoC hg hn hs hp hr hi) (by simp only [Q5.b, nltd, cond_false]; rfl)
    have this : iter mx (Q5.b mx g n s p r (Qp r : Int)) (([] : List (List Int)), (0 : Int)) = _ := this
    rw [this]; rfl
theorem QcG {b : List Int} (hb : QA b) (hl : b.length = 4) : Zl mx b = some (Vv b) := by
 obtain ⟨x0, x1, x2, x3, rfl⟩ : ∃ x0 x1 x2 x3, b = [x0, x1, x2, x3] := by
  match b, hl with
  | [x0, x1, x2, x3], _ => exact ⟨x0, x1, x2, x3, rfl⟩
 have h0 := hb x0 (by simp)
 have h1 := hb x1 (by simp)
 have h2 := hb x2 (by simp)
 have h3 := hb x3 (by simp)
 unfold Qcv at h0 h1 h2 h3
 simp only [Zl, List.length_cons, List.length_nil, List.getD_cons_zero, List.getD_cons_succ]
 have c : ∀ k : Int, k < 4 → decide (k < (((0 + 1 + 1 + 1 + 1 : Nat)) : Int)) = true := fun k hk => decide_eq_true (by omega)
 simp only [c 0 (by decide), c 1 (by decide), c 2 (by decide), c 3 (by decide), cond_true]
 rw [wu32 (n := x0) (by omega) (by omega), wu32 (n := x1) (by omega) (by omega), wu32 (n := x2) (by omega) (by omega), wu32 (n := x3) (by omega) (by omega),
  wu32 (n := x1 * 256) (by omega) (by omega), wu32 (n := x2 * 65536) (by omega) (by omega), wu32 (n := x3 * 16777216) (by omega) (by omega), wu32 (n := x0 + x1 * 256) (by omega) (by omega), wu32 (n := x0 + x1 * 256 + x2 * 65536) (by omega) (by omega), wu32 (by omega) (by omega)]
 simp only [Vv]
 congr 1; omega
theorem QmS {l : List Blk} (hl : Jk l) (hlen : l.length ≤ 1000000000) {k : Nat} (hk : k ≤ l.length) :
  iter mx (QW.a mx l (k : Int)) (([] : List Int), (0 : Int)) = some (if ∀ b ∈ l.take k, b.getD 20 0 ≤ 43 then .inr (recs (l.take k)) else .inl (0, 0, 6)) := by
 have htk : ∀ i, i ≤ k → (l.take k).take i = l.take i := fun i hi => by rw [List.take_take, Nat.min_eq_left hi]
 rcases JF (f := QW.a mx l (k : Int)) (fun i => (recs (l.take i), (i : Int))) k (fun i => (l.getD i []).getD 20 0 ≤ 43) (Z7 (by omega)) (fun _ => .inl (0, 0, 6)) (.inr (recs (l.take k)))
  (fun i hi hp hb => by
   have hil : i < l.length := by omega
   obtain ⟨b1, b2⟩ := hl _ (Zt (d := []) hil)
   obtain ⟨b3, b4⟩ := VK b2 20
   have hw : IntKind.i64.wrap ((l.getD i []).getD 20 0) = (l.getD i []).getD 20 0 := w64 (by omega) (by omega)
   have hrl : (recs (l.take i)).length ≤ 43 * i := by
    have := Qfw (l := l.take i) (fun b hb' => by
     obtain ⟨j, hj, rfl⟩ := List.mem_iff_getElem.1 hb'
     rw [List.length_take] at hj
     have := hb j (by omega)
     rw [getD_some (l := l) (show j < l.length by omega)] at this
     rw [List.getElem_take]; exact this)
    rw [List.length_take, Nat.min_eq_left (by omega)] at this
    exact this
   have e1 : decide ((20 : Int) < ((l.getD i []).length : Int)) = true := decide_eq_true (by omega)
   have e2 : decide ((43 : Int) < (l.getD i []).getD 20 0) = false := decide_eq_false (by omega)
   have hw2 : IntKind.i64.wrap ((21 : Int) + (l.getD i []).getD 20 0) = 21 + (l.getD i []).getD 20 0 := w64 (by omega) (by omega)
   have e3 : decide ((21 : Int) ≤ 21 + (l.getD i []).getD 20 0) = true := decide_eq_true (by omega)
   have e4 : decide (21 + (l.getD i []).getD 20 0 ≤ ((l.getD i []).length : Int)) = true := decide_eq_true (by omega)
   have e5 : ((l.getD i []).take (21 + (l.getD i []).getD 20 0).toNat).drop 21 = ((l.getD i []).drop 21).take ((l.getD i []).getD 20 0).toNat := by
    rw [List.drop_take]; congr 1; omega
   have e7 : (((l.getD i []).drop 21).take ((l.getD i []).getD 20 0).toNat).length ≤ 43 := by rw [List.length_take, List.length_drop]; omega
   have e8 : Nat.ble ((recs (l.take i)).length + (((l.getD i []).drop 21).take ((l.getD i []).getD 20 0).toNat).length) 140737488351232 = true := ZQ (by omega)
   simp only [QW.a, ltd hi, ltd hil, lez, Bool.and_self, cond_true, Int.toNat_natCast, e1, hw, e2, cond_false, hw2, e3, e4, Int.le_refl, decide_true, e5, e8]
   rw [Z8 (by omega), QH hil [], Qle]
   simp [recs])
  (fun i hi hp hb => by
   have hil : i < l.length := by omega
   obtain ⟨b1, b2⟩ := hl _ (Zt (d := []) hil)
   obtain ⟨b3, b4⟩ := VK b2 20
   have hw : IntKind.i64.wrap ((l.getD i []).getD 20 0) = (l.getD i []).getD 20 0 := w64 (by omega) (by omega)
   have e1 : decide ((20 : Int) < ((l.getD i []).length : Int)) = true := decide_eq_true (by omega)
   have e2 : decide ((43 : Int) < (l.getD i []).getD 20 0) = true := decide_eq_true (by omega)
   simp only [QW.a, ltd hi, ltd hil, lez, Bool.and_self, cond_true, Int.toNat_natCast, e1, hw, e2])
  (fun _ => by simp only [QW.a, nltd, cond_false]) with ⟨h, e⟩ | ⟨i, hi, hp, _, e⟩
 ·have e : iter mx (QW.a mx l (k : Int)) (([] : List Int), (0 : Int)) = _ := e
  rw [e, if_pos]
  intro b hb
  obtain ⟨j, hj, rfl⟩ := List.mem_iff_getElem.1 hb
  rw [List.length_take] at hj
  have := h j (by omega)
  rw [getD_some (l := l) (show j < l.length by omega)] at this
  rw [List.getElem_take]; exact this
 ·have e : iter mx (QW.a mx l (k : Int)) (([] : List Int), (0 : Int)) = _ := e
  rw [e, if_neg]
  intro hall
  refine hp (hall _ ?_)
  rw [getD_some (l := l) (show i < l.length by omega)]
  have : l[i] = (l.take k)[i]'(by rw [List.length_take]; omega) := by rw [List.getElem_take]
  rw [this]
  exact List.getElem_mem _
theorem Qm2 {l a : List Blk} (e0 : Int) (hl : a.length ≤ l.length) (hlen : l.length ≤ 1000000000) :
  iter mx (QW.b mx l (a.length : Int) (a, e0)) (0 : Int) = some (if a = l.take a.length then .inr () else .inl (0, 0, 6)) := by
 rcases JF (f := QW.b mx l (a.length : Int) (a, e0)) (fun i => (i : Int)) a.length (fun i => a.getD i [] = l.getD i []) (Z7 (by omega)) (fun _ => .inl (0, 0, 6)) (.inr ())
  (fun i hi hp hb => by
   simp only [QW.b, ltd hi, lez, Bool.and_self, cond_true, Int.toNat_natCast, Qas hi, ltd (show i < l.length by omega), hp, beq_self_eq_true, Bool.not_true, cond_false]
   rw [Z8 (by omega)])
  (fun i hi hp hb => by
   have : (a.getD i [] == l.getD i []) = false := by simpa using hp
   simp only [QW.b, ltd hi, lez, Bool.and_self, cond_true, Int.toNat_natCast, Qas hi, ltd (show i < l.length by omega), this, Bool.not_false])
  (fun _ => by simp only [QW.b, nltd, cond_false]) with ⟨h, e⟩ | ⟨i, hi, hp, _, e⟩
 ·have e : iter mx (QW.b mx l (a.length : Int) (a, e0)) (0 : Int) = _ := e
  rw [e, if_pos (QnS h hl)]
 ·have e : iter mx (QW.b mx l (a.length : Int) (a, e0)) (0 : Int) = _ := e
  rw [e, if_neg]
  intro hall
  apply hp
  rw [hall, getD_some (by rw [List.length_take]; omega), List.getElem_take, getD_some (by omega)]
theorem QoW {B : Blk} (h : B.length = 64) (hb : QA B) : IntKind.i64.wrap (IntKind.i64.wrap (B.getD 18 0) + IntKind.i64.wrap (IntKind.i64.wrap (B.getD 19 0) * 256)) = J2 B := by
 obtain ⟨a1, a2⟩ := VK hb 18
 obtain ⟨b1, b2⟩ := VK hb 19
 rw [w64 (n := B.getD 18 0) (by omega) (by omega), w64 (n := B.getD 19 0) (by omega) (by omega), w64 (n := B.getD 19 0 * 256) (by omega) (by omega), w64 (by omega) (by omega)]
 have e : (B.take 20).drop 18 = [B.getD 18 0, B.getD 19 0] := by
  apply List.ext_getElem
  ·rw [List.length_drop, List.length_take]; simp; omega
  ·intro i h1 h2
   have h2 : i < 2 := by simpa using h2
   rw [List.getElem_drop, List.getElem_take]
   match i, h2 with
   | 0, _ => show B[18] = B.getD 18 0; rw [getD_some (show 18 < B.length by omega)]
   | 1, _ => show B[19] = B.getD 19 0; rw [getD_some (show 19 < B.length by omega)]
 rw [J2, e]
 simp only [Vv]
 omega
theorem Qng {g n p : Int} (hg : Z6 g) (hn : Z6 n) (hp : Z6 p) {l : List Blk} (hl : Jk l) (hlen : l.length ≤ 1000000000) :
  QW mx (g, n, p, l) = some (match opn g n p l with | some (r, s, k) => (r, s, (k : Int), 0) | none => ([], 0, 0, 6)) := by
 unfold opn
 simp only [QW, ieq]
 by_cases hne : l = []
 ·subst hne
  rw [if_neg (fun h => h.1 rfl)]; rfl
 ·have hpos : 0 < l.length := List.length_pos_iff.2 hne
  rw [decide_eq_false (show ¬ (l.length : Int) = 0 by omega)]
  by_cases h4a : g = 0
  ·rw [decide_eq_true h4a, if_neg (fun h => h.2.2.2.2.1 h4a)]; rfl
  rw [decide_eq_false h4a]
  by_cases h4b : n = 0
  ·rw [decide_eq_true h4b, if_neg (fun h => h.2.2.2.2.2.1 h4b)]; rfl
  rw [decide_eq_false h4b]
  have e1 : decide ((0 : Int) < (l.length : Int)) = true := decide_eq_true (by omega)
  obtain ⟨b1, b2⟩ := Qia hl hne
  generalize hB : l.getD 0 [] = B at b1 b2
  have e2 : decide ((12 : Int) ≤ (B.length : Int)) = true := decide_eq_true (by omega)
  have e3 : decide ((18 : Int) < (B.length : Int)) = true := decide_eq_true (by omega)
  have e3' : decide ((19 : Int) < (B.length : Int)) = true := decide_eq_true (by omega)
  have g1 : Zl mx ((B.take 12).drop 8) = some (JY B) := QcG (Z5 (Zf b2 _) _) (by rw [List.length_drop, List.length_take]; omega)
  have hs : Z6 (JY B) := JQ (Z5 (Zf b2 _) _) (by rw [List.length_drop, List.length_take]; omega)
  have hc : Z6 (J2 B) := JQ (Z5 (Zf b2 _) _) (by rw [List.length_drop, List.length_take]; omega)
  simp only [e1, cond_false, cond_true, hB, e2, Int.le_refl, decide_true, Bool.and_self, g1, Option.bind_some, e3, e3', QoW b1 b2]
  by_cases h1 : J2 B < 1
  ·rw [decide_eq_true h1, if_neg (fun h => by have := h.2.1; omega)]; rfl
  ·rw [decide_eq_false h1]
   by_cases h2 : (l.length : Int) < J2 B
   ·rw [decide_eq_true h2, if_neg (fun h => by have := h.2.2.1; omega)]; rfl
   ·rw [decide_eq_false h2]
    obtain ⟨k, hk⟩ := Int.eq_ofNat_of_zero_le hc.1
    rw [hk] at h1 h2 ⊢
    simp only [cond_false, Int.toNat_natCast]
    have hkl : (l.take k).length = k := by rw [List.length_take]; omega
    rw [QmS hl (by omega) (k := k) (by omega)]
    by_cases h3 : ∀ b ∈ l.take k, b.getD 20 0 ≤ 43
    ·rw [if_pos h3]
     have hrl := Qfw h3
     rw [hkl] at hrl
     dsimp only [Option.bind_some]
     rw [QfX hg hn hs hp (by omega), if_neg (by omega)]
     by_cases h5 : 65536 < (recs (l.take k)).length
     ·rw [if_pos h5, if_neg (fun h => by have := h.2.2.2.2.2.2.1; omega)]; rfl
     ·rw [if_neg h5]
      simp only [Option.bind_some, bne_self_eq_false, cond_false, Q2, Vf]
      by_cases h6 : ((Qp (recs (l.take k)) : Nat) : Int) = (k : Int)
      ·rw [decide_eq_true h6, Bool.not_true, cond_false]
       have hcmp := Qm2 (l := l) (a := frame g n (JY B) p (recs (l.take k))) 0 (by rw [Q2]; omega) (by omega)
       rw [Q2, h6] at hcmp
       rw [hcmp]
       have h6' : Qp (recs (l.take k)) = k := by omega
       rw [h6']
       by_cases h7 : frame g n (JY B) p (recs (l.take k)) = l.take k
       ·rw [if_pos h7, if_pos ⟨hne, by omega, by omega, h3, h4a, h4b, by omega, h7⟩]; rfl
       ·rw [if_neg h7, if_neg (fun h => h7 h.2.2.2.2.2.2.2)]; rfl
      ·rw [decide_eq_false h6, if_neg (fun h => h6 (by
        have := congrArg List.length h.2.2.2.2.2.2.2
        rw [Q2, hkl] at this
        omega))]; rfl
    ·rw [if_neg h3, if_neg (fun h => h3 h.2.2.2.1)]; rfl
theorem Qmk (d : List Int) : JC mx d = some (if okD d then 0 else 20) := Qdk d
theorem Qi9 (d : List Int) (f m : Int) : J7 mx (d, f, m) = some (if okD d then (if VH d f m then 0 else 2) else 20) := by
 simp only [J7, Qmk, Option.bind_some]
 by_cases hd : okD d
 ·rw [if_pos hd, if_pos hd]
  have hN := hd.2.1
  have e : IntKind.i64.wrap ((d.length : Int).tdiv 64) = ((d.length / 64 : Nat) : Int) := by
   rw [show (d.length : Int).tdiv (64 : Int) = ((d.length / 64 : Nat) : Int) from VZ _ 64, w64 (by omega) (by omega)]
  simp only [bne_self_eq_false, cond_false, JJ, Option.bind_some, e]
  by_cases h1 : f < 0
  ·rw [decide_eq_true h1, if_neg (by unfold VH; omega)]; rfl
  ·rw [decide_eq_false h1]
   by_cases h2 : m < 0
   ·rw [decide_eq_true h2, if_neg (by unfold VH; omega)]; rfl
   ·rw [decide_eq_false h2]
    by_cases h3 : ((d.length / 64 : Nat) : Int) < f
    ·rw [decide_eq_true h3, if_neg (by unfold VH; omega)]; rfl
    ·rw [decide_eq_false h3, w64 (n := ((d.length / 64 : Nat) : Int) - f) (by omega) (by omega)]
     by_cases h4 : ((d.length / 64 : Nat) : Int) - f < m
     ·rw [decide_eq_true h4, if_neg (by unfold VH; omega)]; rfl
     ·rw [decide_eq_false h4, if_pos (by unfold VH; omega)]; rfl
 ·rw [if_neg hd, if_neg hd]; rfl
theorem Qhi {d : List Int} (hd : okD d) {f m : Int} (ha : VH d f m) : ZL mx (d, f, m) = some (blks d f.toNat m.toNat) := by
 obtain ⟨a1, a2, a3, a4⟩ := ha
 have hN := hd.2.1
 obtain ⟨a, rfl⟩ := Int.eq_ofNat_of_zero_le a1
 obtain ⟨b, rfl⟩ := Int.eq_ofNat_of_zero_le a2
 have := QL (f := ZL.a mx d (a : Int) (b : Int)) (fun i => ((List.range i).map fun j => QB d (a + j), (i : Int))) b (r := blks d a b) (Z7 (by omega)) (fun i hi => by
  have e1 : IntKind.i64.wrap ((a : Int) + (i : Int)) = ((a + i : Nat) : Int) := by rw [w64 (by omega) (by omega)]; omega
  have hlt : a + i < d.length / 64 := by omega
  have hm := Nat.div_mul_le_self d.length 64
  have h2 : 64 * (a + i + 1) ≤ 64 * (d.length / 64) := Nat.mul_le_mul_left 64 hlt
  have e2 : Jt mx (d, ((a + i : Nat) : Int)) = some (QB d (a + i)) := by
   have w1 : IntKind.i64.wrap (((a + i : Nat) : Int) * 64) = ((a + i : Nat) : Int) * 64 := w64 (by omega) (by omega)
   have w2 : IntKind.i64.wrap (((a + i : Nat) : Int) * 64 + 64) = ((a + i : Nat) : Int) * 64 + 64 := w64 (by omega) (by omega)
   have d1 : decide ((0 : Int) ≤ ((a + i : Nat) : Int) * 64) = true := decide_eq_true (by omega)
   have d2 : decide (((a + i : Nat) : Int) * 64 ≤ ((a + i : Nat) : Int) * 64 + 64) = true := decide_eq_true (by omega)
   have d3 : decide (((a + i : Nat) : Int) * 64 + 64 ≤ (d.length : Int)) = true := decide_eq_true (by omega)
   have e3 : (d.take (((a + i : Nat) : Int) * 64 + 64).toNat).drop (((a + i : Nat) : Int) * 64).toNat = QB d (a + i) := by
    rw [show (((a + i : Nat) : Int) * 64 + 64).toNat = 64 * (a + i) + 64 by omega, show (((a + i : Nat) : Int) * 64).toNat = 64 * (a + i) by omega, List.drop_take, show 64 * (a + i) + 64 - 64 * (a + i) = 64 by omega]
    rfl
   have c1 : Nat.ble (QB d (a + i)).length 140737488351232 = true := ZQ (by rw [QaN hlt]; omega)
   simp only [Jt, w1, w2, d1, d2, d3, Int.le_refl, decide_true, Bool.and_self, cond_true, e3, c1]
  simp only [ZL.a, ltd hi, cond_true, e1, e2, Option.bind_some, List.length_map, List.length_range, List.length_singleton]
  rw [ZQ (show i + 1 ≤ 4294967296 by omega), Z8 (by omega), List.range_succ, List.map_append]
  rfl) (by simp only [ZL.a, nltd, cond_false]; rfl)
 have this : iter mx (ZL.a mx d (a : Int) (b : Int)) (([] : List (List Int)), (0 : Int)) = _ := this
 simp only [ZL, this, Option.bind_some, Int.toNat_natCast]
theorem Qk8 {g : Int} (hg : Z6 g) (gr : Int) : ∀ (F : Nat) (l : List Blk) (rs : List (List Int)) (bl : Nat) (la : Int) (n : Nat), Jk l → l.length < F → F ≤ n → Z6 la → rs.length + l.length ≤ 1000000 → bl + l.length ≤ 1000000 →
  QaG (QX.b mx g) n (l, rs, (bl : Int), la, gr) = some ((rd g F l rs bl la).1, (rd g F l rs bl la).2.1, (((rd g F l rs bl la).2.2.1 : Nat) : Int), (rd g F l rs bl la).2.2.2, gr)
 | 0, _, _, _, _, _, _, h, _, _, _, _ => by omega
 | F + 1, l, rs, bl, la, n, hl, hF, hn, hla, hrs, hbl => by
  obtain ⟨n, rfl⟩ : ∃ m, n = m + 1 := ⟨n - 1, by omega⟩
  have e1 : IntKind.u32.wrap (IntKind.i64.wrap ((rs.length : Int) + 1)) = ((rs.length + 1 : Nat) : Int) := by
   rw [w64 (by omega) (by omega), wu32 (by omega) (by omega)]; omega
  have ho := Qng (g := g) (n := ((rs.length + 1 : Nat) : Int)) (p := la) hg ⟨by omega, by omega⟩ hla hl (by omega)
  cases hop : opn g ((rs.length + 1 : Nat) : Int) la l with
  | none =>
   rw [hop] at ho
   have : QX.b mx g (l, rs, (bl : Int), la, gr) = some (.fin (l, rs, (bl : Int), la, gr)) := by
    simp only [QX.b, e1, ho, Option.bind_some]; rfl
   rw [Jr this]
   simp only [rd, hop]
  | some x =>
   obtain ⟨r, s, k⟩ := x
   rw [hop] at ho
   obtain ⟨h1, h2, h3, h4, h5, h6, h7, h8⟩ := (QdE hl).1 hop
   have hk := Qaj r
   have c1 : Nat.ble (rs.length + 1) 4294967296 = true := ZQ (by omega)
   have c2 : decide ((k : Int) ≤ (l.length : Int)) = true := decide_eq_true (by omega)
   have hlen : (l.drop k).length = l.length - k := List.length_drop
   have : QX.b mx g (l, rs, (bl : Int), la, gr) = some (.next (l.drop k, rs ++ [r], ((bl + k : Nat) : Int), s, gr)) := by
    simp only [QX.b, e1, ho, Option.bind_some, bne_self_eq_false, cond_false, List.length_singleton, c1, cond_true, lez, c2, Int.le_refl, decide_true, Bool.and_self, Int.toNat_natCast, List.take_length]
    rw [w64 (by omega) (by omega)]
    rfl
   rw [Jl this, Qk8 hg gr F (l.drop k) (rs ++ [r]) (bl + k) s n (fun b hb => hl b (List.mem_of_mem_drop hb)) (by omega) (by omega) h4 (by rw [List.length_append, List.length_singleton]; omega) (by omega)]
   simp only [rd, hop]
theorem num4 {b : Blk} (h : b.length = 64 ∧ QA b) : Zl mx ((b.take 4).drop 0) = some (QaI b) := QcG (Zf h.2 _) (by rw [List.drop_zero, List.length_take]; omega)
theorem Qq6 {b : Blk} (h : b.length = 64 ∧ QA b) : Zl mx ((b.take 12).drop 8) = some (JY b) := QcG (Z5 (Zf h.2 _) _) (by rw [List.length_drop, List.length_take]; omega)
theorem Qq5 {b : Blk} (h : b.length = 64 ∧ QA b) : Zl mx ((b.take 16).drop 12) = some (Qa1 b) := QcG (Z5 (Zf h.2 _) _) (by rw [List.length_drop, List.length_take]; omega)
theorem QoB {g : Int} {l : List Blk} (hl : Jk l) (hlen : l.length ≤ 1000000) (rs : List (List Int)) (bl la : Int) (x : List (List Int) × Int × Int × Int) :
  iter mx (QX.c mx g (l, x)) ((0 : Int), rs, bl, la, (0 : Int)) = some (rs, bl, la, grOf g l) := by
 refine Qak (f := QX.c mx g (l, x)) l [] (fun a b => if QaI b = g then mxI (mxI a (JY b)) (Qa1 b) else a) 0 (fun k s => ((k : Int), rs, bl, la, s)) (Z7 (by omega)) (fun k hk => ?_)
  (by simp only [QX.c, nltd, cond_false]; rfl)
 have hb := hl _ (Zt (d := []) hk)
 have c1 : decide ((4 : Int) ≤ ((l.getD k []).length : Int)) = true := decide_eq_true (by omega)
 have c2 : decide ((12 : Int) ≤ ((l.getD k []).length : Int)) = true := decide_eq_true (by omega)
 have c3 : decide ((16 : Int) ≤ ((l.getD k []).length : Int)) = true := decide_eq_true (by omega)
 simp only [QX.c, ltd hk, lez, Bool.and_self, cond_true, Int.toNat_natCast, c1, c2, c3, Int.le_refl, decide_true, num4 hb, Qq6 hb, Qq5 hb, Option.bind_some, ieq]
 rw [Z8 (by omega)]
 by_cases h : QaI (l.getD k []) = g
 ·rw [decide_eq_true h, if_pos h]; rfl
 ·rw [decide_eq_false h, if_neg h]; rfl
theorem Qoz {d : List Int} (hb : QA d) {g f m : Int} (hg : Z6 g) : QX mx (d, g, f, m) = some (Ql1 d g f m) := by
 simp only [QX, Qi9, Option.bind_some, Ql1, QX.a]
 by_cases hd : okD d
 ·rw [if_pos hd, if_pos hd]
  by_cases ha : VH d f m
  ·rw [if_pos ha, if_pos ha]
   simp only [beq_self_eq_true, cond_true, ieq]
   by_cases h0 : g = 0
   ·rw [decide_eq_true h0, if_pos h0]; rfl
   ·rw [decide_eq_false h0, if_neg h0]
    simp only [cond_false, Option.bind_some, bne_self_eq_false, Qhi hd ha]
    obtain ⟨a1, a2, a3, a4⟩ := ha
    have hN := hd.2.1
    have hok := QgC hb (f := f.toNat) (m := m.toNat) (by omega)
    have hlen : (blks d f.toNat m.toNat).length ≤ 4096 := by rw [Qbh]; omega
    generalize blks d f.toNat m.toNat = l at hok hlen
    have hN0 : (l.length + 1) ≤ N0 := by unfold N0; omega
    have h1 : iter mx (QX.b mx g) (l, ([] : List (List Int)), (0 : Int), (0 : Int), (0 : Int)) = _ := Qk8 hg 0 (l.length + 1) l [] 0 0 N0 hok (by omega) hN0 ⟨by decide, by decide⟩ (by simp; omega) (by omega)
    rw [h1]
    obtain ⟨P, l', rs', la', q1, q2, q3, q4, q5, q6⟩ := Qdm (g := g) (l.length + 1) l [] 0 0 hok (by omega)
    unfold Ve
    rw [q1]
    have hl' : Jk l' := fun b hb => hok b (by rw [q2]; simp [hb])
    have hl2 : l'.length ≤ 4096 := by rw [q2, List.length_append] at hlen; omega
    simp only [Option.bind_some, QoB hl' (by omega)]
  ·rw [if_neg ha, if_neg ha]; rfl
 ·rw [if_neg hd, if_neg hd]; rfl
theorem QmZ {d : List Int} (hb : QA d) {f m : Int} : Zw mx (d, f, m) = some (Qhv d f m) := by
 have main : ∀ (l : List Blk), Jk l → l.length ≤ 1000000 → iter mx (Zw.a mx l) ((0 : Int), (0 : Int)) = some (Qaf l) := fun l hl hlen => by
  refine Qak (f := Zw.a mx l) l [] (fun a b => mxI a (QaI b)) 0 (fun k s => (s, (k : Int))) (Z7 (by omega)) (fun k hk => ?_)
   (by simp only [Zw.a, nltd, cond_false]; rfl)
  have hb := hl _ (Zt (d := []) hk)
  have c1 : decide ((4 : Int) ≤ ((l.getD k []).length : Int)) = true := decide_eq_true (by omega)
  simp only [Zw.a, ltd hk, lez, Bool.and_self, cond_true, Int.toNat_natCast, Qas hk, c1, Int.le_refl, decide_true, num4 hb, Option.bind_some]
  rw [Z8 (by omega)]
 simp only [Zw, Qi9, Option.bind_some, Qhv]
 by_cases hd : okD d
 ·rw [if_pos hd, if_pos hd]
  by_cases ha : VH d f m
  ·rw [if_pos ha, if_pos ha]
   simp only [bne_self_eq_false, cond_false, Qhi hd ha, Option.bind_some]
   obtain ⟨a1, a2, a3, a4⟩ := ha
   have hN := hd.2.1
   rw [main _ (QgC hb (by omega)) (by rw [Qbh]; omega)]; rfl
  ·rw [if_neg ha, if_neg ha]; rfl
 ·rw [if_neg hd, if_neg hd]; rfl
theorem Qla {rs : List (List Int)} {bl la gr g : Int} {r : List Int} (hla : Z6 la) (hgr : Z6 gr) (hg : Z6 g) (hr : r.length ≤ 140737488351232) : JI mx (rs, bl, la, gr, g, r) = some (Qbu rs la gr g r) := by
 have hm : 0 ≤ mxI la gr ∧ mxI la gr ≤ 4294967295 := ⟨Int.le_trans hla.1 (Qbv _ _).1, QdG hla.2 hgr.2⟩
 simp only [JI, Qbu, ieq]
 by_cases h0 : g = 0
 ·rw [decide_eq_true h0, if_pos h0]; rfl
 ·rw [decide_eq_false h0, if_neg h0]
  by_cases h1 : 65536 < r.length
  ·rw [decide_eq_true (show (65536 : Int) < (r.length : Int) by omega), if_pos h1]; rfl
  ·rw [decide_eq_false (show ¬ (65536 : Int) < (r.length : Int) by omega), if_neg h1]
   by_cases h2 : 1048576 ≤ rs.length
   ·rw [decide_eq_true (show (1048576 : Int) ≤ (rs.length : Int) by omega), if_pos h2]; rfl
   ·rw [decide_eq_false (show ¬ (1048576 : Int) ≤ (rs.length : Int) by omega), if_neg h2]
    by_cases h3 : mxI la gr = 4294967295
    ·rw [decide_eq_true h3, if_pos h3]; rfl
    ·have e1 : IntKind.u32.wrap (mxI la gr + 1) = mxI la gr + 1 := wu32 (by omega) (by omega)
     have e2 : IntKind.u32.wrap (IntKind.i64.wrap ((rs.length : Int) + 1)) = ((rs.length + 1 : Nat) : Int) := by rw [w64 (by omega) (by omega), wu32 (by omega) (by omega)]; omega
     rw [if_neg h3, decide_eq_false h3, e1, e2]
     simp only [cond_false]
     rw [QfX hg ⟨by omega, by omega⟩ ⟨by omega, by omega⟩ hla hr, if_neg (by omega), if_neg h1]; rfl
end Go.Proofs.YtpfjjbpoikgocaaGreat
namespace Go.Proofs.YtpfjjbpoikgocaaGreat
open Go.Abs
set_option maxRecDepth 100000
open Classical in
def errO (d : List Int) : Int := if okD d then 230 else 20
theorem Qb4 (d : List Int) : errO d = 20 ∨ errO d = 230 := by unfold errO; split <;> simp
theorem Qd9 {R : Type} {d : List Int} (hb : QA d) (h : ¬ ∃ g a v, St d g a v) (E : Int → R) (K : Sto → Option R) : QeM d E K = some (E (errO d)) := by
 rcases Qf4 hb E K with ⟨g, a, v, h1, _⟩ | ⟨_, e, he, hk⟩
 ·exact absurd ⟨g, a, v, h1⟩ h
 ·rw [hk]; unfold errO
  rcases he with ⟨rfl, h2⟩ | ⟨rfl, h2⟩
  ·rw [if_neg h2]
  ·rw [if_pos h2]
theorem QcE {R : Type} {d : List Int} (hb : QA d) {g a : Int} {v : Img} (h : St d g a v) (E : Int → R) (K : Sto → Option R) :
  QeM d E K = K (d, g, a, ((ZR d : Nat) : Int), (logA d g a).1, (logA d g a).2.1, (logA d g a).2.2.1, (logA d g a).2.2.2, v) := by
 rcases Qf4 hb E K with ⟨g', a', v', h1, hk⟩ | ⟨hn, _⟩
 ·obtain ⟨rfl, rfl, rfl⟩ := St.uniq hb h h1; exact hk
 ·exact absurd ⟨g, a, v, h⟩ hn
theorem Qjy {n : Nat} (h : 1 ≤ n) (h2 : n ≤ 1000000) : Vj mx (n : Int) = some (((n - 1) / 2 : Nat) : Int) := Qkx h h2
theorem QeS {g a : Int} (hg : Z6 g) (ha : Qcv a) : JB mx (g, a) = some (Jv g a) := by
 have h4 := Qgq hg
 simp only [JT, Option.some.injEq, le4, List.cons.injEq] at h4
 obtain ⟨e0, e1, e2, e3, _⟩ := h4
 have e4 : IntKind.u8.wrap a = a := wu8 ha.1 ha.2
 simp only [JB, e0, e1, e2, e3, e4]
 rfl
theorem QfZ {l : List Blk} {f : Nat} (hl : l.length ≤ 1000000) (hf : f ≤ 1000000) : ZS mx (l, (f : Int)) = some (Ze l f) := by
 have := QL (f := ZS.a mx l (f : Int)) (fun i => ((Ze l f).take i, (i : Int))) l.length (r := Ze l f) (Z7 (by omega)) (fun i hi => by
  have e1 : IntKind.i64.wrap ((f : Int) + (i : Int)) = ((f + i : Nat) : Int) := by rw [w64 (by omega) (by omega)]; omega
  have hp := ZT l f
  have c1 : Nat.ble (((Ze l f).take i).length + 1) 4294967296 = true := ZQ (by rw [List.length_take]; omega)
  simp only [ZS.a, ltd hi, lez, Bool.and_self, cond_true, Int.toNat_natCast, e1, List.length_singleton, c1]
  rw [Z8 (by omega), QH (l := Ze l f) (by omega) (0, []), QbV hi])
  (by
   have : (Ze l f).take l.length = Ze l f := by rw [← ZT l f, List.take_length]
   simp only [ZS.a, nltd, cond_false, this])
 have this : iter mx (ZS.a mx l (f : Int)) (([] : List (Int × List Int)), (0 : Int)) = _ := this
 simp only [ZS, this, Option.bind_some]
theorem Qgp {d : List Int} (hd : d.length ≤ 262144) {a : Int} (ha : a = 0 ∨ a = 1) (x0 x1 : Int) (x3 : List (List Int)) (x4 x5 x6 : Int) (v : Img) :
  Zz mx (x0, x1, ((ZR d : Nat) : Int), x3, x4, x5, x6, v.1, v.2.1, v.2.2.1, v.2.2.2.1, v.2.2.2.2.1, v.2.2.2.2.2, a) = some ((ZG d a : Nat) : Int) := by
 have := Qim (d := d) hd ha
 simp only [Qh] at this
 simp only [Zz]
 exact this
theorem Qjg {xs : List (List Int)} (hx : ∀ r ∈ xs, QV r ∧ r.length ≤ 65536) (hl : xs.length ≤ 1000000) (bl la gr e0 : Int) :
  ∀ (rest : List (List Int)) (i : Nat) (v : Img) (fuel : Nat), xs.drop i = rest → i ≤ xs.length → okI v → rest.length < fuel →
  (∃ w, Recs v rest w ∧ QaG (Zg.a mx (xs, bl, la, gr, e0)) fuel ((i : Int), v) = some (.inr w)) ∨
  ((¬ ∃ w, Recs v rest w) ∧ QaG (Zg.a mx (xs, bl, la, gr, e0)) fuel ((i : Int), v) = some (.inl (230, 0, 0, 0, 0, 0, 0, 0, 0, 0, false)))
 | [], i, v, fuel, hd, hi, hv, hf => by
  obtain ⟨f, rfl⟩ : ∃ f, fuel = f + 1 := ⟨fuel - 1, by simp at hf; omega⟩
  have : i = xs.length := by
   have := congrArg List.length hd
   rw [List.length_drop] at this; simp at this; omega
  subst this
  exact .inl ⟨v, .nil v, Jr (by simp only [Zg.a, nltd, cond_false])⟩
 | r :: rest, i, v, fuel, hd, hi, hv, hf => by
  obtain ⟨f, rfl⟩ : ∃ f, fuel = f + 1 := ⟨fuel - 1, by simp at hf; omega⟩
  have hlt : i < xs.length := by
   have := congrArg List.length hd
   rw [List.length_drop] at this; simp at this; omega
  have hr : xs.getD i [] = r := by
   rw [getD_some hlt]
   have := List.drop_eq_getElem_cons hlt
   rw [hd] at this
   exact (List.cons.inj this).1.symm
  have hd' : xs.drop (i + 1) = rest := by
   have := List.drop_eq_getElem_cons hlt
   rw [hd] at this
   exact (List.cons.inj this).2.symm
  have hrb := hx _ (Zt (d := []) hlt)
  rw [hr] at hrb
  obtain ⟨y, h1, h2⟩ := QpE hrb.1 hrb.2
  have hap0 := fun hw => Qja (QbO hv) (cs := y.1) hw
  by_cases g1 : y.2 = 0
  case neg =>
   have hy : y = ([], 8) := h2.resolve_right fun h => g1 h.1
   have hap := hap0 (by rw [hy]; intro c hc; cases hc)
   refine .inr ⟨?_, Jr ?_⟩
   ·rintro ⟨w, hw⟩
    cases hw with
    | cons hc ha hw =>
     rw [Qqq hc hrb.1] at h1
     exact g1 (by rw [← Option.some.inj h1])
   ·simp only [Zg.a, ltd hlt, lez, Bool.and_self, cond_true, Int.toNat_natCast, hr, h1, Option.bind_some, Qas hlt, hap, bne_iff_ne.2 g1]
  have hI : IsCh r y.1 := by
   rcases h2 with h2 | ⟨_, h2⟩
   ·rw [h2] at g1; cases g1
   ·exact h2
  have hap := hap0 (fun c hc => (hI.2.2 c hc).1)
  cases hal : VU v y.1 with
  | inl er =>
   have hne : (Qac v y.1).2.2.2.2.2.2 ≠ 0 := fun h => by
    obtain ⟨_, _, w, hw⟩ := QbE.1 h
    rw [hal] at hw; cases hw
   refine .inr ⟨?_, Jr ?_⟩
   ·rintro ⟨w, hw⟩
    cases hw with
    | cons hc ha hw =>
     have := Qeg hrb.1 hc hI
     subst this
     rw [hal] at ha; cases ha
   ·simp only [Zg.a, ltd hlt, lez, Bool.and_self, cond_true, Int.toNat_natCast, hr, h1, Option.bind_some, Qas hlt, g1, bne_self_eq_false, cond_false, hap, bne_iff_ne.2 hne]
  | inr w =>
   rw [QhJ hv hI.1 hal] at hap
   have hst : Zg.a mx (xs, bl, la, gr, e0) ((i : Int), v) = some (.next (((i + 1 : Nat) : Int), w)) := by
    simp only [Zg.a, ltd hlt, lez, Bool.and_self, cond_true, Int.toNat_natCast, hr, h1, Option.bind_some, Qas hlt, g1, bne_self_eq_false, cond_false, hap, QdU]
    rw [Z8 (by omega)]
   rw [Jl hst]
   have hokw := Qes hv (VJ.1 hI.1).2.1 hal
   rcases Qjg hx hl bl la gr e0 rest (i + 1) w f hd' hlt hokw (by simp at hf; omega) with ⟨u, h3, h4⟩ | ⟨h3, h4⟩
   ·exact .inl ⟨u, .cons hI hal h3, h4⟩
   ·refine .inr ⟨?_, h4⟩
    rintro ⟨u, hu⟩
    cases hu with
    | cons hc ha hw =>
     have := Qeg hrb.1 hc hI
     subst this
     rw [hal] at ha; cases ha
     exact h3 ⟨u, hw⟩
theorem Qq4 {b : List Int} (hb : QA b) (hl : b.length = 64) : IntKind.u32.wrap ((IntKind.u32.wrap ((IntKind.u32.wrap ((IntKind.u32.wrap (b.getD 0 0)) + (IntKind.u32.wrap ((IntKind.u32.wrap (b.getD 1 0)) * (256 : Int))))) + (IntKind.u32.wrap ((IntKind.u32.wrap (b.getD 2 0)) * (65536 : Int))))) + (IntKind.u32.wrap ((IntKind.u32.wrap (b.getD 3 0)) * (16777216 : Int)))) = Vv (b.take 4) := by
 have e : b.take 4 = [b.getD 0 0, b.getD 1 0, b.getD 2 0, b.getD 3 0] := by
  rw [QH (l := b) (k := 3) (by omega) 0, QH (l := b) (k := 2) (by omega) 0, QH (l := b) (k := 1) (by omega) 0, QH (l := b) (k := 0) (by omega) 0]; rfl
 have h := QcG (b := b.take 4) (Zf hb 4) (by rw [List.length_take]; omega)
 rw [e] at h ⊢
 simp only [Zl, List.length_cons, List.length_nil, List.getD_cons_zero, List.getD_cons_succ] at h
 have c : ∀ k : Int, k < 4 → decide (k < (((0 + 1 + 1 + 1 + 1 : Nat)) : Int)) = true := fun k hk => decide_eq_true (by omega)
 simp only [c 0 (by decide), c 1 (by decide), c 2 (by decide), c 3 (by decide), cond_true] at h
 exact Option.some.inj h
theorem QcF {d : List Int} (hb : QA d) : (∀ g a v, St d g a v → Zg mx d = some (g, a, ((ZR d : Nat) : Int), (logA d g a).1, (logA d g a).2.1, (logA d g a).2.2.1, (logA d g a).2.2.2, v.1, v.2.1, v.2.2.1, v.2.2.2.1, v.2.2.2.2.1, v.2.2.2.2.2, 0)) ∧
  ((¬ ∃ g a v, St d g a v) → ∃ y, Zg mx d = some y ∧ y.2.2.2.2.2.2.2.2.2.2.2.2.2 = errO d) := by
 suffices hh : (∃ g a v, St d g a v ∧ Zg mx d = some (g, a, ((ZR d : Nat) : Int), (logA d g a).1, (logA d g a).2.1, (logA d g a).2.2.1, (logA d g a).2.2.2, v.1, v.2.1, v.2.2.1, v.2.2.2.1, v.2.2.2.2.1, v.2.2.2.2.2, 0)) ∨
   ((¬ ∃ g a v, St d g a v) ∧ ∃ y, Zg mx d = some y ∧ y.2.2.2.2.2.2.2.2.2.2.2.2.2 = errO d) by
  rcases hh with ⟨g, a, v, h, e⟩ | ⟨h, e⟩
  ·refine ⟨fun g' a' v' h' => ?_, fun hn => absurd ⟨g, a, v, h⟩ hn⟩
   obtain ⟨rfl, rfl, rfl⟩ := St.uniq hb h h'; exact e
  ·exact ⟨fun g a v h' => absurd ⟨g, a, v, h'⟩ h, fun _ => e⟩
 by_cases h1 : okD d
 case neg =>
  refine .inr ⟨fun ⟨g, a, v, h⟩ => h1 h.ok, _, by simp only [Zg, Qiw, if_neg h1, Option.bind_some]; rfl, ?_⟩
  unfold errO; rw [if_neg h1]
 have he : errO d = 230 := by unfold errO; rw [if_pos h1]
 rw [he]
 have hmn := Qpm (d := d) (by have := h1.2.1; omega)
 by_cases h2 : 3 ≤ d.length / 64
 case neg =>
  refine .inr ⟨fun ⟨g, a, v, h⟩ => h2 h.n3, _, by
   simp only [Zg, Qiw, if_pos h1, Option.bind_some, bne_self_eq_false, cond_false, hmn, decide_eq_true (show ((d.length / 64 : Nat) : Int) < 3 by omega), cond_true]; rfl, rfl⟩
 have hl := QaN (d := d) (n := 0) (by omega)
 have hbb : QA (QB d 0) := Zf (Z5 hb _) _
 have hrd : Jt mx (d, (0 : Int)) = some (QB d 0) := Qp8 (d := d) (n := 0) h1.2.1 (by omega)
 have hhf : Vj mx ((d.length / 64 : Nat) : Int) = some ((ZR d : Nat) : Int) := Qjy (by omega) (by have := h1.2.1; omega)
 have h4 := VK hbb 4
 have h5 : IntKind.i64.wrap ((QB d 0).getD 4 0) = (QB d 0).getD 4 0 := w64 (by have := h4.1; omega) (by have := h4.2; omega)
 have hnm := Qq4 hbb hl
 have hgu : Z6 (Vv ((QB d 0).take 4)) := JQ (Zf hbb 4) (by rw [List.length_take]; omega)
 have hfo := QeS hgu h4
 have hst : ∀ {g a v}, St d g a v → g = Vv ((QB d 0).take 4) ∧ a = (QB d 0).getD 4 0 := fun {g a v} h => by
  rw [h.b0]
  exact ⟨(QdJ h.gu).symm, rfl⟩
 have hc : ∀ k : Nat, k < 5 → decide ((k : Int) < ((QB d 0).length : Int)) = true ∧ Nat.blt k (QB d 0).length = true := fun k hk => ⟨decide_eq_true (by omega), Qas (by omega)⟩
 have c0 := hc 0 (by decide)
 have c1 := hc 1 (by decide)
 have c2 := hc 2 (by decide)
 have c3 := hc 3 (by decide)
 have c4 := hc 4 (by decide)
 simp only [Zg, Qiw, if_pos h1, Option.bind_some, bne_self_eq_false, cond_false, hmn, decide_eq_false (show ¬ ((d.length / 64 : Nat) : Int) < 3 by omega), hrd]
 simp only [show ((0 : Int) < ((QB d 0).length : Int)) = (((0 : Nat) : Int) < ((QB d 0).length : Int)) from rfl, show ((1 : Int) < ((QB d 0).length : Int)) = (((1 : Nat) : Int) < ((QB d 0).length : Int)) from rfl,
  show ((2 : Int) < ((QB d 0).length : Int)) = (((2 : Nat) : Int) < ((QB d 0).length : Int)) from rfl, show ((3 : Int) < ((QB d 0).length : Int)) = (((3 : Nat) : Int) < ((QB d 0).length : Int)) from rfl, show ((4 : Int) < ((QB d 0).length : Int)) = (((4 : Nat) : Int) < ((QB d 0).length : Int)) from rfl,
  c0.1, c0.2, c1.1, c1.2, c2.1, c2.2, c3.1, c3.2, c4.1, c4.2, cond_true, hnm, h5, hhf, Option.bind_some]
 generalize hg : Vv ((QB d 0).take 4) = g at hgu hfo hst
 generalize ha : (QB d 0).getD 4 0 = a at h4 hfo hst
 by_cases k1 : g = 0
 ·refine .inr ⟨fun ⟨g', a', v, h⟩ => h.g0 ((hst h).1.trans k1), _, by rw [ieq, decide_eq_true k1, cond_true], rfl⟩
 by_cases k2 : 1 < a
 ·refine .inr ⟨fun ⟨g', a', v, h⟩ => ?_, _, by rw [ieq, decide_eq_false k1, cond_false, decide_eq_true k2, cond_true], rfl⟩
  have := (hst h).2; have := h.ar; omega
 have k2' : a = 0 ∨ a = 1 := by have := h4.1; omega
 simp only [ieq, decide_eq_false k1, decide_eq_false k2, cond_false, hfo, Option.bind_some]
 by_cases k3 : Jv g a = QB d 0
 case neg =>
  have e3 : (Jv g a == QB d 0) = false := by simpa using k3
  refine .inr ⟨fun ⟨g', a', v, h⟩ => ?_, _, by rw [e3]; rfl, rfl⟩
  have e := h.b0
  rw [(hst h).1, (hst h).2] at e
  exact k3 e.symm
 have hfr := Qgp (d := d) h1.2.1 k2' g a [] 0 0 0 (0, [], [], 0, 0, false)
 dsimp only at hfr
 obtain ⟨ha1, ha2, _⟩ := QaO k2' h2
 have hA : VH d ((ZG d a : Nat) : Int) ((ZR d : Nat) : Int) := ⟨by omega, by omega, by omega, by omega⟩
 have hrr : QX mx (d, g, ((ZG d a : Nat) : Int), ((ZR d : Nat) : Int)) = some ((logA d g a).1, (logA d g a).2.1, (logA d g a).2.2.1, (logA d g a).2.2.2, 0) := by
  rw [Qoz hb hgu]
  unfold Ql1
  rw [if_pos h1, if_pos hA, if_neg k1]; rfl
 have hbt : ∀ r ∈ (logA d g a).1, QV r ∧ r.length ≤ 65536 := Qga (g := g) (Qap hb k2' h2)
 obtain ⟨_, _, _, hL, _⟩ := Qjk (g := g) (Qap hb k2' h2) (by rw [Qa4]; unfold ZR; have := h1.2.1; omega)
 have hL : (logA d g a).1.length ≤ 4096 := hL
 have hSt : ∀ w, Qbp (logA d g a).1 w → St d g a w := fun w hw => ⟨h1, h2, hgu, k1, k2', k3.symm, hw⟩
 have hno : (¬ ∃ w, Qbp (logA d g a).1 w) → ¬ ∃ g a v, St d g a v := fun hn ⟨g', a', v, h⟩ => hn ⟨v, by
  have := h.rc
  rwa [(hst h).1, (hst h).2] at this⟩
 simp only [k3, beq_self_eq_true, Bool.not_true, cond_false, hfr, hrr, Option.bind_some]
 generalize hLg : logA d g a = L at hbt hL hSt hno ⊢
 obtain ⟨Lr, Lb, Ll, Lg⟩ := L
 dsimp only at hbt hL hSt hno ⊢
 cases Lr with
 | nil => exact .inr ⟨hno fun ⟨w, r0, rest, v0, e, _⟩ => (by cases e), _, rfl, rfl⟩
 | cons r0 rest =>
  have hz : decide (((r0 :: rest).length : Int) = 0) = false := decide_eq_false (by rw [List.length_cons]; omega)
  have hlt : decide ((0 : Int) < ((r0 :: rest).length : Int)) = true := decide_eq_true (by rw [List.length_cons]; omega)
  have hbl : Nat.blt 0 (r0 :: rest).length = true := Qas (by simp)
  have hrb := hbt r0 (by simp)
  simp only [hz, cond_false, hlt, hbl, cond_true, List.getD_cons_zero]
  obtain ⟨y, hy, hyt⟩ := QoA hrb.1 hrb.2
  rw [hy]
  rcases hyt with rfl | ⟨v0, rfl, hw0, hwr⟩
  ·refine .inr ⟨hno ?_, _, rfl, rfl⟩
   rintro ⟨w, s0, rest', v0, e, h1, h2, h3⟩
   cases e
   have h := QpF h1 hrb.1 h2.2
   rw [hy] at h
   have := congrArg (fun z : Option (Int × List Int × List Kept × Int × Int × Bool × Int) => z.map (·.2.2.2.2.2.2)) h
   cases this
  ·simp only [Option.bind_some, QdU, decide_true, decide_eq_true, Bool.not_true, bne_self_eq_false, cond_false]
   rcases Qjg (xs := r0 :: rest) hbt (by omega) Lb Ll Lg 0 rest 1 v0 N0 rfl (by simp) (Qaw hwr).1 (Z7 (by simp at hL; omega)) with ⟨w, h3, h4⟩ | ⟨h3, h4⟩
   ·have h4 : iter mx (Zg.a mx (r0 :: rest, Lb, Ll, Lg, 0)) ((1 : Int), v0.1, v0.2.1, v0.2.2.1, v0.2.2.2.1, v0.2.2.2.2.1, v0.2.2.2.2.2) = _ := h4
    refine .inl ⟨g, a, w, hSt w ⟨r0, rest, v0, rfl, hwr, hw0, h3⟩, ?_⟩
    rw [h4, hLg]; rfl
   ·have h4 : iter mx (Zg.a mx (r0 :: rest, Lb, Ll, Lg, 0)) ((1 : Int), v0.1, v0.2.1, v0.2.2.1, v0.2.2.2.1, v0.2.2.2.2.1, v0.2.2.2.2.2) = _ := h4
    refine .inr ⟨hno ?_, _, by rw [h4]; rfl, rfl⟩
    rintro ⟨w, s0, rest', v0', e, k1, k2, k3⟩
    cases e
    have := QfJ hwr k1 hrb.1 hw0.2 k2.2
    subst this
    exact h3 ⟨w, k3⟩
theorem Qlj {g : Int} (hg : Z6 g) (hg0 : g ≠ 0) {b : List Int} (hl : b.length ≤ 65536) : JI mx (([] : List (List Int)), (0 : Int), (0 : Int), (0 : Int), g, b) = some (frame g 1 1 0 b, 0) := by
 rw [Qla ⟨by decide, by decide⟩ ⟨by decide, by decide⟩ hg (by omega)]
 unfold Qbu
 rw [if_neg hg0, if_neg (by omega), if_neg (by simp), if_neg (by decide)]; rfl
theorem QdP {d : List Int} (hb : QA d) {g a : Int} {v : Img} (h : St d g a v) {cs : List Chg} (hw : ∀ c ∈ cs, wfC c) : Jc mx (d, cs) = some (appS d g a v cs) := by
 have hap := Qja (QbO (QeH h.rc).1) hw
 have hch := Qce hw
 have hfr := Qgp (d := d) h.ok.2.1 h.ar g a (logA d g a).1 (logA d g a).2.1 (logA d g a).2.2.1 (logA d g a).2.2.2 v
 obtain ⟨B, e1, e2, e3, e4, e5⟩ := Qjk (g := g) (Qap hb h.ar h.n3) (by rw [Qa4]; unfold ZR; have := h.ok.2.1; omega)
 have e1 : (logA d g a).2.1 = (B : Int) := e1
 have e4 : Z6 (logA d g a).2.2.1 := e4
 have e5 : Z6 (logA d g a).2.2.2 := e5
 rw [Qa4] at e2
 have hh : ZR d ≤ 4096 := by unfold ZR; have := h.ok.2.1; omega
 obtain ⟨ha1, ha2, ha3⟩ := QaO h.ar h.n3
 have hdl := h.ok.2.1
 simp only [Jc, (QcF hb).1 g a v h, Option.bind_some, bne_self_eq_false, cond_false, hap]
 unfold appS
 by_cases g1 : (Qac v cs).2.2.2.2.2.2 = 0
 case neg => rw [if_pos g1, bne_iff_ne.2 g1]; rfl
 rw [if_neg (by omega), g1]
 obtain ⟨g2, g3, w, g4⟩ := QbE.1 g1
 rw [hch, if_pos g3, g3]
 have hcl := (VJ.1 g3).2.2
 simp only [Option.bind_some, bne_self_eq_false, cond_false]
 have hnx := Qla (rs := (logA d g a).1) (bl := (logA d g a).2.1) (r := Ji cs) e4 e5 h.gu (by omega)
 rw [hnx]
 generalize hN : Qbu (logA d g a).1 (logA d g a).2.2.1 (logA d g a).2.2.2 g (Ji cs) = N
 have hNl : N.1.length ≤ 1525 := by
  rw [← hN]
  unfold Qbu
  split
  ·simp
  split
  ·simp
  split
  ·simp
  split
  ·simp
  ·show (frame _ _ _ _ _).length ≤ _
   rw [Q2]; exact J4 hcl
 simp only [Option.bind_some]
 by_cases g5 : N.2 = 0
 case neg => rw [if_pos g5, bne_iff_ne.2 g5]; rfl
 rw [e1] at hfr
 rw [if_neg (by omega), g5, e1, w64 (n := ((ZR d : Nat) : Int) - (B : Int)) (by omega) (by omega)]
 by_cases g6 : ((ZR d : Nat) : Int) - (B : Int) < (N.1.length : Int)
 ·rw [if_pos g6, decide_eq_true g6]; rfl
 rw [if_neg g6, decide_eq_false g6]
 simp only [bne_self_eq_false, cond_false, hfr, Option.bind_some]
 rw [w64 (n := ((ZG d a : Nat) : Int) + (B : Int)) (by omega) (by omega), show ((ZG d a : Nat) : Int) + (B : Int) = ((ZG d a + B : Nat) : Int) by omega, QfZ (l := N.1) (f := ZG d a + B) (by omega) (by omega)]
 rfl
theorem QgI {d : List Int} (hb : QA d) (h : ¬ ∃ g a v, St d g a v) (cs : List Chg) : Jc mx (d, cs) = some ([], errO d) := by
 obtain ⟨y, h1, h2⟩ := (QcF hb).2 h
 have h3 : errO d ≠ 0 := by rcases Qb4 d with e | e <;> omega
 simp only [Jc, h1, Option.bind_some, h2, bne_iff_ne.2 h3, cond_true]
theorem Qns (rs : List (List Int)) (la gr g : Int) (r : List Int) : (Qbu rs la gr g r).1.length ≤ 1525 := by
 unfold Qbu
 split
 ·simp
 split
 ·simp
 split
 ·simp
 split
 ·simp
 ·show (frame _ _ _ _ _).length ≤ _
  rw [Q2]; exact J4 (by omega)
theorem QlL (d : List Int) (g a : Int) (v : Img) (cs : List Chg) : (appS d g a v cs).1.length ≤ 1525 := by
 unfold appS
 split
 ·simp
 split
 ·simp
 split
 ·simp
 ·rw [ZT]; exact Qns _ _ _ _ _
theorem QhU (d : List Int) (g a : Int) (i : Img) : (swpS d g a i).1.length ≤ 1526 := by
 unfold swpS
 split
 ·simp
 split
 ·simp
 split
 ·simp
 ·rw [List.length_append, ZT, List.length_singleton, Q2]
  have := J4 (V6 i); omega
theorem QgH {d : List Int} (hb : QA d) {cs : List Chg} (hw : ∀ c ∈ cs, wfC c) : ∃ r, Qi mx (d, cs) = some r ∧ Jc mx (d, cs) = some r ∧ r.1.length ≤ 2000 := by
 by_cases h : ∃ g a v, St d g a v
 ·obtain ⟨g, a, v, h⟩ := h
  refine ⟨_, ?_, QdP hb h hw, Nat.le_trans (QlL _ _ _ _ _) (by decide)⟩
  rw [QjX, QcE hb h]
  have hs := Qhe hb h hw
  dsimp only at hs ⊢
  rw [hs]; rfl
 ·refine ⟨_, ?_, QgI hb h cs, Nat.zero_le _⟩
  rw [QjX, Qd9 hb h]
theorem Qp0 {d : List Int} (hb : QA d) (hok : okD d) (h3 : 3 ≤ d.length / 64) {a : Int} (ha : a = 0 ∨ a = 1) :
  Zw mx (d, ((ZG d a : Nat) : Int), ((ZR d : Nat) : Int)) = some (Qaf (QaJ d a), 0) := by
 rw [QmZ hb]
 obtain ⟨h1, h2, _⟩ := QaO ha h3
 have hA : VH d ((ZG d a : Nat) : Int) ((ZR d : Nat) : Int) := ⟨by omega, by omega, by omega, by omega⟩
 unfold Qhv
 rw [if_pos hok, if_pos hA]
 rfl
theorem QiP {d : List Int} (hb : QA d) {g a : Int} {v : Img} (h : St d g a v) {i : Img} (hi : ∀ k ∈ i.2.2.1, k.2.1.length ≤ 140737488351232 ∧ k.2.2.1.length ≤ 140737488351232) (hw : ∀ k ∈ i.2.2.1, wfK k) :
  JH mx (d, i.1, i.2.1, i.2.2.1, i.2.2.2.1, i.2.2.2.2.1, i.2.2.2.2.2) = some (swpS d g a i) := by
 have ho := Qfy h.ar
 have hw1 : IntKind.i64.wrap ((1 : Int) - a) = 1 - a := by have := h.ar; rw [w64 (by omega) (by omega)]
 have hfr := Qgp (d := d) h.ok.2.1 ho g a (logA d g a).1 (logA d g a).2.1 (logA d g a).2.2.1 (logA d g a).2.2.2 v
 have hgr := Qp0 hb h.ok h.n3 ho
 have hwr := Qd1 hi hw
 have hwr : QT mx (i.1, i.2.1, i.2.2.1, i.2.2.2.1, i.2.2.2.2.1, i.2.2.2.2.2) = some (Q6 i) := hwr
 have hfi := QeS (Qgn d g a) (a := 1 - a) (by rcases ho with e | e <;> rw [e] <;> exact ⟨by decide, by decide⟩)
 obtain ⟨ha1, ha2, ha3⟩ := QaO ho h.n3
 have hdl := h.ok.2.1
 have hgb := Qgn d g a
 have hnx := fun h0 => Qlj hgb h0 (b := (Q6 i).1) (V6 i)
 have hmx : genS d g a = 0 ↔ mxI (Qaf (QaJ d (1 - a))) g = 4294967295 := by
  have h1 := Qjz (Qap hb ho h.n3)
  have h2 := h.gu
  unfold Z6 at h1 h2
  have h3 : 0 ≤ mxI (Qaf (QaJ d (1 - a))) g ∧ mxI (Qaf (QaJ d (1 - a))) g ≤ 4294967295 := by unfold mxI; split <;> omega
  unfold genS
  generalize mxI (Qaf (QaJ d (1 - a))) g = x at h3
  by_cases hx : x = 4294967295
  ·subst hx; exact ⟨fun _ => rfl, fun _ => rfl⟩
  ·rw [wu32 (by omega) (by omega)]; omega
 simp only [JH, (QcF hb).1 g a v h, Option.bind_some, bne_self_eq_false, cond_false, hwr]
 unfold swpS
 by_cases g1 : (Q6 i).2 = 0
 case neg => rw [if_pos g1]; simp only [bne_iff_ne.2 g1, cond_true]
 rw [if_neg (show ¬ (Q6 i).2 ≠ 0 by omega)]
 simp only [g1, bne_self_eq_false, cond_false, hw1, hfr, hgr, Option.bind_some, ieq]
 by_cases g2 : genS d g a = 0
 ·rw [if_pos g2, decide_eq_true (hmx.1 g2)]; rfl
 rw [if_neg g2, decide_eq_false (fun hh => g2 (hmx.2 hh)), show IntKind.u32.wrap (mxI (Qaf (QaJ d (1 - a))) g + 1) = genS d g a from rfl]
 simp only [cond_false, hnx g2, Option.bind_some]
 by_cases g3 : ((ZR d : Nat) : Int) < ((frame (genS d g a) 1 1 0 (Q6 i).1).length : Int)
 ·rw [if_pos g3, decide_eq_true g3]; rfl
 rw [if_neg g3, decide_eq_false g3]
 have hfl : (frame (genS d g a) 1 1 0 (Q6 i).1).length ≤ 1525 := by rw [Q2]; exact J4 (V6 i)
 have c1 : Nat.ble ((Ze (frame (genS d g a) 1 1 0 (Q6 i).1) (ZG d (1 - a))).length + 1) 4294967296 = true := ZQ (by rw [ZT]; omega)
 simp only [cond_false, QfZ (l := frame (genS d g a) 1 1 0 (Q6 i).1) (f := ZG d (1 - a)) (by omega) (by omega), hfi, List.length_singleton, c1, cond_true, Option.bind_some]
theorem QmK {d : List Int} (hb : QA d) (h : ¬ ∃ g a v, St d g a v) (i : Img) : JH mx (d, i.1, i.2.1, i.2.2.1, i.2.2.2.1, i.2.2.2.2.1, i.2.2.2.2.2) = some ([], errO d) := by
 obtain ⟨y, h1, h2⟩ := (QcF hb).2 h
 have h3 : errO d ≠ 0 := by rcases Qb4 d with e | e <;> omega
 simp only [JH, h1, Option.bind_some, h2, bne_iff_ne.2 h3, cond_true]
theorem QmJ {d : List Int} (hb : QA d) {i : Img} (hi : ∀ k ∈ i.2.2.1, k.2.1.length ≤ 140737488351232 ∧ k.2.2.1.length ≤ 140737488351232) (hw : ∀ k ∈ i.2.2.1, wfK k) : ∃ r, ZI mx (d, i) = some r ∧ JH mx (d, i.1, i.2.1, i.2.2.1, i.2.2.2.1, i.2.2.2.2.1, i.2.2.2.2.2) = some r ∧ r.1.length ≤ 2000 := by
 by_cases h : ∃ g a v, St d g a v
 ·obtain ⟨g, a, v, h⟩ := h
  refine ⟨_, ?_, QiP hb h hi hw, Nat.le_trans (QhU _ _ _ _) (by decide)⟩
  rw [QmI, QcE hb h]
  have hs := QhV hb h hi hw ((logA d g a).1, (logA d g a).2.1, (logA d g a).2.2.1, (logA d g a).2.2.2, v)
  dsimp only at hs ⊢
  rw [hs]; rfl
 ·refine ⟨_, ?_, QmK hb h i, Nat.zero_le _⟩
  rw [QmI, Qd9 hb h]
theorem Qfg {d : List Int} (hb : QA d) {g a : Int} {v : Img} (h : St d g a v) : Z9 mx d = some (swpS d g a v) := by
 have := QiP hb h (QbO h.okv.1) h.okv.2.2
 simp only [Z9, (QcF hb).1 g a v h, Option.bind_some, bne_self_eq_false, cond_false, this]
theorem QjN {d : List Int} (hb : QA d) (h : ¬ ∃ g a v, St d g a v) : Z9 mx d = some ([], errO d) := by
 obtain ⟨y, h1, h2⟩ := (QcF hb).2 h
 have h3 : errO d ≠ 0 := by rcases Qb4 d with e | e <;> omega
 simp only [Z9, h1, Option.bind_some, h2, bne_iff_ne.2 h3, cond_true]
theorem QjM {d : List Int} (hb : QA d) : ∃ r, Q3 mx d = some r ∧ Z9 mx d = some r ∧ r.1.length ≤ 2000 := by
 by_cases h : ∃ g a v, St d g a v
 ·obtain ⟨g, a, v, h⟩ := h
  refine ⟨_, ?_, Qfg hb h, Nat.le_trans (QhU _ _ _ _) (by decide)⟩
  rw [QhD, QcE hb h]
  have hs := QhV hb h (QbO h.okv.1) h.okv.2.2 ((logA d g a).1, (logA d g a).2.1, (logA d g a).2.2.1, (logA d g a).2.2.2, v)
  dsimp only at hs ⊢
  rw [hs]; rfl
 ·refine ⟨_, ?_, QjN hb h, Nat.zero_le _⟩
  rw [QhD, Qd9 hb h]
theorem Qnf {d : List Int} (hb : QA d) : ∃ r, Qn mx d = some r ∧ V3 mx d = some r ∧ r.2.1.length ≤ 1000 ∧ r.2.2.1.length ≤ 2000 := by
 by_cases h : ∃ g a v, St d g a v
 ·obtain ⟨g, a, v, h⟩ := h
  have hok := h.okv.1
  refine ⟨(v.1, v.2.1, v.2.2.1, v.2.2.2.1, v.2.2.2.2.1, v.2.2.2.2.2, IntKind.i64.wrap (((logA d g a).1.length : Int) - 1), 0), ?_, ?_, ?_, ?_⟩
  ·rw [Qne, QcE hb h]
  ·simp only [V3, (QcF hb).1 g a v h, Option.bind_some, bne_self_eq_false, cond_false]
  ·have := hok.2.1.2.1; dsimp only; omega
  ·have := hok.2.2.1; dsimp only; omega
 ·obtain ⟨y, h1, h2⟩ := (QcF hb).2 h
  have h3 : errO d ≠ 0 := by rcases Qb4 d with e | e <;> omega
  refine ⟨((0 : Int), ([] : List Int), ([] : List Kept), (0 : Int), (0 : Int), false, (0 : Int), errO d), ?_, ?_, Nat.zero_le _, Nat.zero_le _⟩
  ·rw [Qne, Qd9 hb h]
  ·simp only [V3, h1, Option.bind_some, h2, bne_iff_ne.2 h3, cond_true]
theorem QnB {d : List Int} (hb : QA d) {cs : List Chg} (hw : ∀ c ∈ cs, wfC c ∧ Qb7 c) : ∃ r, ZJ mx (d, cs) = some r ∧ V4 mx (d, cs) = some r ∧ r.1.length ≤ 5000 ∧ ∀ p ∈ r.1, p.2.length = 64 := by
 have none : ∀ p ∈ ([] : List Put), p.2.length = 64 := fun p hp => by cases hp
 by_cases h : ∃ g a v, St d g a v
 case neg =>
  refine ⟨(([] : List Put), errO d), ?_, ?_, Nat.zero_le _, none⟩
  ·rw [QnA, Qd9 hb h]
  ·have h9 : errO d ≠ 9 := by rcases Qb4 d with e | e <;> omega
   simp only [V4, QgI hb h, Option.bind_some, bne_iff_ne.2 h9, cond_true]
 obtain ⟨g, a, v, h⟩ := h
 rw [QnA, QcE hb h]
 have ha := Qhe hb h (cs := cs) (fun c hc => (hw c hc).1)
 have hs := QhV hb h (QbO h.okv.1) h.okv.2.2 ((logA d g a).1, (logA d g a).2.1, (logA d g a).2.2.1, (logA d g a).2.2.2, v)
 dsimp only at ha hs ⊢
 simp only [ha, Option.bind_some, hs, V4, QdP hb h (fun c hc => (hw c hc).1), Qfg hb h]
 by_cases g1 : (appS d g a v cs).2 = 9
 case neg =>
  rw [bne_iff_ne.2 g1]; simp only [cond_true]
  refine ⟨_, rfl, rfl, Nat.le_trans (QlL _ _ _ _ _) (by decide), fun p hp => ?_⟩
  by_cases g0 : (appS d g a v cs).2 = 0
  ·obtain ⟨hQ, _⟩ := QlK hb h hw (p := (appS d g a v cs).1) (Prod.ext rfl g0)
   exact (Qa0 (hQ.ok p hp)).2.2
  ·have : (appS d g a v cs).1 = [] := by
    unfold appS at g0 ⊢
    split
    ·rfl
    split
    ·rfl
    split
    ·rfl
    ·rename_i h1 h2 h3; rw [if_neg h1, if_neg h2, if_neg h3] at g0; exact absurd rfl g0
   rw [this] at hp; cases hp
 simp only [g1, bne_self_eq_false, cond_false]
 by_cases g2 : (swpS d g a v).2 = 0
 case neg => rw [bne_iff_ne.2 g2]; simp only [cond_true]; exact ⟨_, rfl, rfl, Nat.zero_le _, none⟩
 obtain ⟨p, hp⟩ : ∃ p, swpS d g a v = (p, 0) := ⟨_, Prod.ext rfl g2⟩
 obtain ⟨hP, hp1, _, _, hSt, _⟩ := Qot hb h h.okv.2 hp
 have hdo := QqJ h.ok hP.ok (by have := hP.len; omega) (Nat.le_refl p.length)
 have hdr : QD mx (d, p, (p.length : Int)) = some (wr d (p.take p.length), 0) := by
  rw [do02 (by have := h.ok.2.1; omega) (by have := hP.len; omega)]
  rw [QkF (by have := hP.len; omega)] at hdo
  exact hdo
 have hpw := hP.wr hb p.length
 rw [List.take_length] at hdo hpw hdr
 rw [hp]
 simp only [bne_self_eq_false, cond_false, hdo, hdr, Option.bind_some]
 obtain ⟨r, h1, h2, h2l⟩ := QgH hpw.1 (cs := cs) (fun c hc => (hw c hc).1)
 simp only [h1, h2, Option.bind_some]
 by_cases g3 : r.2 = 0
 case neg => rw [bne_iff_ne.2 g3]; simp only [cond_true]; exact ⟨_, rfl, rfl, Nat.zero_le _, none⟩
 simp only [g3, bne_self_eq_false, cond_false]
 obtain ⟨q, hq⟩ : ∃ q, r = (q, 0) := ⟨_, Prod.ext rfl g3⟩
 have hr : r = appS (wr d p) (genS d g a) (1 - a) v cs := by
  have := QdP hpw.1 hSt (cs := cs) (fun c hc => (hw c hc).1)
  rw [h2] at this; exact Option.some.inj this
 obtain ⟨hQ, _⟩ := QlK hpw.1 hSt hw (hr.symm.trans hq)
 have c1 : Nat.ble (p.length + r.1.length) 4294967296 = true := ZQ (by rw [hq]; have := hP.len; have := hQ.len; dsimp only; omega)
 have hpl := QhU d g a v
 rw [hp] at hpl
 dsimp only at hpl
 simp only [c1, cond_true]
 refine ⟨_, rfl, rfl, by dsimp only; rw [List.length_append]; omega, fun x hx => ?_⟩
 rcases List.mem_append.1 hx with hx | hx
 ·exact (Qa0 (hP.ok x hx)).2.2
 ·rw [hq] at hx; exact (Qa0 (hQ.ok x hx)).2.2
theorem QkB {i : Img} (hwi : wfIm i) (n : Int) :
  ∃ r, Js mx (n, i.1, i.2.1, i.2.2.1, i.2.2.2.1, i.2.2.2.2.1, i.2.2.2.2.2) = some r ∧ JS mx (n, i.1, i.2.1, i.2.2.1, i.2.2.2.1, i.2.2.2.2.1, i.2.2.2.2.2) = some r := by
 have hi : ∀ k ∈ i.2.2.1, k.2.1.length ≤ 140737488351232 ∧ k.2.2.1.length ≤ 140737488351232 := fun k hk => (hwi.1 k hk).1
 have hw := hwi.2
 have hnd := Qlk n
 have hnr := Qq7 n
 by_cases h1 : 1 ≤ n ∧ n ≤ 4096
 case neg =>
  rw [if_neg h1] at hnd hnr
  simp only [Js, JS, hnd, hnr, Option.bind_some]; exact ⟨_, rfl, rfl⟩
 rw [if_pos h1] at hnd hnr
 by_cases h3 : n < 3
 ·simp only [Js, JS, hnd, hnr, Option.bind_some, bne_self_eq_false, cond_false, decide_eq_true h3, cond_true]; exact ⟨_, rfl, rfl⟩
 obtain ⟨k, rfl⟩ := Int.eq_ofNat_of_zero_le (show 0 ≤ n by omega)
 have hhf := Qkx (n := k) (by omega) (by omega)
 have hh2 := Qjy (n := k) (by omega) (by omega)
 have hrec := Qi5 hi hw (g := 1) ⟨by decide, by decide⟩ (((k - 1) / 2 : Nat) : Int)
 have hfi := Qio (g := 1) (a := 0) ⟨by decide, by decide⟩ ⟨by decide, by decide⟩
 have hf2 := QeS (g := 1) (a := 0) ⟨by decide, by decide⟩ ⟨by decide, by decide⟩
 have hwr := Qd1 hi hw
 have hwr : QT mx (i.1, i.2.1, i.2.2.1, i.2.2.2.1, i.2.2.2.2.1, i.2.2.2.2.2) = some (Q6 i) := hwr
 have hnx := Qlj (g := 1) ⟨by decide, by decide⟩ (by decide) (b := (Q6 i).1) (V6 i)
 simp only [Js, JS, hnd, hnr, Option.bind_some, bne_self_eq_false, cond_false, decide_eq_false h3, hhf, hh2, hrec, hwr, hnx]
 by_cases g1 : (Q6 i).2 = 0
 case neg =>
  rw [if_pos g1]
  simp only [bne_iff_ne.2 g1, cond_true]; exact ⟨_, rfl, rfl⟩
 rw [if_neg (show ¬ (Q6 i).2 ≠ 0 by omega), if_neg (show ¬ (1 : Int) = 0 by decide)]
 simp only [g1, bne_self_eq_false, cond_false]
 by_cases g3 : (((k - 1) / 2 : Nat) : Int) < ((frame 1 1 1 0 (Q6 i).1).length : Int)
 ·rw [if_pos g3, decide_eq_true g3]; exact ⟨_, rfl, rfl⟩
 rw [if_neg g3, decide_eq_false g3]
 have hfl : (frame 1 1 1 0 (Q6 i).1).length ≤ 1525 := by rw [Q2]; exact J4 (V6 i)
 have hpt := Qh1 (l := frame 1 1 1 0 (Q6 i).1) (f := 1) [(0, Jv 1 0)] (by omega) (by simp) (by decide)
 have hpt : Zy mx (frame 1 1 1 0 (Q6 i).1, (1 : Int), [(0, Jv 1 0)]) = _ := hpt
 have hp2 := QfZ (l := frame 1 1 1 0 (Q6 i).1) (f := 1) (by omega) (by decide)
 have hp2 : ZS mx (frame 1 1 1 0 (Q6 i).1, (1 : Int)) = _ := hp2
 have c1 : Nat.ble ((Ze (frame 1 1 1 0 (Q6 i).1) 1).length + 1) 4294967296 = true := ZQ (by rw [ZT]; omega)
 have hz : (((k : Int) * 64)).toNat = k * 64 := by omega
 have hwr0 : Q6 i = ((Q6 i).1, 0) := Prod.ext rfl g1
 have hzl : (List.replicate (k * 64) (0 : Int)).length = k * 64 := List.length_replicate
 have hdv : (List.replicate (k * 64) (0 : Int)).length / 64 = k := by rw [hzl]; omega
 have hok : okD (List.replicate (k * 64) (0 : Int)) := by unfold okD; omega
 have hzb : QA (List.replicate (k * 64) (0 : Int)) := fun x hx => by rw [(List.mem_replicate.1 hx).2]; exact ⟨by decide, by decide⟩
 have hhn : ZR (List.replicate (k * 64) (0 : Int)) = (k - 1) / 2 := by unfold ZR; rw [hdv]
 have haf : ZG (List.replicate (k * 64) (0 : Int)) 0 = 1 := by unfold ZG; rw [show (0 : Int).toNat = 0 from rfl, Nat.zero_mul]
 obtain ⟨hP, hS⟩ := Qp2 hok (by omega) hzb (o := 0) (.inl rfl) (G := 1) ⟨by decide, by decide⟩ (by decide) hwr0 hwi (by rw [hhn]; omega) (fun x hx => by
  obtain ⟨j, hj, rfl⟩ := List.mem_map.1 hx
  have hj := List.mem_range.1 hj
  rw [haf]; rw [hhn] at hj
  have : QB (List.replicate (k * 64) (0 : Int)) (1 + j) = List.replicate 64 0 := by
   unfold QB
   rw [List.drop_replicate, List.take_replicate, Nat.min_eq_left (by omega)]
  rw [this]; decide)
 rw [haf] at hP
 have hpl := hP.len
 have hdo := QqJ hok hP.ok (by omega) (Nat.le_refl _)
 have hdr := hdo
 rw [QkF (by omega), ← do02 (by omega) (by omega)] at hdr
 simp only [bne_self_eq_false, cond_false, hfi, hf2, Option.bind_some, hpt, hp2, List.length_singleton, c1, cond_true, hz, hdo, hdr]
 exact ⟨_, rfl, rfl⟩
end Go.Proofs.YtpfjjbpoikgocaaGreat
namespace Go.Proofs.YtpfjjbpoikgocaaGreat
open Go.Abs
set_option maxRecDepth 100000
def inN (x : Int) : Prop := 0 ≤ x ∧ x ≤ 2147483647
instance (x : Int) : Decidable (inN x) := by unfold inN; infer_instance
end Go.Proofs.YtpfjjbpoikgocaaGreat
namespace Go.Proofs.YtpfjjbpoikgocaaGreat
open Go.Abs
set_option maxRecDepth 100000
end Go.Proofs.YtpfjjbpoikgocaaGreat
namespace Go.Proofs.YtpfjjbpoikgocaaGreat
open Go.Abs
set_option maxRecDepth 100000
theorem QmQ {v : Img} (h1 : v.2.1.length ≤ 1000000000000000000) (h2 : v.2.2.1.length ≤ 1000000000000000000) : QS mx (v.1, v.2.1, v.2.2.1, v.2.2.2.1, v.2.2.2.2.1, v.2.2.2.2.2, v) = some true := by
 rw [Qoy h1 h2, decide_eq_true rfl]
theorem QlW {v : Img} (h1 : v.2.1.length ≤ 4294967296) (h2 : v.2.2.1.length ≤ 4294967296) : Ja mx v = some v := by
 obtain ⟨t, q, l, ie, inn, ib⟩ := v
 dsimp only at h1 h2
 simp only [Ja, ZQ h1, ZQ h2, cond_true]
end Go.Proofs.YtpfjjbpoikgocaaGreat
namespace Go.Proofs.YtpfjjbpoikgocaaGreat.reopenKeeps
open Go.Abs
set_option maxRecDepth 100000
theorem QqG {d : List Int} {v : Img} (hl : v.2.2.1.length ≤ 140737488351232) {cs : List Chg} (hc : cs.length ≤ 140737488351232) : ∃ b, Qab mx (d, v.1, v.2.1, v.2.2.1, v.2.2.2.1, v.2.2.2.2.1, v.2.2.2.2.2, cs) = some b ∧ (b = false → v.2.2.1.length ≤ 200 ∧ v.2.1.length ≤ 40) := by
 obtain ⟨b1, e1, f1⟩ := Qme v (by omega)
 obtain ⟨b2, e2, _⟩ := Qmc cs (by omega)
 have e1 : Zh mx (v.1, v.2.1, v.2.2.1, v.2.2.2.1, v.2.2.2.2.1, v.2.2.2.2.2) = some b1 := e1
 simp only [Qab, e1, e2, Option.bind_some]
 cases decide ((40000 : Int) < (d.length : Int)) with
 | true => exact ⟨true, rfl, fun h => by cases h⟩
 | false =>
 cases b1 with
 | true => exact ⟨true, rfl, fun h => by cases h⟩
 | false =>
 by_cases h1 : 200 < v.2.2.1.length
 ·rw [decide_eq_true (show (200 : Int) < (v.2.2.1.length : Int) by omega)]
  exact ⟨true, rfl, fun h => by cases h⟩
 ·rw [decide_eq_false (show ¬ (200 : Int) < (v.2.2.1.length : Int) by omega)]
  cases b2 with
  | true => exact ⟨true, rfl, fun h => by cases h⟩
  | false => exact ⟨_, rfl, fun _ => ⟨by omega, (f1 rfl).1⟩⟩
theorem QqU (x : List (Int × List Int) × Int) (h1 : x.1.length ≤ 5000) (h2 : ∀ p ∈ x.1, p.2.length = 64) : iter mx (Qe.c mx x) (0 : Int) = some () := by
  have e4 : ∀ k, k < x.1.length → iter mx (Qe.b mx x (k : Int)) (0 : Int) = some () := fun k hk => by
    have hbk := h2 _ (Zt (d := (0, [])) hk)
    exact Qak (f := Qe.b mx x (k : Int)) (x.1.getD k (0, [])).2 0 (fun (s : Unit) _ => s) () (fun k _ => (k : Int)) (r := ()) (Z7 (by omega)) (fun j hj => by
        simp only [Qe.b, ltd hk, lez, Bool.and_self, cond_true, Int.toNat_natCast, Qas hk, ltd hj]
        rw [Z8 (by omega)])
        (by simp only [Qe.b, ltd hk, lez, Bool.and_self, cond_true, Int.toNat_natCast, Qas hk, nltd, cond_false])
  exact Qak (f := Qe.c mx x) x.1 (0, []) (fun (s : Unit) _ => s) () (fun k _ => (k : Int)) (r := ()) (Z7 (by omega)) (fun j hj => by
        simp only [Qe.c, ltd hj, cond_true, e4 j hj, Option.bind_some]
        rw [Z8 (by omega)])
        (by simp only [Qe.c, nltd, cond_false])
theorem QqT (l : List Kept) (hl : l.length ≤ 2000) : iter mx (Qe.d mx) ((0 : Int), l) = some () := by
 obtain ⟨r, hr, _⟩ := V9 (f := Qe.d mx) (fun s => ∃ k : Nat, s.1 = (k : Int) ∧ k ≤ l.length ∧ s.2.length = l.length) (fun s => l.length - s.1.toNat) (fun _ => True) ((0 : Int), l) ⟨0, rfl, Nat.zero_le _, rfl⟩ (by
  simp only [Int.toNat_zero, Nat.sub_zero]; exact Z7 (by omega)) (fun s ⟨k, e, hk, hs⟩ => by
  obtain ⟨i, s⟩ := s
  dsimp only at e hs
  subst e
  by_cases h1 : k < l.length
  ·left
   refine ⟨_, by simp only [Qe.d, ltd (show k < s.length by omega), lez, Bool.and_self, cond_true, Int.toNat_natCast, Qas (show k < s.length by omega)]; rfl, ⟨k + 1, by dsimp only; rw [Z8 (by omega)], by omega, by simp [hs]⟩, by dsimp only; rw [Z8 (by omega)]; omega⟩
  ·right
   have : k = s.length := by omega
   subst this
   exact ⟨(), by simp only [Qe.d, nltd, cond_false], trivial⟩)
 exact hr
theorem main (n : Int) {d : List Int} (hdl : d.length ≤ 140737488351232) (hb : QA d) {v : Img} (hv : wfIm v) (hvl : v.2.2.1.length ≤ 140737488351232) {cs : List Chg} (hcl : cs.length ≤ 140737488351232) (hw : ∀ c ∈ cs, wfC c ∧ Qb7 c) :
  Qe mx (n, d, v.1, v.2.1, v.2.2.1, v.2.2.2.1, v.2.2.2.2.1, v.2.2.2.2.2, cs) = some true := by
 obtain ⟨b, e1, e2⟩ := QqG (d := d) hvl hcl
 simp only [Qe, Qe.a, e1, Option.bind_some]
 cases b with
 | true => rfl
 | false =>
 obtain ⟨k1, k2⟩ := e2 rfl
 simp only [cond_false]
 have hrest : ∀ x, x = Sum.inr () → (some (x : Bool ⊕ Unit)) = some (.inr ()) := fun x h => by rw [h]
 by_cases h6 : 600 < n ∧ n ≤ 4096
 ·rw [decide_eq_true h6.1, decide_eq_true h6.2]; rfl
 have hs6 : (bif decide ((600 : Int) < n) then bif decide (n ≤ 4096) then some (Sum.inl true : Bool ⊕ Unit) else some (Sum.inr ()) else some (Sum.inr ())) = some (Sum.inr ()) := by
  by_cases h7 : 600 < n
  ·rw [decide_eq_true h7, decide_eq_false (show ¬ n ≤ 4096 by omega)]; rfl
  ·rw [decide_eq_false h7]; rfl
 rw [hs6]
 simp only [Option.bind_some]
 have hi : ∀ k ∈ v.2.2.1, k.2.1.length ≤ 140737488351232 ∧ k.2.2.1.length ≤ 140737488351232 := fun k hk => (hv.1 k hk).1
 have t1 := Qpj hdl
 have t2 := QlW (v := v) (by omega) (by omega)
 have t2 : Ja mx (v.1, v.2.1, v.2.2.1, v.2.2.2.1, v.2.2.2.2.1, v.2.2.2.2.2) = some v := t2
 obtain ⟨r1, a1, b1⟩ := QkB hv n
 obtain ⟨r2, a2, b2, l2, m2⟩ := Qnf hb
 obtain ⟨r3, a3, b3, l3⟩ := QgH hb (cs := cs) (fun c hc => (hw c hc).1)
 obtain ⟨r4, a4, b4, l4⟩ := QmJ hb hi hv.2
 obtain ⟨r5, a5, b5, l5⟩ := QjM hb
 obtain ⟨r6, a6, b6, l6, m6⟩ := QnB hb hw
 have s2 := QmQ (v := (r2.1, r2.2.1, r2.2.2.1, r2.2.2.2.1, r2.2.2.2.2.1, r2.2.2.2.2.2.1)) (by dsimp only; omega) (by dsimp only; omega)
 have s3 := Qk4 (l := r3.1) (by omega)
 have s4 := Qk4 (l := r4.1) (by omega)
 have s5 := Qk4 (l := r5.1) (by omega)
 have s6 := Qk4 (l := r6.1) (by omega)
 have s7 := QmQ (v := v) (by omega) (by omega)
 have s7 : QS mx (v.1, v.2.1, v.2.2.1, v.2.2.2.1, v.2.2.2.2.1, v.2.2.2.2.2, v.1, v.2.1, v.2.2.1, v.2.2.2.1, v.2.2.2.2.1, v.2.2.2.2.2) = some true := s7
 have a1 : Js mx (n, v) = some r1 := a1
 dsimp only at s2
 simp only [t1, t2, a1, b1, a2, b2, a3, b3, a4, b4, a5, b5, a6, b6, Option.bind_some, beq_self_eq_true, bne_self_eq_false, Bool.not_true, cond_false, s2, s3, s4, s5, s6, s7, QqU r6 l6 m6, QqT r2.2.2.1 m2, cond_true]
theorem pure (q : (tupT (insL Qe.sig.pars)).den) (h : QmB Qe.sig.pars q) : Qe mx q = some true := by
 obtain ⟨n, d, t, qs, l, ie, inn, ib, cs⟩ := q
 have hi := h.2.2.1.2.2.1
 have hc := h.2.2.2.1.1
 refine main n (v := (t, qs, l, ie, inn, ib)) h.2.1.1.2 (fun x hx => wfu8 (h.2.1.1.1 x hx)) ⟨fun k hk => ?_, fun k hk => ?_⟩ hi.2 hc.2 (fun c hcm => ?_)
 ·have := hi.1 k hk
  exact ⟨⟨this.2.1.2, this.2.2.1.2⟩, fun y hy => ⟨(this.2.1.1 y hy).1, by have := (this.2.1.1 y hy).2; omega⟩, fun y hy => ⟨(this.2.2.1.1 y hy).1, by have := (this.2.2.1.1 y hy).2; omega⟩⟩
 ·have := hi.1 k hk
  exact ⟨Qqn this.2.2.2.1, Qpv this.2.2.2.2.2⟩
 ·have hx := hc.1 c hcm
  exact ⟨⟨Qqn hx.2.2.1.2.2.1, (Qpv hx.2.2.1.2.2.2.2).1, (Qpv hx.2.2.1.2.2.2.2).2⟩, fun y hy => ⟨(hx.2.2.1.1.1 y hy).1, by have := (hx.2.2.1.1.1 y hy).2; omega⟩, fun y hy => ⟨(hx.2.2.1.2.1.1 y hy).1, by have := (hx.2.2.1.2.1.1 y hy).2; omega⟩, fun y hy => ⟨(hx.2.2.2.1.1 y hy).1, by have := (hx.2.2.2.1.1 y hy).2; omega⟩⟩
end Go.Proofs.YtpfjjbpoikgocaaGreat.reopenKeeps
namespace Go.Proofs.YtpfjjbpoikgocaaGreat.reopenKeeps
open Go.Abs Go.ChangeShapes Go.WideShapes Go.ChangeAt Go.RowKit
set_option maxRecDepth 100000
theorem own : ownKnob Tryz.prog.godebug = none := by kernel_rfl
theorem fnIs (H : Type) (ds : List (DataW H)) (h : ds.length = Tryz.f3.params.toList.length) : Rows.reopenKeepsSpec.fn H ds = { results := [.lit (.bool true)], args := ds } := by
 have h : ds.length = 4 := h
 match ds, h with
 | [d0, d1, d2, d3], _ => rfl
theorem QqC (os : Os) (started : os.Started) (H : Type) (enc : TypeId × Value → H) :
  ReturnsInHanded {} Tryz.checked os 3 .any (Rows.reopenKeepsSpec.pre6 enc Tryz.prog Tryz.f3 Rows.reopenKeepsRow.domain false) (Rows.reopenKeepsSpec.post enc Tryz.prog Tryz.f3 false true false false) :=
 Ql8 (C := Tryz.checked) (tb := 4) own started (by kernel_rfl) Tryz.func3
  (ChangeSpec.witness6 (enc := enc) (C := Tryz.checked) false ⟨#[], #[.int .i64 0, .agg #[.slice none 0 0], .agg #[.int .i64 0, .slice none 0 0, .slice none 0 0, .int .i64 0, .int .i64 0, .bool false], .slice none 0 0], []⟩ 8 (by kernel_rfl) (by kernel_rfl) (by kernel_rfl) (by kernel_rfl))
  (by kernel_rfl) (by kernel_rfl) (by kernel_rfl) (by kernel_rfl) (by kernel_rfl) (by kernel_rfl) (by kernel_rfl) rfl fnIs Qe.sound (by kernel_rfl)
  (fun p hp => ⟨mx, true, pure p hp, rfl⟩)
theorem over : Rows.reopenKeepsRow.holds Tryz.pinned (OpenSpec.ofChange Rows.reopenKeepsSpec) :=
 OpenClaim.holds_of_wide 3 Tryz.f3 rfl rfl rfl rfl rfl rfl rfl ⟨rfl, rfl, rfl, rfl, rfl⟩ rfl rfl rfl rfl rfl (by kernel_rfl) Tryz.func3 (by kernel_rfl)
  (of_decide_eq_true (by kernel_rfl)) (by unfold Func.isWrapper; first | (rw [if_pos (by decide +kernel)]; kernel_rfl) | (rw [if_neg (by decide +kernel)]; exact ⟨rfl, rfl⟩))
  (fun os started H enc _ => QqC os started H enc)
end Go.Proofs.YtpfjjbpoikgocaaGreat.reopenKeeps
namespace Go.Proofs.YtpfjjbpoikgocaaGreat
theorem reopenKeeps_holds : Rows.ReopenKeepsSaid := reopenKeeps.over
#print axioms reopenKeeps_holds
end Go.Proofs.YtpfjjbpoikgocaaGreat
end
