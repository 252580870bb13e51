/- What taking a chunk and giving it back computes, in plain words. -/
import Derived.Test.YtmkcmchmmemcgaaDoorK2
import Derived.Test.YtmkcmchmmemcgaaDoorA3
namespace Go.Proofs.YtmkcmchmmemcgaaDoor
open Go.Abs
set_option maxRecDepth 100000

theorem okS_len {s : List Pg} (h : okS s) : 1 ≤ s.length ∧ s.length ≤ 16 := ⟨h.1, h.2.1⟩
theorem clear_bit (a k : Nat) (hk : k ≤ 15) (ha : a < 65536) (hb : a / 2 ^ k % 2 = 1) : (a &&& (65535 - 2 ^ k)) + 2 ^ k = a := by
  have e : (65535 - 2 ^ k) / 2 ^ (k + 1) = 2 ^ (15 - k) - 1 ∧ (65535 - 2 ^ k) % 2 ^ (k + 1) = 2 ^ k - 1 := by
    have : k = 0 ∨ k = 1 ∨ k = 2 ∨ k = 3 ∨ k = 4 ∨ k = 5 ∨ k = 6 ∨ k = 7 ∨ k = 8 ∨ k = 9 ∨ k = 10 ∨ k = 11 ∨ k = 12 ∨ k = 13 ∨ k = 14 ∨ k = 15 := by omega
    rcases this with h | h | h | h | h | h | h | h | h | h | h | h | h | h | h | h <;> subst h <;> exact ⟨rfl, rfl⟩
  have ek : 2 ^ (k + 1) * 2 ^ (15 - k) = 65536 := by rw [← Nat.pow_add, show k + 1 + (15 - k) = 16 from by omega]
  have hd : a / 2 ^ (k + 1) < 2 ^ (15 - k) := by rw [Nat.div_lt_iff_lt_mul (Nat.two_pow_pos _), Nat.mul_comm, ek]; exact ha
  have h1 : (a &&& (65535 - 2 ^ k)) / 2 ^ (k + 1) = a / 2 ^ (k + 1) := by
    rw [← Nat.shiftRight_eq_div_pow, Nat.shiftRight_and_distrib, Nat.shiftRight_eq_div_pow, Nat.shiftRight_eq_div_pow, e.1, Nat.and_two_pow_sub_one_eq_mod, Nat.mod_eq_of_lt hd]
  have h2 : (a &&& (65535 - 2 ^ k)) % 2 ^ (k + 1) = a % 2 ^ k := by
    rw [Nat.and_mod_two_pow, e.2, Nat.and_two_pow_sub_one_eq_mod, Nat.mod_mod_of_dvd _ (Nat.pow_dvd_pow 2 (Nat.le_succ k))]
  have h3 : a % 2 ^ (k + 1) = a % 2 ^ k + 2 ^ k := by rw [Nat.mod_pow_succ, hb, Nat.mul_one]
  have h4 := Nat.div_add_mod (a &&& (65535 - 2 ^ k)) (2 ^ (k + 1))
  have h5 := Nat.div_add_mod a (2 ^ (k + 1))
  rw [h1, h2] at h4
  rw [h3] at h5
  omega

/-- What giving a chunk back makes of a page. -/
def freed (x : Pg) (k : Nat) : Pg := if x.2.2.toNat = 2 ^ k then (0, 0, 0) else (x.1, x.2.1, x.2.2 - 2 ^ k)
theorem pow_le (k : Nat) (hk : k ≤ 15) : 2 ^ k ≤ 32768 := Nat.pow_le_pow_right (n := 2) (by decide) hk
theorem free_ok {s : List Pg} {p k : Nat} (hs : okS s) (hw : wfS s) (hp : p < s.length) (hk : k ≤ 15) :
    F_slab_Free mx (s, (p : Int), (k : Int)) = some (if (s.getD p (0, 0, 0)).2.2.toNat / 2 ^ k % 2 = 1 then (s.set p (freed (s.getD p (0, 0, 0)) k), 0) else ([], 6)) := by
  have hwp := hw p hp
  have hl := okS_len hs
  have d1 : decide ((p : Int) < 0) = false := by simp
  have d2 : decide ((s.length : Int) ≤ (p : Int)) = false := by simp; omega
  have d3 : decide ((k : Int) < 0) = false := by simp
  have d4 : decide ((15 : Int) < (k : Int)) = false := by simp; omega
  have hc : C_slices_Clone_Page mx s = some s := by
    have : Nat.ble s.length 4294967296 = true := Nat.ble_eq_true_of_le (by omega)
    simp [C_slices_Clone_Page, this]
  have e1 : bitsOp .and .u16 (shrOp .u16 (s.getD p (0, 0, 0)).2.2 (k : Int)) 1 = (((s.getD p (0, 0, 0)).2.2.toNat / 2 ^ k % 2 : Nat) : Int) := by
    have hle : (s.getD p (0, 0, 0)).2.2.toNat / 2 ^ k ≤ (s.getD p (0, 0, 0)).2.2.toNat := Nat.div_le_self _ _
    have := hwp.1
    have := hwp.2
    rw [shr16 hwp.1 (by omega)]
    revert hle
    generalize (s.getD p (0, 0, 0)).2.2.toNat / 2 ^ k = y
    intro hle
    rw [mask16 (by omega) (by omega) (by omega) (by omega)]
    congr 1
    rw [Int.toNat_natCast]
    exact Nat.and_one_is_mod _
  have hpk := pow_le k hk
  have e2 : shlOp .u16 (1 : Int) (k : Int) = ((2 ^ k : Nat) : Int) := by
    show IntKind.u16.wrap (1 * 2 ^ min k 16) = _
    rw [Nat.min_eq_left (by omega), wu16]
    · simp
    · have : (0 : Int) ≤ ((2 ^ k : Nat) : Int) := Int.natCast_nonneg _
      simpa using this
    · have : ((2 ^ k : Nat) : Int) ≤ 65535 := by omega
      simpa using this
  simp only [F_slab_Free, check_slab hw, scheck, hs, if_true, Option.bind_some, d1, d2, d3, d4, bne_self_eq_false, cond_false, lez, Bool.and_self, ltd hp, cond_true, Int.toNat_natCast, e1, hc, F_slab_Free.s30, blt_t hp, e2]
  rw [ieq, ieq]
  by_cases hb : (s.getD p (0, 0, 0)).2.2.toNat / 2 ^ k % 2 = 1
  · have h3 : decide ((((s.getD p (0, 0, 0)).2.2.toNat / 2 ^ k % 2 : Nat) : Int) = 0) = false := by rw [hb]; rfl
    rw [h3, if_pos hb, cond_false]
    by_cases h4 : (s.getD p (0, 0, 0)).2.2.toNat = 2 ^ k
    · have h5 : decide ((s.getD p (0, 0, 0)).2.2 = ((2 ^ k : Nat) : Int)) = true := by
        have := hwp.1
        simp only [decide_eq_true_eq]; omega
      rw [h5, freed, if_pos h4]
      rfl
    · have h5 : decide ((s.getD p (0, 0, 0)).2.2 = ((2 ^ k : Nat) : Int)) = false := by
        have := hwp.1
        simp only [decide_eq_false_iff_not]; omega
      have h6 := clear_bit _ k hk (by have := hwp.2; omega) hb
      have := hwp.1
      rw [h5, freed, if_neg h4, clear16 hwp.1 hwp.2 (Int.natCast_nonneg _) (by omega), Int.toNat_natCast]
      have h7 : (((s.getD p (0, 0, 0)).2.2.toNat &&& (65535 - 2 ^ k) : Nat) : Int) = (s.getD p (0, 0, 0)).2.2 - 2 ^ k := by
        have : ((2 ^ k : Nat) : Int) = 2 ^ k := by simp
        rw [← this]
        omega
      rw [h7]
      rfl
  · have h3 : decide ((((s.getD p (0, 0, 0)).2.2.toNat / 2 ^ k % 2 : Nat) : Int) = 0) = true := by
      revert hb
      generalize (s.getD p (0, 0, 0)).2.2.toNat / 2 ^ k = y
      intro hb
      simp only [decide_eq_true_eq]; omega
    rw [h3, if_neg hb]
    rfl

theorem set_okS {s : List Pg} {p : Nat} {y : Pg} (hs : okS s) (hw : wfS s) (hy : okP y ∧ wfP y) : okS (s.set p y) ∧ wfS (s.set p y) := by
  constructor
  · refine ⟨by simpa using hs.1, by simpa using hs.2.1, fun k hk => ?_⟩
    have hk' : k < s.length := by simpa using hk
    by_cases e : p = k
    · subst e; rw [gset_self hk']; exact hy.1
    · rw [gset_ne e]; exact hs.2.2 k hk'
  · intro k hk
    have hk' : k < s.length := by simpa using hk
    by_cases e : p = k
    · subst e; rw [gset_self hk']; exact hy.2
    · rw [gset_ne e]; exact hw k hk'
theorem last_or (s : List Pg) (t : Int) : ∀ k, cntTo s t k = 0 ∨ ∃ p, p < k ∧ lastTo s t k = (p : Int) ∧ ownd s t p
  | 0 => .inl rfl
  | k + 1 => by
    by_cases h : ownd s t k
    · exact .inr ⟨k, by omega, by simp [lastTo, h], h⟩
    · rcases last_or s t k with h1 | ⟨p, h1, h2, h3⟩
      · left; simp only [cntTo, sumTo, h, if_false] at h1 ⊢; omega
      · exact .inr ⟨p, by omega, by simp only [lastTo, h, if_false]; exact h2, h3⟩
theorem cnt_set {s : List Pg} {t : Int} {p : Nat} (hp : p < s.length) (ho : ownd s t p) : cntTo (s.set p (0, 0, 0)) t (s.set p (0, 0, 0)).length = cntTo s t s.length - 1 := by
  have := sumTo_but (g := fun i => if ownd (s.set p (0, 0, 0)) t i then (1 : Int) else 0) (h := fun i => if ownd s t i then (1 : Int) else 0) (t := p) s.length
    (fun i hi hne => by
      have : ownd (s.set p (0, 0, 0)) t i ↔ ownd s t i := by simp only [ownd, gset_ne (Ne.symm hne)]
      simp only [this])
    (by
      have : ¬ ownd (s.set p (0, 0, 0)) t p := by simp only [ownd, gset_self hp]; simp
      rw [if_neg this])
  rw [if_pos hp, if_pos ho] at this
  rw [List.length_set]
  simp only [cntTo]
  omega


/-! ## Taking -/
theorem ch_pos (c : Int) : 1 ≤ ch c := by unfold ch; repeat' split
                                          all_goals omega
/-- The least chunk that is not used. -/
theorem tz_spec (u : Nat) (hu : u < 65535) : ∃ k m : Nat, tz16 (bitsOp .xor .u16 (65535 : Int) (u : Int)) = (k : Int) ∧ k < 16 ∧ u + 2 ^ k + 2 ^ (k + 1) * m = 65535 := by
  have e : bitsOp .xor .u16 (65535 : Int) (u : Int) = ((65535 - u : Nat) : Int) := by
    have e0 : bitsOp .xor .u16 (65535 : Int) (u : Int) = IntKind.u16.wrap ((BitVec.ofInt IntKind.u16.bits 65535 ^^^ BitVec.ofInt IntKind.u16.bits (u : Int)).toNat : Int) := rfl
    have e1 : (BitVec.ofInt IntKind.u16.bits 65535 ^^^ BitVec.ofInt IntKind.u16.bits (u : Int)).toNat = 65535 - u := by
      rw [BitVec.toNat_xor, ofNat16 (by omega) (by omega), ofNat16 (by omega) (by omega), Int.toNat_natCast]
      show (65535 : Nat) ^^^ u = 65535 - u
      apply Nat.eq_of_testBit_eq
      intro i
      rw [Nat.testBit_xor, show (65535 : Nat) = 2 ^ 16 - 1 from rfl, Nat.testBit_two_pow_sub_one, show 2 ^ 16 - 1 - u = 2 ^ 16 - (u + 1) from by omega, Nat.testBit_two_pow_sub_succ (by omega)]
      by_cases h : i < 16
      · simp [h]
      · simp only [h, decide_false, Bool.false_and, Bool.false_xor]
        exact Nat.testBit_lt_two_pow (Nat.lt_of_lt_of_le (show u < 2 ^ 16 by omega) (Nat.pow_le_pow_right (by decide) (by omega)))
    rw [e0, e1, wu16 (by omega) (by omega)]
  obtain ⟨m, h1, h2⟩ := Lib.ctzFrom_spec 16 (65535 - u) (by omega) (by omega)
  refine ⟨Lib.ctzFrom 16 (65535 - u), m, ?_, h2, ?_⟩
  · rw [e]
    unfold tz16 Lib.ctz
    rw [Int.toNat_natCast, if_neg (by omega)]
  · generalize Lib.ctzFrom 16 (65535 - u) = c at h1
    rw [Nat.mul_add, Nat.mul_one] at h1
    rw [Nat.pow_succ, Nat.mul_assoc]
    generalize 2 ^ c * (2 * m) = z at h1
    generalize 2 ^ c = y at h1
    omega

def okArg (t c q : Int) : Prop := (0 ≤ t ∧ t < 4) ∧ (0 ≤ c ∧ c < 5) ∧ 0 ≤ q ∧ q ≤ 16
instance (t c q : Int) : Decidable (okArg t c q) := by unfold okArg; infer_instance
theorem arg_ok {t c q : Int} : F_slab_Take.s52 mx t c q = some (!decide (okArg t c q)) := by
  simp only [F_slab_Take.s52, F_slab_tenanted, F_slab_classed, bif_and, Option.bind_some]
  by_cases ht : 0 ≤ t ∧ t < 4
  · have ht' : (decide (0 ≤ t) && decide (t < 4)) = true := by simp; omega
    by_cases hc : 0 ≤ c ∧ c < 5
    · have hc' : (decide (0 ≤ c) && decide (c < 5)) = true := by simp; omega
      rw [ht', hc']
      by_cases h1 : q < 0
      · have : ¬ okArg t c q := fun h => by have := h.2.2; omega
        simp [h1, this]
      · by_cases h2 : 16 < q
        · have : ¬ okArg t c q := fun h => by have := h.2.2; omega
          simp [h1, h2, this]
        · have : okArg t c q := ⟨ht, hc, by omega, by omega⟩
          simp [h1, h2, this]
    · have hc' : (decide (0 ≤ c) && decide (c < 5)) = false := by simp; omega
      have : ¬ okArg t c q := fun h => hc h.2.1
      rw [ht', hc']
      simp [this]
  · have ht' : (decide (0 ≤ t) && decide (t < 4)) = false := by simp; omega
    have : ¬ okArg t c q := fun h => ht h.1
    rw [ht']
    simp [this]

/-- A page of that tenant and class with room. -/
def hasRoom (s : List Pg) (t c : Int) (i : Nat) : Prop := (s.getD i (0, 0, 0)).2.2 ≠ 0 ∧ (s.getD i (0, 0, 0)).1 = t ∧ (s.getD i (0, 0, 0)).2.1 = c ∧ (s.getD i (0, 0, 0)).2.2 ≠ 2 ^ ch c - 1
instance (s : List Pg) (t c : Int) (i : Nat) : Decidable (hasRoom s t c i) := by unfold hasRoom; infer_instance
def isFree (s : List Pg) (i : Nat) : Prop := (s.getD i (0, 0, 0)).2.2 = 0
instance (s : List Pg) (i : Nat) : Decidable (isFree s i) := by unfold isFree; infer_instance
/-- The first free page among the first k; none: -1. -/
def freeTo (s : List Pg) (b : Bool) : Nat → Int
  | 0 => -1
  | k + 1 => if freeTo s b k < 0 ∧ b = true ∧ isFree s k then (k : Int) else freeTo s b k
theorem freeTo_spec (s : List Pg) (b : Bool) : ∀ k, (freeTo s b k = -1 ∧ (b = true → ∀ i, i < k → ¬ isFree s i)) ∨ ∃ p, p < k ∧ freeTo s b k = (p : Int) ∧ b = true ∧ isFree s p ∧ ∀ i, i < p → ¬ isFree s i
  | 0 => .inl ⟨rfl, fun _ i hi => by omega⟩
  | k + 1 => by
    rcases freeTo_spec s b k with ⟨h1, h2⟩ | ⟨p, h1, h2, h3, h4, h5⟩
    · by_cases hb : b = true ∧ isFree s k
      · exact .inr ⟨k, by omega, by simp only [freeTo]; rw [if_pos ⟨by omega, hb⟩], hb.1, hb.2, fun i hi => h2 hb.1 i hi⟩
      · refine .inl ⟨by simp only [freeTo]; rw [if_neg (fun h => hb h.2)]; exact h1, fun b1 i hi => ?_⟩
        by_cases e : i = k
        · subst e; exact fun h => hb ⟨b1, h⟩
        · exact h2 b1 i (by omega)
    · exact .inr ⟨p, by omega, by simp only [freeTo]; rw [if_neg (fun h => by omega)]; exact h2, h3, h4, h5⟩

/-- Where a chunk is taken: nowhere, or at a page. -/
inductive Taken (s : List Pg) (t c q : Int) : Option Nat → Prop
  | room (p : Nat) (hp : p < s.length) (h : hasRoom s t c p) (before : ∀ i, i < p → ¬ hasRoom s t c i) : Taken s t c q (some p)
  | free (p : Nat) (hp : p < s.length) (no : ∀ i, i < s.length → ¬ hasRoom s t c i) (hq : cntTo s t s.length < q) (h : isFree s p) (before : ∀ i, i < p → ¬ isFree s i) : Taken s t c q (some p)
  | none (no : ∀ i, i < s.length → ¬ hasRoom s t c i) (h : cntTo s t s.length < q → ∀ i, i < s.length → ¬ isFree s i) : Taken s t c q none

def put (s : List Pg) (t c : Int) (p k : Nat) : List Pg := s.set p (t, c, (s.getD p (0, 0, 0)).2.2 + 2 ^ k)
/-- The chunk k of a page is the least that is not used. -/
def least (u : Int) (k : Nat) : Prop := k < 16 ∧ ∃ m, u.toNat + 2 ^ k + 2 ^ (k + 1) * m = 65535

theorem least_bit {u : Int} {k : Nat} (h : least u k) : u.toNat / 2 ^ k % 2 = 0 ∧ u.toNat % 2 ^ k = 2 ^ k - 1 := by
  obtain ⟨hk, m, h⟩ := h
  have hp := Nat.two_pow_pos k
  have e2 : 2 ^ (k + 1) = 2 * 2 ^ k := by rw [Nat.pow_succ, Nat.mul_comm]
  have e3 : 2 ^ 16 = 2 ^ (k + 1) * 2 ^ (15 - k) := by rw [← Nat.pow_add, show k + 1 + (15 - k) = 16 from by omega]
  have hm : m < 2 ^ (15 - k) := by
    rcases Nat.lt_or_ge m (2 ^ (15 - k)) with g | g
    · exact g
    · have := Nat.mul_le_mul_left (2 ^ (k + 1)) g
      rw [← e3] at this
      omega
  have e4 : u.toNat = 2 ^ (k + 1) * (2 ^ (15 - k) - 1 - m) + (2 ^ k - 1) := by
    have : 2 ^ (k + 1) * (2 ^ (15 - k) - 1 - m) + 2 ^ (k + 1) * m + 2 ^ (k + 1) = 65536 := by
      have e6 : 2 ^ (k + 1) * (2 ^ (15 - k) - 1 - m) + 2 ^ (k + 1) * m + 2 ^ (k + 1) = 2 ^ (k + 1) * (2 ^ (15 - k) - 1 - m + m + 1) := by rw [Nat.mul_add, Nat.mul_add, Nat.mul_one]
      rw [e6, show 2 ^ (15 - k) - 1 - m + m + 1 = 2 ^ (15 - k) from by omega, ← e3]
    omega
  have e5 : u.toNat = 2 ^ k * (2 * (2 ^ (15 - k) - 1 - m)) + (2 ^ k - 1) := by
    rw [e4, e2, Nat.mul_assoc, Nat.mul_left_comm]
  rw [e5]
  constructor
  · rw [Nat.mul_add_div hp, Nat.div_eq_of_lt (by omega : 2 ^ k - 1 < 2 ^ k)]
    omega
  · rw [Nat.mul_add_mod, Nat.mod_eq_of_lt (by omega)]

theorem take_page {s : List Pg} {t c : Int} (hs : okS s) (hw : wfS s) (hc : 0 ≤ c ∧ c < 5) {p : Nat} (hp : p < s.length) (h : hasRoom s t c p ∨ isFree s p) : 0 ≤ (s.getD p (0, 0, 0)).2.2 ∧ (s.getD p (0, 0, 0)).2.2.toNat < 2 ^ ch c - 1 := by
  have hwp := hw p hp
  have h1 := ch_pos c
  have h2 := Nat.pow_le_pow_right (n := 2) (by decide) h1
  refine ⟨hwp.1, ?_⟩
  rcases h with h | h
  · have hok := (okP1 h.1).1 (hs.2.2 p hp)
    rw [h.2.2.1] at hok
    have hne := h.2.2.2
    have e : ((2 ^ ch c : Nat) : Int) = 2 ^ ch c := by simp
    rw [← e] at hne
    have := hok.2.2
    have := hwp.1
    omega
  · have : (s.getD p (0, 0, 0)).2.2 = 0 := h
    rw [this]
    simp; omega
theorem least_lt {u : Int} {k n : Nat} (h : least u k) (hn : n ≤ 16) (hu : u.toNat < 2 ^ n - 1) : k < n ∧ u.toNat + 2 ^ k < 2 ^ n := by
  obtain ⟨h1, h2⟩ := least_bit h
  have hk : k < n := by
    rcases Nat.lt_or_ge k n with g | g
    · exact g
    · exfalso
      have := Nat.pow_le_pow_right (n := 2) (by decide) g
      rw [Nat.mod_eq_of_lt (by omega)] at h2
      omega
  refine ⟨hk, ?_⟩
  have e : 2 ^ n = 2 ^ (k + 1) * 2 ^ (n - (k + 1)) := by rw [← Nat.pow_add]; congr 1; omega
  have h3 : u.toNat % 2 ^ (k + 1) = 2 ^ k - 1 := by rw [Nat.mod_pow_succ, h1, h2]; omega
  have h4 := Nat.div_add_mod u.toNat (2 ^ (k + 1))
  rw [h3] at h4
  have e2 : 2 ^ (k + 1) = 2 * 2 ^ k := by rw [Nat.pow_succ, Nat.mul_comm]
  have hp := Nat.two_pow_pos k
  have h5 : u.toNat / 2 ^ (k + 1) < 2 ^ (n - (k + 1)) := by
    rw [Nat.div_lt_iff_lt_mul (Nat.two_pow_pos _), Nat.mul_comm, ← e]; omega
  have h6 := Nat.mul_le_mul_left (2 ^ (k + 1)) h5
  rw [Nat.mul_succ, ← e] at h6
  omega

theorem take_ok {s : List Pg} {t c q : Int} (hs : okS s) (hw : wfS s) (ha : okArg t c q) :
    (Taken s t c q none ∧ F_slab_Take mx (s, t, c, q) = some ([], 0, 0, 9)) ∨
      ∃ p k, Taken s t c q (some p) ∧ least (s.getD p (0, 0, 0)).2.2 k ∧ F_slab_Take mx (s, t, c, q) = some (put s t c p k, (p : Int), (k : Int), 0) := by
  have hl := hs
  have hcnt := cntTo_bd s t s.length
  have hlen : s.length ≤ 16 := hs.2.1
  obtain ⟨ht, hc, hq0, hq1⟩ := ha
  have hround := iter_scan (f := F_slab_Take.l1786 mx s t c q (cntTo s t s.length, lastTo s t s.length) (s.length : Int)) (fun k => (freeTo s (decide (cntTo s t s.length < q)) k, (k : Int))) s.length (fun k => ¬ hasRoom s t c k) (lt_N0 (by omega)) (fun k => (k : Int)) (freeTo s (decide (cntTo s t s.length < q)) s.length)
    (fun k hk hP _ => by
      simp only [F_slab_Take.l1786, lez, Bool.and_self, ltd hk, cond_true, Int.toNat_natCast, (chunks_ok hc).2.1, Option.bind_some, ieq, ine]
      rw [inc64 (by omega)]
      by_cases h0 : (s.getD k (0, 0, 0)).2.2 = 0
      · simp only [h0, decide_true, cond_true, freeTo]
        have hf : isFree s k := h0
        generalize decide (cntTo s t s.length < q) = b
        by_cases hn : freeTo s b k < 0
        · cases b with
          | true => simp only [hn, hf, decide_true, cond_true, and_self, if_true]
          | false => simp only [hn, decide_true, cond_true, cond_false, Bool.false_eq_true, false_and, and_false, if_false]
        · simp only [hn, decide_false, cond_false, false_and, if_false]
      · have hf : ¬ isFree s k := h0
        simp only [h0, decide_false, cond_false, freeTo, hf, and_false, if_false]
        by_cases h1 : (s.getD k (0, 0, 0)).1 = t
        · by_cases h2 : (s.getD k (0, 0, 0)).2.1 = c
          · have h3 : (s.getD k (0, 0, 0)).2.2 = 2 ^ ch c - 1 := Decidable.not_not.1 fun h => hP ⟨h0, h1, h2, h⟩
            simp only [h1, h2, h3, decide_true, cond_true, Bool.not_true, cond_false]
          · simp only [h1, h2, decide_true, decide_false, cond_true, cond_false]
        · simp only [h1, decide_false, cond_false])
    (fun k hk hP _ => by
      obtain ⟨g0, g1, g2, g3⟩ := Decidable.not_not.1 hP
      simp only [F_slab_Take.l1786, lez, Bool.and_self, ltd hk, cond_true, Int.toNat_natCast, (chunks_ok hc).2.1, Option.bind_some, ieq, ine, g0, g1, g2, g3, decide_true, decide_false, cond_false, Bool.not_false])
    (fun _ => by simp only [F_slab_Take.l1786, nltd, cond_false])
  have hok : okArg t c q := ⟨ht, hc, hq0, hq1⟩
  have hclone : C_slices_Clone_Page mx s = some s := by
    have : Nat.ble s.length 4294967296 = true := Nat.ble_eq_true_of_le (by omega)
    simp [C_slices_Clone_Page, this]
  have hgo : ∀ p : Nat, p < s.length → (hasRoom s t c p ∨ isFree s p) → iter mx (F_slab_Take.l1786 mx s t c q (cntTo s t s.length, lastTo s t s.length) (s.length : Int)) (-1, 0) = some (p : Int) →
      ∃ k, least (s.getD p (0, 0, 0)).2.2 k ∧ F_slab_Take mx (s, t, c, q) = some (put s t c p k, (p : Int), (k : Int), 0) := by
    intro p hp hor hit
    obtain ⟨u0, u1⟩ := take_page hs hw hc hp hor
    have hcl := ch_le c
    have hpw := Nat.pow_le_pow_right (n := 2) (by decide) hcl
    obtain ⟨k, m, e1, e2, e3⟩ := tz_spec (s.getD p (0, 0, 0)).2.2.toNat (by omega)
    have hu : (((s.getD p (0, 0, 0)).2.2.toNat : Nat) : Int) = (s.getD p (0, 0, 0)).2.2 := by omega
    rw [hu] at e1
    have hle : least (s.getD p (0, 0, 0)).2.2 k := ⟨e2, m, e3⟩
    refine ⟨k, hle, ?_⟩
    have hx : 0 ≤ bitsOp .xor .u16 (65535 : Int) (s.getD p (0, 0, 0)).2.2 ∧ bitsOp .xor .u16 (65535 : Int) (s.getD p (0, 0, 0)).2.2 ≤ 65535 := by
      have e0 : bitsOp .xor .u16 (65535 : Int) (s.getD p (0, 0, 0)).2.2 = IntKind.u16.wrap ((BitVec.ofInt IntKind.u16.bits 65535 ^^^ BitVec.ofInt IntKind.u16.bits (s.getD p (0, 0, 0)).2.2).toNat : Int) := rfl
      rw [e0]
      generalize ((BitVec.ofInt IntKind.u16.bits 65535 ^^^ BitVec.ofInt IntKind.u16.bits (s.getD p (0, 0, 0)).2.2).toNat : Int) = z
      have : IntKind.u16.wrap z = z % 65536 := by simp [IntKind.wrap, IntKind.signed, IntKind.bits]
      omega
    have htz : F_mathbits_TrailingZeros16 mx (bitsOp .xor .u16 (65535 : Int) (s.getD p (0, 0, 0)).2.2) = some (k : Int) := by
      have : (decide ((0 : Int) ≤ bitsOp .xor .u16 (65535 : Int) (s.getD p (0, 0, 0)).2.2) && decide (bitsOp .xor .u16 (65535 : Int) (s.getD p (0, 0, 0)).2.2 ≤ (65535 : Int))) = true := by rw [Bool.and_eq_true, decide_eq_true_eq, decide_eq_true_eq]; exact hx
      simp only [F_mathbits_TrailingZeros16, tzF, this, cond_true, e1]
    have hpk := pow_le k (by omega)
    have e4 : shlOp .u16 (1 : Int) (k : Int) = ((2 ^ k : Nat) : Int) := by
      show IntKind.u16.wrap (1 * 2 ^ min k 16) = _
      rw [Nat.min_eq_left (by omega), wu16]
      · simp
      · have : (0 : Int) ≤ ((2 ^ k : Nat) : Int) := Int.natCast_nonneg _
        simpa using this
      · have : ((2 ^ k : Nat) : Int) ≤ 65535 := by omega
        simpa using this
    have e5 : bitsOp .or .u16 (s.getD p (0, 0, 0)).2.2 (shlOp .u16 (1 : Int) (k : Int)) = (s.getD p (0, 0, 0)).2.2 + 2 ^ k := by
      obtain ⟨b1, b2⟩ := least_bit hle
      have hlt := (least_lt hle hcl u1).2
      have e0 : bitsOp .or .u16 (s.getD p (0, 0, 0)).2.2 (shlOp .u16 (1 : Int) (k : Int)) = IntKind.u16.wrap ((BitVec.ofInt IntKind.u16.bits (s.getD p (0, 0, 0)).2.2 ||| BitVec.ofInt IntKind.u16.bits (shlOp .u16 (1 : Int) (k : Int))).toNat : Int) := rfl
      have hor : (s.getD p (0, 0, 0)).2.2.toNat ||| 2 ^ k = (s.getD p (0, 0, 0)).2.2.toNat + 2 ^ k := by
        have d1 := Nat.div_add_mod (s.getD p (0, 0, 0)).2.2.toNat (2 ^ (k + 1))
        have d2 : (s.getD p (0, 0, 0)).2.2.toNat % 2 ^ (k + 1) = 2 ^ k - 1 := by rw [Nat.mod_pow_succ, b1, b2]; omega
        rw [d2] at d1
        have hp2 := Nat.two_pow_pos k
        have e2' : 2 ^ (k + 1) = 2 * 2 ^ k := by rw [Nat.pow_succ, Nat.mul_comm]
        apply Nat.eq_of_testBit_eq
        intro i
        rw [Nat.testBit_or]
        generalize (s.getD p (0, 0, 0)).2.2.toNat / 2 ^ (k + 1) = y at d1
        rw [show (s.getD p (0, 0, 0)).2.2.toNat + 2 ^ k = 2 ^ (k + 1) * y + (2 ^ (k + 1) - 1) from by omega, ← d1, Nat.testBit_two_pow_mul_add _ (by omega), Nat.testBit_two_pow_mul_add _ (by omega), Nat.testBit_two_pow]
        by_cases h : i < k + 1
        · simp only [h, if_true, Nat.testBit_two_pow_sub_one]
          by_cases h2 : i < k
          · simp [h2, h]
          · have : k = i := by omega
            simp [this]
        · simp only [h, if_false]
          have : ¬ k = i := by omega
          simp [this]
      rw [e0, e4, BitVec.toNat_or, ofNat16 u0 (by omega), ofNat16 (Int.natCast_nonneg _) (by omega), Int.toNat_natCast, hor, wu16 (by omega) (by omega)]
      have : ((2 ^ k : Nat) : Int) = 2 ^ k := by simp
      rw [← this]
      omega
    have d1 : decide ((p : Int) < 0) = false := by simp
    have d3 : decide ((k : Int) < 0) = false := by simp
    simp only [F_slab_Take, check_slab hw, scheck, hs, if_true, Option.bind_some, bne_self_eq_false, cond_false, arg_ok, hok, decide_true, Bool.not_true, owned_ok (t := t) (show s.length ≤ 100 by omega), hit, d1, d3, lez, Bool.and_self, ltd hp, cond_true, Int.toNat_natCast, htz, hclone, blt_t hp, e5, put]
  rcases hround with ⟨h, e⟩ | ⟨p, hp, hb, hbef, e⟩
  · rcases freeTo_spec s (decide (cntTo s t s.length < q)) s.length with ⟨f1, f2⟩ | ⟨p, f1, f2, f3, f4, f5⟩
    · refine .inl ⟨.none h (fun hq => f2 (decide_eq_true hq)), ?_⟩
      rw [f1] at e
      have e' : iter mx (F_slab_Take.l1786 mx s t c q (cntTo s t s.length, lastTo s t s.length) (s.length : Int)) (-1, 0) = some (-1) := e
      simp only [F_slab_Take, check_slab hw, scheck, hs, if_true, Option.bind_some, bne_self_eq_false, cond_false, arg_ok, hok, decide_true, Bool.not_true, owned_ok (t := t) (show s.length ≤ 100 by omega), e']
      rfl
    · rw [f2] at e
      obtain ⟨k, g1, g2⟩ := hgo p f1 (.inr f4) e
      exact .inr ⟨p, k, .free p f1 h (of_decide_eq_true f3) f4 f5, g1, g2⟩
  · have hr := Decidable.not_not.1 hb
    obtain ⟨k, g1, g2⟩ := hgo p hp (.inl hr) e
    exact .inr ⟨p, k, .room p hp hr hbef, g1, g2⟩

theorem take_bad {s : List Pg} {t c q : Int} (hw : wfS s) (hs : ¬ okS s) : F_slab_Take mx (s, t, c, q) = some ([], 0, 0, 8) := by
  simp [F_slab_Take, check_slab hw, scheck, hs]
theorem take_arg {s : List Pg} {t c q : Int} (hw : wfS s) (hs : okS s) (ha : ¬ okArg t c q) : F_slab_Take mx (s, t, c, q) = some ([], 0, 0, 2) := by
  simp [F_slab_Take, check_slab hw, scheck, hs, arg_ok, ha]
end Go.Proofs.YtmkcmchmmemcgaaDoor
