/- The frame of the proofs, part 4: an executor over plain data, and that what it yields is what the machine does. -/
import Derived.Test.YtmkfifilpkhfoaaA3
import Derived.Lib.TrailingZeros
/- Abs, part Pa: plain words on the printed functions: rounds, wraps. -/
namespace Go.Abs

/-- Rounds enough for whatever a machine may hold. -/
def N0 : Nat := 1180591620717411303424
@[reducible] def mx : Fu := some N0

section
variable {A R : Type}
theorem iterN_next {f : A → Option (Step A R)} {a b : A} {n : Nat} (h : f a = some (.next b)) : iterN f (n + 1) a = iterN f n b := by simp [iterN, h]
theorem iterN_fin {f : A → Option (Step A R)} {a : A} {r : R} {n : Nat} (h : f a = some (.fin r)) : iterN f (n + 1) a = some r := by simp [iterN, h]

theorem iterN_inv {f : A → Option (Step A R)} {I : A → Prop} (μ : A → Nat) {Q : R → Prop}
    (h : ∀ a, I a → (∃ b, f a = some (.next b) ∧ I b ∧ μ b < μ a) ∨ (∃ r, f a = some (.fin r) ∧ Q r)) : ∀ (n : Nat) (a : A), I a → μ a < n → ∃ r, iterN f n a = some r ∧ Q r
  | 0, a, _, hm => by omega
  | n + 1, a, ha, hm => by
    rcases h a ha with ⟨b, h1, h2, h3⟩ | ⟨r, h1, h2⟩
    · rw [iterN_next h1]; exact iterN_inv μ h n b h2 (by omega)
    · exact ⟨r, iterN_fin h1, h2⟩

/-- Rounds: an invariant and a measure. -/
theorem iter_inv {f : A → Option (Step A R)} (I : A → Prop) (μ : A → Nat) (Q : R → Prop) (a : A) (ha : I a) (hm : μ a < N0)
    (h : ∀ a, I a → (∃ b, f a = some (.next b) ∧ I b ∧ μ b < μ a) ∨ (∃ r, f a = some (.fin r) ∧ Q r)) : ∃ r, iter mx f a = some r ∧ Q r :=
  iterN_inv μ h N0 a ha hm

theorem iterN_count {f : A → Option (Step A R)} (s : Nat → A) {r : R} : ∀ (n i fuel : Nat), (∀ k, i ≤ k → k < i + n → f (s k) = some (.next (s (k + 1)))) → f (s (i + n)) = some (.fin r) → n < fuel → iterN f fuel (s i) = some r
  | 0, i, fuel, _, h, hf => by
    obtain ⟨m, rfl⟩ : ∃ m, fuel = m + 1 := ⟨fuel - 1, by omega⟩
    exact iterN_fin h
  | n + 1, i, fuel, hs, h, hf => by
    obtain ⟨m, rfl⟩ : ∃ m, fuel = m + 1 := ⟨fuel - 1, by omega⟩
    rw [iterN_next (hs i (Nat.le_refl _) (by omega))]
    exact iterN_count s n (i + 1) m (fun k h1 h2 => hs k (by omega) (by omega)) (by rw [show i + 1 + n = i + (n + 1) from by omega]; exact h) (by omega)

/-- Rounds whose states are known, up to the one that ends. -/
theorem iter_count {f : A → Option (Step A R)} (s : Nat → A) (n : Nat) {r : R} (hn : n < N0) (hs : ∀ k, k < n → f (s k) = some (.next (s (k + 1)))) (h : f (s n) = some (.fin r)) : iter mx f (s 0) = some r :=
  iterN_count s n 0 N0 (fun k _ h2 => hs k (by omega)) (by rw [Nat.zero_add]; exact h) hn

theorem lt_N0 {n : Nat} (h : n ≤ 1000000000000000000) : n < N0 := by unfold N0; omega
end

/-! ## Wraps -/
theorem w64 {n : Int} (h1 : -9223372036854775808 ≤ n) (h2 : n ≤ 9223372036854775807) : IntKind.i64.wrap n = n := IntWalk.i64_in n ⟨h1, h2⟩
theorem wu64 {n : Int} (h1 : 0 ≤ n) (h2 : n ≤ 18446744073709551615) : IntKind.u64.wrap n = n := IntWalk.u64_in n ⟨h1, h2⟩
theorem wu8 {n : Int} (h1 : 0 ≤ n) (h2 : n ≤ 255) : IntKind.u8.wrap n = n := IntWalk.u8_in n ⟨h1, h2⟩
theorem wu16 {n : Int} (h1 : 0 ≤ n) (h2 : n ≤ 65535) : IntKind.u16.wrap n = n := IntWalk.u16_in n ⟨h1, h2⟩
theorem wu32 {n : Int} (h1 : 0 ≤ n) (h2 : n ≤ 4294967295) : IntKind.u32.wrap n = n := IntWalk.u32_in n ⟨h1, h2⟩
theorem wf64 {n : Int} (h : Ty.wf (.int .i64) n) : -9223372036854775808 ≤ n ∧ n ≤ 9223372036854775807 := by
  have : IntKind.i64.wrap n = n := h
  rw [IntKind.wrap_i64] at this; omega
theorem wfu64 {n : Int} (h : Ty.wf (.int .u64) n) : 0 ≤ n ∧ n ≤ 18446744073709551615 := by
  have : IntKind.u64.wrap n = n := h
  rw [IntKind.wrap_u64] at this; omega
theorem wfu16 {n : Int} (h : Ty.wf (.int .u16) n) : 0 ≤ n ∧ n ≤ 65535 := by
  have := (in_iff .u16 n).1 h
  have h1 : IntKind.u16.min = 0 := rfl
  have h2 : IntKind.u16.max = 65535 := rfl
  omega
theorem wfu32 {n : Int} (h : Ty.wf (.int .u32) n) : 0 ≤ n ∧ n ≤ 4294967295 := by
  have : IntKind.u32.wrap n = n := h
  rw [IntKind.wrap_u32] at this; omega
theorem wfu8 {n : Int} (h : Ty.wf (.int .u8) n) : 0 ≤ n ∧ n ≤ 255 := by
  have : IntKind.u8.wrap n = n := h
  rw [IntKind.wrap_u8] at this; omega

theorem cond_dec {α : Type} (p : Prop) [Decidable p] (a b : α) : (bif decide p then a else b) = if p then a else b := by by_cases h : p <;> simp [h]
theorem getD_some {α : Type} {l : List α} {i : Nat} (h : i < l.length) (d : α) : l.getD i d = l[i] := by simp [List.getD_eq_getElem?_getD, h]

end Go.Abs
namespace Go.Abs
section
variable {α : Type}
theorem bif_and (a b : Bool) : (bif a then some b else some false) = some (a && b) := by cases a <;> rfl
theorem bif_or (a b : Bool) : (bif a then some true else some b) = some (a || b) := by cases a <;> rfl
theorem bif_or' (a b : Bool) : (bif a then some a else some b) = some (a || b) := by cases a <;> rfl
theorem bif_andN (a : Bool) (b : Bool) : (bif a then some false else some b) = some (!a && b) := by cases a <;> rfl
theorem bif_some (a : Bool) (x y : α) : (bif a then some x else some y) = some (bif a then x else y) := by cases a <;> rfl
theorem len_toInt (n : Nat) : (n : Int) ≤ 140737488351232 → IntKind.i64.wrap (n : Int) = n := fun h => w64 (by omega) (by omega)
end
end Go.Abs
namespace Go.Abs
/-! ## Sums, first places -/
def sumTo (g : Nat → Int) : Nat → Int
  | 0 => 0
  | k + 1 => sumTo g k + g k
theorem sumTo_congr {g h : Nat → Int} : ∀ (k : Nat), (∀ i, i < k → g i = h i) → sumTo g k = sumTo h k
  | 0, _ => rfl
  | k + 1, hh => by simp only [sumTo]; rw [sumTo_congr k (fun i hi => hh i (by omega)), hh k (by omega)]
theorem sumTo_bd {g : Nat → Int} {c : Int} : ∀ (k : Nat), (∀ i, i < k → 0 ≤ g i ∧ g i ≤ c) → 0 ≤ sumTo g k ∧ sumTo g k ≤ c * k
  | 0, _ => by simp [sumTo]
  | k + 1, hh => by
    have h1 := sumTo_bd k (fun i hi => hh i (by omega))
    have h2 := hh k (by omega)
    have e : c * ((k + 1 : Nat) : Int) = c * (k : Int) + c := by rw [Int.natCast_add, Int.mul_add]; simp
    simp only [sumTo]
    rw [e]
    omega
theorem sumTo_mono {g : Nat → Int} {k n : Nat} (h : ∀ i, i < n → 0 ≤ g i) (hk : k ≤ n) : sumTo g k ≤ sumTo g n := by
  induction n with
  | zero => have : k = 0 := by omega
            subst this; exact Int.le_refl _
  | succ n ih =>
    by_cases e : k = n + 1
    · subst e; exact Int.le_refl _
    · have := ih (fun i hi => h i (by omega)) (by omega)
      have h2 := h n (by omega)
      simp only [sumTo]; omega
/-- All but one. -/
theorem sumTo_but {g h : Nat → Int} {t : Nat} : ∀ (k : Nat), (∀ i, i < k → i ≠ t → g i = h i) → g t = 0 → sumTo h k = sumTo g k + (if t < k then h t else 0)
  | 0, _, _ => by simp [sumTo]
  | k + 1, hh, h0 => by
    have ih := sumTo_but k (fun i hi hne => hh i (by omega) hne) h0
    simp only [sumTo]
    rw [ih]
    by_cases e : k = t
    · subst e; simp [h0]
    · have := hh k (by omega) e
      by_cases h1 : t < k
      · rw [if_pos h1, if_pos (by omega)]; omega
      · rw [if_neg h1, if_neg (by omega)]; omega

theorem first_bad (P : Nat → Prop) [DecidablePred P] : ∀ (n : Nat), (∀ k, k < n → P k) ∨ ∃ k, k < n ∧ ¬P k ∧ ∀ j, j < k → P j
  | 0 => .inl fun k hk => absurd hk (Nat.not_lt_zero k)
  | n + 1 => by
    rcases first_bad P n with h | ⟨k, h1, h2, h3⟩
    · by_cases hn : P n
      · left
        intro k hk
        by_cases e : k = n
        · subst e; exact hn
        · exact h k (by omega)
      · exact .inr ⟨n, by omega, hn, h⟩
    · exact .inr ⟨k, by omega, h2, h3⟩

theorem gset_self {α : Type} {l : List α} {i : Nat} {x d : α} (h : i < l.length) : (l.set i x).getD i d = x := by simp [List.getD_eq_getElem?_getD, h]
theorem gset_ne {α : Type} {l : List α} {i j : Nat} {x d : α} (h : i ≠ j) : (l.set i x).getD j d = l.getD j d := by simp [List.getD_eq_getElem?_getD, List.getElem?_set_ne h]
theorem getD_lt {α : Type} {l : List α} {i : Nat} {d : α} (h : i < l.length) : l.getD i d ∈ l := by rw [getD_some h]; exact List.getElem_mem h
theorem nat_lt {a b : Nat} : decide ((a : Int) < (b : Int)) = decide (a < b) := by simp
end Go.Abs
namespace Go.Abs
section
variable {A R : Type}
/-- A scan: rounds that go on while P holds. -/
theorem iter_scan {f : A → Option (Step A R)} (s : Nat → A) (n : Nat) (P : Nat → Prop) [DecidablePred P] (hn : n < N0) (r : Nat → R) (rN : R)
    (h1 : ∀ k, k < n → P k → (∀ j, j < k → P j) → f (s k) = some (.next (s (k + 1)))) (h2 : ∀ k, k < n → ¬P k → (∀ j, j < k → P j) → f (s k) = some (.fin (r k)))
    (he : (∀ j, j < n → P j) → f (s n) = some (.fin rN)) :
    ((∀ j, j < n → P j) ∧ iter mx f (s 0) = some rN) ∨ (∃ k, k < n ∧ ¬P k ∧ (∀ j, j < k → P j) ∧ iter mx f (s 0) = some (r k)) := by
  rcases first_bad P n with h | ⟨k, g1, g2, g3⟩
  · exact .inl ⟨h, iter_count s n hn (fun k hk => h1 k hk (h k hk) (fun j hj => h j (by omega))) (he h)⟩
  · exact .inr ⟨k, g1, g2, g3, iter_count s k (by omega) (fun j hj => h1 j (by omega) (g3 j hj) (fun i hi => g3 i (by omega))) (h2 k g1 g2 g3)⟩
end
theorem ieq (a b : Int) : (a == b) = decide (a = b) := by by_cases h : a = b <;> simp [h]
theorem ine (a b : Int) : (a != b) = !decide (a = b) := by by_cases h : a = b <;> simp [h]
theorem lez (k : Nat) : decide ((0 : Int) ≤ (k : Int)) = true := by simp
theorem rng {k n : Nat} (h : k < n) : (decide ((0 : Int) ≤ (k : Int)) && decide ((k : Int) < (n : Int))) = true := by simp; omega
theorem ltd {k n : Nat} (h : k < n) : decide ((k : Int) < (n : Int)) = true := by simpa using h
theorem nltd (n : Nat) : decide ((n : Int) < (n : Int)) = false := by simp
theorem blt_t {k n : Nat} (h : k < n) : Nat.blt k n = true := Nat.ble_eq_true_of_le h
theorem inc64 {k : Nat} (h : k ≤ 1000000000000000000) : IntKind.i64.wrap ((k : Int) + 1) = ((k + 1 : Nat) : Int) := by rw [w64 (by omega) (by omega)]; rfl

/-! ## Bits of 16-bit words -/
theorem ofNat16 {x : Int} (h1 : 0 ≤ x) (h2 : x ≤ 65535) : (BitVec.ofInt (IntKind.u16.bits) x).toNat = x.toNat := by
  rw [BitVec.toNat_ofInt]
  show (x % ((2 ^ 16 : Nat) : Int)).toNat = x.toNat
  rw [Int.emod_eq_of_lt h1 (by omega)]
theorem and_not_full (a k : Nat) (hk : k ≤ 16) (ha : a < 65536) : (a &&& (65535 - (2 ^ k - 1)) = 0) ↔ a < 2 ^ k := by
  have e : 65535 - (2 ^ k - 1) = 2 ^ k * (2 ^ (16 - k) - 1) := by
    have : k = 0 ∨ k = 1 ∨ k = 2 ∨ k = 3 ∨ k = 4 ∨ k = 5 ∨ k = 6 ∨ k = 7 ∨ k = 8 ∨ k = 9 ∨ k = 10 ∨ k = 11 ∨ k = 12 ∨ k = 13 ∨ k = 14 ∨ k = 15 ∨ k = 16 := by omega
    rcases this with h | h | h | h | h | h | h | h | h | h | h | h | h | h | h | h | h <;> subst h <;> rfl
  have ek : 2 ^ k * 2 ^ (16 - k) = 65536 := by rw [← Nat.pow_add, show k + (16 - k) = 16 from by omega]
  have hd : a / 2 ^ k < 2 ^ (16 - k) := by rw [Nat.div_lt_iff_lt_mul (Nat.two_pow_pos k), Nat.mul_comm, ek]; exact ha
  have h1 : (a &&& (65535 - (2 ^ k - 1))) >>> k = a / 2 ^ k := by
    rw [Nat.shiftRight_and_distrib, e, Nat.shiftRight_eq_div_pow, Nat.shiftRight_eq_div_pow, Nat.mul_div_cancel_left _ (Nat.two_pow_pos k), Nat.and_two_pow_sub_one_eq_mod, Nat.mod_eq_of_lt hd]
  constructor
  · intro h
    rw [h] at h1
    simp at h1
    exact (Nat.div_eq_zero_iff_lt (Nat.two_pow_pos k)).1 h1.symm
  · intro h
    have h2 : (a &&& (65535 - (2 ^ k - 1))) % 2 ^ k = 0 := by rw [Nat.and_mod_two_pow, e, Nat.mul_mod_right, Nat.and_zero]
    have h3 : (a &&& (65535 - (2 ^ k - 1))) < 2 ^ k := Nat.lt_of_le_of_lt Nat.and_le_left h
    rwa [Nat.mod_eq_of_lt h3] at h2
theorem clear16 {a b : Int} (h1 : 0 ≤ a) (h2 : a ≤ 65535) (h3 : 0 ≤ b) (h4 : b ≤ 65535) : bitsOp .andNot .u16 a b = ((a.toNat &&& (65535 - b.toNat) : Nat) : Int) := by
  have e : bitsOp .andNot .u16 a b = IntKind.u16.wrap ((BitVec.ofInt IntKind.u16.bits a &&& ~~~BitVec.ofInt IntKind.u16.bits b).toNat : Int) := rfl
  have e2 : (BitVec.ofInt IntKind.u16.bits a &&& ~~~BitVec.ofInt IntKind.u16.bits b).toNat = (a.toNat &&& (65535 - b.toNat)) := by
    rw [BitVec.toNat_and, BitVec.toNat_not, ofNat16 h1 h2, ofNat16 h3 h4]
    rfl
  rw [e, e2, wu16 (by omega)]
  have := @Nat.and_le_left a.toNat (65535 - b.toNat)
  omega
theorem mask16 {a b : Int} (h1 : 0 ≤ a) (h2 : a ≤ 65535) (h3 : 0 ≤ b) (h4 : b ≤ 65535) : bitsOp .and .u16 a b = ((a.toNat &&& b.toNat : Nat) : Int) := by
  have e : bitsOp .and .u16 a b = IntKind.u16.wrap ((BitVec.ofInt IntKind.u16.bits a &&& BitVec.ofInt IntKind.u16.bits b).toNat : Int) := rfl
  have e2 : (BitVec.ofInt IntKind.u16.bits a &&& BitVec.ofInt IntKind.u16.bits b).toNat = (a.toNat &&& b.toNat) := by
    rw [BitVec.toNat_and, ofNat16 h1 h2, ofNat16 h3 h4]
  rw [e, e2, wu16 (by omega)]
  have := @Nat.and_le_left a.toNat b.toNat
  omega
theorem shr16 {a : Int} {k : Nat} (h1 : 0 ≤ a) (hk : k ≤ 16) : shrOp .u16 a (k : Int) = ((a.toNat / 2 ^ k : Nat) : Int) := by
  have e : shrOp .u16 a (k : Int) = a.fdiv (2 ^ min k 16) := rfl
  rw [e, Nat.min_eq_left hk, Int.fdiv_eq_ediv_of_nonneg _ (by exact Int.le_of_lt (Int.pow_pos (by decide)))]
  obtain ⟨n, rfl⟩ := Int.eq_ofNat_of_zero_le h1
  simp
end Go.Abs

/- Abs, part Pc: plain words on lists and rounds. -/
namespace Go.Abs
section
variable {A S R α : Type}

theorem take_succ' {l : List α} {k : Nat} (h : k < l.length) (d : α) : l.take (k + 1) = l.take k ++ [l.getD k d] := by
  rw [List.take_succ_eq_append_getElem h, getD_some h]

/-- Rounds over a list. -/
theorem iter_fold {f : A → Option (Step A R)} (l : List α) (d : α) (h : S → α → S) (s0 : S) (st : Nat → S → A) {r : R} (hn : l.length < N0)
    (hs : ∀ k, k < l.length → f (st k ((l.take k).foldl h s0)) = some (.next (st (k + 1) (h ((l.take k).foldl h s0) (l.getD k d)))))
    (he : f (st l.length (l.foldl h s0)) = some (.fin r)) : iter mx f (st 0 s0) = some r := by
  have := iter_count (f := f) (fun k => st k ((l.take k).foldl h s0)) l.length (r := r) hn (fun k hk => by
    rw [hs k hk, take_succ' hk d, List.foldl_append]; rfl) (by rw [List.take_length]; exact he)
  simpa using this

theorem find_none {p : α → Bool} {l : List α} {d : α} (h : ∀ k, k < l.length → p (l.getD k d) = true) : l.find? (fun x => !p x) = none := by
  rw [List.find?_eq_none]
  intro x hx
  obtain ⟨k, hk, rfl⟩ := List.mem_iff_getElem.1 hx
  have := h k hk
  rw [getD_some hk] at this
  simp [this]
theorem find_some {p : α → Bool} : ∀ {l : List α} {d : α} {k : Nat}, k < l.length → p (l.getD k d) = false → (∀ j, j < k → p (l.getD j d) = true) → l.find? (fun x => !p x) = some (l.getD k d)
  | [], d, k, hk, _, _ => by simp at hk
  | x :: l, d, 0, _, h, _ => by simp at h; simp [h]
  | x :: l, d, k + 1, hk, h, hb => by
    have h0 : p x = true := by simpa using hb 0 (by omega)
    have := find_some (l := l) (d := d) (k := k) (by simpa using hk) (by simpa using h) (fun j hj => by simpa using hb (j + 1) (by omega))
    simp [h0, this]

/-- Rounds over a list, up to the first element that is not so. -/
theorem iter_findL {f : A → Option (Step A R)} (l : List α) (d : α) (p : α → Bool) (s : Nat → A) (r : α → R) (rN : R) (hn : l.length < N0)
    (h1 : ∀ k, k < l.length → p (l.getD k d) = true → f (s k) = some (.next (s (k + 1)))) (h2 : ∀ k, k < l.length → p (l.getD k d) = false → f (s k) = some (.fin (r (l.getD k d))))
    (he : f (s l.length) = some (.fin rN)) : iter mx f (s 0) = some (match l.find? (fun x => !p x) with | some x => r x | none => rN) := by
  rcases iter_scan (f := f) s l.length (fun k => p (l.getD k d) = true) hn (fun k => r (l.getD k d)) rN (fun k hk hp _ => h1 k hk hp) (fun k hk hp _ => h2 k hk (by simpa using hp)) (fun _ => he) with ⟨h, e⟩ | ⟨k, hk, hp, hb, e⟩
  · rw [e, find_none h]
  · rw [e, find_some hk (by simpa using hp) hb]

/-- Elements one by one that are taken over, or not. -/
theorem foldl_filter (p : α → Bool) : ∀ (l : List α) (a : List α), l.foldl (fun acc x => bif p x then acc ++ [x] else acc) a = a ++ l.filter p
  | [], a => by simp
  | x :: l, a => by
    rw [List.foldl_cons, foldl_filter p l]
    cases h : p x <;> simp [h]
theorem foldl_map' {β : Type} (g : α → β) : ∀ (l : List α) (a : List β), l.foldl (fun acc x => acc ++ [g x]) a = a ++ l.map g
  | [], a => by simp
  | x :: l, a => by rw [List.foldl_cons, foldl_map' g l]; simp
theorem foldl_app {β : Type} (g : α → List β) : ∀ (l : List α) (a : List β), l.foldl (fun acc x => acc ++ g x) a = a ++ (l.map g).flatten
  | [], a => by simp
  | x :: l, a => by rw [List.foldl_cons, foldl_app g l]; simp

theorem ble_t {a b : Nat} (h : a ≤ b) : Nat.ble a b = true := Nat.ble_eq_true_of_le h
theorem bne_int (a b : Int) : (a != b) = !decide (a = b) := by by_cases h : a = b <;> simp [h]
theorem cast_tmod (a b : Nat) : (a : Int).tmod (b : Int) = ((a % b : Nat) : Int) := by
  rw [Int.tmod_eq_emod_of_nonneg (by omega)]; rfl
theorem cast_tdiv (a b : Nat) : (a : Int).tdiv (b : Int) = ((a / b : Nat) : Int) := by
  rw [Int.tdiv_eq_ediv_of_nonneg (by omega)]; rfl
theorem natlt {a b : Nat} : ((a : Int) < (b : Int)) ↔ a < b := by omega
end
end Go.Abs

/- Abs, part Tz: the library's count of trailing zeros, as a contract by hand. -/
namespace Go.Abs
open Go.RowKit
set_option maxRecDepth 100000

def tz16 (x : Int) : Int := (Lib.ctz 16 x.toNat : Nat)
def tzF (_ : Fu) (p : Int) : Option Int := bif decide ((0 : Int) ≤ p) && decide (p ≤ (65535 : Int)) then some (tz16 p) else none

theorem tz_tab : ∀ j, j < 32 → tab32.getD j 0 = ((Lib.deBruijn32tab.getD j 0 : Nat) : Int) := by decide
theorem tz_key (x : Nat) (hx : x < 65536) (hx0 : x ≠ 0) : bits BinOp.and IntKind.u16 (x : Int) (IntKind.u16.wrap (-(x : Int))) % 4294967296 * 125613361 % 4294967296 / 134217728 = ((2 ^ Lib.ctz 16 x * 125613361 % 4294967296 / 134217728 : Nat) : Int) := by
  have e1 : IntKind.u16.wrap (-(x : Int)) = ((65536 - x : Nat) : Int) := by
    have : IntKind.u16.wrap (-(x : Int)) = (-(x : Int)) % 65536 := by simp [IntKind.wrap, IntKind.signed, IntKind.bits]
    rw [this]; omega
  obtain ⟨hlow, hk⟩ := Lib.lowest_bit 16 x hx0 hx
  have e2 : bits BinOp.and IntKind.u16 (x : Int) ((65536 - x : Nat) : Int) = ((x &&& (65536 - x) : Nat) : Int) := by
    have h := mask16 (a := (x : Int)) (b := ((65536 - x : Nat) : Int)) (by omega) (by omega) (by omega) (by omega)
    rw [Int.toNat_natCast, Int.toNat_natCast] at h
    exact h
  have hp : 2 ^ Lib.ctz 16 x ≤ 32768 := Nat.pow_le_pow_right (n := 2) (by decide) (show Lib.ctz 16 x ≤ 15 by omega)
  have e3 : x &&& (65536 - x) = 2 ^ Lib.ctz 16 x := hlow
  rw [e1, e2, e3]
  generalize 2 ^ Lib.ctz 16 x = y at hp
  omega

theorem sound_tz {P : Program} {f : FuncId} {fn : Func} (hf : P.funcs[f]? = some fn) (hname : (fn.name == "runtime.NumGoroutine") = false) (hbody : fn.body.isSome = true) {g : Nat} (hg : P.globalNamed "math/bits.deBruijn32tab" = some g)
    (h0 : ∀ w, Calls P f #[.int .u16 0] w fun e w' => e = .returned (.int .i64 16) ∧ w' = w)
    (h1 : ∀ (x : Int) (k idx : Nat) (w : World), (x == 0) = false → bits BinOp.and IntKind.u16 x (IntKind.u16.wrap (-x)) % 4294967296 * 125613361 % 4294967296 / 134217728 = (idx : Int) → idx < 32 → k < 32 → w.cell? ⟨g, idx, none⟩ = some (.int .u8 k) →
      Calls P f #[.int .u16 x] w fun e w' => e = .returned (.int .i64 k) ∧ w' = w) : Sound P ⟨f, ⟨[.val false [.int .u16]], [(false, [.dat (.int .i64)])]⟩, tzF⟩ := by
  refine SoundF.all ?_ (winFn_res fun ks h => by simp at h)
  intro m p r hr w ok args bs cs hG hA hnd hoks hpls hnc
  obtain ⟨body, hbody⟩ := Option.isSome_iff_exists.1 hbody
  obtain ⟨v, vs', b1, b2, rfl, rfl, ⟨rfl, v2, vs2, e2, ⟨hv, hw⟩, e3⟩, rfl, rfl⟩ := hA
  simp only [List.cons.injEq, and_true] at e2 hv
  obtain ⟨rfl, rfl⟩ := e2
  subst hv
  have hx : (tfst (pkTs (.val false [.int .u16])) (insL []) p : Int) = p := rfl
  change Int at p
  change Int at r
  have hc : tzF m p = some r := hr
  cases hb : decide ((0 : Int) ≤ p) && decide (p ≤ (65535 : Int)) with
  | false => simp [tzF, hb] at hc
  | true =>
    simp only [tzF, hb, cond_true] at hc
    have hc : tz16 p = r := Option.some.inj hc
    simp only [Bool.and_eq_true, decide_eq_true_eq] at hb
    obtain ⟨n, rfl⟩ : ∃ n : Nat, p = (n : Int) := ⟨p.toNat, by omega⟩
    have hcall : Calls P f #[.int .u16 (n : Int)] w fun e w' => e = .returned (.int .i64 r) ∧ w' = w := by
      rw [← hc]
      by_cases hn : n = 0
      · subst hn; exact h0 w
      · have hk := (Lib.lowest_bit 16 n hn (by omega)).2
        obtain ⟨hi, htab⟩ := Lib.deBruijn32_at (Lib.ctz 16 n) (by omega)
        have hcell := (hG.tab g hg _ hi).2
        rw [tz_tab _ hi, htab] at hcell
        exact h1 (n : Int) (Lib.ctz 16 n) _ w (by simp; omega) (tz_key n (by omega) hn) hi (by omega) hcell
    have hrun : (callFunc f #[.int .u16 (n : Int)]).run P w = .ok (.enter f #[.int .u16 (n : Int)]) w := by
      have hn : ¬ fn.name = "runtime.NumGoroutine" := by simpa using hname
      simp [callFunc, hf, hn, hbody]
    unfold Ends
    dsimp only
    show match (callFunc f #[.int .u16 (n : Int)]).run P w with | .ok (.value v) w' => _ | .ok (.enter g as) w' => _ | _ => False
    rw [hrun]
    refine hcall.mono fun e w' he => ?_
    obtain ⟨rfl, rfl⟩ := he
    refine ⟨_, rfl, ok, [.int .i64 r], [], ⟨rfl, ⟨Nat.le_refl _, fun _ _ _ => rfl, rfl, rfl, rfl, fun b o hk => ⟨hk, rfl⟩, fun b o hk => .inl hk⟩, hoks, ?_, ?_, List.nodup_nil, hpls, fun b hb => by cases hb⟩⟩
    · refine ⟨_, [], [], [], rfl, rfl, ⟨rfl, _, [], rfl, ⟨rfl, ?_⟩, rfl, rfl⟩, rfl, rfl⟩
      show IntKind.i64.wrap r = r
      rw [← hc]
      have : Lib.ctz 16 n ≤ 16 := by
        by_cases hn : n = 0
        · subst hn; decide
        · have := (Lib.lowest_bit 16 n hn (by omega)).2; omega
      simp only [tz16, Int.toNat_natCast]
      exact w64 (by omega) (by omega)
    · exact ⟨_, [], rfl, rfl⟩
end Go.Abs

