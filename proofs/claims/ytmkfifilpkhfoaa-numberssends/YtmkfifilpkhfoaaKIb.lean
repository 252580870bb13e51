/- Changes as bytes. -/
import Derived.Test.YtmkfifilpkhfoaaKIa
namespace Go.Proofs.Ytmkfifilpkhfoaa
open Go.Abs
set_option maxRecDepth 100000

abbrev Chg := Int × Int × Itm × List Int × Int × Int × Bool
abbrev C0 : Chg := (0, (0, (([], ([], (0, (0, 0)))), ([], (0, (0, false))))))

/-! ### small numbers -/
def smF : Nat → Nat → List Int
  | 0, n => [((n : Nat) : Int)]
  | f + 1, n => if n < 128 then [((n : Nat) : Int)] else ((n % 128 + 128 : Nat) : Int) :: smF f (n / 128)
def sm (n : Nat) : List Int := smF 10 n
theorem smF_len : ∀ (f n : Nat), 1 ≤ (smF f n).length ∧ (smF f n).length ≤ f + 1
  | 0, n => by simp [smF]
  | f + 1, n => by
    have := smF_len f (n / 128)
    rw [smF]; split
    · simp
    · rw [List.length_cons]; omega
theorem sm_len (n : Nat) : 1 ≤ (sm n).length ∧ (sm n).length ≤ 11 := smF_len 10 n
theorem or128 {b : Nat} (h : b < 256) : bitsOp .or .u8 (b : Int) 128 = ((b % 128 + 128 : Nat) : Int) := by
  have h2 : (List.range 256).all (fun b => bitsOp .or .u8 (b : Int) 128 == ((b % 128 + 128 : Nat) : Int)) = true := by kernel_rfl
  exact beq_iff_eq.1 (List.all_eq_true.1 h2 b (List.mem_range.2 h))
theorem shr64 {n k : Nat} (hk : k ≤ 64) : shrOp .u64 (n : Int) (k : Int) = ((n / 2 ^ k : Nat) : Int) := by
  have e : shrOp .u64 (n : Int) (k : Int) = (n : Int).fdiv (2 ^ min k 64) := rfl
  rw [e, Nat.min_eq_left hk, Int.fdiv_eq_ediv_of_nonneg _ (by exact Int.le_of_lt (Int.pow_pos (by decide)))]
  simp
theorem wu8n (n : Nat) : IntKind.u8.wrap (n : Int) = ((n % 256 : Nat) : Int) := by
  show ((n : Int) % 256) = _
  omega
theorem small_iter : ∀ (f n : Nat) (acc : List Int) (k : Nat), n < 128 ^ (f + 1) → f < k → acc.length + f ≤ 1000000 →
    ∃ a b, iterN (F_code_Small.l28 mx) k ((n : Int), acc) = some (((a : Nat) : Int), b) ∧ b ++ [((a : Nat) : Int)] = acc ++ smF f n ∧ a < 128 ∧ b.length ≤ acc.length + f
  | f, n, acc, k, hn, hk, hl => by
    obtain ⟨k, rfl⟩ : ∃ m, k = m + 1 := ⟨k - 1, by omega⟩
    by_cases h : n < 128
    · have e : F_code_Small.l28 mx ((n : Int), acc) = some (.fin ((n : Int), acc)) := by
        simp only [F_code_Small.l28, decide_eq_false (show ¬ (127 : Int) < (n : Int) by omega), cond_false]
      refine ⟨n, acc, iterN_fin e, ?_, h, by omega⟩
      cases f with
      | zero => rfl
      | succ f => rw [smF, if_pos h]
    · cases f with
      | zero => simp at hn; omega
      | succ f =>
        have e : F_code_Small.l28 mx ((n : Int), acc) = some (.next (((n / 128 : Nat) : Int), acc ++ [((n % 128 + 128 : Nat) : Int)])) := by
          have e1 : bitsOp .or .u8 (IntKind.u8.wrap (n : Int)) 128 = ((n % 128 + 128 : Nat) : Int) := by
            rw [wu8n, or128 (Nat.mod_lt _ (by decide))]; omega
          have e2 : shrOp .u64 (n : Int) 7 = ((n / 128 : Nat) : Int) := shr64 (k := 7) (by decide)
          have c1 : Nat.ble (acc.length + 1) 140737488351232 = true := ble_t (by omega)
          simp only [F_code_Small.l28, decide_eq_true (show (127 : Int) < (n : Int) by omega), cond_true, e1, e2, List.length_singleton, c1]
        rw [iterN_next e]
        obtain ⟨a, b, h1, h2, h3, h4⟩ := small_iter f (n / 128) (acc ++ [((n % 128 + 128 : Nat) : Int)]) k (by rw [Nat.pow_succ] at hn; exact Nat.div_lt_of_lt_mul (by omega)) (by omega) (by rw [List.length_append, List.length_singleton]; omega)
        rw [List.length_append, List.length_singleton] at h4
        refine ⟨a, b, h1, ?_, h3, by omega⟩
        rw [h2, smF, if_neg h, List.append_assoc]; rfl
theorem small_ok {n : Int} (h1 : 0 ≤ n) (h2 : n ≤ 18446744073709551615) : F_code_Small mx n = some (sm n.toNat) := by
  obtain ⟨n, rfl⟩ := Int.eq_ofNat_of_zero_le h1
  have e0 : (128 : Nat) ^ (10 + 1) = 151115727451828646838272 := by decide
  obtain ⟨a, b, g1, g2, g3, g4⟩ := small_iter 10 n [] N0 (by rw [e0]; omega) (by unfold N0; omega) (by simp)
  have g1 : iter mx (F_code_Small.l28 mx) ((n : Int), ([] : List Int)) = _ := g1
  have c1 : Nat.ble (b.length + 1) 140737488351232 = true := ble_t (by simp at g4; omega)
  simp only [F_code_Small, g1, Option.bind_some, wu8n, List.length_singleton, c1, cond_true]
  rw [Nat.mod_eq_of_lt (by omega), g2]
  rfl
theorem small_wrap {n : Int} (h1 : 0 ≤ n) (h2 : n ≤ 18446744073709551615) : F_code_Small mx (IntKind.u64.wrap n) = some (sm n.toNat) := by rw [wu64 h1 h2, small_ok h1 h2]

def numsB (l : List Int) : List Int := (l.map fun x => sm x.toNat).flatten
def txt (s : List Int) : List Int := sm s.length ++ s
theorem numsB_len : ∀ (l : List Int), (numsB l).length ≤ 11 * l.length
  | [] => by simp [numsB]
  | x :: l => by
    have h1 := numsB_len l
    have h2 := sm_len x.toNat
    have : numsB (x :: l) = sm x.toNat ++ numsB l := rfl
    rw [this, List.length_append, List.length_cons]; omega
def okNums (l : List Int) : Prop := l.length ≤ 100000 ∧ ∀ x ∈ l, 0 ≤ x ∧ x ≤ 9223372036854775807
theorem nums_ok {a l : List Int} (ha : a.length ≤ 1000000000) (hl : okNums l) : F_code_nums mx (a, l) = some (a ++ numsB l) := by
  obtain ⟨h1, h2⟩ := hl
  have := iter_count (f := F_code_nums.l26 mx l (l.length : Int)) (fun i => (a ++ numsB (l.take i), (i : Int))) l.length (r := a ++ numsB l) (lt_N0 (by omega)) (fun i hi => by
    obtain ⟨b1, b2⟩ := h2 _ (getD_lt (d := 0) hi)
    have hn := numsB_len (l.take i)
    rw [List.length_take] at hn
    have hs := sm_len (l.getD i 0).toNat
    have c1 : Nat.ble ((a ++ numsB (l.take i)).length + (sm (l.getD i 0).toNat).length) 140737488351232 = true := ble_t (by rw [List.length_append]; omega)
    simp only [F_code_nums.l26, ltd hi, lez, Bool.and_self, cond_true, Int.toNat_natCast, small_wrap b1 (show l.getD i 0 ≤ 18446744073709551615 by omega), Option.bind_some, c1]
    rw [inc64 (by omega), take_succ' hi 0, numsB, numsB, List.map_append, List.flatten_append, List.append_assoc]
    simp) (by simp only [F_code_nums.l26, nltd, cond_false, List.take_length])
  have this : iter mx (F_code_nums.l26 mx l (l.length : Int)) (a ++ numsB (l.take 0), (0 : Int)) = _ := this
  rw [show a ++ numsB (l.take 0) = a by simp [numsB]] at this
  simp only [F_code_nums, this, Option.bind_some]
theorem text_ok {s : List Int} (hs : s.length ≤ 1000000000) : F_code_Text mx s = some (txt s) := by
  have h := sm_len ((s.length : Int).toNat)
  have c1 : Nat.ble ((sm ((s.length : Int).toNat)).length + s.length) 140737488351232 = true := ble_t (by omega)
  simp only [F_code_Text, small_wrap (show 0 ≤ (s.length : Int) by omega) (show (s.length : Int) ≤ 18446744073709551615 by omega), Option.bind_some, c1, cond_true]
  rfl
def textsB (l : List (List Int)) : List Int := (l.map txt).flatten
theorem texts2_ok {a s t : List Int} (ha : a.length ≤ 1000000000) (hs : s.length ≤ 1000000000) (ht : t.length ≤ 1000000000) : F_code_texts mx (a, [s, t]) = some (a ++ (txt s ++ txt t)) := by
  have h1 := sm_len s.length
  have h2 := sm_len t.length
  have c1 : Nat.ble (a.length + (txt s).length) 140737488351232 = true := ble_t (by unfold txt; rw [List.length_append]; omega)
  have c2 : Nat.ble ((a ++ txt s).length + (txt t).length) 140737488351232 = true := ble_t (by unfold txt; simp only [List.length_append]; omega)
  have := iter_count (f := F_code_texts.l26 mx [s, t] (2 : Int)) (fun i => (if i = 0 then a else if i = 1 then a ++ txt s else a ++ txt s ++ txt t, (i : Int))) 2 (r := a ++ txt s ++ txt t) (by unfold N0; omega) (fun i hi => by
    match i, hi with
    | 0, _ =>
      show F_code_texts.l26 mx [s, t] (2 : Int) (a, (0 : Int)) = some (.next (a ++ txt s, (1 : Int)))
      show (F_code_Text mx s).bind _ = _
      rw [text_ok hs]
      simp only [Option.bind_some, c1, cond_true]; rfl
    | 1, _ =>
      show F_code_texts.l26 mx [s, t] (2 : Int) (a ++ txt s, (1 : Int)) = some (.next (a ++ txt s ++ txt t, (2 : Int)))
      show (F_code_Text mx t).bind _ = _
      rw [text_ok ht]
      simp only [Option.bind_some, c2, cond_true]; rfl) rfl
  have this : iter mx (F_code_texts.l26 mx [s, t] (2 : Int)) (a, (0 : Int)) = _ := this
  show (iter mx (F_code_texts.l26 mx [s, t] (2 : Int)) (a, (0 : Int))).bind _ = _
  rw [this, List.append_assoc]; rfl
theorem texts1_ok {a s : List Int} (ha : a.length ≤ 1000000000) (hs : s.length ≤ 1000000000) : F_code_texts mx (a, [s]) = some (a ++ txt s) := by
  have h1 := sm_len s.length
  have c1 : Nat.ble (a.length + (txt s).length) 140737488351232 = true := ble_t (by unfold txt; rw [List.length_append]; omega)
  have := iter_count (f := F_code_texts.l26 mx [s] (1 : Int)) (fun i => (if i = 0 then a else a ++ txt s, (i : Int))) 1 (r := a ++ txt s) (by unfold N0; omega) (fun i hi => by
    match i, hi with
    | 0, _ =>
      show F_code_texts.l26 mx [s] (1 : Int) (a, (0 : Int)) = some (.next (a ++ txt s, (1 : Int)))
      show (F_code_Text mx s).bind _ = _
      rw [text_ok hs]
      simp only [Option.bind_some, c1, cond_true]; rfl) rfl
  have this : iter mx (F_code_texts.l26 mx [s] (1 : Int)) (a, (0 : Int)) = _ := this
  show (iter mx (F_code_texts.l26 mx [s] (1 : Int)) (a, (0 : Int))).bind _ = _
  rw [this]; rfl

/-! ### which changes may be -/
def itm0 (x : Itm) : Prop := x.1 = [] ∧ x.2.1 = [] ∧ x.2.2.1 = 0 ∧ x.2.2.2.1 = 0 ∧ x.2.2.2.2 = 0
def chOk (c : Chg) : Prop := (0 ≤ c.2.1 ∧ c.2.1 < 4) ∧
  ((c.1 = 1 ∧ ((1 ≤ c.2.2.1.1.length ∧ c.2.2.1.1.length ≤ 32) ∧ c.2.2.1.2.1.length ≤ 512 ∧ (0 ≤ c.2.2.1.2.2.2.1 ∧ c.2.2.1.2.2.2.1 ≤ 1099511627776)) ∧ c.2.2.2.1 = [] ∧ c.2.2.2.2.1 = 0 ∧ c.2.2.2.2.2.1 = 0 ∧ c.2.2.2.2.2.2 = false) ∨
   (c.1 = 2 ∧ ((1 ≤ c.2.2.2.1.length ∧ c.2.2.2.1.length ≤ 32) ∧ (c.2.2.2.2.1 = 1 ∨ c.2.2.2.2.1 = 2)) ∧ itm0 c.2.2.1 ∧ c.2.2.2.2.2.1 = 0 ∧ c.2.2.2.2.2.2 = false) ∨
   (c.1 = 3 ∧ itm0 c.2.2.1 ∧ c.2.2.2.1 = [] ∧ c.2.2.2.2.1 = 0 ∧ c.2.2.2.2.2.1 = 0 ∧ c.2.2.2.2.2.2 = false) ∨
   (c.1 = 4 ∧ (0 ≤ c.2.2.2.2.2.1 ∧ c.2.2.2.2.2.1 ≤ 1099511627776) ∧ c.2.1 = 0 ∧ itm0 c.2.2.1 ∧ c.2.2.2.1 = [] ∧ c.2.2.2.2.1 = 0 ∧ c.2.2.2.2.2.2 = false) ∨
   (c.1 = 5 ∧ (0 ≤ c.2.2.2.2.2.1 ∧ c.2.2.2.2.2.1 ≤ 16) ∧ itm0 c.2.2.1 ∧ c.2.2.2.1 = [] ∧ c.2.2.2.2.1 = 0 ∧ c.2.2.2.2.2.2 = false) ∨
   (c.1 = 6 ∧ (0 ≤ c.2.2.2.2.2.1 ∧ c.2.2.2.2.2.1 ≤ 2147483647) ∧ c.2.1 = 0 ∧ itm0 c.2.2.1 ∧ c.2.2.2.1 = [] ∧ c.2.2.2.2.1 = 0) ∨
   (c.1 = 7 ∧ (0 ≤ c.2.2.2.2.2.1 ∧ c.2.2.2.2.2.1 ≤ 2147483647) ∧ c.2.1 = 0 ∧ itm0 c.2.2.1 ∧ c.2.2.2.1 = [] ∧ c.2.2.2.2.1 = 0 ∧ c.2.2.2.2.2.2 = false))
instance (x : Itm) : Decidable (itm0 x) := by unfold itm0; infer_instance
instance (c : Chg) : Decidable (chOk c) := by unfold chOk; infer_instance
theorem keyed_ok (b : List Int) : F_code_keyed mx b = some (decide (1 ≤ b.length ∧ b.length ≤ 32)) := by
  cases b with
  | nil => rfl
  | cons a b =>
    show some (decide ((((a :: b).length : Nat) : Int) ≤ 32)) = _
    congr 1
    rw [decide_eq_decide]
    simp only [List.length_cons]; omega
theorem cin_ok (a b : Int) : F_code_in mx (a, b) = some (decide (0 ≤ a ∧ a ≤ b)) := by
  simp only [F_code_in]
  by_cases h : 0 ≤ a
  · rw [decide_eq_true h]; simp [h]
  · rw [decide_eq_false h]; simp [h]
theorem ten_ok (a : Int) : F_code_tenanted mx a = some (decide (0 ≤ a ∧ a < 4)) := by
  simp only [F_code_tenanted]
  by_cases h : 0 ≤ a
  · rw [decide_eq_true h]; simp [h]
  · rw [decide_eq_false h]; simp [h]
theorem b3 {α : Type} (a b c : Bool) (r : α) : (bif a then (bif b then some (c, r) else some (false, r)) else some (false, r)) = some (a && (b && c), r) := by cases a <;> cases b <;> rfl
theorem b2 {α : Type} (a b c : Bool) (r : α) : (bif a then (bif b then some (true, r) else some (c, r)) else some (false, r)) = some (a && (b || c), r) := by cases a <;> cases b <;> rfl
theorem mayC_ok (c : Chg) : F_code_may mx (c.1, c.2.1, c.2.2.1.1, c.2.2.1.2.1, c.2.2.1.2.2.1, c.2.2.1.2.2.2.1, c.2.2.1.2.2.2.2, c.2.2.2) = some (decide (chOk c)) := by
  obtain ⟨kd, t, ⟨k, v, f, d, cs⟩, b, how, n, yes⟩ := c
  suffices h : ∃ B, F_code_may mx (kd, t, k, v, f, d, cs, b, how, n, yes) = some B ∧ (B = true ↔ chOk (kd, t, (k, v, f, d, cs), b, how, n, yes)) by
    obtain ⟨B, h1, h2⟩ := h
    show F_code_may mx (kd, t, k, v, f, d, cs, b, how, n, yes) = _
    rw [h1]; congr 1
    cases B with
    | true => exact (decide_eq_true (h2.1 rfl)).symm
    | false => exact (decide_eq_false fun h => by have := h2.2 h; cases this).symm
  have fin : ∀ (p : Bool) (r : Int × Int × List Int × List Int × Int × Int × Int × List Int × Int × Int × Bool), F_code_may.s30 mx kd t k v f d cs b how n yes = some (p, r) → F_code_may mx (kd, t, k, v, f, d, cs, b, how, n, yes) = some (p && (decide (0 ≤ t ∧ t < 4) &&
      ((r.1 == kd) && ((r.2.1 == t) && (((r.2.2.1 == k) && ((r.2.2.2.1 == v) && ((r.2.2.2.2.1 == f) && ((r.2.2.2.2.2.1 == d) && ((r.2.2.2.2.2.2.1 == cs) && true))))) && ((r.2.2.2.2.2.2.2.1 == b) && ((r.2.2.2.2.2.2.2.2.1 == how) && ((r.2.2.2.2.2.2.2.2.2.1 == n) && ((r.2.2.2.2.2.2.2.2.2.2 == yes) && true))))))))) := fun p r e => by
    simp only [F_code_may, e, Option.bind_some, ten_ok, bif_and]
  by_cases k1 : kd = 1
  · subst k1
    have s : F_code_may.s30 mx 1 t k v f d cs b how n yes = some (decide (1 ≤ k.length ∧ k.length ≤ 32) && (decide ((v.length : Int) ≤ 512) && decide (0 ≤ d ∧ d ≤ 1099511627776)), 1, t, k, v, f, d, cs, [], 0, 0, false) := by
      simp only [F_code_may.s30, keyed_ok, cin_ok, beq_self_eq_true, cond_true, Option.bind_some, b3]
    refine ⟨_, fin _ _ s, ?_⟩
    simp only [Bool.and_eq_true, decide_eq_true_eq, beq_iff_eq, chOk, itm0]
    grind
  by_cases k2 : kd = 2
  · subst k2
    have s : F_code_may.s30 mx 2 t k v f d cs b how n yes = some (decide (1 ≤ b.length ∧ b.length ≤ 32) && ((how == 1) || (how == 2)), 2, t, [], [], 0, 0, 0, b, how, 0, false) := by
      have e : ((2 : Int) == 1) = false := rfl
      simp only [F_code_may.s30, e, keyed_ok, cin_ok, beq_self_eq_true, cond_true, cond_false, Option.bind_some, b2]
    refine ⟨_, fin _ _ s, ?_⟩
    simp only [Bool.and_eq_true, Bool.or_eq_true, decide_eq_true_eq, beq_iff_eq, chOk, itm0]
    grind
  have z1 : (kd == 1) = false := by simpa using k1
  have z2 : (kd == 2) = false := by simpa using k2
  by_cases k3 : kd = 3
  · subst k3
    have s : F_code_may.s30 mx 3 t k v f d cs b how n yes = some (true, 3, t, [], [], 0, 0, 0, [], 0, 0, false) := rfl
    refine ⟨_, fin _ _ s, ?_⟩
    simp only [Bool.and_eq_true, decide_eq_true_eq, beq_iff_eq, chOk, itm0]
    grind
  have z3 : (kd == 3) = false := by simpa using k3
  by_cases k4 : kd = 4
  · subst k4
    have s : F_code_may.s30 mx 4 t k v f d cs b how n yes = some (decide (0 ≤ n ∧ n ≤ 1099511627776), 4, 0, [], [], 0, 0, 0, [], 0, n, false) := by
      simp only [F_code_may.s30, z1, z2, z3, cin_ok, beq_self_eq_true, cond_true, cond_false, Option.bind_some]
    refine ⟨_, fin _ _ s, ?_⟩
    simp only [Bool.and_eq_true, decide_eq_true_eq, beq_iff_eq, chOk, itm0]
    grind
  have z4 : (kd == 4) = false := by simpa using k4
  by_cases k5 : kd = 5
  · subst k5
    have s : F_code_may.s30 mx 5 t k v f d cs b how n yes = some (decide (0 ≤ n ∧ n ≤ 16), 5, t, [], [], 0, 0, 0, [], 0, n, false) := by
      simp only [F_code_may.s30, z1, z2, z3, z4, cin_ok, beq_self_eq_true, cond_true, cond_false, Option.bind_some]
    refine ⟨_, fin _ _ s, ?_⟩
    simp only [Bool.and_eq_true, decide_eq_true_eq, beq_iff_eq, chOk, itm0]
    grind
  have z5 : (kd == 5) = false := by simpa using k5
  by_cases k6 : kd = 6
  · subst k6
    have s : F_code_may.s30 mx 6 t k v f d cs b how n yes = some (decide (0 ≤ n ∧ n ≤ 2147483647), 6, 0, [], [], 0, 0, 0, [], 0, n, yes) := by
      simp only [F_code_may.s30, z1, z2, z3, z4, z5, cin_ok, beq_self_eq_true, cond_true, cond_false, Option.bind_some]
    refine ⟨_, fin _ _ s, ?_⟩
    simp only [Bool.and_eq_true, decide_eq_true_eq, beq_iff_eq, chOk, itm0]
    grind
  have z6 : (kd == 6) = false := by simpa using k6
  by_cases k7 : kd = 7
  · subst k7
    have s : F_code_may.s30 mx 7 t k v f d cs b how n yes = some (decide (0 ≤ n ∧ n ≤ 2147483647), 7, 0, [], [], 0, 0, 0, [], 0, n, false) := by
      simp only [F_code_may.s30, z1, z2, z3, z4, z5, z6, cin_ok, beq_self_eq_true, cond_true, cond_false, Option.bind_some]
    refine ⟨_, fin _ _ s, ?_⟩
    simp only [Bool.and_eq_true, decide_eq_true_eq, beq_iff_eq, chOk, itm0]
    grind
  have z7 : (kd == 7) = false := by simpa using k7
  have s : F_code_may.s30 mx kd t k v f d cs b how n yes = some (false, kd, 0, [], [], 0, 0, 0, [], 0, 0, false) := by
    simp only [F_code_may.s30, z1, z2, z3, z4, z5, z6, z7, cond_false]
  refine ⟨_, fin _ _ s, ?_⟩
  simp only [Bool.false_and, Bool.false_eq_true, false_iff]
  rintro ⟨_, h | h | h | h | h | h | h⟩
  · exact k1 h.1
  · exact k2 h.1
  · exact k3 h.1
  · exact k4 h.1
  · exact k5 h.1
  · exact k6 h.1
  · exact k7 h.1

/-! ### changes as bytes -/
def wfC (c : Chg) : Prop := isU32' c.2.2.1.2.2.1 ∧ 0 ≤ c.2.2.1.2.2.2.2 ∧ c.2.2.1.2.2.2.2 ≤ 18446744073709551615
where isU32' (n : Int) : Prop := 0 ≤ n ∧ n ≤ 4294967295
def putB (c : Chg) : List Int :=
  if c.1 = 1 then [1] ++ sm c.2.1.toNat ++ (txt c.2.2.1.1 ++ txt c.2.2.1.2.1) ++ (sm c.2.2.1.2.2.1.toNat ++ sm c.2.2.1.2.2.2.1.toNat) ++ sm c.2.2.1.2.2.2.2.toNat
  else if c.1 = 2 then [2] ++ sm c.2.1.toNat ++ txt c.2.2.2.1 ++ [c.2.2.2.2.1]
  else if c.1 = 3 then [3] ++ sm c.2.1.toNat
  else if c.1 = 5 then [5] ++ sm c.2.1.toNat ++ sm c.2.2.2.2.2.1.toNat
  else if c.1 = 6 then [6] ++ sm c.2.2.2.2.2.1.toNat ++ [if c.2.2.2.2.2.2 then 1 else 0]
  else [c.1] ++ sm c.2.2.2.2.2.1.toNat
theorem nums1 {a : List Int} {x : Int} (ha : a.length ≤ 1000000000) (h1 : 0 ≤ x) (h2 : x ≤ 9223372036854775807) : F_code_nums mx (a, [x]) = some (a ++ sm x.toNat) := by
  have := nums_ok ha (l := [x]) ⟨by simp, fun y hy => by rw [List.mem_singleton] at hy; subst hy; exact ⟨h1, h2⟩⟩
  simpa [numsB] using this
theorem nums2 {a : List Int} {x y : Int} (ha : a.length ≤ 1000000000) (h1 : 0 ≤ x) (h2 : x ≤ 9223372036854775807) (h3 : 0 ≤ y) (h4 : y ≤ 9223372036854775807) : F_code_nums mx (a, [x, y]) = some (a ++ (sm x.toNat ++ sm y.toNat)) := by
  have := nums_ok ha (l := [x, y]) ⟨by simp, fun z hz => by
    rcases List.mem_cons.1 hz with rfl | hz
    · exact ⟨h1, h2⟩
    · rw [List.mem_singleton] at hz; subst hz; exact ⟨h3, h4⟩⟩
  simpa [numsB] using this
theorem txt_len (s : List Int) : s.length + 1 ≤ (txt s).length ∧ (txt s).length ≤ s.length + 11 := by
  have := sm_len s.length
  unfold txt; rw [List.length_append]; omega
theorem putB_len {c : Chg} (h : chOk c) : 2 ≤ (putB c).length ∧ (putB c).length ≤ 700 := by
  have a1 := sm_len c.2.1.toNat
  have a2 := txt_len c.2.2.1.1
  have a3 := txt_len c.2.2.1.2.1
  have a4 := sm_len c.2.2.1.2.2.1.toNat
  have a5 := sm_len c.2.2.1.2.2.2.1.toNat
  have a6 := sm_len c.2.2.1.2.2.2.2.toNat
  have a7 := txt_len c.2.2.2.1
  have a8 := sm_len c.2.2.2.2.2.1.toNat
  unfold putB
  obtain ⟨_, h | h | h | h | h | h | h⟩ := h <;> simp only [h.1] <;> simp only [List.length_append, List.length_cons, List.length_nil, reduceIte, Int.reduceEq] <;> omega
theorem put_ok {acc : List Int} (ha : acc.length ≤ 10000000) {c : Chg} (hc : chOk c) (hw : wfC c) :
    F_code_put mx (acc, c.1, c.2.1, c.2.2.1.1, c.2.2.1.2.1, c.2.2.1.2.2.1, c.2.2.1.2.2.2.1, c.2.2.1.2.2.2.2, c.2.2.2) = some (acc ++ putB c) := by
  obtain ⟨kd, t, ⟨k, v, f, d, cs⟩, b, how, n, yes⟩ := c
  obtain ⟨⟨w1, w2⟩, w3, w4⟩ := hw
  obtain ⟨⟨t1, t2⟩, hc⟩ := hc
  dsimp only at w1 w2 w3 w4 t1 t2 hc
  have a1 := sm_len t.toNat
  have a2 := txt_len k
  have a3 := txt_len v
  have a4 := sm_len f.toNat
  have a5 := sm_len d.toNat
  have a6 := sm_len cs.toNat
  have a7 := txt_len b
  have a8 := sm_len n.toNat
  have c0 : Nat.ble (acc.length + 1) 140737488351232 = true := ble_t (by omega)
  have l1 : ∀ x : Int, (acc ++ [x]).length ≤ 1000000000 := fun x => by rw [List.length_append, List.length_singleton]; omega
  have l2 : ∀ x : Int, (acc ++ [x] ++ sm t.toNat).length ≤ 1000000000 := fun x => by simp only [List.length_append, List.length_singleton]; omega
  rcases hc with h | h | h | h | h | h | h
  · obtain ⟨rfl, ⟨⟨h1, h2⟩, h3, h4, h5⟩, rfl, rfl, rfl, rfl⟩ := h
    have l3 : (acc ++ [1] ++ sm t.toNat ++ (txt k ++ txt v)).length ≤ 1000000000 := by simp only [List.length_append, List.length_singleton]; omega
    have c1 : Nat.ble ((acc ++ [1] ++ sm t.toNat ++ (txt k ++ txt v) ++ (sm f.toNat ++ sm d.toNat)).length + (sm cs.toNat).length) 140737488351232 = true := ble_t (by simp only [List.length_append, List.length_singleton]; omega)
    have e1 : F_code_put.s116 mx 1 = some true := rfl
    have wf : IntKind.i64.wrap f = f := w64 (by omega) (by omega)
    have e6 : ((1 : Int) == 6) = false := rfl
    simp only [F_code_put, List.length_singleton, c0, cond_true, F_code_put.s14, e1, Option.bind_some, nums1 (l1 1) t1 (show t ≤ 9223372036854775807 by omega), F_code_put.s30, beq_self_eq_true,
      texts2_ok (l2 1) (show k.length ≤ 1000000000 by omega) (show v.length ≤ 1000000000 by omega), wf, nums2 l3 w1 (show f ≤ 9223372036854775807 by omega) h4 (show d ≤ 9223372036854775807 by omega), small_ok w3 w4, c1, putB, reduceIte]
    simp only [List.append_assoc]
  · obtain ⟨rfl, ⟨⟨h1, h2⟩, h3⟩, h4, rfl, rfl⟩ := h
    have c1 : Nat.ble ((acc ++ [2] ++ sm t.toNat ++ txt b).length + 1) 140737488351232 = true := ble_t (by simp only [List.length_append, List.length_singleton]; omega)
    have e1 : F_code_put.s116 mx 2 = some true := rfl
    have e2 : ((2 : Int) == 1) = false := rfl
    have e6 : ((2 : Int) == 6) = false := rfl
    simp only [F_code_put, List.length_singleton, c0, cond_true, F_code_put.s14, e1, Option.bind_some, nums1 (l1 2) t1 (show t ≤ 9223372036854775807 by omega), F_code_put.s30, e2, cond_false, beq_self_eq_true,
      texts1_ok (l2 2) (show b.length ≤ 1000000000 by omega), c1, putB, reduceIte]
    rw [if_neg (by decide)]
    simp only [List.append_assoc]
  · obtain ⟨rfl, _⟩ := h
    have e1 : F_code_put.s116 mx 3 = some true := rfl
    have e2 : ((3 : Int) == 1) = false := rfl
    have e3 : ((3 : Int) == 2) = false := rfl
    have e4 : F_code_put.s3934 mx 3 = some false := rfl
    have e6 : ((3 : Int) == 6) = false := rfl
    simp only [F_code_put, List.length_singleton, c0, cond_true, F_code_put.s14, e1, Option.bind_some, nums1 (l1 3) t1 (show t ≤ 9223372036854775807 by omega), F_code_put.s30, e2, e3, e4, e6, cond_false, putB, Int.reduceEq, reduceIte, List.append_assoc]
  · obtain ⟨rfl, ⟨h1, h2⟩, _⟩ := h
    have e1 : F_code_put.s116 mx 4 = some false := rfl
    have e2 : ((4 : Int) == 1) = false := rfl
    have e3 : ((4 : Int) == 2) = false := rfl
    have e4 : F_code_put.s3934 mx 4 = some true := rfl
    have e6 : ((4 : Int) == 6) = false := rfl
    simp only [F_code_put, List.length_singleton, c0, cond_true, F_code_put.s14, e1, Option.bind_some, nums1 (l1 4) h1 (show n ≤ 9223372036854775807 by omega), F_code_put.s30, e2, e3, e4, e6, cond_false, putB, Int.reduceEq, reduceIte, List.append_assoc]
  · obtain ⟨rfl, ⟨h1, h2⟩, _⟩ := h
    have e1 : F_code_put.s116 mx 5 = some true := rfl
    have e2 : ((5 : Int) == 1) = false := rfl
    have e3 : ((5 : Int) == 2) = false := rfl
    have e4 : F_code_put.s3934 mx 5 = some true := rfl
    have e6 : ((5 : Int) == 6) = false := rfl
    simp only [F_code_put, List.length_singleton, c0, cond_true, F_code_put.s14, e1, Option.bind_some, nums1 (l1 5) t1 (show t ≤ 9223372036854775807 by omega), nums1 (l2 5) h1 (show n ≤ 9223372036854775807 by omega), F_code_put.s30, e2, e3, e4, e6, cond_false, putB, Int.reduceEq, reduceIte]
    simp only [List.append_assoc]
  · obtain ⟨rfl, ⟨h1, h2⟩, _⟩ := h
    have e1 : F_code_put.s116 mx 6 = some false := rfl
    have e2 : ((6 : Int) == 1) = false := rfl
    have e3 : ((6 : Int) == 2) = false := rfl
    have e4 : F_code_put.s3934 mx 6 = some true := rfl
    have c1 : Nat.ble ((acc ++ [6] ++ sm n.toNat).length + 1) 140737488351232 = true := ble_t (by simp only [List.length_append, List.length_singleton]; omega)
    simp only [F_code_put, List.length_singleton, c0, cond_true, F_code_put.s14, e1, Option.bind_some, nums1 (l1 6) h1 (show n ≤ 9223372036854775807 by omega), F_code_put.s30, e2, e3, e4, cond_false, beq_self_eq_true, c1, putB, Int.reduceEq, reduceIte]
    cases yes <;> simp
  · obtain ⟨rfl, ⟨h1, h2⟩, _⟩ := h
    have e1 : F_code_put.s116 mx 7 = some false := rfl
    have e2 : ((7 : Int) == 1) = false := rfl
    have e3 : ((7 : Int) == 2) = false := rfl
    have e4 : F_code_put.s3934 mx 7 = some true := rfl
    have e6 : ((7 : Int) == 6) = false := rfl
    simp only [F_code_put, List.length_singleton, c0, cond_true, F_code_put.s14, e1, Option.bind_some, nums1 (l1 7) h1 (show n ≤ 9223372036854775807 by omega), F_code_put.s30, e2, e3, e4, e6, cond_false, putB, Int.reduceEq, reduceIte, List.append_assoc]

def putsB (cs : List Chg) : List Int := (cs.map putB).flatten
def chBytes (cs : List Chg) : List Int := sm cs.length ++ putsB cs
def chErr (cs : List Chg) : Int := if 4096 < cs.length then 4 else if ∀ c ∈ cs, chOk c then (if 65536 < (chBytes cs).length then 3 else 0) else 8
theorem putsB_app (a b : List Chg) : putsB (a ++ b) = putsB a ++ putsB b := by simp [putsB]
theorem putsB_one (c : Chg) : putsB [c] = putB c := by simp [putsB]
theorem chErr_zero {cs : List Chg} : chErr cs = 0 ↔ cs.length ≤ 4096 ∧ (∀ c ∈ cs, chOk c) ∧ (chBytes cs).length ≤ 65536 := by
  unfold chErr
  by_cases h1 : 4096 < cs.length
  · rw [if_pos h1]; exact ⟨fun h => (by cases h), fun h => (by omega)⟩
  rw [if_neg h1]
  by_cases h2 : ∀ c ∈ cs, chOk c
  · rw [if_pos h2]
    by_cases h3 : 65536 < (chBytes cs).length
    · rw [if_pos h3]; exact ⟨fun h => (by cases h), fun h => (by omega)⟩
    · rw [if_neg h3]; exact ⟨fun _ => ⟨(by omega), h2, (by omega)⟩, fun _ => rfl⟩
  · rw [if_neg h2]; exact ⟨fun h => (by cases h), fun h => absurd h.2.1 h2⟩
theorem changes_ok {cs : List Chg} (hw : ∀ c ∈ cs, wfC c) : F_code_Changes mx cs = some (if chErr cs = 0 then chBytes cs else [], chErr cs) := by
  simp only [F_code_Changes]
  by_cases h1 : 4096 < cs.length
  · have : chErr cs = 4 := by unfold chErr; rw [if_pos h1]
    rw [decide_eq_true (show (4096 : Int) < (cs.length : Int) by omega), this]; rfl
  rw [decide_eq_false (show ¬ (4096 : Int) < (cs.length : Int) by omega)]
  simp only [cond_false]
  have hstep : ∀ i, i < cs.length → F_code_Changes.l58 mx cs (cs.length : Int) (i : Int) = some (bif decide (chOk (cs.getD i C0)) then .next ((i + 1 : Nat) : Int) else .fin (.inl 8)) := fun i hi => by
    simp only [F_code_Changes.l58, ltd hi, lez, Bool.and_self, cond_true, Int.toNat_natCast, mayC_ok, Option.bind_some]
    rw [inc64 (by omega)]
    by_cases h : chOk (cs.getD i C0)
    · rw [decide_eq_true h]; rfl
    · rw [decide_eq_false h]; rfl
  rcases iter_scan (f := F_code_Changes.l58 mx cs (cs.length : Int)) (fun i => (i : Int)) cs.length (fun i => chOk (cs.getD i C0)) (lt_N0 (by omega)) (fun _ => .inl 8) (.inr ())
    (fun i hi hp _ => by rw [hstep i hi, decide_eq_true hp]; rfl)
    (fun i hi hp _ => by rw [hstep i hi, decide_eq_false hp]; rfl)
    (fun _ => by simp only [F_code_Changes.l58, nltd, cond_false]) with ⟨h, e1⟩ | ⟨i, hi, hp, _, e1⟩
  · have e1 : iter mx (F_code_Changes.l58 mx cs (cs.length : Int)) (0 : Int) = _ := e1
    have hall : ∀ c ∈ cs, chOk c := fun k hk => by
      obtain ⟨j, hj, rfl⟩ := List.mem_iff_getElem.1 hk
      have := h j hj
      rwa [getD_some hj] at this
    have hn := nums1 (a := []) (x := (cs.length : Int)) (by simp) (by omega) (by omega)
    rw [Int.toNat_natCast, List.nil_append] at hn
    rw [e1]
    simp only [Option.bind_some, hn]
    have hs := sm_len cs.length
    have hlen : ∀ i, i ≤ cs.length → (putsB (cs.take i)).length ≤ 700 * i := fun i => by
      induction i with
      | zero => intro _; simp [putsB]
      | succ i ih =>
        intro hi
        rw [take_succ' (l := cs) (k := i) (by omega) C0, putsB_app, putsB_one, List.length_append]
        have := ih (by omega)
        have := putB_len (hall _ (getD_lt (d := C0) (show i < cs.length by omega)))
        omega
    have hmono : ∀ i, i ≤ cs.length → (putsB (cs.take i)).length ≤ (putsB cs).length := fun i hi => by
      conv => rhs; rw [← List.take_append_drop i cs, putsB_app, List.length_append]
      omega
    have hst2 : ∀ i, i < cs.length → F_code_Changes.l250 mx cs (cs.length : Int) (sm cs.length ++ putsB (cs.take i), (i : Int)) = some (bif decide ((sm cs.length ++ putsB (cs.take (i + 1))).length ≤ 65536) then .next (sm cs.length ++ putsB (cs.take (i + 1)), ((i + 1 : Nat) : Int)) else .fin (.inl 3)) := fun i hi => by
      have hl := hlen i (by omega)
      have hp := put_ok (acc := sm cs.length ++ putsB (cs.take i)) (by rw [List.length_append]; omega) (hall _ (getD_lt (d := C0) hi)) (hw _ (getD_lt (d := C0) hi))
      have e3 : sm cs.length ++ putsB (cs.take i) ++ putB (cs.getD i C0) = sm cs.length ++ putsB (cs.take (i + 1)) := by
        rw [take_succ' hi C0, putsB_app, putsB_one, List.append_assoc]
      rw [e3] at hp
      simp only [F_code_Changes.l250, ltd hi, lez, Bool.and_self, cond_true, Int.toNat_natCast, hp, Option.bind_some]
      rw [inc64 (by omega)]
      by_cases h : (sm cs.length ++ putsB (cs.take (i + 1))).length ≤ 65536
      · rw [decide_eq_true h, decide_eq_false (show ¬ (65536 : Int) < (((sm cs.length ++ putsB (cs.take (i + 1))).length : Nat) : Int) by omega)]; rfl
      · rw [decide_eq_false h, decide_eq_true (show (65536 : Int) < (((sm cs.length ++ putsB (cs.take (i + 1))).length : Nat) : Int) by omega)]; rfl
    have hce : chErr cs = if 65536 < (chBytes cs).length then 3 else 0 := by unfold chErr; rw [if_neg h1, if_pos hall]
    rcases iter_scan (f := F_code_Changes.l250 mx cs (cs.length : Int)) (fun i => (sm cs.length ++ putsB (cs.take i), (i : Int))) cs.length (fun i => (sm cs.length ++ putsB (cs.take (i + 1))).length ≤ 65536) (lt_N0 (by omega)) (fun _ => .inl 3) (.inr (chBytes cs))
      (fun i hi hp _ => by rw [hst2 i hi, decide_eq_true hp]; rfl)
      (fun i hi hp _ => by rw [hst2 i hi, decide_eq_false hp]; rfl)
      (fun _ => by simp only [F_code_Changes.l250, nltd, cond_false, List.take_length]; rfl) with ⟨h2, e2⟩ | ⟨i, hi, hp, _, e2⟩
    · have e2 : iter mx (F_code_Changes.l250 mx cs (cs.length : Int)) (sm cs.length ++ putsB (cs.take 0), (0 : Int)) = _ := e2
      have e0 : sm cs.length ++ putsB (cs.take 0) = sm cs.length := by simp [putsB]
      rw [e0] at e2
      rw [e2]
      have : chErr cs = 0 := by
        rw [hce, if_neg]
        cases hn : cs.length with
        | zero =>
          have : cs = [] := List.length_eq_zero_iff.1 hn
          subst this
          decide
        | succ n =>
          have := h2 n (by omega)
          rw [← hn, List.take_length] at this
          unfold chBytes; omega
      rw [this]; rfl
    · have e2 : iter mx (F_code_Changes.l250 mx cs (cs.length : Int)) (sm cs.length ++ putsB (cs.take 0), (0 : Int)) = _ := e2
      have e0 : sm cs.length ++ putsB (cs.take 0) = sm cs.length := by simp [putsB]
      rw [e0] at e2
      rw [e2]
      have : chErr cs = 3 := by
        rw [hce, if_pos]
        have := hmono (i + 1) (by omega)
        unfold chBytes
        simp only [List.length_append] at hp ⊢
        omega
      rw [this]; rfl
  · have e1 : iter mx (F_code_Changes.l58 mx cs (cs.length : Int)) (0 : Int) = _ := e1
    have : chErr cs = 8 := by unfold chErr; rw [if_neg h1, if_neg (fun h => hp (h _ (getD_lt hi)))]
    rw [e1, this]; rfl
end Go.Proofs.Ytmkfifilpkhfoaa
