/- The document's own bytes of changes. -/
import Derived.Test.YtmkfifilpkhfoaaKXa
namespace Go.Proofs.Ytmkfifilpkhfoaa
open Go.Abs
set_option maxRecDepth 100000
theorem wu64n {n : Nat} (h : n < 18446744073709551616) : IntKind.u64.wrap (n : Int) = (n : Int) := wu64 (by omega) (by omega)
theorem rsmall_iter : ∀ (f n : Nat) (acc : List Int) (k : Nat), n < 128 ^ (f + 1) → n < 18446744073709551616 → f < k → acc.length + f ≤ 1000000 →
    ∃ a b, iterN (F_ref01_Small.l28 mx) k ((n : Int), acc) = some (((a : Nat) : Int), b) ∧ b ++ [((a : Nat) : Int)] = acc ++ smF f n ∧ a < 128 ∧ b.length ≤ acc.length + f
  | f, n, acc, k, hn, hn2, hk, hl => by
    obtain ⟨k, rfl⟩ : ∃ m, k = m + 1 := ⟨k - 1, by omega⟩
    by_cases h : n < 128
    · have e : F_ref01_Small.l28 mx ((n : Int), acc) = some (.fin ((n : Int), acc)) := by
        simp only [F_ref01_Small.l28, decide_eq_false (show ¬ (128 : Int) ≤ (n : Int) by omega), cond_false]
      refine ⟨n, acc, iterN_fin e, ?_, h, by omega⟩
      cases f with
      | zero => rfl
      | succ f => rw [smF, if_pos h]
    · cases f with
      | zero => simp at hn; omega
      | succ f =>
        have e : F_ref01_Small.l28 mx ((n : Int), acc) = some (.next (((n / 128 : Nat) : Int), acc ++ [((n % 128 + 128 : Nat) : Int)])) := by
          have m1 : (n : Int).tmod (128 : Int) = ((n % 128 : Nat) : Int) := cast_tmod n 128
          have d1 : (n : Int).tdiv (128 : Int) = ((n / 128 : Nat) : Int) := cast_tdiv n 128
          have e1 : IntKind.u8.wrap ((IntKind.u8.wrap ((n : Int).tmod (128 : Int))) + (128 : Int)) = ((n % 128 + 128 : Nat) : Int) := by
            rw [m1, wu8 (n := ((n % 128 : Nat) : Int)) (by omega) (by omega), wu8 (by omega) (by omega)]; rfl
          have e2 : IntKind.u64.wrap ((n : Int).tdiv (128 : Int)) = ((n / 128 : Nat) : Int) := by rw [d1, wu64n (by omega)]
          have c1 : Nat.ble (acc.length + 1) 140737488351232 = true := ble_t (by omega)
          simp only [F_ref01_Small.l28, decide_eq_true (show (128 : Int) ≤ (n : Int) by omega), cond_true, e1, e2, List.length_singleton, c1]
        rw [iterN_next e]
        obtain ⟨a, b, h1, h2, h3, h4⟩ := rsmall_iter f (n / 128) (acc ++ [((n % 128 + 128 : Nat) : Int)]) k (by rw [Nat.pow_succ] at hn; exact Nat.div_lt_of_lt_mul (by omega)) (by omega) (by omega) (by rw [List.length_append, List.length_singleton]; omega)
        rw [List.length_append, List.length_singleton] at h4
        refine ⟨a, b, h1, ?_, h3, by omega⟩
        rw [h2, smF, if_neg h, List.append_assoc]; rfl
theorem rsmall_ok {n : Int} (h1 : 0 ≤ n) (h2 : n ≤ 18446744073709551615) : F_ref01_Small mx n = some (sm n.toNat) := by
  obtain ⟨n, rfl⟩ := Int.eq_ofNat_of_zero_le h1
  have e0 : (128 : Nat) ^ (10 + 1) = 151115727451828646838272 := by decide
  obtain ⟨a, b, g1, g2, g3, g4⟩ := rsmall_iter 10 n [] N0 (by rw [e0]; omega) (by omega) (by unfold N0; omega) (by simp)
  have g1 : iter mx (F_ref01_Small.l28 mx) ((n : Int), ([] : List Int)) = _ := g1
  have c1 : Nat.ble (b.length + 1) 140737488351232 = true := ble_t (by simp at g4; omega)
  simp only [F_ref01_Small, g1, Option.bind_some, wu8n, List.length_singleton, c1, cond_true]
  rw [Nat.mod_eq_of_lt (by omega), g2]
  rfl
theorem rsmall_wrap {n : Int} (h1 : 0 ≤ n) (h2 : n ≤ 18446744073709551615) : F_ref01_Small mx (IntKind.u64.wrap n) = some (sm n.toNat) := by rw [wu64 h1 h2, rsmall_ok h1 h2]
theorem rnums_ok {l : List Int} (hl : okNums l) : F_ref01_small mx l = some (numsB l) := by
  obtain ⟨h1, h2⟩ := hl
  have := iter_count (f := F_ref01_small.l58 mx l) (fun i => (numsB (l.take i), (i : Int))) l.length (r := numsB l) (lt_N0 (by omega)) (fun i hi => by
    obtain ⟨b1, b2⟩ := h2 _ (getD_lt (d := 0) hi)
    have hn := numsB_len (l.take i)
    rw [List.length_take] at hn
    have hs := sm_len (l.getD i 0).toNat
    have c1 : Nat.ble ((numsB (l.take i)).length + (sm (l.getD i 0).toNat).length) 140737488351232 = true := ble_t (by omega)
    simp only [F_ref01_small.l58, ltd hi, lez, Bool.and_self, cond_true, Int.toNat_natCast, rsmall_wrap b1 (show l.getD i 0 ≤ 18446744073709551615 by omega), Option.bind_some, c1]
    rw [inc64 (by omega), take_succ' hi 0, numsB, numsB, List.map_append, List.flatten_append]
    simp) (by simp only [F_ref01_small.l58, nltd, cond_false, List.take_length])
  have this : iter mx (F_ref01_small.l58 mx l) (([] : List Int), (0 : Int)) = _ := this
  simp only [F_ref01_small, this, Option.bind_some]
theorem rnums1 {x : Int} (h1 : 0 ≤ x) (h2 : x ≤ 9223372036854775807) : F_ref01_small mx [x] = some (sm x.toNat) := by
  have := rnums_ok (l := [x]) ⟨by simp, fun y hy => by rw [List.mem_singleton] at hy; subst hy; exact ⟨h1, h2⟩⟩
  simpa [numsB] using this
theorem rnums2 {x y : Int} (h1 : 0 ≤ x) (h2 : x ≤ 9223372036854775807) (h3 : 0 ≤ y) (h4 : y ≤ 9223372036854775807) : F_ref01_small mx [x, y] = some (sm x.toNat ++ sm y.toNat) := by
  have := rnums_ok (l := [x, y]) ⟨by simp, fun z hz => by
    rcases List.mem_cons.1 hz with rfl | hz
    · exact ⟨h1, h2⟩
    · rw [List.mem_singleton] at hz; subst hz; exact ⟨h3, h4⟩⟩
  simpa [numsB] using this
theorem rtext_ok {s : List Int} (hs : s.length ≤ 1000000000) : F_ref01_Text mx s = some (txt s) := by
  have h := sm_len ((s.length : Int).toNat)
  have c1 : Nat.ble ((sm ((s.length : Int).toNat)).length + s.length) 140737488351232 = true := ble_t (by omega)
  simp only [F_ref01_Text, rsmall_wrap (show 0 ≤ (s.length : Int) by omega) (show (s.length : Int) ≤ 18446744073709551615 by omega), Option.bind_some, c1, cond_true]
  rfl
def itemB (x : Itm) : List Int := txt x.1 ++ txt x.2.1 ++ sm x.2.2.1.toNat ++ sm x.2.2.2.1.toNat ++ sm x.2.2.2.2.toNat
theorem ritem_bytes {x : Itm} (h1 : x.1.length ≤ 100000000) (h2 : x.2.1.length ≤ 100000000) (h3 : 0 ≤ x.2.2.1 ∧ x.2.2.1 ≤ 4294967295) (h4 : 0 ≤ x.2.2.2.1 ∧ x.2.2.2.1 ≤ 9223372036854775807) (h5 : 0 ≤ x.2.2.2.2 ∧ x.2.2.2.2 ≤ 18446744073709551615) :
    F_ref01_ItemBytes mx x = some (itemB x) := by
  have a1 := txt_len x.1
  have a2 := txt_len x.2.1
  have a3 := sm_len x.2.2.1.toNat
  have a4 := sm_len x.2.2.2.1.toNat
  have a5 := sm_len x.2.2.2.2.toNat
  have c1 : Nat.ble ((txt x.1).length + (txt x.2.1).length) 140737488351232 = true := ble_t (by omega)
  have c2 : Nat.ble ((txt x.1 ++ txt x.2.1).length + (sm x.2.2.1.toNat).length) 140737488351232 = true := ble_t (by simp only [List.length_append]; omega)
  have c3 : Nat.ble ((txt x.1 ++ txt x.2.1 ++ sm x.2.2.1.toNat).length + (sm x.2.2.2.1.toNat).length) 140737488351232 = true := ble_t (by simp only [List.length_append]; omega)
  have c4 : Nat.ble ((txt x.1 ++ txt x.2.1 ++ sm x.2.2.1.toNat ++ sm x.2.2.2.1.toNat).length + (sm x.2.2.2.2.toNat).length) 140737488351232 = true := ble_t (by simp only [List.length_append]; omega)
  simp only [F_ref01_ItemBytes, rtext_ok (s := x.1) (by omega), rtext_ok (s := x.2.1) (by omega), Option.bind_some, c1, cond_true, rsmall_wrap h3.1 (show x.2.2.1 ≤ 18446744073709551615 by omega), c2, rnums1 h4.1 h4.2, c3, rsmall_ok h5.1 h5.2, c4]
  rfl
theorem rten_ok (a : Int) : F_ref01_Tenant mx a = some (decide (0 ≤ a ∧ a < 4)) := by
  simp only [F_ref01_Tenant]
  by_cases h : 0 ≤ a
  · rw [decide_eq_true h]; simp [h]
  · rw [decide_eq_false h]; simp [h]
theorem rchange_ok (c : Chg) : F_ref01_Change mx (c.1, c.2.1, c.2.2.1.1, c.2.2.1.2.1, c.2.2.1.2.2.1, c.2.2.1.2.2.2.1, c.2.2.1.2.2.2.2, c.2.2.2) = some (decide (chOk c)) := by
  obtain ⟨kd, t, ⟨k, v, f, d, cs⟩, b, how, n, yes⟩ := c
  suffices h : ∃ B, F_ref01_Change mx (kd, t, k, v, f, d, cs, b, how, n, yes) = some B ∧ (B = true ↔ chOk (kd, t, (k, v, f, d, cs), b, how, n, yes)) by
    obtain ⟨B, h1, h2⟩ := h
    show F_ref01_Change mx (kd, t, k, v, f, d, cs, b, how, n, yes) = _
    rw [h1]; congr 1
    cases B with
    | true => exact (decide_eq_true (h2.1 rfl)).symm
    | false => exact (decide_eq_false fun h => by have := h2.2 h; cases this).symm
  have fin : ∀ (r : Int × Int × List Int × List Int × Int × Int × Int × List Int × Int × Int × Bool) (B : Bool), F_ref01_bare.s14 mx kd t k v f d cs b how n yes = some r →
      (bif kd == (1 : Int) then (F_ref01_Item mx (k, v, f, d, cs)).bind fun x6 => some x6
        else bif kd == (2 : Int) then (F_ref01_Key mx b).bind fun x8 => bif x8 then (bif how == (1 : Int) then some true else some (how == (2 : Int))) else some false
        else bif kd == (3 : Int) then some true else
        bif kd == (4 : Int) then (bif decide ((0 : Int) ≤ n) then some (decide (n ≤ (1099511627776 : Int))) else some false)
        else bif kd == (5 : Int) then (bif decide ((0 : Int) ≤ n) then some (decide (n ≤ (16 : Int))) else some false)
        else bif kd == (6 : Int) then (bif decide ((0 : Int) ≤ n) then some (decide (n ≤ (2147483647 : Int))) else some false)
        else bif kd == (7 : Int) then (bif decide ((0 : Int) ≤ n) then some (decide (n ≤ (2147483647 : Int))) else some false) else some false) = some B →
      F_ref01_Change mx (kd, t, k, v, f, d, cs, b, how, n, yes) = some (((r.1 == kd) && ((r.2.1 == t) && (((r.2.2.1 == k) && ((r.2.2.2.1 == v) && ((r.2.2.2.2.1 == f) && ((r.2.2.2.2.2.1 == d) && ((r.2.2.2.2.2.2.1 == cs) && true))))) && ((r.2.2.2.2.2.2.2.1 == b) && ((r.2.2.2.2.2.2.2.2.1 == how) && ((r.2.2.2.2.2.2.2.2.2.1 == n) && ((r.2.2.2.2.2.2.2.2.2.2 == yes) && true))))))) &&
        (decide (0 ≤ t ∧ t < 4) && B)) := fun r B e e2 => by
    simp only [F_ref01_Change, F_ref01_bare, e, Option.bind_some, rten_ok]
    cases ((r.1 == kd) && ((r.2.1 == t) && (((r.2.2.1 == k) && ((r.2.2.2.1 == v) && ((r.2.2.2.2.1 == f) && ((r.2.2.2.2.2.1 == d) && ((r.2.2.2.2.2.2.1 == cs) && true))))) && ((r.2.2.2.2.2.2.2.1 == b) && ((r.2.2.2.2.2.2.2.2.1 == how) && ((r.2.2.2.2.2.2.2.2.2.1 == n) && ((r.2.2.2.2.2.2.2.2.2.2 == yes) && true))))))) with
    | false => rfl
    | true =>
      cases decide (0 ≤ t ∧ t < 4) with
      | false => rfl
      | true =>
        simp only [Bool.not_true, cond_false, Bool.true_and]
        exact e2
  have rng : ∀ m : Int, (bif decide ((0 : Int) ≤ n) then some (decide (n ≤ m)) else some false) = some (decide (0 ≤ n ∧ n ≤ m)) := fun m => by
    by_cases h : 0 ≤ n
    · rw [decide_eq_true h]; simp [h]
    · rw [decide_eq_false h]; simp [h]
  by_cases k1 : kd = 1
  · subst k1
    refine ⟨_, fin _ (decide (1 ≤ k.length ∧ k.length ≤ 32) && (decide (v.length ≤ 512) && decide (0 ≤ d ∧ d ≤ 1099511627776))) rfl (by simp only [beq_self_eq_true, cond_true, ritem_ok, Option.bind_some]), ?_⟩
    simp only [Bool.and_eq_true, decide_eq_true_eq, beq_iff_eq, chOk, itm0]
    grind
  by_cases k2 : kd = 2
  · subst k2
    have e : ((2 : Int) == 1) = false := rfl
    refine ⟨_, fin _ (decide (1 ≤ b.length ∧ b.length ≤ 32) && ((how == 1) || (how == 2))) rfl (by
      simp only [e, beq_self_eq_true, cond_true, cond_false, rkey_ok, Option.bind_some]
      cases decide (1 ≤ b.length ∧ b.length ≤ 32) <;> cases (how == 1) <;> rfl), ?_⟩
    simp only [Bool.and_eq_true, Bool.or_eq_true, decide_eq_true_eq, beq_iff_eq, chOk, itm0]
    grind
  have z1 : (kd == 1) = false := by simpa using k1
  have z2 : (kd == 2) = false := by simpa using k2
  by_cases k3 : kd = 3
  · subst k3
    refine ⟨_, fin _ true rfl rfl, ?_⟩
    simp only [Bool.and_eq_true, decide_eq_true_eq, beq_iff_eq, chOk, itm0]
    grind
  have z3 : (kd == 3) = false := by simpa using k3
  by_cases k4 : kd = 4
  · subst k4
    refine ⟨_, fin _ (decide (0 ≤ n ∧ n ≤ 1099511627776)) rfl (by simp only [z1, z2, z3, beq_self_eq_true, cond_true, cond_false, rng]), ?_⟩
    simp only [Bool.and_eq_true, decide_eq_true_eq, beq_iff_eq, chOk, itm0]
    grind
  have z4 : (kd == 4) = false := by simpa using k4
  by_cases k5 : kd = 5
  · subst k5
    refine ⟨_, fin _ (decide (0 ≤ n ∧ n ≤ 16)) rfl (by simp only [z1, z2, z3, z4, beq_self_eq_true, cond_true, cond_false, rng]), ?_⟩
    simp only [Bool.and_eq_true, decide_eq_true_eq, beq_iff_eq, chOk, itm0]
    grind
  have z5 : (kd == 5) = false := by simpa using k5
  by_cases k6 : kd = 6
  · subst k6
    refine ⟨_, fin _ (decide (0 ≤ n ∧ n ≤ 2147483647)) rfl (by simp only [z1, z2, z3, z4, z5, beq_self_eq_true, cond_true, cond_false, rng]), ?_⟩
    simp only [Bool.and_eq_true, decide_eq_true_eq, beq_iff_eq, chOk, itm0]
    grind
  have z6 : (kd == 6) = false := by simpa using k6
  by_cases k7 : kd = 7
  · subst k7
    refine ⟨_, fin _ (decide (0 ≤ n ∧ n ≤ 2147483647)) rfl (by simp only [z1, z2, z3, z4, z5, z6, beq_self_eq_true, cond_true, cond_false, rng]), ?_⟩
    simp only [Bool.and_eq_true, decide_eq_true_eq, beq_iff_eq, chOk, itm0]
    grind
  have z7 : (kd == 7) = false := by simpa using k7
  refine ⟨_, fin (kd, 0, [], [], 0, 0, 0, [], 0, 0, false) false (by simp only [F_ref01_bare.s14, z1, z2, z3, z4, z5, z6, z7, cond_false]) (by simp only [z1, z2, z3, z4, z5, z6, z7, cond_false]), ?_⟩
  simp only [Bool.and_false, Bool.false_eq_true, false_iff]
  rintro ⟨_, h | h | h | h | h | h | h⟩
  · exact k1 h.1
  · exact k2 h.1
  · exact k3 h.1
  · exact k4 h.1
  · exact k5 h.1
  · exact k6 h.1
  · exact k7 h.1
theorem rone_ok {c : Chg} (hc : chOk c) (hw : wfC c) :
    F_ref01_one mx (c.1, c.2.1, c.2.2.1.1, c.2.2.1.2.1, c.2.2.1.2.2.1, c.2.2.1.2.2.2.1, c.2.2.1.2.2.2.2, c.2.2.2) = some (putB c) := by
  obtain ⟨kd, t, ⟨k, v, f, d, cs⟩, b, how, n, yes⟩ := c
  obtain ⟨⟨w1, w2⟩, w3, w4⟩ := hw
  obtain ⟨⟨t1, t2⟩, hc⟩ := hc
  dsimp only at w1 w2 w3 w4 t1 t2 hc
  have a1 := sm_len t.toNat
  have a7 := txt_len b
  have a8 := sm_len n.toNat
  have ble : ∀ {x : Nat}, x ≤ 1000000 → Nat.ble x 140737488351232 = true := fun h => ble_t (by omega)
  have ht := rnums1 t1 (show t ≤ 9223372036854775807 by omega)
  rcases hc with h | h | h | h | h | h | h
  · obtain ⟨rfl, ⟨⟨h1, h2⟩, h3, h4, h5⟩, rfl, rfl, rfl, rfl⟩ := h
    have hi := ritem_bytes (x := (k, v, f, d, cs)) (show k.length ≤ 100000000 by omega) (show v.length ≤ 100000000 by omega) ⟨w1, w2⟩ ⟨h4, by dsimp only; omega⟩ ⟨w3, w4⟩
    have hil : (itemB (k, v, f, d, cs)).length ≤ 1000 := by
      have a2 := txt_len k
      have a3 := txt_len v
      have a4 := sm_len f.toNat
      have a5 := sm_len d.toNat
      have a6 := sm_len cs.toNat
      unfold itemB; simp only [List.length_append]; omega
    simp only [F_ref01_one, beq_self_eq_true, cond_true, ht, Option.bind_some, List.length_singleton, ble (show 1 + (sm t.toNat).length ≤ 1000000 by omega), hi,
      ble (show ([(1 : Int)] ++ sm t.toNat).length + (itemB (k, v, f, d, cs)).length ≤ 1000000 by rw [List.length_append, List.length_singleton]; omega), putB, reduceIte]
    simp only [itemB, List.append_assoc]
  · obtain ⟨rfl, ⟨⟨h1, h2⟩, h3⟩, h4, rfl, rfl⟩ := h
    have e2 : ((2 : Int) == 1) = false := rfl
    simp only [F_ref01_one, e2, cond_false, beq_self_eq_true, cond_true, ht, Option.bind_some, List.length_singleton, ble (show 1 + (sm t.toNat).length ≤ 1000000 by omega), rtext_ok (s := b) (by omega),
      ble (show ([(2 : Int)] ++ sm t.toNat).length + (txt b).length ≤ 1000000 by rw [List.length_append, List.length_singleton]; omega), ble (show ([(2 : Int)] ++ sm t.toNat ++ txt b).length + 1 ≤ 1000000 by simp only [List.length_append, List.length_singleton]; omega), putB, reduceIte]
    rw [if_neg (by decide)]
  · obtain ⟨rfl, _⟩ := h
    have e2 : ((3 : Int) == 1) = false := rfl
    have e3 : ((3 : Int) == 2) = false := rfl
    simp only [F_ref01_one, e2, e3, cond_false, beq_self_eq_true, cond_true, ht, Option.bind_some, List.length_singleton, ble (show 1 + (sm t.toNat).length ≤ 1000000 by omega), putB, Int.reduceEq, reduceIte]
  · obtain ⟨rfl, ⟨h1, h2⟩, _⟩ := h
    have e2 : ((4 : Int) == 1) = false := rfl
    have e3 : ((4 : Int) == 2) = false := rfl
    have e4 : ((4 : Int) == 3) = false := rfl
    simp only [F_ref01_one, e2, e3, e4, cond_false, beq_self_eq_true, cond_true, rnums1 h1 (show n ≤ 9223372036854775807 by omega), Option.bind_some, List.length_singleton, ble (show 1 + (sm n.toNat).length ≤ 1000000 by omega), putB, Int.reduceEq, reduceIte]
  · obtain ⟨rfl, ⟨h1, h2⟩, _⟩ := h
    have e2 : ((5 : Int) == 1) = false := rfl
    have e3 : ((5 : Int) == 2) = false := rfl
    have e4 : ((5 : Int) == 3) = false := rfl
    have e5 : ((5 : Int) == 4) = false := rfl
    simp only [F_ref01_one, e2, e3, e4, e5, cond_false, beq_self_eq_true, cond_true, rnums2 t1 (show t ≤ 9223372036854775807 by omega) h1 (show n ≤ 9223372036854775807 by omega), Option.bind_some, List.length_singleton, List.length_append,
      ble (show 1 + ((sm t.toNat).length + (sm n.toNat).length) ≤ 1000000 by omega), putB, Int.reduceEq, reduceIte, List.append_assoc]
  · obtain ⟨rfl, ⟨h1, h2⟩, _⟩ := h
    have e2 : ((6 : Int) == 1) = false := rfl
    have e3 : ((6 : Int) == 2) = false := rfl
    have e4 : ((6 : Int) == 3) = false := rfl
    have e5 : ((6 : Int) == 4) = false := rfl
    have e6 : ((6 : Int) == 5) = false := rfl
    have e7 : ((6 : Int) == 7) = false := rfl
    simp only [F_ref01_one, e2, e3, e4, e5, e6, e7, cond_false, beq_self_eq_true, cond_true, rnums1 h1 (show n ≤ 9223372036854775807 by omega), Option.bind_some, List.length_singleton, ble (show 1 + (sm n.toNat).length ≤ 1000000 by omega),
      ble (show ([(6 : Int)] ++ sm n.toNat).length + 1 ≤ 1000000 by rw [List.length_append, List.length_singleton]; omega), putB, Int.reduceEq, reduceIte]
    cases yes <;> rfl
  · obtain ⟨rfl, ⟨h1, h2⟩, _⟩ := h
    have e2 : ((7 : Int) == 1) = false := rfl
    have e3 : ((7 : Int) == 2) = false := rfl
    have e4 : ((7 : Int) == 3) = false := rfl
    have e5 : ((7 : Int) == 4) = false := rfl
    have e6 : ((7 : Int) == 5) = false := rfl
    simp only [F_ref01_one, e2, e3, e4, e5, e6, cond_false, beq_self_eq_true, cond_true, rnums1 h1 (show n ≤ 9223372036854775807 by omega), Option.bind_some, List.length_singleton, ble (show 1 + (sm n.toNat).length ≤ 1000000 by omega), putB, Int.reduceEq, reduceIte]
theorem rchanges_ok {cs : List Chg} (hw : ∀ c ∈ cs, wfC c) : F_ref01_Changes mx cs = some (if chErr cs = 0 then chBytes cs else [], chErr cs) := by
  simp only [F_ref01_Changes]
  by_cases h1 : 4096 < cs.length
  · have : chErr cs = 4 := by unfold chErr; rw [if_pos h1]
    rw [decide_eq_true (show (4096 : Int) < (cs.length : Int) by omega), this]; rfl
  rw [decide_eq_false (show ¬ (4096 : Int) < (cs.length : Int) by omega)]
  have hn := rnums1 (x := (cs.length : Int)) (by omega) (by omega)
  rw [Int.toNat_natCast] at hn
  simp only [cond_false, hn, Option.bind_some]
  have hstep : ∀ i, i < cs.length → F_ref01_Changes.l122 mx cs (i : Int) = some (bif decide (chOk (cs.getD i C0)) then .next ((i + 1 : Nat) : Int) else .fin (.inl 8)) := fun i hi => by
    simp only [F_ref01_Changes.l122, ltd hi, lez, Bool.and_self, cond_true, Int.toNat_natCast, rchange_ok, Option.bind_some]
    rw [inc64 (by omega)]
    by_cases h : chOk (cs.getD i C0)
    · rw [decide_eq_true h]; rfl
    · rw [decide_eq_false h]; rfl
  rcases iter_scan (f := F_ref01_Changes.l122 mx cs) (fun i => (i : Int)) cs.length (fun i => chOk (cs.getD i C0)) (lt_N0 (by omega)) (fun _ => .inl 8) (.inr ())
    (fun i hi hp _ => by rw [hstep i hi, decide_eq_true hp]; rfl)
    (fun i hi hp _ => by rw [hstep i hi, decide_eq_false hp]; rfl)
    (fun _ => by simp only [F_ref01_Changes.l122, nltd, cond_false]) with ⟨h, e1⟩ | ⟨i, hi, hp, _, e1⟩
  · have e1 : iter mx (F_ref01_Changes.l122 mx cs) (0 : Int) = _ := e1
    have hall : ∀ c ∈ cs, chOk c := fun k hk => by
      obtain ⟨j, hj, rfl⟩ := List.mem_iff_getElem.1 hk
      have := h j hj
      rwa [getD_some hj] at this
    rw [e1]
    simp only [Option.bind_some]
    have hs := sm_len cs.length
    have hce : chErr cs = if 65536 < (chBytes cs).length then 3 else 0 := by unfold chErr; rw [if_neg h1, if_pos hall]
    have hlen : ∀ i, i ≤ cs.length → (putsB (cs.take i)).length ≤ 700 * i := fun i => by
      induction i with
      | zero => intro _; simp [putsB]
      | succ i ih =>
        intro hi
        rw [take_succ' (l := cs) (k := i) (by omega) C0, putsB_app, putsB_one, List.length_append]
        have := ih (by omega)
        have := putB_len (hall _ (getD_lt (d := C0) (show i < cs.length by omega)))
        omega
    have hmono : ∀ i, i ≤ cs.length → (putsB (cs.take i)).length ≤ (putsB cs).length := fun i hi => by
      conv => rhs; rw [← List.take_append_drop i cs, putsB_app, List.length_append]
      omega
    have hst2 : ∀ i, i < cs.length → F_ref01_Changes.l250 mx cs (sm cs.length ++ putsB (cs.take i), (i : Int)) = some (bif decide ((sm cs.length ++ putsB (cs.take i)).length ≤ 65536) then .next (sm cs.length ++ putsB (cs.take (i + 1)), ((i + 1 : Nat) : Int)) else .fin (sm cs.length ++ putsB (cs.take i))) := fun i hi => by
      have hl := hlen i (by omega)
      have hp := rone_ok (hall _ (getD_lt (d := C0) hi)) (hw _ (getD_lt (d := C0) hi))
      have hpl := putB_len (hall _ (getD_lt (d := C0) hi))
      have e3 : sm cs.length ++ putsB (cs.take i) ++ putB (cs.getD i C0) = sm cs.length ++ putsB (cs.take (i + 1)) := by
        rw [take_succ' hi C0, putsB_app, putsB_one, List.append_assoc]
      have c1 : Nat.ble ((sm cs.length ++ putsB (cs.take i)).length + (putB (cs.getD i C0)).length) 140737488351232 = true := ble_t (by rw [List.length_append]; omega)
      have es : F_ref01_Changes.s1000 mx cs (sm cs.length ++ putsB (cs.take i), (i : Int)) = some (bif decide ((sm cs.length ++ putsB (cs.take i)).length ≤ 65536) then .inl () else .inr ()) := by
        simp only [F_ref01_Changes.s1000, ltd hi, cond_true]
        by_cases h : (sm cs.length ++ putsB (cs.take i)).length ≤ 65536
        · rw [decide_eq_true h, decide_eq_true (show (((sm cs.length ++ putsB (cs.take i)).length : Nat) : Int) ≤ 65536 by omega)]; rfl
        · rw [decide_eq_false h, decide_eq_false (show ¬ (((sm cs.length ++ putsB (cs.take i)).length : Nat) : Int) ≤ 65536 by omega)]; rfl
      simp only [F_ref01_Changes.l250, es, Option.bind_some]
      cases decide ((sm cs.length ++ putsB (cs.take i)).length ≤ 65536) with
      | false => rfl
      | true =>
        simp only [cond_true, ltd hi, lez, Bool.and_self, Int.toNat_natCast, hp, Option.bind_some, c1, e3]
        rw [inc64 (by omega)]
    have big : ∀ x : List Int, 65536 < x.length → 65536 < (chBytes cs).length → (bif decide ((65536 : Int) < (x.length : Int)) then some (([] : List Int), (3 : Int)) else some (x, 0)) = some (if chErr cs = 0 then chBytes cs else [], chErr cs) := fun x hx hc => by
      rw [decide_eq_true (show (65536 : Int) < (x.length : Int) by omega), hce, if_pos hc]; rfl
    rcases iter_scan (f := F_ref01_Changes.l250 mx cs) (fun i => (sm cs.length ++ putsB (cs.take i), (i : Int))) cs.length (fun i => (sm cs.length ++ putsB (cs.take i)).length ≤ 65536) (lt_N0 (by omega)) (fun i => sm cs.length ++ putsB (cs.take i)) (chBytes cs)
      (fun i hi hp _ => by rw [hst2 i hi, decide_eq_true hp]; rfl)
      (fun i hi hp _ => by rw [hst2 i hi, decide_eq_false hp]; rfl)
      (fun _ => by simp only [F_ref01_Changes.l250, F_ref01_Changes.s1000, nltd, cond_false, List.take_length, Option.bind_some]; rfl) with ⟨h2, e2⟩ | ⟨i, hi, hp, _, e2⟩
    · have e2 : iter mx (F_ref01_Changes.l250 mx cs) (sm cs.length ++ putsB (cs.take 0), (0 : Int)) = _ := e2
      have e0 : sm cs.length ++ putsB (cs.take 0) = sm cs.length := by simp [putsB]
      rw [e0] at e2
      rw [e2]
      simp only [Option.bind_some]
      by_cases h3 : 65536 < (chBytes cs).length
      · exact big _ h3 h3
      · rw [decide_eq_false (show ¬ (65536 : Int) < ((chBytes cs).length : Int) by omega), hce, if_neg h3]; rfl
    · have e2 : iter mx (F_ref01_Changes.l250 mx cs) (sm cs.length ++ putsB (cs.take 0), (0 : Int)) = _ := e2
      have e0 : sm cs.length ++ putsB (cs.take 0) = sm cs.length := by simp [putsB]
      rw [e0] at e2
      rw [e2]
      have hm := hmono i (by omega)
      refine big _ (by omega) ?_
      unfold chBytes
      simp only [List.length_append] at hp ⊢
      omega
  · have e1 : iter mx (F_ref01_Changes.l122 mx cs) (0 : Int) = _ := e1
    have : chErr cs = 8 := by unfold chErr; rw [if_neg h1, if_neg (fun h => hp (h _ (getD_lt hi)))]
    rw [e1, this]; rfl
end Go.Proofs.Ytmkfifilpkhfoaa
