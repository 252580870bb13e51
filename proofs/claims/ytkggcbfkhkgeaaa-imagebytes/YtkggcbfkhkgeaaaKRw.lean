/- The document's own answers on an image's bytes. -/
import Derived.Test.YtkggcbfkhkgeaaaKR3
import Derived.Test.YtkggcbfkhkgeaaaKF
namespace Go.Proofs.Ytkggcbfkhkgeaaa
open Go.Abs
set_option maxRecDepth 100000
theorem rinums_ok {l : List Int} (hl : okNums l) : F_ref21_small mx l = some (numsB l) := by
  obtain ⟨h1, h2⟩ := hl
  have := iter_count (f := F_ref21_small.l58 mx l) (fun i => (numsB (l.take i), (i : Int))) l.length (r := numsB l) (lt_N0 (by omega)) (fun i hi => by
    obtain ⟨b1, b2⟩ := h2 _ (getD_lt (d := 0) hi)
    have hn := numsB_len (l.take i)
    rw [List.length_take] at hn
    have hs := sm_len (l.getD i 0).toNat
    have c1 : Nat.ble ((numsB (l.take i)).length + (sm (l.getD i 0).toNat).length) 140737488351232 = true := ble_t (by omega)
    simp only [F_ref21_small.l58, ltd hi, lez, Bool.and_self, cond_true, Int.toNat_natCast, rsmall_wrap b1 (show l.getD i 0 ≤ 18446744073709551615 by omega), Option.bind_some, c1]
    rw [inc64 (by omega), take_succ' hi 0, numsB, numsB, List.map_append, List.flatten_append]
    simp) (by simp only [F_ref21_small.l58, nltd, cond_false, List.take_length])
  have this : iter mx (F_ref21_small.l58 mx l) (([] : List Int), (0 : Int)) = _ := this
  simp only [F_ref21_small, this, Option.bind_some]
theorem rinums1 {x : Int} (h1 : 0 ≤ x) (h2 : x ≤ 9223372036854775807) : F_ref21_small mx [x] = some (sm x.toNat) := by
  have := rinums_ok (l := [x]) ⟨by simp, fun y hy => by rw [List.mem_singleton] at hy; subst hy; exact ⟨h1, h2⟩⟩
  simpa [numsB] using this
theorem rinums2 {x y : Int} (h1 : 0 ≤ x) (h2 : x ≤ 9223372036854775807) (h3 : 0 ≤ y) (h4 : y ≤ 9223372036854775807) : F_ref21_small mx [x, y] = some (sm x.toNat ++ sm y.toNat) := by
  have := rinums_ok (l := [x, y]) ⟨by simp, fun z hz => by
    rcases List.mem_cons.1 hz with rfl | hz
    · exact ⟨h1, h2⟩
    · rw [List.mem_singleton] at hz; subst hz; exact ⟨h3, h4⟩⟩
  simpa [numsB] using this
theorem rwrite_ok {v : Img} (hb : ∀ k ∈ v.2.2.1, k.2.1.length ≤ 140737488351232 ∧ k.2.2.1.length ≤ 140737488351232) (hw : ∀ k ∈ v.2.2.1, wfK k) : F_ref21_Write mx v = some (writeS v) := by
  have hck := rcheck_ok (v := v) hb
  have hh := fun h => headB_len (v := v) h
  obtain ⟨t, q, l, e, n, b⟩ := v
  dsimp only at hck hw
  simp only [F_ref21_Write, hck, Option.bind_some, writeS, bne_int]
  by_cases h1 : okI (t, q, l, e, n, b)
  case neg => simp only [if_neg h1]; rfl
  simp only [if_pos h1, decide_true, Bool.not_true, cond_false]
  obtain ⟨⟨t1, t2⟩, ⟨q1, q2, q3⟩, l1, ⟨e1, e2⟩, ⟨n1, n2⟩, hk, _⟩ := id h1
  dsimp only at t1 t2 q1 q2 q3 l1 e1 e2 n1 n2 hk
  have hh := hh h1
  have s1 := sm_len t.toNat
  have s2 := sm_len q.length
  have s3 := numsB_len q
  have s4 := sm_len e.toNat
  have s5 := sm_len n.toNat
  have s6 := sm_len l.length
  have g1 := rinums2 (x := t) (y := (q.length : Int)) t1 (by omega) (by omega) (by omega)
  rw [Int.toNat_natCast] at g1
  have g2 := rinums_ok (l := q) ⟨by omega, fun x hx => ⟨(q3 x hx).1, by have := (q3 x hx).2; omega⟩⟩
  have d1 : Nat.ble ((sm t.toNat ++ sm q.length).length + (numsB q).length) 140737488351232 = true := ble_t (by rw [List.length_append]; omega)
  have g3 := rinums2 (x := e) (y := n) e1 (by omega) n1 (by omega)
  have d2 : Nat.ble ((sm t.toNat ++ sm q.length ++ numsB q).length + (sm e.toNat ++ sm n.toNat).length) 140737488351232 = true := ble_t (by simp only [List.length_append]; omega)
  have c1 : Nat.ble ((sm t.toNat ++ sm q.length ++ numsB q ++ (sm e.toNat ++ sm n.toNat)).length + 1) 140737488351232 = true := ble_t (by simp only [List.length_append]; omega)
  have g4 : F_ref21_Write.s254 mx b (sm t.toNat ++ sm q.length ++ numsB q ++ (sm e.toNat ++ sm n.toNat)) = some (sm t.toNat ++ sm q.length ++ numsB q ++ (sm e.toNat ++ sm n.toNat) ++ [if b then 1 else 0]) := by
    simp only [F_ref21_Write.s254, c1, cond_true]
    cases b <;> rfl
  have g5 := rinums1 (x := (l.length : Int)) (by omega) (by omega)
  rw [Int.toNat_natCast] at g5
  have d3 : Nat.ble ((sm t.toNat ++ sm q.length ++ numsB q ++ (sm e.toNat ++ sm n.toNat) ++ [if b then 1 else 0]).length + (sm l.length).length) 140737488351232 = true := ble_t (by simp only [List.length_append, List.length_singleton]; omega)
  have hhd : sm t.toNat ++ sm q.length ++ numsB q ++ (sm e.toNat ++ sm n.toNat) ++ [if b then 1 else 0] ++ sm l.length = headB (t, q, l, e, n, b) := rfl
  have hlen : ∀ i, i ≤ l.length → (keptsB (l.take i)).length ≤ 400 * i := fun i => by
    induction i with
    | zero => intro _; simp [keptsB]
    | succ i ih =>
      intro hi
      rw [take_succ' (l := l) (k := i) (by omega) K0, keptsB_app, keptsB_one, List.length_append]
      have := ih (by omega)
      have := keptB_len (hk _ (getD_lt (d := K0) (show i < l.length by omega))).2.2.1
      omega
  have hloop := iter_count (f := F_ref21_Write.l4090 mx l) (fun i => (headB (t, q, l, e, n, b) ++ keptsB (l.take i), (i : Int))) l.length (r := imgB (t, q, l, e, n, b)) (lt_N0 (by omega)) (fun i hi => by
    obtain ⟨k1, k2, k3, k4⟩ := hk _ (getD_lt (d := K0) hi)
    obtain ⟨⟨w1, w2⟩, w3, w4⟩ := hw _ (getD_lt (d := K0) hi)
    have hl := hlen i (by omega)
    have hkl := keptB_len k3
    have e3 : headB (t, q, l, e, n, b) ++ keptsB (l.take i) ++ keptB (l.getD i K0) = headB (t, q, l, e, n, b) ++ keptsB (l.take (i + 1)) := by
      rw [take_succ' hi K0, keptsB_app, keptsB_one, List.append_assoc]
    have hA : (headB (t, q, l, e, n, b) ++ keptsB (l.take i)).length ≤ 1000000 := by rw [List.length_append]; omega
    generalize headB (t, q, l, e, n, b) ++ keptsB (l.take i) = A at e3 hA
    have i1 := k3.2.1
    have i2 := k3.2.2.1
    have i3 := k3.2.2.2
    have p1 := rinums1 (x := (l.getD i K0).1) k1 (by omega)
    have p2 := ritem_bytes (x := (l.getD i K0).2) (by omega) (by omega) ⟨w1, w2⟩ ⟨i3.1, by omega⟩ ⟨w3, w4⟩
    have a1 := sm_len (l.getD i K0).1.toNat
    have e4 : A ++ sm (l.getD i K0).1.toNat ++ itemB (l.getD i K0).2 = A ++ keptB (l.getD i K0) := by
      simp only [keptB, itemB, List.append_assoc]
    have hil : (itemB (l.getD i K0).2).length ≤ 1000 := by
      have := congrArg List.length e4
      simp only [List.length_append] at this
      omega
    have d1 : Nat.ble (A.length + (sm (l.getD i K0).1.toNat).length) 140737488351232 = true := ble_t (by omega)
    have d2 : Nat.ble ((A ++ sm (l.getD i K0).1.toNat).length + (itemB (l.getD i K0).2).length) 140737488351232 = true := ble_t (by simp only [List.length_append]; omega)
    rw [e3] at e4
    simp only [F_ref21_Write.l4090, ltd hi, lez, Bool.and_self, cond_true, Int.toNat_natCast, p1, Option.bind_some, d1, p2, d2, e4]
    rw [inc64 (by omega)]) (by simp only [F_ref21_Write.l4090, nltd, cond_false, List.take_length]; rfl)
  have hloop : iter mx (F_ref21_Write.l4090 mx l) (headB (t, q, l, e, n, b) ++ keptsB (l.take 0), (0 : Int)) = _ := hloop
  rw [show headB (t, q, l, e, n, b) ++ keptsB (l.take 0) = headB (t, q, l, e, n, b) by simp [keptsB]] at hloop
  simp only [g1, g2, d1, cond_true, g3, d2, g4, g5, d3, hhd, hloop, Option.bind_some]
  by_cases h : 65536 < (imgB (t, q, l, e, n, b)).length
  · rw [decide_eq_true (show (65536 : Int) < (((imgB (t, q, l, e, n, b)).length : Nat) : Int) by omega), if_pos h]; rfl
  · rw [decide_eq_false (show ¬ (65536 : Int) < (((imgB (t, q, l, e, n, b)).length : Nat) : Int) by omega), if_neg h]; rfl
theorem rfrom_ok {v : Img} (hb : ∀ k ∈ v.2.2.1, k.2.1.length ≤ 140737488351232 ∧ k.2.2.1.length ≤ 140737488351232) : F_ref21_From mx (v.1, v.2.1, v.2.2.1, v.2.2.2.1, v.2.2.2.2.1, v.2.2.2.2.2) = some (fromS v) := by
  have hck := rcheck_ok (v := v) hb
  obtain ⟨t, q, l, e, n, b⟩ := v
  dsimp only at hck ⊢
  simp only [F_ref21_From, hck, Option.bind_some, fromS, bne_int]
  by_cases h1 : okI (t, q, l, e, n, b)
  case neg => simp only [if_neg h1]; rfl
  simp only [if_pos h1, decide_true, Bool.not_true, cond_false]
  have hq : q.length ≤ 4 := h1.2.1.2.1
  have hl : l.length ≤ 1024 := h1.2.2.1
  have g1 := iter_count (f := F_ref21_From.l250 mx q) (fun i => ([(4, 0, I0, [], 0, t, false)] ++ qsCh q i, (i : Int))) q.length (r := [(4, 0, I0, [], 0, t, false)] ++ qsCh q q.length) (lt_N0 (by omega)) (fun i hi => by
    have c1 : Nat.ble (([((4 : Int), (0 : Int), I0, ([] : List Int), (0 : Int), t, false)] ++ qsCh q i).length + 1) 4294967296 = true := ble_t (by rw [List.length_append, qsCh_len]; simp; omega)
    simp only [F_ref21_From.l250, ltd hi, lez, Bool.and_self, cond_true, Int.toNat_natCast, List.length_singleton, c1]
    rw [inc64 (by omega), qsCh_succ, ← List.append_assoc]; rfl) (by simp only [F_ref21_From.l250, nltd, cond_false])
  have g1 : iter mx (F_ref21_From.l250 mx q) ([((4 : Int), (0 : Int), (([] : List Int), ([] : List Int), (0 : Int), (0 : Int), (0 : Int)), ([] : List Int), (0 : Int), t, false)], (0 : Int)) = _ := g1
  have g2 := iter_count (f := F_ref21_From.l506 mx l) (fun i => (([(4, 0, I0, [], 0, t, false)] ++ qsCh q q.length) ++ (l.take i).map iCh, (i : Int))) l.length (r := ([(4, 0, I0, [], 0, t, false)] ++ qsCh q q.length) ++ l.map iCh) (lt_N0 (by omega)) (fun i hi => by
    have c1 : Nat.ble (([((4 : Int), (0 : Int), I0, ([] : List Int), (0 : Int), t, false)] ++ qsCh q q.length ++ (l.take i).map iCh).length + 1) 4294967296 = true := ble_t (by simp only [List.length_append, qsCh_len, List.length_map, List.length_take, List.length_singleton]; omega)
    simp only [F_ref21_From.l506, ltd hi, lez, Bool.and_self, cond_true, Int.toNat_natCast, List.length_singleton, c1]
    rw [inc64 (by omega), take_succ' hi K0, List.map_append, List.append_assoc]; rfl) (by simp only [F_ref21_From.l506, nltd, cond_false, List.take_length])
  rw [show ([((4 : Int), (0 : Int), I0, ([] : List Int), (0 : Int), t, false)] ++ qsCh q q.length) ++ (l.take 0).map iCh = [((4 : Int), (0 : Int), I0, ([] : List Int), (0 : Int), t, false)] ++ qsCh q q.length by simp] at g2
  have g2 : iter mx (F_ref21_From.l506 mx l) ([((4 : Int), (0 : Int), I0, ([] : List Int), (0 : Int), t, false)] ++ qsCh q q.length, (0 : Int)) = _ := g2
  have c2 : Nat.ble (([((4 : Int), (0 : Int), I0, ([] : List Int), (0 : Int), t, false)] ++ qsCh q q.length ++ l.map iCh).length + 1) 4294967296 = true := ble_t (by simp only [List.length_append, qsCh_len, List.length_map, List.length_singleton]; omega)
  have c3 : Nat.ble (([((4 : Int), (0 : Int), I0, ([] : List Int), (0 : Int), t, false)] ++ qsCh q q.length ++ l.map iCh).length + 1 + 1) 4294967296 = true := ble_t (by simp only [List.length_append, qsCh_len, List.length_map, List.length_singleton]; omega)
  simp only [g1, g2, Option.bind_some, List.length_singleton, List.length_append, List.length_cons, List.length_nil, Nat.zero_add, Nat.reduceAdd, cond_true] at c2 c3 ⊢
  simp only [c2, c3, cond_true]
  unfold fromL
  congr 2
  simp only [List.append_assoc]; rfl

/-! ### numbers that are read -/
def vl : List Int → Nat
  | [] => 0
  | x :: l => x.toNat % 128 + 128 * vl l
theorem vl_sm : ∀ (f n : Nat), n < 128 ^ (f + 1) → vl (smF f n) = n
  | 0, n, h => by simp at h; simp [smF, vl]; omega
  | f + 1, n, h => by
    rw [smF]
    split
    · simp [vl]; omega
    · rw [vl, vl_sm f (n / 128) (by rw [Nat.pow_succ] at h; exact Nat.div_lt_of_lt_mul (by omega)), Int.toNat_natCast]; omega
/-- The shape of a number's bytes. -/
theorem sm_shape : ∀ (f n : Nat), n < 128 ^ (f + 1) → (∀ j, j + 1 < (smF f n).length → 128 ≤ (smF f n).getD j 0) ∧ (smF f n).getD ((smF f n).length - 1) 0 < 128 ∧
    (1 < (smF f n).length → (smF f n).getD ((smF f n).length - 1) 0 ≠ 0) ∧ ∀ m, 128 ^ m ≤ n → m < (smF f n).length
  | 0, n, h => by
    simp at h
    refine ⟨fun j hj => by simp [smF] at hj, by simp [smF]; omega, fun hh => by simp [smF] at hh, fun m hm => ?_⟩
    cases m with
    | zero => simp [smF]
    | succ m => have := Nat.one_le_two_pow (n := 0); have : 128 ≤ 128 ^ (m + 1) := by rw [Nat.pow_succ]; have := Nat.pow_pos (n := m) (show 0 < 128 by decide); omega
                omega
  | f + 1, n, h => by
    by_cases hn : n < 128
    · have e : smF (f + 1) n = [((n : Nat) : Int)] := by rw [smF, if_pos hn]
      rw [e]
      refine ⟨fun j hj => by simp at hj, by simp; omega, fun hh => by simp at hh, fun m hm => ?_⟩
      cases m with
      | zero => simp
      | succ m => have : 128 ≤ 128 ^ (m + 1) := by rw [Nat.pow_succ]; have := Nat.pow_pos (n := m) (show 0 < 128 by decide); omega
                  omega
    · have e : smF (f + 1) n = ((n % 128 + 128 : Nat) : Int) :: smF f (n / 128) := by rw [smF, if_neg hn]
      obtain ⟨h1, h2, h3, h4⟩ := sm_shape f (n / 128) (by rw [Nat.pow_succ] at h; exact Nat.div_lt_of_lt_mul (by omega))
      have hl := (smF_len f (n / 128)).1
      rw [e]
      have hg : ∀ j, (((n % 128 + 128 : Nat) : Int) :: smF f (n / 128)).getD (j + 1) 0 = (smF f (n / 128)).getD j 0 := fun j => by simp
      have hlast : (((n % 128 + 128 : Nat) : Int) :: smF f (n / 128)).length - 1 = ((smF f (n / 128)).length - 1) + 1 := by rw [List.length_cons]; omega
      refine ⟨fun j hj => ?_, ?_, fun _ => ?_, fun m hm => ?_⟩
      · cases j with
        | zero => simp; omega
        | succ j => rw [hg]; exact h1 j (by rw [List.length_cons] at hj; omega)
      · rw [hlast, hg]; exact h2
      · rw [hlast, hg]
        by_cases hl1 : 1 < (smF f (n / 128)).length
        · exact h3 hl1
        · -- one byte: n / 128 itself
          have hlt : n / 128 < 128 := by
            rcases Nat.lt_or_ge (n / 128) 128 with h | h
            · exact h
            · have := h4 1 (by simpa using h); omega
          have : smF f (n / 128) = [((n / 128 : Nat) : Int)] := by
            cases f with
            | zero => rfl
            | succ f => rw [smF, if_pos hlt]
          rw [this]; simp; omega
      · cases m with
        | zero => simp
        | succ m =>
          have := h4 m (by rw [Nat.pow_succ] at hm; exact (Nat.le_div_iff_mul_le (by decide)).2 hm)
          rw [List.length_cons]; omega
theorem rread_cnt {a : List Int} (hl : a.length ≤ 1000000) : ∃ i : Nat, iter mx (F_ref01_Read.l28 mx a) (0 : Int) = some (i : Int) ∧ i ≤ a.length ∧ i ≤ 10 ∧ (∀ j, j < i → 128 ≤ a.getD j 0) ∧ (i < a.length → i < 10 → a.getD i 0 < 128) := by
  have hs : ∀ i, i ≤ a.length → F_ref01_Read.s112 mx a (i : Int) = some (if i < a.length ∧ i < 10 ∧ 128 ≤ a.getD i 0 then .inl () else .inr ()) := fun i hi => by
    simp only [F_ref01_Read.s112]
    by_cases h1 : i < a.length
    case neg => rw [decide_eq_false (show ¬ (i : Int) < (a.length : Int) by omega), if_neg (fun hh => h1 hh.1)]; rfl
    rw [ltd h1]
    by_cases h2 : i < 10
    case neg => rw [decide_eq_false (show ¬ (i : Int) < 10 by omega), if_neg (fun hh => h2 hh.2.1)]; rfl
    rw [decide_eq_true (show (i : Int) < 10 by omega)]
    simp only [cond_true, lez, Bool.and_self, Int.toNat_natCast]
    by_cases h3 : 128 ≤ a.getD i 0
    · rw [decide_eq_true h3, if_pos ⟨h1, h2, h3⟩]; rfl
    · rw [decide_eq_false h3, if_neg (fun hh => h3 hh.2.2)]; rfl
  rcases iter_scan (f := F_ref01_Read.l28 mx a) (fun i => (i : Int)) (min a.length 10) (fun i => 128 ≤ a.getD i 0) (lt_N0 (by omega)) (fun i => (i : Int)) ((min a.length 10 : Nat) : Int)
    (fun i hi hp _ => by
      simp only [F_ref01_Read.l28, hs i (by omega), if_pos (show i < a.length ∧ i < 10 ∧ 128 ≤ a.getD i 0 from ⟨by omega, by omega, hp⟩), Option.bind_some]
      rw [inc64 (by omega)])
    (fun i hi hp _ => by
      simp only [F_ref01_Read.l28, hs i (by omega), if_neg (show ¬ (i < a.length ∧ i < 10 ∧ 128 ≤ a.getD i 0) from fun hh => hp hh.2.2), Option.bind_some])
    (fun _ => by
      simp only [F_ref01_Read.l28, hs (min a.length 10) (by omega), if_neg (show ¬ (min a.length 10 < a.length ∧ min a.length 10 < 10 ∧ 128 ≤ a.getD (min a.length 10) 0) from fun hh => by omega), Option.bind_some]) with ⟨h, e⟩ | ⟨i, hi, hp, hb, e⟩
  · exact ⟨_, e, by omega, by omega, h, fun h1 h2 => by omega⟩
  · exact ⟨i, e, by omega, by omega, hb, fun _ _ => by omega⟩
theorem rread_val {a : List Int} (hb : bytesI a) {i : Nat} (hi : i < a.length) (hl : a.length ≤ 1000000) : ∃ v : Int, iter mx (F_ref01_Read.l506 mx a) ((0 : Int), (i : Int)) = some v ∧ (0 ≤ v ∧ v ≤ 18446744073709551615) ∧
    (vl (a.take (i + 1)) < 18446744073709551616 → v = ((vl (a.take (i + 1)) : Nat) : Int)) := by
  -- what stands behind a byte, as a number
  have key : ∀ (j : Nat) (acc : Nat) (k : Nat), j ≤ i → acc < 18446744073709551616 → j + 1 < k → ∃ v : Int, iterN (F_ref01_Read.l506 mx a) k ((acc : Int), (j : Int)) = some v ∧ (0 ≤ v ∧ v ≤ 18446744073709551615) ∧
      (vl (a.take (j + 1)) + 128 ^ (j + 1) * acc < 18446744073709551616 → v = ((vl (a.take (j + 1)) + 128 ^ (j + 1) * acc : Nat) : Int)) := fun j => by
    induction j with
    | zero =>
      intro acc k hj ha hk
      obtain ⟨k, rfl⟩ : ∃ m, k = m + 2 := ⟨k - 2, by omega⟩
      obtain ⟨b1, b2⟩ := bytesI_getD hb 0
      have hm : (a.getD 0 0).tmod 128 = (((a.getD 0 0).toNat % 128 : Nat) : Int) := by
        conv => lhs; rw [← Int.toNat_of_nonneg b1]
        exact cast_tmod _ 128
      have st : F_ref01_Read.l506 mx a ((acc : Int), ((0 : Nat) : Int)) = some (.next (IntKind.u64.wrap (IntKind.u64.wrap ((acc : Int) * 128) + (((a.getD 0 0).toNat % 128 : Nat) : Int)), (-1 : Int))) := by
        have e0 : decide ((0 : Int) ≤ ((0 : Nat) : Int)) = true := rfl
        have e1 : IntKind.i64.wrap (((0 : Nat) : Int) - 1) = -1 := rfl
        simp only [F_ref01_Read.l506, e0, ltd (show 0 < a.length by omega), Bool.and_self, cond_true, Int.toNat_natCast, hm, e1]
        rw [wu64 (n := (((a.getD 0 0).toNat % 128 : Nat) : Int)) (by omega) (by omega)]
      have st2 : ∀ x : Int, F_ref01_Read.l506 mx a (x, (-1 : Int)) = some (.fin x) := fun x => by
        simp only [F_ref01_Read.l506, decide_eq_false (show ¬ (0 : Int) ≤ -1 by decide), cond_false]
      have hx : vl (a.take (0 + 1)) = (a.getD 0 0).toNat % 128 := by
        rw [take_succ' (show 0 < a.length by omega) 0]; simp [vl]
      rw [iterN_next st, iterN_fin (st2 _)]
      refine ⟨_, rfl, u64_rng _, fun hh => ?_⟩
      rw [hx] at hh ⊢
      rw [wu64 (n := (acc : Int) * 128) (by omega) (by omega), wu64 (by omega) (by omega)]
      omega
    | succ j ih =>
      intro acc k hj ha hk
      obtain ⟨k, rfl⟩ : ∃ m, k = m + 1 := ⟨k - 1, by omega⟩
      obtain ⟨b1, b2⟩ := bytesI_getD hb (j + 1)
      have hm : (a.getD (j + 1) 0).tmod 128 = (((a.getD (j + 1) 0).toNat % 128 : Nat) : Int) := by
        conv => lhs; rw [← Int.toNat_of_nonneg b1]
        exact cast_tmod _ 128
      have st : F_ref01_Read.l506 mx a ((acc : Int), ((j + 1 : Nat) : Int)) = some (.next (IntKind.u64.wrap (IntKind.u64.wrap ((acc : Int) * 128) + (((a.getD (j + 1) 0).toNat % 128 : Nat) : Int)), (j : Int))) := by
        have e1 : IntKind.i64.wrap (((j + 1 : Nat) : Int) - 1) = (j : Int) := by rw [w64 (by omega) (by omega)]; omega
        simp only [F_ref01_Read.l506, lez, ltd (show j + 1 < a.length by omega), Bool.and_self, cond_true, Int.toNat_natCast, hm, e1]
        rw [wu64 (n := (((a.getD (j + 1) 0).toNat % 128 : Nat) : Int)) (by omega) (by omega)]
      have hr := u64_rng (IntKind.u64.wrap ((acc : Int) * 128) + (((a.getD (j + 1) 0).toNat % 128 : Nat) : Int))
      obtain ⟨acc', ha'⟩ := Int.eq_ofNat_of_zero_le hr.1
      rw [iterN_next st, ha']
      rw [ha'] at hr
      obtain ⟨v, g1, g2, g3⟩ := ih acc' k (by omega) (by omega) (by omega)
      refine ⟨v, g1, g2, fun hh => ?_⟩
      have hvl : ∀ (l : List Int) (x : Int), vl (l ++ [x]) = vl l + 128 ^ l.length * (x.toNat % 128) := fun l x => by
        induction l with
        | nil => simp [vl]
        | cons y l ih => rw [List.cons_append, vl, vl, ih, List.length_cons, Nat.pow_succ, Nat.mul_add, Nat.add_assoc]
                         congr 2
                         rw [Nat.mul_comm (128 ^ l.length) 128, Nat.mul_assoc]
      have ht : vl (a.take (j + 1 + 1)) = vl (a.take (j + 1)) + 128 ^ (j + 1) * ((a.getD (j + 1) 0).toNat % 128) := by
        rw [take_succ' (show j + 1 < a.length by omega) 0, hvl, List.length_take, Nat.min_eq_left (by omega)]
      rw [ht] at hh
      have hpow : 128 ^ (j + 1 + 1) * acc = 128 ^ (j + 1) * (128 * acc) := by rw [Nat.pow_succ, Nat.mul_assoc]
      have hsum : 128 ^ (j + 1) * ((a.getD (j + 1) 0).toNat % 128) + 128 ^ (j + 1 + 1) * acc = 128 ^ (j + 1) * ((a.getD (j + 1) 0).toNat % 128 + 128 * acc) := by rw [hpow, ← Nat.mul_add]
      have hp1 : 1 ≤ 128 ^ (j + 1) := Nat.pow_pos (by decide)
      have hle : (a.getD (j + 1) 0).toNat % 128 + 128 * acc ≤ 128 ^ (j + 1) * ((a.getD (j + 1) 0).toNat % 128 + 128 * acc) := Nat.le_mul_of_pos_left _ hp1
      have hacc : acc' = (a.getD (j + 1) 0).toNat % 128 + 128 * acc := by
        have hw : IntKind.u64.wrap ((acc : Int) * 128) = (acc : Int) * 128 := wu64 (by omega) (by omega)
        rw [hw, wu64 (by omega) (by omega)] at ha'
        omega
      rw [ht, Nat.add_assoc, hsum, ← hacc]
      exact g3 (by rw [hacc]; omega)
  obtain ⟨v, g1, g2, g3⟩ := key i 0 N0 (Nat.le_refl _) (by decide) (by unfold N0; omega)
  exact ⟨v, g1, g2, fun h => by have := g3 (by simpa using h); simpa using this⟩
end Go.Proofs.Ytkggcbfkhkgeaaa
