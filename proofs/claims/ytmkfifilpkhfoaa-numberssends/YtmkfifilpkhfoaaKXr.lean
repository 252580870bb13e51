/- The document's own reading of numbers, texts, items. -/
import Derived.Test.YtmkfifilpkhfoaaKXb
import Derived.Test.YtmkfifilpkhfoaaKIu
namespace Go.Proofs.Ytmkfifilpkhfoaa
open Go.Abs
set_option maxRecDepth 100000
theorem app_bytes {a b : List Int} (ha : bytesI a) (hb : bytesI b) : bytesI (a ++ b) := fun x hx => (List.mem_append.1 hx).elim (ha x) (hb x)
def vl : List Int → Nat
  | [] => 0
  | x :: l => x.toNat % 128 + 128 * vl l
theorem vl_sm : ∀ (f n : Nat), n < 128 ^ (f + 1) → vl (smF f n) = n
  | 0, n, h => by simp at h; simp [smF, vl]; omega
  | f + 1, n, h => by
    rw [smF]
    split
    · simp [vl]; omega
    · rw [vl, vl_sm f (n / 128) (by rw [Nat.pow_succ] at h; exact Nat.div_lt_of_lt_mul (by omega)), Int.toNat_natCast]; omega
/-- The shape of a number's bytes. -/
theorem sm_shape : ∀ (f n : Nat), n < 128 ^ (f + 1) → (∀ j, j + 1 < (smF f n).length → 128 ≤ (smF f n).getD j 0) ∧ (smF f n).getD ((smF f n).length - 1) 0 < 128 ∧
    (1 < (smF f n).length → (smF f n).getD ((smF f n).length - 1) 0 ≠ 0) ∧ ∀ m, 128 ^ m ≤ n → m < (smF f n).length
  | 0, n, h => by
    simp at h
    refine ⟨fun j hj => by simp [smF] at hj, by simp [smF]; omega, fun hh => by simp [smF] at hh, fun m hm => ?_⟩
    cases m with
    | zero => simp [smF]
    | succ m => have := Nat.one_le_two_pow (n := 0); have : 128 ≤ 128 ^ (m + 1) := by rw [Nat.pow_succ]; have := Nat.pow_pos (n := m) (show 0 < 128 by decide); omega
                omega
  | f + 1, n, h => by
    by_cases hn : n < 128
    · have e : smF (f + 1) n = [((n : Nat) : Int)] := by rw [smF, if_pos hn]
      rw [e]
      refine ⟨fun j hj => by simp at hj, by simp; omega, fun hh => by simp at hh, fun m hm => ?_⟩
      cases m with
      | zero => simp
      | succ m => have : 128 ≤ 128 ^ (m + 1) := by rw [Nat.pow_succ]; have := Nat.pow_pos (n := m) (show 0 < 128 by decide); omega
                  omega
    · have e : smF (f + 1) n = ((n % 128 + 128 : Nat) : Int) :: smF f (n / 128) := by rw [smF, if_neg hn]
      obtain ⟨h1, h2, h3, h4⟩ := sm_shape f (n / 128) (by rw [Nat.pow_succ] at h; exact Nat.div_lt_of_lt_mul (by omega))
      have hl := (smF_len f (n / 128)).1
      rw [e]
      have hg : ∀ j, (((n % 128 + 128 : Nat) : Int) :: smF f (n / 128)).getD (j + 1) 0 = (smF f (n / 128)).getD j 0 := fun j => by simp
      have hlast : (((n % 128 + 128 : Nat) : Int) :: smF f (n / 128)).length - 1 = ((smF f (n / 128)).length - 1) + 1 := by rw [List.length_cons]; omega
      refine ⟨fun j hj => ?_, ?_, fun _ => ?_, fun m hm => ?_⟩
      · cases j with
        | zero => simp; omega
        | succ j => rw [hg]; exact h1 j (by rw [List.length_cons] at hj; omega)
      · rw [hlast, hg]; exact h2
      · rw [hlast, hg]
        by_cases hl1 : 1 < (smF f (n / 128)).length
        · exact h3 hl1
        · -- one byte: n / 128 itself
          have hlt : n / 128 < 128 := by
            rcases Nat.lt_or_ge (n / 128) 128 with h | h
            · exact h
            · have := h4 1 (by simpa using h); omega
          have : smF f (n / 128) = [((n / 128 : Nat) : Int)] := by
            cases f with
            | zero => rfl
            | succ f => rw [smF, if_pos hlt]
          rw [this]; simp; omega
      · cases m with
        | zero => simp
        | succ m =>
          have := h4 m (by rw [Nat.pow_succ] at hm; exact (Nat.le_div_iff_mul_le (by decide)).2 hm)
          rw [List.length_cons]; omega
theorem rread_cnt {a : List Int} (hl : a.length ≤ 1000000) : ∃ i : Nat, iter mx (F_ref01_Read.l28 mx a) (0 : Int) = some (i : Int) ∧ i ≤ a.length ∧ i ≤ 10 ∧ (∀ j, j < i → 128 ≤ a.getD j 0) ∧ (i < a.length → i < 10 → a.getD i 0 < 128) := by
  have hs : ∀ i, i ≤ a.length → F_ref01_Read.s112 mx a (i : Int) = some (if i < a.length ∧ i < 10 ∧ 128 ≤ a.getD i 0 then .inl () else .inr ()) := fun i hi => by
    simp only [F_ref01_Read.s112]
    by_cases h1 : i < a.length
    case neg => rw [decide_eq_false (show ¬ (i : Int) < (a.length : Int) by omega), if_neg (fun hh => h1 hh.1)]; rfl
    rw [ltd h1]
    by_cases h2 : i < 10
    case neg => rw [decide_eq_false (show ¬ (i : Int) < 10 by omega), if_neg (fun hh => h2 hh.2.1)]; rfl
    rw [decide_eq_true (show (i : Int) < 10 by omega)]
    simp only [cond_true, lez, Bool.and_self, Int.toNat_natCast]
    by_cases h3 : 128 ≤ a.getD i 0
    · rw [decide_eq_true h3, if_pos ⟨h1, h2, h3⟩]; rfl
    · rw [decide_eq_false h3, if_neg (fun hh => h3 hh.2.2)]; rfl
  rcases iter_scan (f := F_ref01_Read.l28 mx a) (fun i => (i : Int)) (min a.length 10) (fun i => 128 ≤ a.getD i 0) (lt_N0 (by omega)) (fun i => (i : Int)) ((min a.length 10 : Nat) : Int)
    (fun i hi hp _ => by
      simp only [F_ref01_Read.l28, hs i (by omega), if_pos (show i < a.length ∧ i < 10 ∧ 128 ≤ a.getD i 0 from ⟨by omega, by omega, hp⟩), Option.bind_some]
      rw [inc64 (by omega)])
    (fun i hi hp _ => by
      simp only [F_ref01_Read.l28, hs i (by omega), if_neg (show ¬ (i < a.length ∧ i < 10 ∧ 128 ≤ a.getD i 0) from fun hh => hp hh.2.2), Option.bind_some])
    (fun _ => by
      simp only [F_ref01_Read.l28, hs (min a.length 10) (by omega), if_neg (show ¬ (min a.length 10 < a.length ∧ min a.length 10 < 10 ∧ 128 ≤ a.getD (min a.length 10) 0) from fun hh => by omega), Option.bind_some]) with ⟨h, e⟩ | ⟨i, hi, hp, hb, e⟩
  · exact ⟨_, e, by omega, by omega, h, fun h1 h2 => by omega⟩
  · exact ⟨i, e, by omega, by omega, hb, fun _ _ => by omega⟩
theorem rread_val {a : List Int} (hb : bytesI a) {i : Nat} (hi : i < a.length) (hl : a.length ≤ 1000000) : ∃ v : Int, iter mx (F_ref01_Read.l506 mx a) ((0 : Int), (i : Int)) = some v ∧ (0 ≤ v ∧ v ≤ 18446744073709551615) ∧
    (vl (a.take (i + 1)) < 18446744073709551616 → v = ((vl (a.take (i + 1)) : Nat) : Int)) := by
  -- what stands behind a byte, as a number
  have key : ∀ (j : Nat) (acc : Nat) (k : Nat), j ≤ i → acc < 18446744073709551616 → j + 1 < k → ∃ v : Int, iterN (F_ref01_Read.l506 mx a) k ((acc : Int), (j : Int)) = some v ∧ (0 ≤ v ∧ v ≤ 18446744073709551615) ∧
      (vl (a.take (j + 1)) + 128 ^ (j + 1) * acc < 18446744073709551616 → v = ((vl (a.take (j + 1)) + 128 ^ (j + 1) * acc : Nat) : Int)) := fun j => by
    induction j with
    | zero =>
      intro acc k hj ha hk
      obtain ⟨k, rfl⟩ : ∃ m, k = m + 2 := ⟨k - 2, by omega⟩
      obtain ⟨b1, b2⟩ := bytesI_getD hb 0
      have hm : (a.getD 0 0).tmod 128 = (((a.getD 0 0).toNat % 128 : Nat) : Int) := by
        conv => lhs; rw [← Int.toNat_of_nonneg b1]
        exact cast_tmod _ 128
      have st : F_ref01_Read.l506 mx a ((acc : Int), ((0 : Nat) : Int)) = some (.next (IntKind.u64.wrap (IntKind.u64.wrap ((acc : Int) * 128) + (((a.getD 0 0).toNat % 128 : Nat) : Int)), (-1 : Int))) := by
        have e0 : decide ((0 : Int) ≤ ((0 : Nat) : Int)) = true := rfl
        have e1 : IntKind.i64.wrap (((0 : Nat) : Int) - 1) = -1 := rfl
        simp only [F_ref01_Read.l506, e0, ltd (show 0 < a.length by omega), Bool.and_self, cond_true, Int.toNat_natCast, hm, e1]
        rw [wu64 (n := (((a.getD 0 0).toNat % 128 : Nat) : Int)) (by omega) (by omega)]
      have st2 : ∀ x : Int, F_ref01_Read.l506 mx a (x, (-1 : Int)) = some (.fin x) := fun x => by
        simp only [F_ref01_Read.l506, decide_eq_false (show ¬ (0 : Int) ≤ -1 by decide), cond_false]
      have hx : vl (a.take (0 + 1)) = (a.getD 0 0).toNat % 128 := by
        rw [take_succ' (show 0 < a.length by omega) 0]; simp [vl]
      rw [iterN_next st, iterN_fin (st2 _)]
      refine ⟨_, rfl, u64_rng _, fun hh => ?_⟩
      rw [hx] at hh ⊢
      rw [wu64 (n := (acc : Int) * 128) (by omega) (by omega), wu64 (by omega) (by omega)]
      omega
    | succ j ih =>
      intro acc k hj ha hk
      obtain ⟨k, rfl⟩ : ∃ m, k = m + 1 := ⟨k - 1, by omega⟩
      obtain ⟨b1, b2⟩ := bytesI_getD hb (j + 1)
      have hm : (a.getD (j + 1) 0).tmod 128 = (((a.getD (j + 1) 0).toNat % 128 : Nat) : Int) := by
        conv => lhs; rw [← Int.toNat_of_nonneg b1]
        exact cast_tmod _ 128
      have st : F_ref01_Read.l506 mx a ((acc : Int), ((j + 1 : Nat) : Int)) = some (.next (IntKind.u64.wrap (IntKind.u64.wrap ((acc : Int) * 128) + (((a.getD (j + 1) 0).toNat % 128 : Nat) : Int)), (j : Int))) := by
        have e1 : IntKind.i64.wrap (((j + 1 : Nat) : Int) - 1) = (j : Int) := by rw [w64 (by omega) (by omega)]; omega
        simp only [F_ref01_Read.l506, lez, ltd (show j + 1 < a.length by omega), Bool.and_self, cond_true, Int.toNat_natCast, hm, e1]
        rw [wu64 (n := (((a.getD (j + 1) 0).toNat % 128 : Nat) : Int)) (by omega) (by omega)]
      have hr := u64_rng (IntKind.u64.wrap ((acc : Int) * 128) + (((a.getD (j + 1) 0).toNat % 128 : Nat) : Int))
      obtain ⟨acc', ha'⟩ := Int.eq_ofNat_of_zero_le hr.1
      rw [iterN_next st, ha']
      rw [ha'] at hr
      obtain ⟨v, g1, g2, g3⟩ := ih acc' k (by omega) (by omega) (by omega)
      refine ⟨v, g1, g2, fun hh => ?_⟩
      have hvl : ∀ (l : List Int) (x : Int), vl (l ++ [x]) = vl l + 128 ^ l.length * (x.toNat % 128) := fun l x => by
        induction l with
        | nil => simp [vl]
        | cons y l ih => rw [List.cons_append, vl, vl, ih, List.length_cons, Nat.pow_succ, Nat.mul_add, Nat.add_assoc]
                         congr 2
                         rw [Nat.mul_comm (128 ^ l.length) 128, Nat.mul_assoc]
      have ht : vl (a.take (j + 1 + 1)) = vl (a.take (j + 1)) + 128 ^ (j + 1) * ((a.getD (j + 1) 0).toNat % 128) := by
        rw [take_succ' (show j + 1 < a.length by omega) 0, hvl, List.length_take, Nat.min_eq_left (by omega)]
      rw [ht] at hh
      have hpow : 128 ^ (j + 1 + 1) * acc = 128 ^ (j + 1) * (128 * acc) := by rw [Nat.pow_succ, Nat.mul_assoc]
      have hsum : 128 ^ (j + 1) * ((a.getD (j + 1) 0).toNat % 128) + 128 ^ (j + 1 + 1) * acc = 128 ^ (j + 1) * ((a.getD (j + 1) 0).toNat % 128 + 128 * acc) := by rw [hpow, ← Nat.mul_add]
      have hp1 : 1 ≤ 128 ^ (j + 1) := Nat.pow_pos (by decide)
      have hle : (a.getD (j + 1) 0).toNat % 128 + 128 * acc ≤ 128 ^ (j + 1) * ((a.getD (j + 1) 0).toNat % 128 + 128 * acc) := Nat.le_mul_of_pos_left _ hp1
      have hacc : acc' = (a.getD (j + 1) 0).toNat % 128 + 128 * acc := by
        have hw : IntKind.u64.wrap ((acc : Int) * 128) = (acc : Int) * 128 := wu64 (by omega) (by omega)
        rw [hw, wu64 (by omega) (by omega)] at ha'
        omega
      rw [ht, Nat.add_assoc, hsum, ← hacc]
      exact g3 (by rw [hacc]; omega)
  obtain ⟨v, g1, g2, g3⟩ := key i 0 N0 (Nat.le_refl _) (by decide) (by unfold N0; omega)
  exact ⟨v, g1, g2, fun h => by have := g3 (by simpa using h); simpa using this⟩
theorem rs30_ok {a : List Int} (hl : a.length ≤ 1000000) (i : Nat) : F_ref01_Read.s30 mx a (i : Int) = some (if i < a.length ∧ i < 10 ∧ ¬ (i = 9 ∧ 1 < a.getD i 0) ∧ ¬ (0 < i ∧ a.getD i 0 = 0) then .inr () else .inl (0, 0, 8)) := by
  simp only [F_ref01_Read.s30]
  by_cases h1 : i < a.length
  case neg => rw [decide_eq_true (show (a.length : Int) ≤ (i : Int) by omega), if_neg (fun hh => h1 hh.1)]; rfl
  rw [decide_eq_false (show ¬ (a.length : Int) ≤ (i : Int) by omega)]
  by_cases h2 : i < 10
  case neg => rw [decide_eq_true (show (10 : Int) ≤ (i : Int) by omega), if_neg (fun hh => h2 hh.2.1)]; rfl
  rw [decide_eq_false (show ¬ (10 : Int) ≤ (i : Int) by omega)]
  simp only [cond_false, ieq]
  have tail : (bif decide ((0 : Int) < (i : Int)) then (bif decide ((0 : Int) ≤ (i : Int)) && decide ((i : Int) < (a.length : Int)) then (bif decide (a.getD (i : Int).toNat 0 = 0) then some (.inl (0, 0, 8)) else some (.inr ())) else none) else some (.inr ())) = (some (if 0 < i ∧ a.getD i 0 = 0 then .inl (0, 0, 8) else .inr ()) : Option ((Int × Int × Int) ⊕ Unit)) := by
    simp only [lez, ltd h1, Bool.and_self, cond_true, Int.toNat_natCast]
    by_cases h3 : 0 < i
    · rw [decide_eq_true (show (0 : Int) < (i : Int) by omega)]
      by_cases h4 : a.getD i 0 = 0
      · rw [decide_eq_true h4, if_pos ⟨h3, h4⟩]; rfl
      · rw [decide_eq_false h4, if_neg (fun hh => h4 hh.2)]; rfl
    · rw [decide_eq_false (show ¬ (0 : Int) < (i : Int) by omega), if_neg (fun hh => h3 hh.1)]; rfl
  by_cases h9 : i = 9
  · have e9 : a.getD 9 0 = a.getD i 0 := by rw [h9]
    rw [decide_eq_true (show (i : Int) = 9 by omega), decide_eq_true (show (9 : Int) < (a.length : Int) by omega), e9]
    by_cases h5 : 1 < a.getD i 0
    · rw [decide_eq_true h5, if_neg (fun hh => hh.2.2.1 ⟨h9, h5⟩)]; rfl
    · rw [decide_eq_false h5]
      simp only [cond_true, cond_false, tail]
      by_cases h6 : 0 < i ∧ a.getD i 0 = 0
      · rw [if_pos h6, if_neg (fun hh => hh.2.2.2 h6)]
      · rw [if_neg h6, if_pos ⟨h1, h2, fun hh => h5 hh.2, h6⟩]
  · rw [decide_eq_false (show ¬ (i : Int) = 9 by omega)]
    simp only [cond_false, tail]
    by_cases h6 : 0 < i ∧ a.getD i 0 = 0
    · rw [if_pos h6, if_neg (fun hh => hh.2.2.2 h6)]
    · rw [if_neg h6, if_pos ⟨h1, h2, fun hh => h9 hh.1, h6⟩]
theorem rread_tot {a : List Int} (hb : bytesI a) (hl : a.length ≤ 1000000) : ∃ (v : Int) (n : Nat) (e : Int), F_ref01_Read mx a = some (v, (n : Int), e) ∧ (0 ≤ v ∧ v ≤ 18446744073709551615) ∧ n ≤ a.length := by
  obtain ⟨i, h1, h2, h3, h4, h5⟩ := rread_cnt hl
  simp only [F_ref01_Read, h1, Option.bind_some, rs30_ok hl]
  by_cases h : i < a.length ∧ i < 10 ∧ ¬ (i = 9 ∧ 1 < a.getD i 0) ∧ ¬ (0 < i ∧ a.getD i 0 = 0)
  · obtain ⟨v, g1, g2, g3⟩ := rread_val hb h.1 hl
    rw [if_pos h]
    simp only [g1, Option.bind_some]
    rw [inc64 (by omega)]
    exact ⟨v, i + 1, 0, rfl, g2, h.1⟩
  · rw [if_neg h]; exact ⟨0, 0, 8, rfl, ⟨by decide, by decide⟩, Nat.zero_le _⟩
theorem rread_sm {n : Nat} (hn : n < 18446744073709551616) {rest : List Int} (hr : bytesI rest) (hl : rest.length ≤ 900000) : F_ref01_Read mx (sm n ++ rest) = some ((n : Int), (((sm n).length : Nat) : Int), 0) := by
  have e0 : (128 : Nat) ^ (10 + 1) = 151115727451828646838272 := by decide
  have hs := sm_len n
  obtain ⟨s1, s2, s3, s4⟩ := sm_shape 10 n (by rw [e0]; omega)
  have hlen10 : (sm n).length ≤ 10 := by
    -- eleven bytes tell of more
    rcases Nat.lt_or_ge 10 (sm n).length with hc | hc
    · exfalso
      have hv := vl_sm 10 n (by rw [e0]; omega)
      have hg : ∀ (l : List Int), (∀ x ∈ l, 0 ≤ x) → 1 ≤ l.length → l.getD (l.length - 1) 0 ≠ 0 → l.getD (l.length - 1) 0 < 128 → 128 ^ (l.length - 1) ≤ vl l := fun l => by
        induction l with
        | nil => intro _ h; simp at h
        | cons y l ih =>
          intro hx hh hne hlt
          cases l with
          | nil =>
            simp at hne hlt
            have := hx y (by simp)
            simp [vl]; omega
          | cons z l =>
            have hge : ∀ k, (y :: z :: l).getD (k + 1) 0 = (z :: l).getD k 0 := fun k => by simp
            have hla : (y :: z :: l).length - 1 = ((z :: l).length - 1) + 1 := by simp
            rw [hla, hge] at hne hlt
            have := ih (fun x hx' => hx x (by simp at hx' ⊢; exact .inr hx')) (by simp) hne hlt
            rw [hla, Nat.pow_succ, vl]; omega
      have hnn : ∀ x ∈ smF 10 n, 0 ≤ x := fun x hx => (smF_bytes 10 n (by rw [e0]; omega) x hx).1
      have := hg (smF 10 n) hnn (show 1 ≤ (sm n).length by omega) (s3 (show 1 < (sm n).length by omega)) s2
      rw [hv] at this
      have h11 : (sm n).length = 11 := by omega
      have h11 : (smF 10 n).length = 11 := h11
      rw [h11] at this
      have : 128 ^ 10 ≤ n := this
      have : (128 : Nat) ^ 10 = 1180591620717411303424 := by decide
      omega
    · exact hc
  have hbs := sm_bytes hn
  have hb : bytesI (sm n ++ rest) := app_bytes hbs hr
  have hla : (sm n ++ rest).length = (sm n).length + rest.length := List.length_append
  have hget : ∀ j, j < (sm n).length → (sm n ++ rest).getD j 0 = (sm n).getD j 0 := fun j hj => by
    rw [getD_some (by omega), getD_some hj, List.getElem_append_left hj]
  obtain ⟨i, h1, h2, h3, h4, h5⟩ := rread_cnt (a := sm n ++ rest) (by omega)
  have s2 : (sm n).getD ((sm n).length - 1) 0 < 128 := s2
  have s3 : 1 < (sm n).length → (sm n).getD ((sm n).length - 1) 0 ≠ 0 := s3
  have s1 : ∀ j, j + 1 < (sm n).length → 128 ≤ (sm n).getD j 0 := s1
  have hi : i = (sm n).length - 1 := by
    rcases Nat.lt_trichotomy i ((sm n).length - 1) with h | h | h
    · have := h5 (by omega) (by omega)
      rw [hget i (by omega)] at this
      have := s1 i (by omega)
      omega
    · exact h
    · have := h4 ((sm n).length - 1) h
      rw [hget _ (by omega)] at this
      omega
  have hv := vl_sm 10 n (by rw [e0]; omega)
  have hv : vl (sm n) = n := hv
  have htk : (sm n ++ rest).take (i + 1) = sm n := by rw [hi, show (sm n).length - 1 + 1 = (sm n).length by omega, List.take_left' rfl]
  have hcond : i < (sm n ++ rest).length ∧ i < 10 ∧ ¬ (i = 9 ∧ 1 < (sm n ++ rest).getD i 0) ∧ ¬ (0 < i ∧ (sm n ++ rest).getD i 0 = 0) := by
    refine ⟨by omega, by omega, fun hh => ?_, fun hh => ?_⟩
    · -- ten bytes, the last above one
      have hg : ∀ (l : List Int) (c : Int), 1 ≤ l.length → (∀ x ∈ l, 0 ≤ x) → l.getD (l.length - 1) 0 = c → 0 ≤ c → c < 128 → c.toNat * 128 ^ (l.length - 1) ≤ vl l := fun l => by
        induction l with
        | nil => intro c h; simp at h
        | cons y l ih =>
          intro c hh hx hc h0 hlt
          cases l with
          | nil =>
            simp at hc
            simp [vl]; omega
          | cons z l =>
            have hge : ∀ k, (y :: z :: l).getD (k + 1) 0 = (z :: l).getD k 0 := fun k => by simp
            have hla : (y :: z :: l).length - 1 = ((z :: l).length - 1) + 1 := by simp
            rw [hla, hge] at hc
            have := ih c (by simp) (fun x hx' => hx x (by simp at hx' ⊢; exact .inr hx')) hc h0 hlt
            rw [hla, Nat.pow_succ, ← Nat.mul_assoc, vl]; omega
      have h9 := hg (sm n) ((sm n).getD ((sm n).length - 1) 0) hs.1 (fun x hx => (hbs x hx).1) rfl (bytesI_getD hbs _).1 s2
      rw [hget i (by omega), hi] at hh
      have : (sm n).length - 1 = 9 := hh.1
      rw [hv] at h9
      have hc := hh.2
      rw [this] at h9 hc
      have e9 : (128 : Nat) ^ 9 = 9223372036854775808 := by decide
      rw [e9] at h9
      omega
    · rw [hget i (by omega), hi] at hh
      exact s3 (by omega) hh.2
  obtain ⟨v, g1, g2, g3⟩ := rread_val hb hcond.1 (by omega)
  rw [htk, hv] at g3
  simp only [F_ref01_Read, h1, Option.bind_some, rs30_ok (a := sm n ++ rest) (by omega), if_pos hcond, g1]
  rw [inc64 (by omega), g3 hn]
  congr 3
  omega
/-! ### the reader -/
theorem rnum_tot {a : List Int} (ha : Rd a) (bad : Bool) {m : Int} (hm : 0 ≤ m) : ∃ v rest bad', F_ref01_Reader_Number mx (a, bad, m) = some (v, rest, bad') ∧ (0 ≤ v ∧ v ≤ m) ∧ (0 ≤ v ∧ v ≤ 18446744073709551615) ∧ Rd rest := by
  obtain ⟨v, n, e, h1, h2, h4⟩ := rread_tot ha.1 (by have := ha.2; omega)
  simp only [F_ref01_Reader_Number, h1, Option.bind_some, F_ref01_Reader_Number.s28, bne_int]
  by_cases g1 : e = 0
  case neg => rw [decide_eq_false g1]; exact ⟨0, a, true, rfl, ⟨Int.le_refl _, hm⟩, ⟨by decide, by decide⟩, ha⟩
  rw [decide_eq_true g1]
  by_cases g2 : m < v
  · rw [decide_eq_true g2]; exact ⟨0, a, true, rfl, ⟨Int.le_refl _, hm⟩, ⟨by decide, by decide⟩, ha⟩
  · rw [decide_eq_false g2]
    simp only [Bool.not_true, cond_false, Option.bind_some, lez, decide_eq_true (show (n : Int) ≤ (a.length : Int) by omega), Int.le_refl, decide_true, Bool.and_self, cond_true, Int.toNat_natCast, List.take_length]
    exact ⟨v, a.drop n, bad, rfl, ⟨h2.1, by omega⟩, h2, ha.drop n⟩
theorem rnum_sm {n : Nat} (hn : n < 18446744073709551616) {rest : List Int} (hr : Rd rest) (bad : Bool) {m : Int} (h0 : (n : Int) ≤ m) : F_ref01_Reader_Number mx (sm n ++ rest, bad, m) = some ((n : Int), rest, bad) := by
  have h := rread_sm hn hr.1 (by have := hr.2; omega)
  simp only [F_ref01_Reader_Number, h, Option.bind_some, F_ref01_Reader_Number.s28, bne_self_eq_false, cond_false, decide_eq_false (show ¬ m < (n : Int) by omega), lez, decide_eq_true (show ((sm n).length : Int) ≤ ((sm n ++ rest).length : Int) by rw [List.length_append]; omega), Int.le_refl, decide_true, Bool.and_self, cond_true, Int.toNat_natCast, List.take_length]
  rw [List.drop_left' rfl]
theorem rtxt_tot {a : List Int} (ha : Rd a) (bad : Bool) : ∃ s rest bad', F_ref01_Reader_Text mx (a, bad) = some (s, rest, bad') ∧ Rd s ∧ Rd rest := by
  obtain ⟨v, n, e, h1, h2, h4⟩ := rread_tot ha.1 (by have := ha.2; omega)
  have hl := ha.2
  have hE : Rd ([] : List Int) := ⟨fun x hx => (by cases hx), by simp⟩
  have w1 : IntKind.u64.wrap (IntKind.i64.wrap ((a.length : Int) - (n : Int))) = (a.length : Int) - (n : Int) := by rw [w64 (by omega) (by omega), wu64 (by omega) (by omega)]
  simp only [F_ref01_Reader_Text, h1, Option.bind_some, F_ref01_Reader_Text.s28, bne_int, w1]
  by_cases g1 : e = 0
  case neg => rw [decide_eq_false g1]; exact ⟨[], a, true, rfl, hE, ha⟩
  rw [decide_eq_true g1]
  by_cases g2 : (a.length : Int) - (n : Int) < v
  · rw [decide_eq_true g2]; exact ⟨[], a, true, rfl, hE, ha⟩
  · rw [decide_eq_false g2]
    have w2 : IntKind.i64.wrap ((n : Int) + IntKind.i64.wrap v) = (n : Int) + v := by rw [w64 (n := v) (by omega) (by omega), w64 (by omega) (by omega)]
    simp only [Bool.not_true, cond_false, Option.bind_some, w2, lez, decide_eq_true (show (n : Int) ≤ (n : Int) + v by omega), decide_eq_true (show (n : Int) + v ≤ (a.length : Int) by omega), decide_eq_true (show (0 : Int) ≤ (n : Int) + v by omega), Int.le_refl, decide_true, Bool.and_self, cond_true]
    exact ⟨_, _, _, rfl, (ha.take _).drop _, (ha.take _).drop _⟩
theorem rtxt_sm {s rest : List Int} (hs : Rd (s ++ rest)) (bad : Bool) : F_ref01_Reader_Text mx (txt s ++ rest, bad) = some (s, rest, bad) := by
  have hl := hs.2
  rw [List.length_append] at hl
  have hsl := sm_len s.length
  have h := rread_sm (n := s.length) (by omega) hs.1 (by rw [List.length_append]; omega)
  have e : sm s.length ++ (s ++ rest) = txt s ++ rest := by unfold txt; rw [List.append_assoc]
  rw [e] at h
  have hla : (txt s ++ rest).length = (sm s.length).length + s.length + rest.length := by unfold txt; simp only [List.length_append]
  have w1 : IntKind.u64.wrap (IntKind.i64.wrap (((txt s ++ rest).length : Int) - ((sm s.length).length : Int))) = (s.length : Int) + (rest.length : Int) := by rw [hla, w64 (by omega) (by omega), wu64 (by omega) (by omega)]; omega
  have w2 : IntKind.i64.wrap (((sm s.length).length : Int) + IntKind.i64.wrap (s.length : Int)) = (((sm s.length).length + s.length : Nat) : Int) := by rw [w64 (n := (s.length : Int)) (by omega) (by omega), w64 (by omega) (by omega)]; omega
  simp only [F_ref01_Reader_Text, h, Option.bind_some, F_ref01_Reader_Text.s28, bne_self_eq_false, cond_false, w1, decide_eq_false (show ¬ (s.length : Int) + (rest.length : Int) < (s.length : Int) by omega), w2, lez,
    decide_eq_true (show ((sm s.length).length : Int) ≤ (((sm s.length).length + s.length : Nat) : Int) by omega), decide_eq_true (show (((sm s.length).length + s.length : Nat) : Int) ≤ ((txt s ++ rest).length : Int) by omega), Int.le_refl, decide_true, Bool.and_self, cond_true, Int.toNat_natCast, List.take_length]
  have e1 : ((txt s ++ rest).take ((sm s.length).length + s.length)).drop (sm s.length).length = s := by
    rw [show (sm s.length).length + s.length = (txt s).length by unfold txt; rw [List.length_append], List.take_left' rfl]
    unfold txt; rw [List.drop_left' rfl]
  have e2 : (txt s ++ rest).drop ((sm s.length).length + s.length) = rest := by
    rw [show (sm s.length).length + s.length = (txt s).length by unfold txt; rw [List.length_append], List.drop_left' rfl]
  rw [e1, e2]
theorem rbyte_tot {a : List Int} (ha : Rd a) (bad : Bool) : ∃ v rest bad', F_ref01_Reader_Byte mx (a, bad) = some (v, rest, bad') ∧ Rd rest := by
  simp only [F_ref01_Reader_Byte, ieq]
  by_cases h : a.length = 0
  · rw [decide_eq_true (show (a.length : Int) = 0 by omega)]; exact ⟨0, a, true, rfl, ha⟩
  · simp only [decide_eq_false (show ¬ (a.length : Int) = 0 by omega), cond_false, decide_eq_true (show (0 : Int) < (a.length : Int) by omega), decide_eq_true (show (1 : Int) ≤ (a.length : Int) by omega), Int.le_refl, decide_true, Bool.and_self, cond_true, Int.toNat_natCast, List.take_length]
    exact ⟨_, _, _, rfl, ha.drop 1⟩
theorem rbyte_sm (x : Int) (rest : List Int) (bad : Bool) : F_ref01_Reader_Byte mx (x :: rest, bad) = some (x, rest, bad) := by
  have h1 : (x :: rest).length = rest.length + 1 := List.length_cons
  simp only [F_ref01_Reader_Byte, ieq, decide_eq_false (show ¬ ((x :: rest).length : Int) = 0 by omega), cond_false, decide_eq_true (show (0 : Int) < ((x :: rest).length : Int) by omega), decide_eq_true (show (1 : Int) ≤ ((x :: rest).length : Int) by omega), Int.le_refl, decide_true, Bool.and_self, cond_true, Int.toNat_natCast, List.take_length]
  rfl
theorem ritm_tot {a : List Int} (ha : Rd a) (bad : Bool) : ∃ s1 s2 v3 v4 v5 rest bad', F_ref01_Reader_Item mx (a, bad) = some (s1, s2, v3, v4, v5, rest, bad') ∧ Rd s1 ∧ Rd s2 ∧ (0 ≤ v3 ∧ v3 ≤ 4294967295) ∧ (0 ≤ v5 ∧ v5 ≤ 18446744073709551615) ∧ Rd rest := by
  obtain ⟨s1, r1, b1, p1, i1, j1⟩ := rtxt_tot ha bad
  obtain ⟨s2, r2, b2, p2, i2, j2⟩ := rtxt_tot j1 b1
  obtain ⟨v3, r3, b3, p3, i3, _, j3⟩ := rnum_tot j2 b2 (m := 4294967295) (by decide)
  obtain ⟨v4, r4, b4, p4, i4, _, j4⟩ := rnum_tot j3 b3 (m := 1099511627776) (by decide)
  obtain ⟨v5, r5, b5, p5, i5, _, j5⟩ := rnum_tot j4 b4 (m := 18446744073709551615) (by decide)
  simp only [F_ref01_Reader_Item, p1, p2, p3, p4, p5, Option.bind_some]
  exact ⟨_, _, _, _, _, _, _, rfl, i1, i2, by rw [wu32 i3.1 i3.2]; exact i3, i5, j5⟩
theorem ritm_sm {x : Itm} {rest : List Int} (h : Rd (itemB x ++ rest)) (hx : 0 ≤ x.2.2.2.1 ∧ x.2.2.2.1 ≤ 1099511627776) (hw : (0 ≤ x.2.2.1 ∧ x.2.2.1 ≤ 4294967295) ∧ 0 ≤ x.2.2.2.2 ∧ x.2.2.2.2 ≤ 18446744073709551615) (bad : Bool) :
    F_ref01_Reader_Item mx (itemB x ++ rest, bad) = some (x.1, x.2.1, x.2.2.1, x.2.2.2.1, x.2.2.2.2, rest, bad) := by
  obtain ⟨⟨w1, w2⟩, w3, w4⟩ := hw
  have hi4 := hx
  have e0 : itemB x ++ rest = txt x.1 ++ (txt x.2.1 ++ (sm x.2.2.1.toNat ++ (sm x.2.2.2.1.toNat ++ (sm x.2.2.2.2.toNat ++ rest)))) := by
    simp only [itemB, List.append_assoc]
  rw [e0] at h ⊢
  have g2 := h.right
  have g3 : Rd (sm x.2.2.1.toNat ++ (sm x.2.2.2.1.toNat ++ (sm x.2.2.2.2.toNat ++ rest))) := g2.right
  have g4 := g3.right
  have g5 := g4.right
  have g6 := g5.right
  have p1 := rtxt_sm (s := x.1) (rest := txt x.2.1 ++ (sm x.2.2.1.toNat ++ (sm x.2.2.2.1.toNat ++ (sm x.2.2.2.2.toNat ++ rest)))) (by unfold txt at h; rw [List.append_assoc] at h; exact h.right) bad
  have p2 := rtxt_sm (s := x.2.1) (rest := sm x.2.2.1.toNat ++ (sm x.2.2.2.1.toNat ++ (sm x.2.2.2.2.toNat ++ rest))) (by
    have := g2
    unfold txt at this
    rw [List.append_assoc] at this
    exact this.right) bad
  have p3 := rnum_sm (n := x.2.2.1.toNat) (by omega) g4 bad (m := 4294967295) (by omega)
  have p4 := rnum_sm (n := x.2.2.2.1.toNat) (by omega) g5 bad (m := 1099511627776) (by omega)
  have p5 := rnum_sm (n := x.2.2.2.2.toNat) (by omega) g6 bad (m := 18446744073709551615) (by omega)
  rw [show ((x.2.2.1.toNat : Nat) : Int) = x.2.2.1 by omega] at p3
  rw [show ((x.2.2.2.1.toNat : Nat) : Int) = x.2.2.2.1 by omega] at p4
  rw [show ((x.2.2.2.2.toNat : Nat) : Int) = x.2.2.2.2 by omega] at p5
  simp only [F_ref01_Reader_Item, p1, p2, p3, p4, p5, Option.bind_some]
  rw [wu32 w1 w2, w64 (n := x.2.2.2.1) (by omega) (by omega)]
end Go.Proofs.Ytmkfifilpkhfoaa
