/- Bytes are read. -/
import Derived.Test.YtmkfifilpkhfoaaKIw
namespace Go.Proofs.Ytmkfifilpkhfoaa
open Go.Abs
set_option maxRecDepth 100000
def bytesI (l : List Int) : Prop := ∀ x ∈ l, 0 ≤ x ∧ x ≤ 255
theorem bytesI_getD {l : List Int} (h : bytesI l) (i : Nat) : 0 ≤ l.getD i 0 ∧ l.getD i 0 ≤ 255 := by
  by_cases hi : i < l.length
  · exact h _ (getD_lt hi)
  · rw [List.getD_eq_getElem?_getD, List.getElem?_eq_none (by omega)]; exact ⟨by decide, by decide⟩
theorem bytesI_drop {l : List Int} (h : bytesI l) (n : Nat) : bytesI (l.drop n) := fun x hx => h x (List.mem_of_mem_drop hx)
theorem bytesI_take {l : List Int} (h : bytesI l) (n : Nat) : bytesI (l.take n) := fun x hx => h x (List.mem_of_mem_take hx)
theorem and127 {b : Nat} (h : b < 256) : bitsOp .and .u8 (b : Int) 127 = ((b % 128 : Nat) : Int) := by
  have h2 : (List.range 256).all (fun b => bitsOp .and .u8 (b : Int) 127 == ((b % 128 : Nat) : Int)) = true := by kernel_rfl
  exact beq_iff_eq.1 (List.all_eq_true.1 h2 b (List.mem_range.2 h))
theorem u64_rng (x : Int) : 0 ≤ IntKind.u64.wrap x ∧ IntKind.u64.wrap x ≤ 18446744073709551615 := by
  show 0 ≤ x % 18446744073709551616 ∧ x % 18446744073709551616 ≤ 18446744073709551615
  omega
theorem or64 {x y : Nat} (hx : x < 18446744073709551616) (hy : y < 18446744073709551616) : bitsOp .or .u64 (x : Int) (y : Int) = ((x ||| y : Nat) : Int) := by
  have e : bitsOp .or .u64 (x : Int) (y : Int) = IntKind.u64.wrap ((BitVec.ofInt 64 x ||| BitVec.ofInt 64 y).toNat : Int) := rfl
  have e2 : (BitVec.ofInt 64 (x : Int) ||| BitVec.ofInt 64 (y : Int)).toNat = x ||| y := by
    rw [BitVec.toNat_or, BitVec.toNat_ofInt, BitVec.toNat_ofInt]
    congr 1
    · show ((x : Int) % ((2 ^ 64 : Nat) : Int)).toNat = x
      rw [Int.emod_eq_of_lt (by omega) (by omega)]; rfl
    · show ((y : Int) % ((2 ^ 64 : Nat) : Int)).toNat = y
      rw [Int.emod_eq_of_lt (by omega) (by omega)]; rfl
  have : x ||| y < 2 ^ 64 := Nat.or_lt_two_pow (by omega) (by omega)
  rw [e, e2, wu64 (by omega) (by omega)]
theorem or_step {acc b i : Nat} (hi : i ≤ 9) (hb : b < 128) (ha : acc < 2 ^ (7 * i)) (hs : acc + b * 2 ^ (7 * i) < 18446744073709551616) :
    bitsOp .or .u64 (acc : Int) (shlOp .u64 (IntKind.u64.wrap (b : Int)) ((7 * i : Nat) : Int)) = ((acc + b * 2 ^ (7 * i) : Nat) : Int) := by
  have e : shlOp .u64 (IntKind.u64.wrap (b : Int)) ((7 * i : Nat) : Int) = ((b * 2 ^ (7 * i) : Nat) : Int) := by
    have e1 : shlOp .u64 (IntKind.u64.wrap (b : Int)) ((7 * i : Nat) : Int) = IntKind.u64.wrap (IntKind.u64.wrap (b : Int) * 2 ^ min (7 * i) 64) := rfl
    rw [e1, Nat.min_eq_left (by omega), wu64 (n := (b : Int)) (by omega) (by omega)]
    have : (b : Int) * 2 ^ (7 * i) = ((b * 2 ^ (7 * i) : Nat) : Int) := by simp
    rw [this, wu64 (by omega) (by omega)]
  rw [e, or64 (by omega) (by omega)]
  have := Nat.two_pow_add_eq_or_of_lt ha b
  rw [Nat.or_comm, Nat.mul_comm b, ← this, Nat.add_comm]

theorem read_step {a : List Int} (hb : bytesI a) (hl : a.length ≤ 1000000) {i : Nat} (hi : i < a.length) (acc : Int) :
    F_code_Read.l58 mx a (a.length : Int) (acc, (i : Int)) = some (if i = 9 ∧ 1 < a.getD i 0 then .fin (.inl ()) else
      if a.getD i 0 < 128 then (if a.getD i 0 = 0 ∧ 0 < i then .fin (.inl ()) else .fin (.inr (bitsOp .or .u64 acc (shlOp .u64 (IntKind.u64.wrap (bitsOp .and .u8 (a.getD i 0) 127)) ((7 * i : Nat) : Int)), ((i + 1 : Nat) : Int), 0)))
      else .next (bitsOp .or .u64 acc (shlOp .u64 (IntKind.u64.wrap (bitsOp .and .u8 (a.getD i 0) 127)) ((7 * i : Nat) : Int)), ((i + 1 : Nat) : Int))) := by
  have w1 : IntKind.i64.wrap ((7 : Int) * (i : Int)) = ((7 * i : Nat) : Int) := by rw [w64 (by omega) (by omega)]; omega
  have hs : F_code_Read.s7474 mx (acc, (i : Int)) (a.getD i 0) = some (if i = 9 ∧ 1 < a.getD i 0 then .inl () else .inr ()) := by
    simp only [F_code_Read.s7474, ieq]
    by_cases h : i = 9
    · rw [decide_eq_true (show (i : Int) = 9 by omega)]
      by_cases h2 : 1 < a.getD i 0
      · rw [decide_eq_true h2, if_pos ⟨h, h2⟩]; rfl
      · rw [decide_eq_false h2, if_neg (fun hh => h2 hh.2)]; rfl
    · rw [decide_eq_false (show ¬ (i : Int) = 9 by omega), if_neg (fun hh => h hh.1)]; rfl
  simp only [F_code_Read.l58, ltd hi, lez, Bool.and_self, cond_true, Int.toNat_natCast, hs, Option.bind_some]
  by_cases h1 : i = 9 ∧ 1 < a.getD i 0
  · rw [if_pos h1, if_pos h1]
  rw [if_neg h1, if_neg h1]
  simp only [w1, decide_eq_false (show ¬ ((7 * i : Nat) : Int) < 0 by omega), cond_false, ieq]
  rw [inc64 (by omega)]
  by_cases h2 : a.getD i 0 < 128
  · rw [decide_eq_true h2, if_pos h2]
    by_cases h3 : a.getD i 0 = 0
    · rw [decide_eq_true h3]
      by_cases h4 : 0 < i
      · rw [decide_eq_true (show (0 : Int) < (i : Int) by omega), if_pos ⟨h3, h4⟩]; rfl
      · rw [decide_eq_false (show ¬ (0 : Int) < (i : Int) by omega), if_neg (fun hh => h4 hh.2)]; rfl
    · rw [decide_eq_false h3, if_neg (fun hh => h3 hh.1)]; rfl
  · rw [decide_eq_false h2, if_neg h2]; rfl
theorem codeRead_tot {a : List Int} (hb : bytesI a) (hl : a.length ≤ 1000000) : ∃ (v : Int) (n : Nat) (e : Int), F_code_Read mx a = some (v, (n : Int), e) ∧ 0 ≤ v ∧ v ≤ 18446744073709551615 ∧ n ≤ a.length := by
  obtain ⟨r, hr, hQ⟩ := iter_inv (f := F_code_Read.l58 mx a (a.length : Int)) (fun s => ∃ k : Nat, s.2 = (k : Int) ∧ k ≤ a.length) (fun s => a.length - s.2.toNat)
    (fun r => ∀ x, r = .inr x → ∃ n : Nat, x.2.1 = (n : Int) ∧ n ≤ a.length ∧ 0 ≤ x.1 ∧ x.1 ≤ 18446744073709551615) ((0 : Int), (0 : Int)) ⟨0, rfl, Nat.zero_le _⟩ (by
    simp only [Int.toNat_zero, Nat.sub_zero]; exact lt_N0 (by omega)) (fun s ⟨k, e, hk⟩ => by
    obtain ⟨acc, i⟩ := s
    dsimp only at e
    subst e
    by_cases h1 : k < a.length
    · rw [read_step hb hl h1]
      by_cases g1 : k = 9 ∧ 1 < a.getD k 0
      · rw [if_pos g1]; exact .inr ⟨_, rfl, fun x hx => by cases hx⟩
      rw [if_neg g1]
      by_cases g2 : a.getD k 0 < 128
      · rw [if_pos g2]
        by_cases g3 : a.getD k 0 = 0 ∧ 0 < k
        · rw [if_pos g3]; exact .inr ⟨_, rfl, fun x hx => by cases hx⟩
        · rw [if_neg g3]
          refine .inr ⟨_, rfl, fun x hx => ?_⟩
          cases hx
          exact ⟨k + 1, rfl, by omega, u64_rng _⟩
      · rw [if_neg g2]
        exact .inl ⟨_, rfl, ⟨k + 1, rfl, by omega⟩, by dsimp only; omega⟩
    · have : k = a.length := by omega
      subst this
      exact .inr ⟨.inl (), by simp only [F_code_Read.l58, nltd, cond_false], fun x hx => by cases hx⟩)
  simp only [F_code_Read, hr, Option.bind_some]
  cases r with
  | inl _ => exact ⟨0, 0, 8, rfl, by decide, by decide, Nat.zero_le _⟩
  | inr x =>
    obtain ⟨v, n, e⟩ := x
    obtain ⟨m, h1, h2, h3, h4⟩ := hQ _ rfl
    dsimp only at h1
    subst h1
    exact ⟨v, m, e, rfl, h3, h4, h2⟩
theorem smF_bytes : ∀ (f n : Nat), n < 128 ^ (f + 1) → bytesI (smF f n)
  | 0, n, h => fun x hx => by
    simp only [smF, List.mem_singleton] at hx
    subst hx; simp at h; omega
  | f + 1, n, h => fun x hx => by
    rw [smF] at hx
    split at hx
    · rw [List.mem_singleton] at hx; subst hx; omega
    · rcases List.mem_cons.1 hx with rfl | hx
      · omega
      · exact smF_bytes f (n / 128) (by rw [Nat.pow_succ] at h; exact Nat.div_lt_of_lt_mul (by omega)) x hx
theorem read_iter {a rest : List Int} (hb : bytesI a) (hl : a.length ≤ 1000000) : ∀ (f n i acc : Nat) (pre : List Int) (k : Nat), a = pre ++ (smF f n ++ rest) → pre.length = i → acc < 2 ^ (7 * i) → acc + n * 2 ^ (7 * i) < 18446744073709551616 → i ≤ 9 → n < 128 ^ (f + 1) → (0 < i → 0 < n) → f < k →
    iterN (F_code_Read.l58 mx a (a.length : Int)) k (((acc : Nat) : Int), (i : Int)) = some (.inr (((acc + n * 2 ^ (7 * i) : Nat) : Int), ((i + (smF f n).length : Nat) : Int), 0))
  | f, n, i, acc, pre, k, ha, hp, hac, hs, hi, hn, hnz, hk => by
    obtain ⟨k, rfl⟩ : ∃ m, k = m + 1 := ⟨k - 1, by omega⟩
    have hlen := (smF_len f n).1
    have hil : i < a.length := by rw [ha]; simp only [List.length_append]; omega
    have hget : a.getD i 0 = (smF f n).getD 0 0 := by
      rw [getD_some hil, getD_some (by omega)]
      simp only [ha]
      rw [List.getElem_append_right (by omega), List.getElem_append_left (by omega)]
      congr 1; omega
    by_cases h : n < 128
    · have hsm : smF f n = [((n : Nat) : Int)] := by
        cases f with
        | zero => rfl
        | succ f => rw [smF, if_pos h]
      rw [hsm] at hget ⊢
      have hget : a.getD i 0 = (n : Int) := hget
      have hstep := read_step hb hl hil (((acc : Nat) : Int))
      rw [hget, and127 (by omega), Nat.mod_eq_of_lt h, or_step hi h hac hs, if_neg (fun hh => by
        have h9 := hh.1
        subst h9
        have : 2 ^ (7 * 9) = 9223372036854775808 := by decide
        rw [this] at hs; omega), if_pos (by omega), if_neg (fun hh => by have := hnz hh.2; omega)] at hstep
      rw [iterN_fin hstep]; rfl
    · cases f with
      | zero => simp at hn; omega
      | succ f =>
        have hsm : smF (f + 1) n = ((n % 128 + 128 : Nat) : Int) :: smF f (n / 128) := by rw [smF, if_neg h]
        have hi9 : i < 9 := by
          rcases Nat.lt_or_ge i 9 with h9 | h9
          · exact h9
          · have : i = 9 := by omega
            subst this
            have : 2 ^ (7 * 9) = 9223372036854775808 := by decide
            rw [this] at hs; omega
        rw [hsm] at hget
        have hget : a.getD i 0 = ((n % 128 + 128 : Nat) : Int) := hget
        have e7 : 2 ^ (7 * (i + 1)) = 128 * 2 ^ (7 * i) := by rw [show 7 * (i + 1) = 7 * i + 7 by omega, Nat.pow_add]; omega
        have hm : n % 128 * 2 ^ (7 * i) + n / 128 * 2 ^ (7 * (i + 1)) = n * 2 ^ (7 * i) := by
          rw [e7, ← Nat.mul_assoc, ← Nat.add_mul]; congr 1; omega
        have hle : n % 128 * 2 ^ (7 * i) ≤ n * 2 ^ (7 * i) := Nat.mul_le_mul_right _ (Nat.mod_le _ _)
        have hstep := read_step hb hl hil (((acc : Nat) : Int))
        rw [hget, and127 (by omega), show (n % 128 + 128) % 128 = n % 128 by omega, or_step hi (by omega) hac (by omega), if_neg (by omega), if_neg (by omega)] at hstep
        rw [iterN_next hstep, read_iter (rest := rest) hb hl f (n / 128) (i + 1) (acc + n % 128 * 2 ^ (7 * i)) (pre ++ [((n % 128 + 128 : Nat) : Int)]) k (by rw [ha, hsm]; simp) (by simp [hp]) (by
            rw [e7]
            have : n % 128 * 2 ^ (7 * i) ≤ 127 * 2 ^ (7 * i) := Nat.mul_le_mul_right _ (by omega)
            omega) (by omega) (by omega) (by rw [Nat.pow_succ] at hn; exact Nat.div_lt_of_lt_mul (by omega)) (fun _ => by omega) (by omega), hsm, List.length_cons]
        congr 3
        · omega
        · congr 1; omega
theorem codeRead_sm {n : Nat} (hn : n < 18446744073709551616) {rest : List Int} (hr : bytesI rest) (hl : rest.length ≤ 900000) : F_code_Read mx (sm n ++ rest) = some ((n : Int), (((sm n).length : Nat) : Int), 0) := by
  have e0 : (128 : Nat) ^ (10 + 1) = 151115727451828646838272 := by decide
  have hs := sm_len n
  have hb : bytesI (sm n ++ rest) := fun x hx => by
    rcases List.mem_append.1 hx with hx | hx
    · exact smF_bytes 10 n (by rw [e0]; omega) x hx
    · exact hr x hx
  have := read_iter (a := sm n ++ rest) (rest := rest) hb (by rw [List.length_append]; omega) 10 n 0 0 [] N0 rfl rfl (by decide) (by omega) (by omega) (by rw [e0]; omega) (by omega) (by unfold N0; omega)
  have this : iter mx (F_code_Read.l58 mx (sm n ++ rest) ((sm n ++ rest).length : Int)) ((0 : Int), (0 : Int)) = _ := this
  simp only [F_code_Read, this, Option.bind_some, Nat.zero_add, Nat.mul_zero, Nat.pow_zero, Nat.mul_one]
  rfl
theorem sm_bytes {n : Nat} (hn : n < 18446744073709551616) : bytesI (sm n) := by
  have e0 : (128 : Nat) ^ (10 + 1) = 151115727451828646838272 := by decide
  exact smF_bytes 10 n (by rw [e0]; omega)
end Go.Proofs.Ytmkfifilpkhfoaa
