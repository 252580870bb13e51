/- The plain law of QuotaOver. -/
import Derived.Test.YtnnfjeofdcjfoaaK3
namespace Go.Proofs.Ytnnfjeofdcjfoaa.quotaOver
open Go.Abs
set_option maxRecDepth 100000

theorem alive_ok : F_law08_alive mx () = some true := by kernel_rfl

theorem clear_bit (a k : Nat) (hk : k ≤ 15) (ha : a < 65536) (hb : a / 2 ^ k % 2 = 1) : (a &&& (65535 - 2 ^ k)) + 2 ^ k = a := by
  have e : (65535 - 2 ^ k) / 2 ^ (k + 1) = 2 ^ (15 - k) - 1 ∧ (65535 - 2 ^ k) % 2 ^ (k + 1) = 2 ^ k - 1 := by
    have : k = 0 ∨ k = 1 ∨ k = 2 ∨ k = 3 ∨ k = 4 ∨ k = 5 ∨ k = 6 ∨ k = 7 ∨ k = 8 ∨ k = 9 ∨ k = 10 ∨ k = 11 ∨ k = 12 ∨ k = 13 ∨ k = 14 ∨ k = 15 := by omega
    rcases this with h | h | h | h | h | h | h | h | h | h | h | h | h | h | h | h <;> subst h <;> exact ⟨rfl, rfl⟩
  have ek : 2 ^ (k + 1) * 2 ^ (15 - k) = 65536 := by rw [← Nat.pow_add, show k + 1 + (15 - k) = 16 from by omega]
  have hd : a / 2 ^ (k + 1) < 2 ^ (15 - k) := by rw [Nat.div_lt_iff_lt_mul (Nat.two_pow_pos _), Nat.mul_comm, ek]; exact ha
  have h1 : (a &&& (65535 - 2 ^ k)) / 2 ^ (k + 1) = a / 2 ^ (k + 1) := by
    rw [← Nat.shiftRight_eq_div_pow, Nat.shiftRight_and_distrib, Nat.shiftRight_eq_div_pow, Nat.shiftRight_eq_div_pow, e.1, Nat.and_two_pow_sub_one_eq_mod, Nat.mod_eq_of_lt hd]
  have h2 : (a &&& (65535 - 2 ^ k)) % 2 ^ (k + 1) = a % 2 ^ k := by
    rw [Nat.and_mod_two_pow, e.2, Nat.and_two_pow_sub_one_eq_mod, Nat.mod_mod_of_dvd _ (Nat.pow_dvd_pow 2 (Nat.le_succ k))]
  have h3 : a % 2 ^ (k + 1) = a % 2 ^ k + 2 ^ k := by rw [Nat.mod_pow_succ, hb, Nat.mul_one]
  have h4 := Nat.div_add_mod (a &&& (65535 - 2 ^ k)) (2 ^ (k + 1))
  have h5 := Nat.div_add_mod a (2 ^ (k + 1))
  rw [h1, h2] at h4
  rw [h3] at h5
  omega

/-- What giving a chunk back makes of a page. -/
def freed (x : Pg) (k : Nat) : Pg := if x.2.2.toNat = 2 ^ k then (0, 0, 0) else (x.1, x.2.1, x.2.2 - 2 ^ k)
theorem pow_le (k : Nat) (hk : k ≤ 15) : 2 ^ k ≤ 32768 := Nat.pow_le_pow_right (n := 2) (by decide) hk
theorem free_ok {s : List Pg} {p k : Nat} (hs : okS s) (hw : wfS s) (hp : p < s.length) (hk : k ≤ 15) :
    F_slab_Free mx (s, (p : Int), (k : Int)) = some (if (s.getD p (0, 0, 0)).2.2.toNat / 2 ^ k % 2 = 1 then (s.set p (freed (s.getD p (0, 0, 0)) k), 0) else ([], 6)) := by
  have hwp := hw p hp
  have hl := okS_len hs
  have d1 : decide ((p : Int) < 0) = false := by simp
  have d2 : decide ((s.length : Int) ≤ (p : Int)) = false := by simp; omega
  have d3 : decide ((k : Int) < 0) = false := by simp
  have d4 : decide ((15 : Int) < (k : Int)) = false := by simp; omega
  have hc : C_slices_Clone_Page mx s = some s := by
    have : Nat.ble s.length 4294967296 = true := Nat.ble_eq_true_of_le (by omega)
    simp [C_slices_Clone_Page, this]
  have e1 : bitsOp .and .u16 (shrOp .u16 (s.getD p (0, 0, 0)).2.2 (k : Int)) 1 = (((s.getD p (0, 0, 0)).2.2.toNat / 2 ^ k % 2 : Nat) : Int) := by
    have hle : (s.getD p (0, 0, 0)).2.2.toNat / 2 ^ k ≤ (s.getD p (0, 0, 0)).2.2.toNat := Nat.div_le_self _ _
    have := hwp.1
    have := hwp.2
    rw [shr16 hwp.1 (by omega)]
    revert hle
    generalize (s.getD p (0, 0, 0)).2.2.toNat / 2 ^ k = y
    intro hle
    rw [mask16 (by omega) (by omega) (by omega) (by omega)]
    congr 1
    rw [Int.toNat_natCast]
    exact Nat.and_one_is_mod _
  have hpk := pow_le k hk
  have e2 : shlOp .u16 (1 : Int) (k : Int) = ((2 ^ k : Nat) : Int) := by
    show IntKind.u16.wrap (1 * 2 ^ min k 16) = _
    rw [Nat.min_eq_left (by omega), wu16]
    · simp
    · have : (0 : Int) ≤ ((2 ^ k : Nat) : Int) := Int.natCast_nonneg _
      simpa using this
    · have : ((2 ^ k : Nat) : Int) ≤ 65535 := by omega
      simpa using this
  simp only [F_slab_Free, check_slab hw, scheck, hs, if_true, Option.bind_some, d1, d2, d3, d4, bne_self_eq_false, cond_false, lez, Bool.and_self, ltd hp, cond_true, Int.toNat_natCast, e1, hc, F_slab_Free.s30, blt_t hp, e2]
  rw [ieq, ieq]
  by_cases hb : (s.getD p (0, 0, 0)).2.2.toNat / 2 ^ k % 2 = 1
  · have h3 : decide ((((s.getD p (0, 0, 0)).2.2.toNat / 2 ^ k % 2 : Nat) : Int) = 0) = false := by rw [hb]; rfl
    rw [h3, if_pos hb, cond_false]
    by_cases h4 : (s.getD p (0, 0, 0)).2.2.toNat = 2 ^ k
    · have h5 : decide ((s.getD p (0, 0, 0)).2.2 = ((2 ^ k : Nat) : Int)) = true := by
        have := hwp.1
        simp only [decide_eq_true_eq]; omega
      rw [h5, freed, if_pos h4]
      rfl
    · have h5 : decide ((s.getD p (0, 0, 0)).2.2 = ((2 ^ k : Nat) : Int)) = false := by
        have := hwp.1
        simp only [decide_eq_false_iff_not]; omega
      have h6 := clear_bit _ k hk (by have := hwp.2; omega) hb
      have := hwp.1
      rw [h5, freed, if_neg h4, clear16 hwp.1 hwp.2 (Int.natCast_nonneg _) (by omega), Int.toNat_natCast]
      have h7 : (((s.getD p (0, 0, 0)).2.2.toNat &&& (65535 - 2 ^ k) : Nat) : Int) = (s.getD p (0, 0, 0)).2.2 - 2 ^ k := by
        have : ((2 ^ k : Nat) : Int) = 2 ^ k := by simp
        rw [← this]
        omega
      rw [h7]
      rfl
  · have h3 : decide ((((s.getD p (0, 0, 0)).2.2.toNat / 2 ^ k % 2 : Nat) : Int) = 0) = true := by
      revert hb
      generalize (s.getD p (0, 0, 0)).2.2.toNat / 2 ^ k = y
      intro hb
      simp only [decide_eq_true_eq]; omega
    rw [h3, if_neg hb]
    rfl

/-- A page some of whose chunks are given back. -/
def part (x y : Pg) (k : Nat) : Prop := y = (0, 0, 0) ∨ (y.2.2 ≠ 0 ∧ okP y ∧ wfP y ∧ y.2.2.toNat % 2 ^ k = 0)
theorem part_ok {x y : Pg} {k : Nat} (h : part x y k) : okP y ∧ wfP y := by
  rcases h with h | h
  · subst h; exact ⟨by decide, by simp [wfP]⟩
  · exact ⟨h.2.1, h.2.2.1⟩
theorem part_step {x y : Pg} {k : Nat} (h : part x y k) (hb : y.2.2.toNat / 2 ^ k % 2 = 1) : part x (freed y k) (k + 1) := by
  rcases h with h | ⟨h1, h2, h3, h4⟩
  · subst h; simp at hb
  · unfold freed
    by_cases e : y.2.2.toNat = 2 ^ k
    · rw [if_pos e]; exact .inl rfl
    · rw [if_neg e]
      have g3 : y.2.2.toNat % 2 ^ (k + 1) = y.2.2.toNat % 2 ^ k + 2 ^ k := by rw [Nat.mod_pow_succ, hb, Nat.mul_one]
      have g4 := Nat.mod_le y.2.2.toNat (2 ^ (k + 1))
      have g5 : ((2 ^ k : Nat) : Int) = 2 ^ k := by simp
      have g6 := h3.1
      have g7 := h3.2
      have g8 : (y.2.2 - 2 ^ k).toNat = y.2.2.toNat - 2 ^ k := by rw [← g5]; omega
      have g9 : y.2.2 - 2 ^ k ≠ 0 := by rw [← g5]; omega
      refine .inr ⟨g9, ?_, ?_, ?_⟩
      · rw [okP1 g9]
        have := (okP1 h1).1 h2
        exact ⟨this.1, this.2.1, by simp only [g8]; omega⟩
      · simp only [wfP]; rw [← g5]; omega
      · simp only [g8]
        have := Nat.div_add_mod y.2.2.toNat (2 ^ (k + 1))
        have e2 : y.2.2.toNat - 2 ^ k = 2 ^ (k + 1) * (y.2.2.toNat / 2 ^ (k + 1)) := by omega
        rw [e2, Nat.mul_mod_right]
theorem part_skip {x y : Pg} {k : Nat} (h : part x y k) (hb : ¬ y.2.2.toNat / 2 ^ k % 2 = 1) : part x y (k + 1) := by
  rcases h with h | ⟨h1, h2, h3, h4⟩
  · exact .inl h
  · have : y.2.2.toNat / 2 ^ k % 2 = 0 := by
      revert hb
      generalize y.2.2.toNat / 2 ^ k = z
      omega
    exact .inr ⟨h1, h2, h3, by rw [Nat.mod_pow_succ, h4, this, Nat.mul_zero]⟩
theorem set_okS {s : List Pg} {p : Nat} {y : Pg} (hs : okS s) (hw : wfS s) (hy : okP y ∧ wfP y) : okS (s.set p y) ∧ wfS (s.set p y) := by
  constructor
  · refine ⟨by simpa using hs.1, by simpa using hs.2.1, fun k hk => ?_⟩
    have hk' : k < s.length := by simpa using hk
    by_cases e : p = k
    · subst e; rw [gset_self hk']; exact hy.1
    · rw [gset_ne e]; exact hs.2.2 k hk'
  · intro k hk
    have hk' : k < s.length := by simpa using hk
    by_cases e : p = k
    · subst e; rw [gset_self hk']; exact hy.2
    · rw [gset_ne e]; exact hw k hk'
theorem set_set' {s : List Pg} {p : Nat} {y z : Pg} : (s.set p y).set p z = s.set p z := by simp

/-- All chunks of a page are given back. -/
theorem sweep {s : List Pg} {p : Nat} (hs : okS s) (hw : wfS s) (hp : p < s.length) (hu : (s.getD p (0, 0, 0)).2.2 ≠ 0) (x19 : Int × Int) (hx : x19.1 = (p : Int)) :
    iter mx (F_law08_QuotaOver.l1047118 mx x19) ((0 : Int), s) = some (s.set p (0, 0, 0)) := by
  obtain ⟨r, h1, h2⟩ := iter_inv (f := F_law08_QuotaOver.l1047118 mx x19) (fun z => ∃ (k : Nat) (y : Pg), z = ((k : Int), s.set p y) ∧ k ≤ 16 ∧ part (s.getD p (0, 0, 0)) y k) (fun z => (16 - z.1).toNat) (fun r => r = s.set p (0, 0, 0)) ((0 : Int), s)
    ⟨0, s.getD p (0, 0, 0), by
        have : s.set p (s.getD p (0, 0, 0)) = s := by rw [getD_some hp]; simp
        rw [this]; rfl, by omega, .inr ⟨hu, hs.2.2 p hp, hw p hp, by rw [Nat.pow_zero, Nat.mod_one]⟩⟩ (lt_N0 (by simp))
    (by
      rintro z ⟨k, y, rfl, hk, hpart⟩
      by_cases h : k < 16
      · left
        have hlt : decide ((k : Int) < 16) = true := by simp; omega
        obtain ⟨g1, g2⟩ := set_okS (p := p) hs hw (part_ok hpart)
        have hf := free_ok (p := p) (k := k) g1 g2 (by simpa using hp) (by omega)
        rw [gset_self hp] at hf
        by_cases hb : y.2.2.toNat / 2 ^ k % 2 = 1
        · refine ⟨(((k + 1 : Nat) : Int), s.set p (freed y k)), ?_, ⟨k + 1, _, rfl, by omega, part_step hpart hb⟩, by simp only; omega⟩
          simp only [F_law08_QuotaOver.l1047118, hlt, cond_true, hx, hf, if_pos hb, Option.bind_some, beq_self_eq_true, set_set']
          rw [inc64 (by omega)]
        · refine ⟨(((k + 1 : Nat) : Int), s.set p y), ?_, ⟨k + 1, _, rfl, by omega, part_skip hpart hb⟩, by simp only; omega⟩
          simp only [F_law08_QuotaOver.l1047118, hlt, cond_true, hx, hf, if_neg hb, Option.bind_some]
          rw [inc64 (by omega)]; rfl
      · right
        have : k = 16 := by omega
        subst this
        refine ⟨s.set p y, by simp [F_law08_QuotaOver.l1047118], ?_⟩
        rcases hpart with h | ⟨h1, h2, h3, h4⟩
        · rw [h]
        · exfalso
          have := h3.1
          have := h3.2
          rw [Nat.mod_eq_of_lt (by omega)] at h4
          omega)
  rw [h1, h2]

theorem last_or (s : List Pg) (t : Int) : ∀ k, cntTo s t k = 0 ∨ ∃ p, p < k ∧ lastTo s t k = (p : Int) ∧ ownd s t p
  | 0 => .inl rfl
  | k + 1 => by
    by_cases h : ownd s t k
    · exact .inr ⟨k, by omega, by simp [lastTo, h], h⟩
    · rcases last_or s t k with h1 | ⟨p, h1, h2, h3⟩
      · left; simp only [cntTo, sumTo, h, if_false] at h1 ⊢; omega
      · exact .inr ⟨p, by omega, by simp only [lastTo, h, if_false]; exact h2, h3⟩
theorem cnt_set {s : List Pg} {t : Int} {p : Nat} (hp : p < s.length) (ho : ownd s t p) : cntTo (s.set p (0, 0, 0)) t (s.set p (0, 0, 0)).length = cntTo s t s.length - 1 := by
  have := sumTo_but (g := fun i => if ownd (s.set p (0, 0, 0)) t i then (1 : Int) else 0) (h := fun i => if ownd s t i then (1 : Int) else 0) (t := p) s.length
    (fun i hi hne => by
      have : ownd (s.set p (0, 0, 0)) t i ↔ ownd s t i := by simp only [ownd, gset_ne (Ne.symm hne)]
      simp only [this])
    (by
      have : ¬ ownd (s.set p (0, 0, 0)) t p := by simp only [ownd, gset_self hp]; simp
      rw [if_neg this])
  rw [if_pos hp, if_pos ho] at this
  rw [List.length_set]
  simp only [cntTo]
  omega

theorem rounds {s : List Pg} {t : Int} (n : Nat) (x7 : Int × Int) (h7 : x7.1 = (n : Int)) (hs : okS s) (hw : wfS s) (ht : 0 ≤ t ∧ t < 4) (hn : (n : Int) ≤ cntTo s t s.length) :
    ∃ s', iter mx (F_law08_QuotaOver.l4090 mx t x7) ((0 : Int), s) = some (.inr s') ∧ okS s' ∧ wfS s' ∧ s'.length = s.length ∧ cntTo s' t s'.length = cntTo s t s.length - n := by
  have hl := okS_len hs
  have hbd := cntTo_bd s t s.length
  obtain ⟨r, h1, s', h2, h3⟩ := iter_inv (f := F_law08_QuotaOver.l4090 mx t x7) (fun z => ∃ (k : Nat), z.1 = (k : Int) ∧ k ≤ n ∧ okS z.2 ∧ wfS z.2 ∧ z.2.length = s.length ∧ cntTo z.2 t z.2.length = cntTo s t s.length - k) (fun z => (n - z.1).toNat) (fun r => ∃ s', r = .inr s' ∧ okS s' ∧ wfS s' ∧ s'.length = s.length ∧ cntTo s' t s'.length = cntTo s t s.length - n) ((0 : Int), s)
    ⟨0, rfl, Nat.zero_le _, hs, hw, rfl, by simp⟩ (lt_N0 (by simp; omega))
    (by
      rintro ⟨i, s'⟩ ⟨k, rfl, hk, g1, g2, g3, g4⟩
      simp only at g1 g2 g3 g4
      by_cases h : k < n
      · left
        have ha : sasked s' t = 0 := by unfold sasked; rw [if_neg (by simpa using g1), if_pos ht]
        rcases last_or s' t s'.length with h0 | ⟨p, hp, hl2, ho⟩
        · omega
        refine ⟨(((k + 1 : Nat) : Int), s'.set p (0, 0, 0)), ?_, ⟨k + 1, rfl, by omega, ?_⟩, by simp only; omega⟩
        · have d1 : decide ((p : Int) < 0) = false := by simp
          have d2 : decide ((s'.length : Int) ≤ (p : Int)) = false := by simp; omega
          simp only [F_law08_QuotaOver.l4090, h7, ltd h, cond_true, Last_ok g2, ha, if_true, hl2, Option.bind_some, bne_self_eq_false, d1, d2, cond_false]
          rw [sweep g1 g2 hp ho.1 _ rfl, Option.bind_some, inc64 (by omega)]
        · obtain ⟨q1, q2⟩ := set_okS (p := p) (y := (0, 0, 0)) g1 g2 ⟨by decide, by simp [wfP]⟩
          refine ⟨q1, q2, by simp [g3], ?_⟩
          simp only
          rw [cnt_set hp ho, g4]; omega
      · right
        have : k = n := by omega
        subst this
        refine ⟨.inr s', by simp only [F_law08_QuotaOver.l4090, h7, nltd, cond_false], s', rfl, g1, g2, g3, g4⟩)
  exact ⟨s', by rw [h1, h2], h3⟩

theorem main (s : List Pg) (q : List Int) (t : Int) (hw : wfS s) : F_law08_QuotaOver mx (s, q, t) = some true := by
  simp only [F_law08_QuotaOver, alive_ok, Option.bind_some, Bool.not_true, cond_false]
  by_cases h1 : (100 : Int) < (s.length : Int)
  · simp [h1]
  by_cases h2 : (100 : Int) < (q.length : Int)
  · simp [h1, h2]
  simp only [h1, h2, decide_false, cond_false, Over_ok hw, Room_ok hw, Option.bind_some, cond_true]
  by_cases h : (smore s q t).2 = 0
  · obtain ⟨c1, c2, c3, c4⟩ := smore_bd h
    have hz := smore_zero h
    have hl := okS_len c1
    obtain ⟨m1, m2, m3, m4⟩ := mayB_len c2
    obtain ⟨k, hk, rfl⟩ : ∃ k : Nat, k < q.length ∧ t = (k : Int) := ⟨t.toNat, by omega, by omega⟩
    have hq := mayB_at c2 hk
    rw [Int.toNat_natCast] at hz
    have hbd := cntTo_bd s (k : Int) s.length
    have hmx : ∀ z : Int, mxI 0 z = if 0 < z then z else 0 := fun z => rfl
    have h510 : F_law08_QuotaOver.s510 mx (mxI 0 (smore s q (k : Int)).1, (smore s q (k : Int)).2) (decide ((smore s q (k : Int)).2 = 0) && decide ((smore s q (k : Int)).1 < 0), (smore s q (k : Int)).2) = some (Sum.inr ()) := by
      simp only [F_law08_QuotaOver.s510, h, bne_self_eq_false, cond_false, decide_true, Bool.true_and]
      rw [hmx]
      by_cases hp : 0 < (smore s q (k : Int)).1
      · have a1 : ¬ (smore s q (k : Int)).1 < 0 := by omega
        simp [hp, a1]
      · simp [hp]
    rw [h510]
    obtain ⟨s', e1, e2, e3, e4, e5⟩ := rounds (s := s) (t := (k : Int)) (mxI 0 (smore s q (k : Int)).1).toNat (mxI 0 (smore s q (k : Int)).1, (smore s q (k : Int)).2)
      (by rw [hmx]; simp only; split <;> omega) c1 hw ⟨by omega, by omega⟩ (by rw [hmx, hz]; split <;> omega)
    rw [h] at e1
    have ha : sasked s' (k : Int) = 0 := by unfold sasked; rw [if_neg (by simpa using e2), if_pos (by omega)]
    have hm' : smore s' q (k : Int) = (cntTo s' (k : Int) s'.length - q.getD k 0, 0) := by
      unfold smore
      rw [if_neg (by simpa using e2), if_neg (by rw [e4]; simpa using c2), if_neg (by omega), Int.toNat_natCast]
    simp only [h, e1, Option.bind_some, bne_self_eq_false, cond_false, Owned_ok e3, ha, if_true, Over_ok e3, hm', beq_self_eq_true, cond_true, lez, ltd hk, Bool.and_self, Int.toNat_natCast]
    have hfin : cntTo s' (k : Int) s'.length ≤ q.getD k 0 ∧ (mxI 0 (smore s q (k : Int)).1 = 0 ∨ cntTo s' (k : Int) s'.length = q.getD k 0) := by
      rw [e5, hmx, hz]; split <;> omega
    have f1 : mxI 0 (cntTo s' (k : Int) s'.length - q.getD k 0) = 0 := by rw [hmx, if_neg (by omega)]
    rw [f1]
    have f2 : decide (cntTo s' (k : Int) s'.length ≤ q.getD k 0) = true := by simpa [-List.getD_eq_getElem?_getD] using hfin.1
    simp only [beq_self_eq_true, cond_true, f2, ieq]
    rcases hfin.2 with f | f <;> simp [-List.getD_eq_getElem?_getD, f]
  · have : ((smore s q t).2 != 0) = true := by simpa using h
    simp [this, smore_one h, mxI]
theorem pure (p) (hp : wfIns F_law08_QuotaOver.sig.pars p) : F_law08_QuotaOver mx p = some true := by
  obtain ⟨s, q, t⟩ := p
  refine main s q t fun k hk => ?_
  have hs : Ty.wf (.sl (.pr (.int .i64) (.pr (.int .i64) (.int .u16)))) s := hp.1.1
  have := hs.1 _ (getD_lt (d := (0, 0, 0)) hk)
  exact wfu16 this.2.2
end Go.Proofs.Ytnnfjeofdcjfoaa.quotaOver
