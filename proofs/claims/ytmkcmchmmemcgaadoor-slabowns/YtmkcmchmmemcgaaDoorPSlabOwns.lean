/- The plain law of SlabOwns. -/
import Derived.Test.YtmkcmchmmemcgaaDoorK4
namespace Go.Proofs.YtmkcmchmmemcgaaDoor.slabOwns
open Go.Abs
set_option maxRecDepth 100000

theorem sumTo_more {g : Nat → Int} {n : Nat} : ∀ d, (∀ i, n ≤ i → i < n + d → g i = 0) → sumTo g (n + d) = sumTo g n
  | 0, _ => rfl
  | d + 1, h => by
    show sumTo g (n + d) + g (n + d) = _
    rw [sumTo_more d (fun i h1 h2 => h i h1 (by omega)), h (n + d) (by omega) (by omega)]; omega
theorem sumTo_one {g : Nat → Int} : ∀ n, (∀ i, i < n → g i = 1) → sumTo g n = n
  | 0, _ => rfl
  | n + 1, h => by simp only [sumTo]; rw [sumTo_one n (fun i hi => h i (by omega)), h n (by omega)]; omega
theorem low_ones (u : Nat) : ∀ n, (∀ i, i < n → u / 2 ^ i % 2 = 1) → u % 2 ^ n = 2 ^ n - 1
  | 0, _ => by rw [Nat.pow_zero, Nat.mod_one]
  | n + 1, h => by
    rw [Nat.mod_pow_succ, low_ones u n (fun i hi => h i (by omega)), h n (by omega), Nat.pow_succ]
    have := Nat.two_pow_pos n
    omega
theorem popc_full {u : Int} {n : Nat} (h0 : 0 ≤ u) (hn : n ≤ 16) (hu : u.toNat < 2 ^ n) : popc u < n ↔ u.toNat ≠ 2 ^ n - 1 := by
  have e : popc u = sumTo (fun i => ((u.toNat / 2 ^ i % 2 : Nat) : Int)) n := by
    unfold popc
    have := sumTo_more (g := fun i => ((u.toNat / 2 ^ i % 2 : Nat) : Int)) (n := n) (16 - n) (fun i h1 h2 => by
      have : u.toNat / 2 ^ i = 0 := Nat.div_eq_of_lt (Nat.lt_of_lt_of_le hu (Nat.pow_le_pow_right (by decide) h1))
      simp [this])
    rw [← this, show n + (16 - n) = 16 from by omega]
  constructor
  · intro h hc
    have : popc u = n := by
      rw [e]
      refine sumTo_one n fun i hi => ?_
      rw [bit_eq, hc, Nat.testBit_two_pow_sub_one]
      simp [hi]
    omega
  · intro hne
    have : ∃ i, i < n ∧ u.toNat / 2 ^ i % 2 = 0 := by
      rcases first_bad (fun i => u.toNat / 2 ^ i % 2 = 1) n with h | ⟨k, h1, h2, _⟩
      · exfalso
        have := low_ones u.toNat n h
        rw [Nat.mod_eq_of_lt hu] at this
        exact hne this
      · exact ⟨k, h1, by
          revert h2
          generalize u.toNat / 2 ^ k = y
          omega⟩
    obtain ⟨i, hi, hz⟩ := this
    have h1 := sumTo_but (g := fun j => ((u.toNat / 2 ^ j % 2 : Nat) : Int)) (h := fun j => if j = i then 1 else ((u.toNat / 2 ^ j % 2 : Nat) : Int)) (t := i) n (fun j _ hne => by simp [hne]) (by simp only [hz]; rfl)
    have h2 := sumTo_bd (g := fun j => if j = i then 1 else ((u.toNat / 2 ^ j % 2 : Nat) : Int)) (c := 1) n (fun j _ => by
      by_cases h : j = i
      · simp [h]
      · simp only [h, if_false]; exact bit_bd _ j)
    simp only [hi, if_true] at h1
    rw [e]
    omega

def roomTo (s : List Pg) (t c : Int) : Nat → Bool
  | 0 => false
  | k + 1 => roomTo s t c k || decide (hasRoom s t c k)
def freeCnt (s : List Pg) (k : Nat) : Int := sumTo (fun i => if isFree s i then 1 else 0) k
theorem freeCnt_bd (s : List Pg) (k : Nat) : 0 ≤ freeCnt s k ∧ freeCnt s k ≤ k := by
  have := sumTo_bd (g := fun i => if isFree s i then (1 : Int) else 0) (c := 1) k (fun i _ => by split <;> omega)
  unfold freeCnt; omega
theorem roomTo_no {s : List Pg} {t c : Int} : ∀ k, (∀ i, i < k → ¬ hasRoom s t c i) → roomTo s t c k = false
  | 0, _ => rfl
  | k + 1, h => by simp only [roomTo, roomTo_no k (fun i hi => h i (by omega)), h k (by omega), decide_false, Bool.or_self]
theorem roomTo_yes {s : List Pg} {t c : Int} {p : Nat} (h : hasRoom s t c p) : ∀ k, p < k → roomTo s t c k = true
  | 0, hk => by omega
  | k + 1, hk => by
    by_cases e : p = k
    · subst e; simp [roomTo, h]
    · simp only [roomTo, roomTo_yes h k (by omega), Bool.true_or]
theorem freeCnt_no {s : List Pg} : ∀ k, (∀ i, i < k → ¬ isFree s i) → freeCnt s k = 0
  | 0, _ => rfl
  | k + 1, h => by
    have := freeCnt_no k (fun i hi => h i (by omega))
    unfold freeCnt at this ⊢
    simp only [sumTo, this, h k (by omega), if_false]; rfl
theorem freeCnt_yes {s : List Pg} {p : Nat} (h : isFree s p) : ∀ k, p < k → 0 < freeCnt s k
  | 0, hk => by omega
  | k + 1, hk => by
    have hb := freeCnt_bd s k
    unfold freeCnt at hb ⊢
    simp only [sumTo]
    by_cases e : p = k
    · subst e; rw [if_pos h]; omega
    · have := freeCnt_yes h k (by omega)
      unfold freeCnt at this
      split <;> omega

theorem shr_ch {c : Int} (h : 0 ≤ c ∧ c < 5) : IntKind.u64.wrap (mnI (mxI c (0 : Int)) (4 : Int)) = c ∧ shrOp .i64 (16 : Int) c = (ch c : Int) := by
  have : c = 0 ∨ c = 1 ∨ c = 2 ∨ c = 3 ∨ c = 4 := by omega
  rcases this with h | h | h | h | h <;> subst h <;> exact ⟨by kernel_rfl, by kernel_rfl⟩

theorem look {s : List Pg} {t c : Int} (hs : okS s) (hw : wfS s) : iter mx (F_law05_SlabOwns.l1018 mx s t c) ((0 : Int), false, (0 : Int), (0 : Int)) = some (freeCnt s s.length, roomTo s t c s.length, cntTo s t s.length) := by
  have hlen := hs.2.1
  refine iter_count (f := F_law05_SlabOwns.l1018 mx s t c) (fun k => (freeCnt s k, roomTo s t c k, cntTo s t k, (k : Int))) s.length (lt_N0 (by omega)) (fun k hk => ?_) ?_
  · have b1 := freeCnt_bd s k
    have b2 := cntTo_bd s t k
    have hok := hs.2.2 k hk
    have hwk := hw k hk
    simp only [F_law05_SlabOwns.l1018, lez, Bool.and_self, ltd hk, cond_true, Int.toNat_natCast, ieq]
    rw [inc64 (by omega), w64 (n := freeCnt s k + 1) (by omega) (by omega), w64 (n := cntTo s t k + 1) (by omega) (by omega)]
    by_cases h0 : (s.getD k (0, 0, 0)).2.2 = 0
    · have f1 : isFree s k := h0
      have f2 : ¬ hasRoom s t c k := fun h => h.1 h0
      have f3 : ¬ ownd s t k := fun h => h.1 h0
      simp only [h0, decide_true, cond_true, freeCnt, roomTo, cntTo, sumTo, f1, f2, f3, if_true, if_false, decide_false, Bool.or_false, Int.add_zero]
    · have f1 : ¬ isFree s k := h0
      simp only [h0, decide_false, cond_false]
      by_cases h1 : (s.getD k (0, 0, 0)).1 = t
      · have f3 : ownd s t k := ⟨h0, h1⟩
        simp only [h1, decide_true, cond_true, freeCnt, roomTo, cntTo, sumTo, f1, f3, if_true, if_false, Int.add_zero]
        cases hr : roomTo s t c k with
        | true => simp only [cond_true, Bool.true_or]
        | false =>
          simp only [cond_false, Bool.false_or]
          by_cases h2 : (s.getD k (0, 0, 0)).2.1 = c
          · obtain ⟨_, o2, o3⟩ := (okP1 h0).1 hok
            rw [h2] at o2 o3
            obtain ⟨e1, e2⟩ := shr_ch o2
            have hneg : decide (c < 0) = false := by simp; omega
            have hu : F_law05_used mx (t, c, (s.getD k (0, 0, 0)).2.2) = some (popc (s.getD k (0, 0, 0)).2.2) := used_ok hwk
            simp only [h2, decide_true, cond_true, hu, Option.bind_some, e1, e2, hneg, cond_false]
            have hp := popc_full (n := ch c) hwk.1 (ch_le c) o3
            have hR : hasRoom s t c k ↔ popc (s.getD k (0, 0, 0)).2.2 < (ch c : Int) := by
              rw [hp]
              have e3 : ((2 ^ ch c : Nat) : Int) = 2 ^ ch c := by simp
              have hpos := Nat.two_pow_pos (ch c)
              have hw0 := hwk.1
              constructor
              · intro h hc
                have := h.2.2.2
                rw [← e3] at this
                omega
              · intro h
                refine ⟨h0, h1, h2, ?_⟩
                rw [← e3]
                omega
            rw [decide_eq_decide.2 hR]
          · have f2 : ¬ hasRoom s t c k := fun h => h2 h.2.2.1
            simp only [h2, f2, decide_false, cond_false]
      · have f2 : ¬ hasRoom s t c k := fun h => h1 h.2.1
        have f3 : ¬ ownd s t k := fun h => h1 h.2
        simp only [h1, decide_false, cond_false, freeCnt, roomTo, cntTo, sumTo, f1, f2, f3, if_false, Bool.or_false, Int.add_zero]
  · simp only [F_law05_SlabOwns.l1018, nltd, cond_false]

theorem or_least {u : Int} {k n : Nat} (u0 : 0 ≤ u) (hn : n ≤ 16) (hle : least u k) (u1 : u.toNat < 2 ^ n - 1) : bitsOp .or .u16 u (shlOp .u16 (1 : Int) (k : Int)) = u + 2 ^ k := by
  obtain ⟨b1, b2⟩ := least_bit hle
  have hlt := (least_lt hle hn u1).2
  have hpw := Nat.pow_le_pow_right (n := 2) (by decide) hn
  have hpk := pow_le k (by have := hle.1; omega)
  have e4 : shlOp .u16 (1 : Int) (k : Int) = ((2 ^ k : Nat) : Int) := by
    show IntKind.u16.wrap (1 * 2 ^ min k 16) = _
    rw [Nat.min_eq_left (by have := hle.1; omega), wu16]
    · simp
    · have : (0 : Int) ≤ ((2 ^ k : Nat) : Int) := Int.natCast_nonneg _
      simpa using this
    · have : ((2 ^ k : Nat) : Int) ≤ 65535 := by omega
      simpa using this
  have e0 : bitsOp .or .u16 u (shlOp .u16 (1 : Int) (k : Int)) = IntKind.u16.wrap ((BitVec.ofInt IntKind.u16.bits u ||| BitVec.ofInt IntKind.u16.bits (shlOp .u16 (1 : Int) (k : Int))).toNat : Int) := rfl
  have hor : u.toNat ||| 2 ^ k = u.toNat + 2 ^ k := by
    have d1 := Nat.div_add_mod u.toNat (2 ^ (k + 1))
    have d2 : u.toNat % 2 ^ (k + 1) = 2 ^ k - 1 := by rw [Nat.mod_pow_succ, b1, b2]; omega
    rw [d2] at d1
    have hp2 := Nat.two_pow_pos k
    have e2' : 2 ^ (k + 1) = 2 * 2 ^ k := by rw [Nat.pow_succ, Nat.mul_comm]
    apply Nat.eq_of_testBit_eq
    intro i
    rw [Nat.testBit_or]
    generalize u.toNat / 2 ^ (k + 1) = y at d1
    rw [show u.toNat + 2 ^ k = 2 ^ (k + 1) * y + (2 ^ (k + 1) - 1) from by omega, ← d1, Nat.testBit_two_pow_mul_add _ (by omega), Nat.testBit_two_pow_mul_add _ (by omega), Nat.testBit_two_pow]
    by_cases h : i < k + 1
    · simp only [h, if_true, Nat.testBit_two_pow_sub_one]
      by_cases h2 : i < k
      · simp [h2, h]
      · have : k = i := by omega
        simp [this]
    · simp only [h, if_false]
      have : ¬ k = i := by omega
      simp [this]
  rw [e0, e4, BitVec.toNat_or, ofNat16 u0 (by omega), ofNat16 (Int.natCast_nonneg _) (by omega), Int.toNat_natCast, hor, wu16 (by omega) (by omega)]
  have : ((2 ^ k : Nat) : Int) = 2 ^ k := by simp
  rw [← this]
  omega

theorem cnt_put {s : List Pg} {t c : Int} {p k : Nat} (hp : p < s.length) (h0 : 0 ≤ (s.getD p (0, 0, 0)).2.2) (hor : hasRoom s t c p ∨ isFree s p) :
    cntTo (put s t c p k) t (put s t c p k).length = cntTo s t s.length + (if isFree s p then 1 else 0) := by
  have hl : (put s t c p k).length = s.length := by simp [put]
  have e2 : ((2 ^ k : Nat) : Int) = 2 ^ k := by simp
  have hpos := Nat.two_pow_pos k
  have hself : ownd (put s t c p k) t p := by
    simp only [ownd, put, gset_self hp]
    exact ⟨by rw [← e2]; omega, trivial⟩
  have hoth : ∀ i, i ≠ p → (ownd (put s t c p k) t i ↔ ownd s t i) := fun i hi => by simp only [ownd, put, gset_ne (Ne.symm hi)]
  rw [hl]
  have h1 := sumTo_but (g := fun i => if i = p then 0 else if ownd s t i then (1 : Int) else 0) (h := fun i => if ownd s t i then (1 : Int) else 0) (t := p) s.length (fun i _ hne => by simp [hne]) (by simp)
  have h2 := sumTo_but (g := fun i => if i = p then 0 else if ownd s t i then (1 : Int) else 0) (h := fun i => if ownd (put s t c p k) t i then (1 : Int) else 0) (t := p) s.length (fun i _ hne => by simp [hne, hoth i hne]) (by simp)
  simp only [hp, if_true, hself] at h1 h2
  unfold cntTo
  rw [h1, h2]
  by_cases hf : isFree s p
  · have : ¬ ownd s t p := fun h => h.1 hf
    simp only [hf, this, if_true, if_false]; omega
  · have hr : hasRoom s t c p := hor.resolve_right hf
    have : ownd s t p := ⟨hr.1, hr.2.1⟩
    simp only [hf, this, if_true, if_false]; omega

theorem main (s : List Pg) (t c q : Int) (hw : wfS s) : F_law05_SlabOwns mx (s, t, c, q) = some true := by
  simp only [F_law05_SlabOwns, alive_ok, Option.bind_some, Bool.not_true, cond_false]
  by_cases h1 : (100 : Int) < (s.length : Int)
  · simp [h1]
  simp only [h1, decide_false, cond_false, check_slab hw, Option.bind_some, scheck]
  by_cases hs : okS s
  · have hlen := hs.2.1
    have hcb := cntTo_bd s t s.length
    simp only [hs, if_true, bne_self_eq_false, cond_false, look hs hw, Option.bind_some, cond_true]
    by_cases ha : okArg t c q
    · rcases take_ok hs hw ha with ⟨hT, e⟩ | ⟨p, k, hT, hk, e⟩
      · obtain ⟨no, hfree⟩ : (∀ i, i < s.length → ¬ hasRoom s t c i) ∧ (cntTo s t s.length < q → ∀ i, i < s.length → ¬ isFree s i) := by cases hT with | none a b => exact ⟨a, b⟩
        simp only [e, Option.bind_some, beq_self_eq_true, cond_true, roomTo_no _ no, Bool.not_false]
        by_cases hq : q ≤ cntTo s t s.length
        · simp [hq]
        · have := freeCnt_no _ (hfree (by omega))
          simp [hq, this]
      · obtain ⟨hp, hor, hk15, _, _, g1, g2⟩ := put_page hs hw ha hT hk
        obtain ⟨u0, u1⟩ := take_page hs hw ha.2.1 hp hor
        have hpl : p < (put s t c p k).length := by simpa [put] using hp
        have hlp : (put s t c p k).length = s.length := by simp [put]
        have d1 : decide ((p : Int) < 0) = false := by simp
        have d2 : decide ((s.length : Int) ≤ (p : Int)) = false := by simp; omega
        have d3 : decide ((k : Int) < 0) = false := by simp
        have d4 : decide ((15 : Int) < (k : Int)) = false := by simp; omega
        have hroom : F_law05_SlabOwns.s2046 mx s q (put s t c p k, (p : Int), (k : Int), 0) (freeCnt s s.length, roomTo s t c s.length, cntTo s t s.length) = some (.inr ()) := by
          simp only [F_law05_SlabOwns.s2046, check_slab g2, scheck, g1, if_true, Option.bind_some, bne_self_eq_false, cond_false, hlp, d1, d2, d3, d4]
          cases hT with
          | room _ _ h _ => simp only [roomTo_yes h _ hp, Bool.not_true, cond_false]
          | free _ _ no hq h _ =>
            have f1 := freeCnt_yes h _ hp
            have f2 : decide (q ≤ cntTo s t s.length) = false := by simp; omega
            have f3 : (freeCnt s s.length == 0) = false := by simp; omega
            simp only [roomTo_no _ no, Bool.not_false, cond_true, f2, f3, cond_false]
        have hloop := iter_count (f := F_law05_SlabOwns.l16378 mx s (put s t c p k, (p : Int), (k : Int), 0)) (fun i => (i : Int)) s.length (r := .inr ()) (lt_N0 (by omega))
          (fun i hi => by
            have hil : i < (put s t c p k).length := by rw [hlp]; exact hi
            simp only [F_law05_SlabOwns.l16378, lez, Bool.and_self, ltd hi, ltd hil, cond_true, Int.toNat_natCast, blt_t hil, ine]
            rw [inc64 (by omega)]
            by_cases e : i = p
            · subst e; simp
            · have : ¬ (i : Int) = (p : Int) := by omega
              rw [put, gset_ne (Ne.symm e)]
              simp only [this, decide_false, Bool.not_false, cond_true, beq_self_eq_true, Bool.and_self, Bool.not_true, cond_false])
          (by simp only [F_law05_SlabOwns.l16378, nltd, cond_false])
        have hloop' : iter mx (F_law05_SlabOwns.l16378 mx s (put s t c p k, (p : Int), (k : Int), 0)) 0 = some (.inr ()) := hloop
        have hwrap : IntKind.u64.wrap (k : Int) = (k : Int) := wu64 (by omega) (by omega)
        have hget : (put s t c p k).getD p (0, 0, 0) = (t, c, (s.getD p (0, 0, 0)).2.2 + 2 ^ k) := gset_self hp
        have hask : sasked (put s t c p k) t = 0 := by unfold sasked; rw [if_neg (by simpa using g1), if_pos ha.1]
        have hbit : ((shrOp .u16 (s.getD p (0, 0, 0)).2.2 (k : Int)).tmod (2 : Int) == 0) = true := by
          rw [shr16 u0 (by omega)]
          have := (least_bit hk).1
          revert this
          generalize (s.getD p (0, 0, 0)).2.2.toNat / 2 ^ k = y
          intro hy
          rw [Int.tmod_eq_emod_of_nonneg (by omega), ieq]
          simp only [decide_eq_true_eq]; omega
        have h9 : ((0 : Int) == 9) = false := rfl
        simp only [e, Option.bind_some, h9, bne_self_eq_false, cond_false, hroom, hloop', lez, Bool.and_self, ltd hp, ltd hpl, cond_true, Int.toNat_natCast, blt_t hpl, hget, Owned_ok g2, hask, if_true, beq_self_eq_true, hwrap, d3, hbit, or_least u0 (ch_le c) hk u1, cnt_put (c := c) (k := k) hp u0 hor]
        by_cases hf : isFree s p
        · have hf' : (s.getD p (0, 0, 0)).2.2 = 0 := hf
          have hq : cntTo s t s.length < q := by
            cases hT with
            | room _ _ h _ => exact absurd hf' h.1
            | free _ _ _ hq _ _ => exact hq
          have hd : decide (cntTo s t s.length + 1 ≤ q) = true := by simp; omega
          simp only [hf', beq_self_eq_true, cond_true, hf, if_true, hd]
        · have hr := hor.resolve_right hf
          have hf' : ((s.getD p (0, 0, 0)).2.2 == 0) = false := by rw [ieq]; simp only [decide_eq_false_iff_not]; exact hf
          simp only [hf', cond_false, hr.2.1, hr.2.2.1, beq_self_eq_true, cond_true, hf, if_false, Int.add_zero]
          by_cases hq : cntTo s t s.length ≤ q
          · simp [hq]
          · have : decide (q < cntTo s t s.length) = true := by simp; omega
            simp [hq, this]
    · have h9 : ((2 : Int) == 9) = false := rfl
      simp [take_arg hw hs ha]
  · simp [hs]
theorem pure (p) (hp : wfIns F_law05_SlabOwns.sig.pars p) : F_law05_SlabOwns mx p = some true := by
  obtain ⟨s, t, c, q⟩ := p
  refine main s t c q fun k hk => ?_
  have hs : Ty.wf (.sl (.pr (.int .i64) (.pr (.int .i64) (.int .u16)))) s := hp.1.1
  have := hs.1 _ (getD_lt (d := (0, 0, 0)) hk)
  exact wfu16 this.2.2
end Go.Proofs.YtmkcmchmmemcgaaDoor.slabOwns
