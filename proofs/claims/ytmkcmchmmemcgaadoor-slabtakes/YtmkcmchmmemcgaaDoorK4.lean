/- Chunks that are counted, slabs that are held against each other, in plain words. -/
import Derived.Test.YtmkcmchmmemcgaaDoorK3
namespace Go.Proofs.YtmkcmchmmemcgaaDoor
open Go.Abs
set_option maxRecDepth 100000

def popc (u : Int) : Int := sumTo (fun i => ((u.toNat / 2 ^ i % 2 : Nat) : Int)) 16
theorem bit_bd (u i : Nat) : (0 : Int) ≤ ((u / 2 ^ i % 2 : Nat) : Int) ∧ ((u / 2 ^ i % 2 : Nat) : Int) ≤ 1 := by
  generalize u / 2 ^ i = y
  omega
theorem popc_bd (u : Int) : 0 ≤ popc u ∧ popc u ≤ 16 := by
  have := sumTo_bd (g := fun i => ((u.toNat / 2 ^ i % 2 : Nat) : Int)) (c := 1) 16 (fun i _ => bit_bd _ i)
  unfold popc; omega
theorem used_ok {t c u : Int} (h : 0 ≤ u ∧ u ≤ 65535) : F_law05_used mx (t, c, u) = some (popc u) := by
  have := iter_count (f := F_law05_used.l58 mx u) (fun k => (sumTo (fun i => ((u.toNat / 2 ^ i % 2 : Nat) : Int)) k, (k : Int))) 16 (r := popc u) (lt_N0 (by omega))
    (fun k hk => by
      have h2 : decide ((k : Int) < 16) = true := by simp; omega
      have h3 : IntKind.u64.wrap (k : Int) = (k : Int) := wu64 (by omega) (by omega)
      have h4 : decide ((k : Int) < 0) = false := by simp
      have hb := sumTo_bd (g := fun i => ((u.toNat / 2 ^ i % 2 : Nat) : Int)) (c := 1) k (fun i _ => bit_bd _ i)
      have h5 : IntKind.i64.wrap ((shrOp .u16 u (k : Int)).tmod (2 : Int)) = ((u.toNat / 2 ^ k % 2 : Nat) : Int) := by
        rw [shr16 h.1 (by omega)]
        generalize u.toNat / 2 ^ k = y
        rw [Int.tmod_eq_emod_of_nonneg (by omega), w64 (by omega) (by omega)]
        omega
      have hb2 := bit_bd u.toNat k
      simp only [F_law05_used.l58, h2, h3, h4, cond_true, cond_false, h5, sumTo]
      rw [inc64 (by omega), w64 (by omega) (by omega)])
    (by simp only [F_law05_used.l58, popc]; rfl)
  simp only [F_law05_used]
  rw [show ((0 : Int), (0 : Int)) = (0, ((0 : Nat) : Int)) from rfl]
  simp only [sumTo] at this
  rw [this]; rfl

theorem bit_eq (u i : Nat) : u / 2 ^ i % 2 = (u.testBit i).toNat := (Nat.toNat_testBit u i).symm
/-- A bit less. -/
theorem popc_less {u : Int} {k : Nat} (h : 0 ≤ u ∧ u ≤ 65535) (hk : k ≤ 15) (hb : u.toNat / 2 ^ k % 2 = 1) : popc (u - 2 ^ k) = popc u - 1 := by
  have hc := clear_bit u.toNat k hk (by omega) hb
  have e2 : ((2 ^ k : Nat) : Int) = 2 ^ k := by simp
  have hnn : (0 : Int) ≤ ((2 ^ k : Nat) : Int) := Int.natCast_nonneg _
  have e : (u - 2 ^ k).toNat = (u.toNat &&& (65535 - 2 ^ k)) := by rw [← e2]; omega
  have hm : ∀ i, i < 16 → (65535 - 2 ^ k).testBit i = !decide (i = k) := by
    have : k = 0 ∨ k = 1 ∨ k = 2 ∨ k = 3 ∨ k = 4 ∨ k = 5 ∨ k = 6 ∨ k = 7 ∨ k = 8 ∨ k = 9 ∨ k = 10 ∨ k = 11 ∨ k = 12 ∨ k = 13 ∨ k = 14 ∨ k = 15 := by omega
    rcases this with h | h | h | h | h | h | h | h | h | h | h | h | h | h | h | h <;> subst h <;> decide
  have hg : ∀ i, i < 16 → (u - 2 ^ k).toNat / 2 ^ i % 2 = if i = k then 0 else u.toNat / 2 ^ i % 2 := fun i hi => by
    rw [e, bit_eq, Nat.testBit_and, hm i hi, bit_eq]
    by_cases h : i = k <;> simp [h]
  have h1 := sumTo_but (g := fun i => if i = k then 0 else ((u.toNat / 2 ^ i % 2 : Nat) : Int)) (h := fun i => ((u.toNat / 2 ^ i % 2 : Nat) : Int)) (t := k) 16 (fun i _ hne => by simp [hne]) (by simp)
  have h2 : popc (u - 2 ^ k) = sumTo (fun i => if i = k then 0 else ((u.toNat / 2 ^ i % 2 : Nat) : Int)) 16 := by
    unfold popc
    refine sumTo_congr 16 fun i hi => ?_
    rw [hg i hi]
    by_cases h : i = k <;> simp [h]
  rw [if_pos (by omega), hb] at h1
  unfold popc at h2 ⊢
  omega
theorem popc_zero {u : Int} (h : 0 ≤ u ∧ u ≤ 65535) (hz : popc u ≤ 0) : u = 0 := by
  have hall : ∀ i, i < 16 → u.toNat / 2 ^ i % 2 ≠ 1 := fun i hi hb => by
    have := popc_less h (k := i) (by omega) hb
    have := popc_bd (u - 2 ^ i)
    omega
  have := high_bits u.toNat 0 (by omega) (fun k _ hk => hall k hk) (by omega)
  omega
theorem same_slab {s : List Pg} (hl : s.length ≤ 1000) : F_ref05_Same mx (s, s) = some true := by
  have := iter_count (f := F_ref05_Same.l58 mx s s) (fun k => (k : Int)) s.length (r := .inr ()) (lt_N0 (by omega))
    (fun k hk => by
      simp only [F_ref05_Same.l58, lez, Bool.and_self, ltd hk, cond_true, beq_self_eq_true, Bool.not_true, cond_false]
      rw [inc64 (by omega)])
    (by simp only [F_ref05_Same.l58, nltd, cond_false])
  simp only [F_ref05_Same, bne_self_eq_false, cond_false]
  rw [show ((0 : Int)) = ((0 : Nat) : Int) from rfl, this]
  rfl

/-- What giving back answers. -/
def sfree (s : List Pg) (p k : Int) : List Pg × Int :=
  if ¬ okS s then ([], 8) else if p < 0 ∨ (s.length : Int) ≤ p then ([], 2) else if k < 0 ∨ 15 < k then ([], 6) else
  if (s.getD p.toNat (0, 0, 0)).2.2.toNat / 2 ^ k.toNat % 2 = 1 then (s.set p.toNat (freed (s.getD p.toNat (0, 0, 0)) k.toNat), 0) else ([], 6)
theorem Free_ok {s : List Pg} {p k : Int} (hw : wfS s) : F_slab_Free mx (s, p, k) = some (sfree s p k) := by
  unfold sfree
  by_cases hs : okS s
  · rw [if_neg (by simpa using hs)]
    by_cases h1 : p < 0
    · rw [if_pos (.inl h1)]; simp [F_slab_Free, check_slab hw, scheck, hs, h1]
    by_cases h2 : (s.length : Int) ≤ p
    · rw [if_pos (.inr h2)]; simp [F_slab_Free, check_slab hw, scheck, hs, h1, h2]
    rw [if_neg (by omega)]
    by_cases h3 : k < 0
    · rw [if_pos (.inl h3)]; simp [F_slab_Free, check_slab hw, scheck, hs, h1, h2, h3]
    by_cases h4 : 15 < k
    · rw [if_pos (.inr h4)]; simp [F_slab_Free, check_slab hw, scheck, hs, h1, h2, h3, h4]
    rw [if_neg (by omega)]
    obtain ⟨p, rfl⟩ := Int.eq_ofNat_of_zero_le (show 0 ≤ p by omega)
    obtain ⟨k, rfl⟩ := Int.eq_ofNat_of_zero_le (show 0 ≤ k by omega)
    exact free_ok hs hw (by omega) (by omega)
  · rw [if_pos hs]
    simp [F_slab_Free, check_slab hw, scheck, hs]
theorem freed_ok {x : Pg} {k : Nat} (ho : okP x) (hw : wfP x) (hk : k ≤ 15) (hb : x.2.2.toNat / 2 ^ k % 2 = 1) : okP (freed x k) ∧ wfP (freed x k) ∧ (freed x k).2.2 = x.2.2 - 2 ^ k := by
  have e2 : ((2 ^ k : Nat) : Int) = 2 ^ k := by simp
  have hnn : (0 : Int) ≤ ((2 ^ k : Nat) : Int) := Int.natCast_nonneg _
  have hge : 2 ^ k ≤ x.2.2.toNat := by
    rcases Nat.lt_or_ge x.2.2.toNat (2 ^ k) with g | g
    · rw [Nat.div_eq_of_lt g] at hb; cases hb
    · exact g
  have h1 := hw.1
  have h2 := hw.2
  unfold freed
  by_cases e : x.2.2.toNat = 2 ^ k
  · rw [if_pos e]
    refine ⟨by decide, by simp [wfP], ?_⟩
    rw [← e2]; simp only; omega
  · rw [if_neg e]
    have hne : x.2.2 ≠ 0 := fun h => by rw [h] at hge; have := Nat.two_pow_pos k; simp at hge
    have hne2 : x.2.2 - 2 ^ k ≠ 0 := by rw [← e2]; omega
    refine ⟨?_, ?_, rfl⟩
    · rw [okP1 hne2]
      have := (okP1 hne).1 ho
      refine ⟨this.1, this.2.1, ?_⟩
      have : (x.2.2 - 2 ^ k).toNat ≤ x.2.2.toNat := by rw [← e2]; omega
      simp only
      omega
    · simp only [wfP]; rw [← e2]; omega

/-- What is taken may be. -/
theorem put_page {s : List Pg} {t c q : Int} {p k : Nat} (hs : okS s) (hw : wfS s) (ha : okArg t c q) (hT : Taken s t c q (some p)) (hk : least (s.getD p (0, 0, 0)).2.2 k) :
    p < s.length ∧ (hasRoom s t c p ∨ isFree s p) ∧ k ≤ 15 ∧ okP (t, c, (s.getD p (0, 0, 0)).2.2 + 2 ^ k) ∧ wfP (t, c, (s.getD p (0, 0, 0)).2.2 + 2 ^ k) ∧ okS (put s t c p k) ∧ wfS (put s t c p k) := by
  have h1 : p < s.length ∧ (hasRoom s t c p ∨ isFree s p) := by
    cases hT with
    | room _ hp h _ => exact ⟨hp, .inl h⟩
    | free _ hp _ _ h _ => exact ⟨hp, .inr h⟩
  obtain ⟨u0, u1⟩ := take_page hs hw ha.2.1 h1.1 h1.2
  have hcl := ch_le c
  have hpw := Nat.pow_le_pow_right (n := 2) (by decide) hcl
  have hlt := (least_lt hk hcl u1).2
  have e2 : ((2 ^ k : Nat) : Int) = 2 ^ k := by simp
  have hnn : (0 : Int) ≤ ((2 ^ k : Nat) : Int) := Int.natCast_nonneg _
  have hp2 := Nat.two_pow_pos k
  have hpg : okP (t, c, (s.getD p (0, 0, 0)).2.2 + 2 ^ k) ∧ wfP (t, c, (s.getD p (0, 0, 0)).2.2 + 2 ^ k) := by
    constructor
    · rw [okP1 (by simp only; rw [← e2]; omega)]
      refine ⟨ha.1, ha.2.1, ?_⟩
      simp only
      rw [← e2]; omega
    · simp only [wfP]; rw [← e2]; omega
  obtain ⟨a1, a2⟩ := set_okS (p := p) hs hw hpg
  exact ⟨h1.1, h1.2, by have := hk.1; omega, hpg.1, hpg.2, a1, a2⟩
theorem put_bit {u : Int} {k : Nat} (h0 : 0 ≤ u) (h : least u k) : (u + 2 ^ k).toNat / 2 ^ k % 2 = 1 := by
  have hb := (least_bit h).1
  have e2 : ((2 ^ k : Nat) : Int) = 2 ^ k := by simp
  have hnn : (0 : Int) ≤ ((2 ^ k : Nat) : Int) := Int.natCast_nonneg _
  have e : (u + 2 ^ k).toNat = u.toNat + 2 ^ k := by rw [← e2]; omega
  rw [e, Nat.add_div_right _ (Nat.two_pow_pos k)]
  revert hb
  generalize u.toNat / 2 ^ k = y
  omega
/-- What was taken, given back. -/
theorem back {s : List Pg} {t c q : Int} {p k : Nat} (hs : okS s) (hw : wfS s) (ha : okArg t c q) (hT : Taken s t c q (some p)) (hk : least (s.getD p (0, 0, 0)).2.2 k) : sfree (put s t c p k) p k = (s, 0) := by
  obtain ⟨hp, hor, hk15, _, _, g1, g2⟩ := put_page hs hw ha hT hk
  have u0 := (hw p hp).1
  have e2 : ((2 ^ k : Nat) : Int) = 2 ^ k := by simp
  have hnn : (0 : Int) ≤ ((2 ^ k : Nat) : Int) := Int.natCast_nonneg _
  have hp2 := Nat.two_pow_pos k
  have hget : (put s t c p k).getD p (0, 0, 0) = (t, c, (s.getD p (0, 0, 0)).2.2 + 2 ^ k) := gset_self hp
  have hlen : (put s t c p k).length = s.length := by simp [put]
  unfold sfree
  rw [if_neg (by simpa using g1), if_neg (by rw [hlen]; omega), if_neg (by omega), Int.toNat_natCast, Int.toNat_natCast, hget, if_pos (put_bit u0 hk)]
  have hfr : freed (t, c, (s.getD p (0, 0, 0)).2.2 + 2 ^ k) k = s.getD p (0, 0, 0) := by
    unfold freed
    by_cases e : ((s.getD p (0, 0, 0)).2.2 + 2 ^ k).toNat = 2 ^ k
    · rw [if_pos e]
      have hz : (s.getD p (0, 0, 0)).2.2 = 0 := by rw [← e2] at e; omega
      obtain ⟨z1, z2⟩ := (okP0 hz).1 (hs.2.2 p hp)
      exact (Prod.ext z1 (Prod.ext z2 hz)).symm
    · rw [if_neg e]
      rcases hor with h | h
      · rw [← h.2.1, ← h.2.2.1, show (s.getD p (0, 0, 0)).2.2 + 2 ^ k - 2 ^ k = (s.getD p (0, 0, 0)).2.2 from by omega]
      · exfalso
        have : (s.getD p (0, 0, 0)).2.2 = 0 := h
        rw [this, ← e2] at e
        omega
  rw [hfr, put, List.set_set, getD_some hp, List.set_getElem_self]
theorem alive_ok : F_law05_alive mx () = some true := by kernel_rfl
end Go.Proofs.YtmkcmchmmemcgaaDoor
