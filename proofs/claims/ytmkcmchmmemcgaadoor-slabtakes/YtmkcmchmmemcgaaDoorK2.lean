/- What the functions of slab compute, in plain words. -/
import Derived.Test.YtmkcmchmmemcgaaDoorF
import Derived.Test.YtmkcmchmmemcgaaDoorA3
namespace Go.Proofs.YtmkcmchmmemcgaaDoor
open Go.Abs
set_option maxRecDepth 100000
abbrev Pg := Int × Int × Int

def ch (c : Int) : Nat := if c = 0 then 16 else if c = 1 then 8 else if c = 2 then 4 else if c = 3 then 2 else 1
theorem ch_le (c : Int) : ch c ≤ 16 := by unfold ch; repeat' split
                                          all_goals omega
def okP (x : Pg) : Prop := if x.2.2 = 0 then x.1 = 0 ∧ x.2.1 = 0 else (0 ≤ x.1 ∧ x.1 < 4) ∧ (0 ≤ x.2.1 ∧ x.2.1 < 5) ∧ x.2.2.toNat < 2 ^ ch x.2.1
instance (x : Pg) : Decidable (okP x) := by unfold okP; infer_instance
def wfP (x : Pg) : Prop := 0 ≤ x.2.2 ∧ x.2.2 ≤ 65535

theorem chunks_ok {c : Int} (h : 0 ≤ c ∧ c < 5) : F_slab_chunks mx c = some (ch c : Int) ∧ F_slab_full mx c = some (2 ^ ch c - 1 : Int) ∧ F_ref05_Chunks mx c = some (ch c : Int) := by
  have : c = 0 ∨ c = 1 ∨ c = 2 ∨ c = 3 ∨ c = 4 := by omega
  rcases this with h | h | h | h | h <;> subst h <;> exact ⟨by kernel_rfl, by kernel_rfl, by kernel_rfl⟩

theorem okP0 {x : Pg} (h : x.2.2 = 0) : okP x ↔ x.1 = 0 ∧ x.2.1 = 0 := by unfold okP; rw [if_pos h]
theorem okP1 {x : Pg} (h : ¬ x.2.2 = 0) : okP x ↔ (0 ≤ x.1 ∧ x.1 < 4) ∧ (0 ≤ x.2.1 ∧ x.2.1 < 5) ∧ x.2.2.toNat < 2 ^ ch x.2.1 := by unfold okP; rw [if_neg h]
theorem may_slab {x : Pg} (hw : wfP x) : F_slab_may mx x = some (decide (okP x)) := by
  obtain ⟨t, c, u⟩ := x
  obtain ⟨hu0, hu1⟩ := hw
  simp only at hu0 hu1
  simp only [F_slab_may]
  by_cases h0 : u = 0
  · have := okP0 (x := (t, c, u)) h0
    simp [h0, ieq, okP]
  have h0' : (u == (0 : Int)) = false := by simpa using h0
  have hok := okP1 (x := (t, c, u)) h0
  simp only at hok
  rw [h0', cond_false]
  simp only [F_slab_tenanted, F_slab_classed, bif_and, Option.bind_some]
  by_cases ht : 0 ≤ t ∧ t < 4
  · have ht' : (decide (0 ≤ t) && decide (t < 4)) = true := by simp; omega
    rw [ht', cond_true]
    by_cases hc : 0 ≤ c ∧ c < 5
    · have hc' : (decide (0 ≤ c) && decide (c < 5)) = true := by simp; omega
      have hp : (0 : Int) ≤ 2 ^ ch c - 1 ∧ (2 : Int) ^ ch c - 1 ≤ 65535 ∧ ((2 : Int) ^ ch c - 1).toNat = 2 ^ ch c - 1 := by
        have : c = 0 ∨ c = 1 ∨ c = 2 ∨ c = 3 ∨ c = 4 := by omega
        rcases this with h | h | h | h | h <;> subst h <;> decide
      rw [hc', cond_true, (chunks_ok hc).2.1, Option.bind_some, clear16 hu0 hu1 hp.1 hp.2.1, hp.2.2]
      have := and_not_full u.toNat (ch c) (ch_le c) (by omega)
      congr 1
      rw [ieq]
      refine decide_eq_decide.2 ?_
      rw [hok, ← this]
      omega
    · have hc' : (decide (0 ≤ c) && decide (c < 5)) = false := by simp; omega
      have : ¬ okP (t, c, u) := fun h => hc (hok.1 h).2.1
      rw [hc', cond_false]
      simp [this]
  · have ht' : (decide (0 ≤ t) && decide (t < 4)) = false := by simp; omega
    have : ¬ okP (t, c, u) := fun h => ht (hok.1 h).1
    rw [ht', cond_false]
    simp [this]

def okS (s : List Pg) : Prop := 1 ≤ s.length ∧ s.length ≤ 16 ∧ ∀ k, k < s.length → okP (s.getD k (0, 0, 0))
instance (s : List Pg) : Decidable (okS s) := by unfold okS; infer_instance
def wfS (s : List Pg) : Prop := ∀ k, k < s.length → wfP (s.getD k (0, 0, 0))
def scheck (s : List Pg) : Int := if okS s then 0 else 8
theorem scheck_zero {s : List Pg} : scheck s = 0 ↔ okS s := by unfold scheck; split <;> simp [*]

theorem check_slab {s : List Pg} (hw : wfS s) : F_slab_Check mx s = some (scheck s) := by
  simp only [F_slab_Check, scheck]
  by_cases h1 : (s.length : Int) < 1
  · have : ¬ okS s := fun h => by have := h.1; omega
    simp [h1, this]
  by_cases h2 : (16 : Int) < (s.length : Int)
  · have : ¬ okS s := fun h => by have := h.2.1; omega
    simp [h1, h2, this]
  simp only [h1, h2, decide_false, cond_false, F_slices_ContainsFunc_Page, F_slices_IndexFunc_Page]
  have hc : ∀ k, k < s.length → F_slab_Check_c1 mx ((s.getD k (0, 0, 0)).1, (s.getD k (0, 0, 0)).2.1, (s.getD k (0, 0, 0)).2.2) = some (!decide (okP (s.getD k (0, 0, 0)))) := fun k hk => by
    simp only [F_slab_Check_c1]
    rw [show ((s.getD k (0, 0, 0)).1, (s.getD k (0, 0, 0)).2.1, (s.getD k (0, 0, 0)).2.2) = s.getD k (0, 0, 0) from rfl, may_slab (hw k hk)]; rfl
  rcases iter_scan (f := F_slices_IndexFunc_Page.l26 mx s (s.length : Int)) (fun k => (k : Int)) s.length (fun k => okP (s.getD k (0, 0, 0))) (lt_N0 (by omega)) (fun k => .inl (k : Int)) (.inr ())
    (fun k hk hp _ => by
      simp only [F_slices_IndexFunc_Page.l26, lez, Bool.and_self, ltd hk, cond_true, Int.toNat_natCast, hc k hk, hp, Option.bind_some, decide_true, Bool.not_true, cond_false]
      rw [inc64 (by omega)])
    (fun k hk hp _ => by
      simp only [F_slices_IndexFunc_Page.l26, lez, Bool.and_self, ltd hk, cond_true, Int.toNat_natCast, hc k hk, hp, Option.bind_some, decide_false, Bool.not_false])
    (fun _ => by simp only [F_slices_IndexFunc_Page.l26, nltd, cond_false]) with ⟨h, e⟩ | ⟨k, hk, hb, _, e⟩
  · have : okS s := ⟨by omega, by omega, h⟩
    rw [show ((0 : Int)) = ((0 : Nat) : Int) from rfl, e]
    simp [this]
  · have : ¬ okS s := fun h => hb (h.2.2 k hk)
    rw [show ((0 : Int)) = ((0 : Nat) : Int) from rfl, e]
    simp [this]

theorem high_bits (u m : Nat) (hu : u < 2 ^ 16) (h : ∀ k, m ≤ k → k < 16 → u / 2 ^ k % 2 ≠ 1) (hm : m ≤ 16) : u < 2 ^ m := by
  have key : ∀ d, d ≤ 16 - m → u < 2 ^ (16 - d) := by
    intro d
    induction d with
    | zero => intro _; exact hu
    | succ d ih =>
      intro hd
      have h1 := ih (by omega)
      have h2 := h (16 - (d + 1)) (by omega) (by omega)
      rw [show 16 - d = (16 - (d + 1)) + 1 from by omega, Nat.pow_succ] at h1
      have h3 : u / 2 ^ (16 - (d + 1)) < 2 := by rw [Nat.div_lt_iff_lt_mul (Nat.two_pow_pos _), Nat.mul_comm]; exact h1
      have h4 : u / 2 ^ (16 - (d + 1)) = 0 := by
        revert h2 h3
        generalize u / 2 ^ (16 - (d + 1)) = y
        omega
      exact (Nat.div_eq_zero_iff_lt (Nat.two_pow_pos _)).1 h4
  have := key (16 - m) (Nat.le_refl _)
  rwa [show 16 - (16 - m) = m from by omega] at this

theorem has_ok {x : Pg} {k : Nat} (hw : wfP x) (hk : k < 16) : F_ref05_Has mx (x.1, x.2.1, x.2.2, (k : Int)) = some (decide (x.2.2.toNat / 2 ^ k % 2 = 1)) := by
  have h1 : decide ((0 : Int) ≤ (k : Int)) = true := by simp
  have h2 : decide ((k : Int) < 16) = true := by simp; omega
  have h3 : IntKind.u64.wrap (k : Int) = (k : Int) := wu64 (by omega) (by omega)
  have h4 : decide ((k : Int) < 0) = false := by simp
  simp only [F_ref05_Has, h1, h2, h3, h4, cond_true, cond_false, shr16 hw.1 (Nat.le_of_lt hk)]
  generalize x.2.2.toNat / 2 ^ k = y
  congr 1
  rw [ieq, Int.tmod_eq_emod_of_nonneg (by omega)]
  exact decide_eq_decide.2 (by omega)

theorem check_ref05 {s : List Pg} (hw : wfS s) : F_ref05_Check mx s = some (scheck s) := by
  simp only [F_ref05_Check, scheck]
  by_cases h1 : (s.length : Int) < 1
  · have : ¬ okS s := fun h => by have := h.1; omega
    simp [h1, this]
  by_cases h2 : (16 : Int) < (s.length : Int)
  · have : ¬ okS s := fun h => by have := h.2.1; omega
    simp [h1, h2, this]
  simp only [h1, h2, decide_false, cond_false]
  have hstep : ∀ k, k < s.length → F_ref05_Check.l58 mx s (k : Int) = some (if okP (s.getD k (0, 0, 0)) then .next ((k + 1 : Nat) : Int) else .fin (.inl 8)) := by
    intro k hk
    have hwk := hw k hk
    simp only [F_ref05_Check.l58, lez, Bool.and_self, ltd hk, cond_true, Int.toNat_natCast]
    rw [inc64 (by omega)]
    generalize s.getD k (0, 0, 0) = x at hwk
    by_cases h0 : x.2.2 = 0
    · simp only [okP, h0, if_true, beq_self_eq_true, cond_true]
      by_cases ha : x.1 = 0
      · by_cases hb : x.2.1 = 0
        · simp [ha, hb]
        · simp [ha, hb, ine]
      · simp [ha, ine]
    have h0' : (x.2.2 == (0 : Int)) = false := by simpa using h0
    simp only [h0', cond_false, F_ref05_IsTenant, F_ref05_IsClass, bif_and, Option.bind_some]
    by_cases ht : 0 ≤ x.1 ∧ x.1 < 4
    · have ht' : (decide (0 ≤ x.1) && decide (x.1 < 4)) = true := by simp; omega
      rw [ht', Bool.not_true, cond_false]
      by_cases hc : 0 ≤ x.2.1 ∧ x.2.1 < 5
      · have hc' : (decide (0 ≤ x.2.1) && decide (x.2.1 < 5)) = true := by simp; omega
        rw [hc', Bool.not_true, cond_false, (chunks_ok hc).2.2, Option.bind_some]
        have hcl := ch_le x.2.1
        rcases iter_scan (f := F_ref05_Check.l29854 mx x) (fun j => ((ch x.2.1 + j : Nat) : Int)) (16 - ch x.2.1) (fun j => ¬ x.2.2.toNat / 2 ^ (ch x.2.1 + j) % 2 = 1) (lt_N0 (by omega)) (fun _ => .inl (8 : Int)) (.inr ())
          (fun j hj hp _ => by
            have hlt : decide (((ch x.2.1 + j : Nat) : Int) < 16) = true := by simp; omega
            simp only [F_ref05_Check.l29854, hlt, cond_true, has_ok hwk (k := ch x.2.1 + j) (by omega), Option.bind_some, hp, decide_false, cond_false]
            rw [inc64 (by omega)]; rfl)
          (fun j hj hp _ => by
            have hlt : decide (((ch x.2.1 + j : Nat) : Int) < 16) = true := by simp; omega
            have hp' := Decidable.not_not.1 hp
            simp only [F_ref05_Check.l29854, hlt, cond_true, has_ok hwk (k := ch x.2.1 + j) (by omega), Option.bind_some, hp', decide_true])
          (fun _ => by
            have hlt : decide (((ch x.2.1 + (16 - ch x.2.1) : Nat) : Int) < 16) = false := by simp; omega
            simp only [F_ref05_Check.l29854, hlt, cond_false]) with ⟨h, e⟩ | ⟨j, hj, hb, _, e⟩
        · rw [Nat.add_zero] at e
          rw [e]
          have : okP x := by
            unfold okP
            rw [if_neg h0]
            refine ⟨ht, hc, high_bits _ _ (by have := hwk.2; omega) (fun k h1 h2 => ?_) hcl⟩
            have := h (k - ch x.2.1) (by omega)
            rwa [show ch x.2.1 + (k - ch x.2.1) = k from by omega] at this
          simp [this]
        · rw [Nat.add_zero] at e
          rw [e]
          have : ¬ okP x := by
            unfold okP
            rw [if_neg h0]
            rintro ⟨_, _, h3⟩
            refine hb ?_
            have : x.2.2.toNat / 2 ^ (ch x.2.1 + j) = 0 := (Nat.div_eq_zero_iff_lt (Nat.two_pow_pos _)).2 (Nat.lt_of_lt_of_le h3 (Nat.pow_le_pow_right (by decide) (by omega)))
            omega
          simp [this]
      · have hc' : (decide (0 ≤ x.2.1) && decide (x.2.1 < 5)) = false := by simp; omega
        rw [hc', Bool.not_false, cond_true]
        simp [okP, h0, ht, hc]
    · have ht' : (decide (0 ≤ x.1) && decide (x.1 < 4)) = false := by simp; omega
      rw [ht', Bool.not_false, cond_true]
      simp [okP, h0, ht]
  rcases iter_scan (f := F_ref05_Check.l58 mx s) (fun k => (k : Int)) s.length (fun k => okP (s.getD k (0, 0, 0))) (lt_N0 (by omega)) (fun _ => .inl (8 : Int)) (.inr ())
    (fun k hk hp _ => by rw [hstep k hk, if_pos hp]) (fun k hk hp _ => by rw [hstep k hk, if_neg hp])
    (fun _ => by simp only [F_ref05_Check.l58, nltd, cond_false]) with ⟨h, e⟩ | ⟨k, hk, hb, _, e⟩
  · have : okS s := ⟨by omega, by omega, h⟩
    rw [show ((0 : Int)) = ((0 : Nat) : Int) from rfl, e]
    simp [this]
  · have : ¬ okS s := fun h => hb (h.2.2 k hk)
    rw [show ((0 : Int)) = ((0 : Nat) : Int) from rfl, e]
    simp [this]

/-! ## Pages that a tenant owns -/
def ownd (s : List Pg) (t : Int) (i : Nat) : Prop := (s.getD i (0, 0, 0)).2.2 ≠ 0 ∧ (s.getD i (0, 0, 0)).1 = t
instance (s : List Pg) (t : Int) (i : Nat) : Decidable (ownd s t i) := by unfold ownd; infer_instance
def cntTo (s : List Pg) (t : Int) (k : Nat) : Int := sumTo (fun i => if ownd s t i then 1 else 0) k
def lastTo (s : List Pg) (t : Int) : Nat → Int
  | 0 => -1
  | k + 1 => if ownd s t k then (k : Int) else lastTo s t k
theorem cntTo_bd (s : List Pg) (t : Int) (k : Nat) : 0 ≤ cntTo s t k ∧ cntTo s t k ≤ k := by
  have := sumTo_bd (g := fun i => if ownd s t i then (1 : Int) else 0) (c := 1) k (fun i _ => by split <;> omega)
  unfold cntTo; omega
theorem owned_ok {s : List Pg} {t : Int} (hl : s.length ≤ 100) : F_slab_owned mx (s, t) = some (cntTo s t s.length, lastTo s t s.length) := by
  have := iter_count (f := F_slab_owned.l58 mx s t (s.length : Int)) (fun k => (cntTo s t k, lastTo s t k, (k : Int))) s.length (r := (cntTo s t s.length, lastTo s t s.length)) (lt_N0 (by omega))
    (fun k hk => by
      have hb := cntTo_bd s t k
      have hs : F_slab_owned.s7474 mx t (s.getD k (0, 0, 0)) = some (decide (ownd s t k)) := by
        simp only [F_slab_owned.s7474, ownd]
        by_cases h0 : (s.getD k (0, 0, 0)).2.2 = 0
        · simp [-List.getD_eq_getElem?_getD, h0]
        · simp [-List.getD_eq_getElem?_getD, h0, ieq, ine]
      simp only [F_slab_owned.l58, lez, Bool.and_self, ltd hk, cond_true, Int.toNat_natCast, hs, Option.bind_some]
      rw [inc64 (by omega), w64 (by omega) (by omega)]
      by_cases ho : ownd s t k
      · simp [ho, cntTo, lastTo, sumTo]
      · simp [ho, cntTo, lastTo, sumTo])
    (by simp only [F_slab_owned.l58, nltd, cond_false])
  simp only [F_slab_owned]
  rw [show ((0 : Int), (-1 : Int), (0 : Int)) = (cntTo s t 0, lastTo s t 0, ((0 : Nat) : Int)) from rfl, this]
  rfl
theorem owned_ref {s : List Pg} {t : Int} (hl : s.length ≤ 100) : F_ref05_Owned mx (s, t) = some (cntTo s t s.length) := by
  have := iter_count (f := F_ref05_Owned.l58 mx s t) (fun k => (cntTo s t k, (k : Int))) s.length (r := cntTo s t s.length) (lt_N0 (by omega))
    (fun k hk => by
      have hb := cntTo_bd s t k
      simp only [F_ref05_Owned.l58, lez, Bool.and_self, ltd hk, cond_true, Int.toNat_natCast, F_ref05_IsFree, Option.bind_some]
      rw [inc64 (by omega), w64 (by omega) (by omega)]
      by_cases h0 : (s.getD k (0, 0, 0)).2.2 = 0
      · have ho : ¬ ownd s t k := fun h => h.1 h0
        simp [-List.getD_eq_getElem?_getD, h0, ho, cntTo, sumTo, ieq, ine]
      · by_cases ht : (s.getD k (0, 0, 0)).1 = t
        · have ho : ownd s t k := ⟨h0, ht⟩
          simp [-List.getD_eq_getElem?_getD, h0, ht, ho, cntTo, sumTo, ieq, ine]
        · have ho : ¬ ownd s t k := fun h => ht h.2
          simp [-List.getD_eq_getElem?_getD, h0, ht, ho, cntTo, sumTo, ieq, ine])
    (by simp only [F_ref05_Owned.l58, nltd, cond_false])
  simp only [F_ref05_Owned]
  rw [show ((0 : Int), (0 : Int)) = (cntTo s t 0, ((0 : Nat) : Int)) from rfl, this]
  rfl
def sasked (s : List Pg) (t : Int) : Int := if ¬ okS s then 8 else if 0 ≤ t ∧ t < 4 then 0 else 2
theorem asked_ok {s : List Pg} {t : Int} (hw : wfS s) : F_slab_asked mx (s, t) = some (sasked s t) := by
  simp only [F_slab_asked, check_slab hw, Option.bind_some, sasked, scheck, F_slab_tenanted, bif_and]
  by_cases h : okS s
  · by_cases ht : 0 ≤ t ∧ t < 4
    · have ht' : (decide (0 ≤ t) && decide (t < 4)) = true := by simp; omega
      simp [h, ht']; omega
    · have ht' : (decide (0 ≤ t) && decide (t < 4)) = false := by simp; omega
      rw [ht']
      simp [h, ht]
  · simp [h]
theorem Owned_ok {s : List Pg} {t : Int} (hw : wfS s) : F_slab_Owned mx (s, t) = some (if sasked s t = 0 then (cntTo s t s.length, 0) else (0, sasked s t)) := by
  simp only [F_slab_Owned, asked_ok hw, Option.bind_some]
  by_cases h : sasked s t = 0
  · have : s.length ≤ 100 := by
      unfold sasked at h
      split at h
      · omega
      · rename_i h1; have := (Decidable.not_not.1 h1).2.1; omega
    simp [h, owned_ok this]
  · simp [h, ine]
theorem Last_ok {s : List Pg} {t : Int} (hw : wfS s) : F_slab_Last mx (s, t) = some (if sasked s t = 0 then (lastTo s t s.length, 0) else (0, sasked s t)) := by
  simp only [F_slab_Last, asked_ok hw, Option.bind_some]
  by_cases h : sasked s t = 0
  · have : s.length ≤ 100 := by
      unfold sasked at h
      split at h
      · omega
      · rename_i h1; have := (Decidable.not_not.1 h1).2.1; omega
    simp [h, owned_ok this]
  · simp [h, ine]
end Go.Proofs.YtmkcmchmmemcgaaDoor
