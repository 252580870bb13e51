/- The plain law of QuotaFree. -/
import Derived.Test.YtnnfjeofdcjfoaaDoorK3
import Derived.Test.YtnnfjeofdcjfoaaDoorK5
namespace Go.Proofs.YtnnfjeofdcjfoaaDoor.quotaFree
open Go.Abs
set_option maxRecDepth 100000

theorem alive_ok : F_law08_alive mx () = some true := by kernel_rfl
theorem sumTo_more {g : Nat → Int} {n : Nat} : ∀ d, (∀ i, n ≤ i → i < n + d → g i = 0) → sumTo g (n + d) = sumTo g n
  | 0, _ => rfl
  | d + 1, h => by
    show sumTo g (n + d) + g (n + d) = _
    rw [sumTo_more d (fun i h1 h2 => h i h1 (by omega)), h (n + d) (by omega) (by omega)]; omega
theorem all_used {s : List Pg} (hs : okS s) (hno : ∀ i, i < s.length → ¬ isFree s i) : ∀ k, k ≤ s.length → cntTo s 0 k + cntTo s 1 k + cntTo s 2 k + cntTo s 3 k = k
  | 0, _ => rfl
  | k + 1, hk => by
    have ih := all_used hs hno k (by omega)
    have h0 : (s.getD k (0, 0, 0)).2.2 ≠ 0 := hno k (by omega)
    have h1 := ((okP1 h0).1 (hs.2.2 k (by omega))).1
    have ho : ∀ t : Int, ownd s t k ↔ (s.getD k (0, 0, 0)).1 = t := fun t => ⟨fun h => h.2, fun h => ⟨h0, h⟩⟩
    unfold cntTo at ih ⊢
    simp only [sumTo, ho]
    have : (s.getD k (0, 0, 0)).1 = 0 ∨ (s.getD k (0, 0, 0)).1 = 1 ∨ (s.getD k (0, 0, 0)).1 = 2 ∨ (s.getD k (0, 0, 0)).1 = 3 := by omega
    rcases this with h | h | h | h <;> rw [h] <;> simp <;> omega

def freeB (s : List Pg) : Nat → Bool
  | 0 => false
  | k + 1 => freeB s k || decide (isFree s k)
theorem freeB_yes {s : List Pg} : ∀ k, freeB s k = false → ∀ i, i < k → ¬ isFree s i
  | 0, _, i, hi => by omega
  | k + 1, h, i, hi => by
    simp only [freeB, Bool.or_eq_false_iff, decide_eq_false_iff_not] at h
    by_cases e : i = k
    · subst e; exact h.2
    · exact freeB_yes k h.1 i (by omega)
theorem free_loop {s : List Pg} (hl : s.length ≤ 100) : iter mx (F_law08_QuotaFree.l8186 mx s) (false, (0 : Int)) = some (freeB s s.length) := by
  refine iter_count (f := F_law08_QuotaFree.l8186 mx s) (fun k => (freeB s k, (k : Int))) s.length (lt_N0 (by omega)) (fun k hk => ?_) ?_
  · simp only [F_law08_QuotaFree.l8186, lez, Bool.and_self, ltd hk, cond_true, Int.toNat_natCast, ieq, freeB, isFree]
    rw [inc64 (by omega)]
    cases freeB s k <;> rfl
  · simp only [F_law08_QuotaFree.l8186, nltd, cond_false]

theorem main (s : List Pg) (q : List Int) (t c : Int) (hw : wfS s) : F_law08_QuotaFree mx (s, q, t, c) = some true := by
  simp only [F_law08_QuotaFree, alive_ok, Option.bind_some, Bool.not_true, cond_false]
  by_cases h1 : (100 : Int) < (s.length : Int)
  · simp [h1]
  by_cases h2 : (100 : Int) < (q.length : Int)
  · simp [h1, h2]
  simp only [h1, h2, decide_false, cond_false]
  by_cases hs : okS s
  · have hask : ∀ i : Nat, i < 4 → sasked s (i : Int) = 0 := fun i hi => by unfold sasked; rw [if_neg (by simpa using hs), if_pos (by omega)]
    have hlen := hs.2.1
    have hstep : ∀ i : Nat, i < 4 → F_law08_QuotaFree.l250 mx s q true (i : Int) = some (if cntTo s (i : Int) s.length ≤ q.getD i 0 then .next ((i + 1 : Nat) : Int) else .fin (.inl true)) := fun i hi => by
      have d1 : decide ((i : Int) < 4) = true := by simp; omega
      simp only [F_law08_QuotaFree.l250, d1, cond_true, Owned_ok hw, hask i hi, if_true, Option.bind_some, bne_self_eq_false, cond_false, lez, Bool.true_and, Int.toNat_natCast]
      rw [inc64 (by omega)]
      by_cases hi2 : i < q.length
      · have e1 : decide ((q.length : Int) ≤ (i : Int)) = false := by simp; omega
        simp only [e1, cond_false, ltd hi2, cond_true]
        by_cases h : cntTo s (i : Int) s.length ≤ q.getD i 0
        · have : decide (q.getD i 0 < cntTo s (i : Int) s.length) = false := by simp only [decide_eq_false_iff_not]; omega
          rw [this, if_pos h]; rfl
        · have : decide (q.getD i 0 < cntTo s (i : Int) s.length) = true := by simp only [decide_eq_true_eq]; omega
          rw [this, if_neg h]; rfl
      · have e1 : decide ((q.length : Int) ≤ (i : Int)) = true := by simp; omega
        have e2 : decide ((i : Int) < (q.length : Int)) = false := by simp; omega
        have e3 : q.getD i 0 = 0 := by rw [List.getD_eq_getElem?_getD, List.getElem?_eq_none (by omega)]; rfl
        simp only [e1, e2, cond_true, cond_false, e3]
        by_cases h : cntTo s (i : Int) s.length ≤ 0
        · have : decide ((0 : Int) < cntTo s (i : Int) s.length) = false := by simp only [decide_eq_false_iff_not]; omega
          rw [this, if_pos h]; rfl
        · have : decide ((0 : Int) < cntTo s (i : Int) s.length) = true := by simp only [decide_eq_true_eq]; omega
          rw [this, if_neg h]; rfl
    rcases iter_scan (f := F_law08_QuotaFree.l250 mx s q true) (fun k => (k : Int)) 4 (fun i => cntTo s (i : Int) s.length ≤ q.getD i 0) (lt_N0 (by omega)) (fun _ => .inl true) (.inr ())
      (fun k hk hp _ => by rw [hstep k hk, if_pos hp]) (fun k hk hp _ => by rw [hstep k hk, if_neg hp])
      (fun _ => by simp [F_law08_QuotaFree.l250]) with ⟨h, e⟩ | ⟨k, hk, hb, _, e⟩
    · have e' : iter mx (F_law08_QuotaFree.l250 mx s q true) 0 = some (.inr ()) := e
      simp only [e', Option.bind_some, Room_ok hw]
      by_cases hm : (smore s q t).2 = 0
      · by_cases hr : (smore s q t).1 < 0
        · obtain ⟨_, c2, c3, c4⟩ := smore_bd hm
          have hz := smore_zero hm
          obtain ⟨m1, m2, m3, m4⟩ := mayB_len c2
          obtain ⟨k, hk, rfl⟩ : ∃ k : Nat, k < q.length ∧ t = (k : Int) := ⟨t.toNat, by omega, by omega⟩
          rw [Int.toNat_natCast] at hz
          have hq := mayB_at c2 hk
          have hlt : cntTo s (k : Int) s.length < q.getD k 0 := by omega
          have hfree : freeB s s.length = true := by
            cases hf : freeB s s.length with
            | true => rfl
            | false =>
              exfalso
              have hall := all_used hs (freeB_yes _ hf) s.length (Nat.le_refl _)
              have htot : tot q = q.getD 0 0 + q.getD 1 0 + q.getD 2 0 + q.getD 3 0 := by
                have := sumTo_more (g := fun i => q.getD i 0) (n := q.length) (4 - q.length) (fun i h1 _ => by
                  show q.getD i 0 = 0
                  rw [List.getD_eq_getElem?_getD, List.getElem?_eq_none h1]; rfl)
                rw [show q.length + (4 - q.length) = 4 from by omega] at this
                unfold tot
                rw [← this]
                simp only [sumTo]; omega
              have a0 := h 0 (by omega)
              have a1 := h 1 (by omega)
              have a2 := h 2 (by omega)
              have a3 := h 3 (by omega)
              have hk4 : k = 0 ∨ k = 1 ∨ k = 2 ∨ k = 3 := by omega
              have b0 : cntTo s ((0 : Nat) : Int) s.length = cntTo s 0 s.length := rfl
              have b1 : cntTo s ((1 : Nat) : Int) s.length = cntTo s 1 s.length := rfl
              have b2 : cntTo s ((2 : Nat) : Int) s.length = cntTo s 2 s.length := rfl
              have b3 : cntTo s ((3 : Nat) : Int) s.length = cntTo s 3 s.length := rfl
              rw [b0] at a0; rw [b1] at a1; rw [b2] at a2; rw [b3] at a3
              rcases hk4 with rfl | rfl | rfl | rfl
              · rw [b0] at hlt; omega
              · rw [b1] at hlt; omega
              · rw [b2] at hlt; omega
              · rw [b3] at hlt; omega
          have d1 : decide ((k : Int) < 0) = false := by simp
          have d2 : decide ((q.length : Int) ≤ (k : Int)) = false := by simp; omega
          have htake : ∃ x, F_slab_Take mx (s, (k : Int), c, q.getD k 0) = some x ∧ (x.2.2.2 = 0 ∨ x.2.2.2 = 2) := by
            by_cases ha : okArg (k : Int) c (q.getD k 0)
            · rcases take_ok hs hw ha with ⟨hT, e⟩ | ⟨p, j, hT, hk, e⟩
              · exfalso
                have hno : cntTo s (k : Int) s.length < q.getD k 0 → ∀ i, i < s.length → ¬ isFree s i := by cases hT with | none a b => exact b
                have hno := hno hlt
                have : ∀ n, n ≤ s.length → freeB s n = false := by
                  intro n
                  induction n with
                  | zero => intro _; rfl
                  | succ n ih => intro hn; simp only [freeB, ih (by omega), hno n (by omega), decide_false, Bool.or_self]
                rw [this _ (Nat.le_refl _)] at hfree
                cases hfree
              · exact ⟨_, e, .inl rfl⟩
            · exact ⟨_, take_arg hw hs ha, .inr rfl⟩
          obtain ⟨x, hx1, hx2⟩ := htake
          simp only [F_law08_QuotaFree.s508, hm, hr, decide_true, Bool.and_self, bne_self_eq_false, cond_false, Bool.not_true, Option.bind_some, d1, d2, free_loop (show s.length ≤ 100 by omega), lez, ltd hk, cond_true, Int.toNat_natCast, hx1, hfree]
          rcases hx2 with hx | hx <;> simp [hx]
        · simp [F_law08_QuotaFree.s508, hm, hr]
      · have hm' : ((smore s q t).2 != 0) = true := by rw [ine]; simp [hm]
        have hm2 : ((smore s q t).2 == 0) = false := by rw [ieq]; simp [hm]
        simp only [F_law08_QuotaFree.s508, hm', hm2, cond_true, cond_false, Option.bind_some, hm, decide_false, Bool.false_and, Bool.not_false]
    · have e' : iter mx (F_law08_QuotaFree.l250 mx s q true) 0 = some (.inl true) := e
      simp only [e', Option.bind_some]
  · have hask : sasked s 0 = 8 := by unfold sasked; rw [if_pos hs]
    have hz : iter mx (F_law08_QuotaFree.l250 mx s q true) 0 = some (.inl true) := by
      have := iter_count (f := F_law08_QuotaFree.l250 mx s q true) (fun k => (k : Int)) 0 (r := .inl true) (lt_N0 (by omega)) (fun k hk => by omega) (by
        have h0 : F_slab_Owned mx (s, (0 : Int)) = some (0, 8) := by
          have := Owned_ok (t := 0) hw
          rw [hask] at this
          exact this
        simp [F_law08_QuotaFree.l250, h0])
      exact this
    simp only [hz, Option.bind_some]
theorem pure (p) (hp : wfIns F_law08_QuotaFree.sig.pars p) : F_law08_QuotaFree mx p = some true := by
  obtain ⟨s, q, t, c⟩ := p
  refine main s q t c fun k hk => ?_
  have hs : Ty.wf (.sl (.pr (.int .i64) (.pr (.int .i64) (.int .u16)))) s := hp.1.1
  have := hs.1 _ (getD_lt (d := (0, 0, 0)) hk)
  exact wfu16 this.2.2
end Go.Proofs.YtnnfjeofdcjfoaaDoor.quotaFree
