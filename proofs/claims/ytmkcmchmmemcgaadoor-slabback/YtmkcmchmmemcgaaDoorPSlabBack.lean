/- The plain law of SlabBack. -/
import Derived.Test.YtmkcmchmmemcgaaDoorK4
namespace Go.Proofs.YtmkcmchmmemcgaaDoor.slabBack
open Go.Abs
set_option maxRecDepth 100000

theorem s126_ok {s : List Pg} {t c q : Int} (hs : okS s) (hw : wfS s) : ∃ x, F_slab_Take mx (s, t, c, q) = some x ∧ F_law05_SlabBack.s126 mx s x = some (.inr ()) := by
  by_cases ha : okArg t c q
  · rcases take_ok hs hw ha with ⟨_, e⟩ | ⟨p, k, hT, hk, e⟩
    · exact ⟨_, e, by simp [F_law05_SlabBack.s126]⟩
    · refine ⟨_, e, ?_⟩
      obtain ⟨_, _, _, _, _, _, g2⟩ := put_page hs hw ha hT hk
      simp only [F_law05_SlabBack.s126, beq_self_eq_true, cond_true, Free_ok g2, back hs hw ha hT hk, Option.bind_some, bne_self_eq_false, cond_false, same_slab (show s.length ≤ 1000 by have := hs.2.1; omega), Bool.not_true]
  · exact ⟨_, take_arg hw hs ha, by simp [F_law05_SlabBack.s126]⟩
theorem main (s : List Pg) (t c q pg ck : Int) (hw : wfS s) : F_law05_SlabBack mx (s, t, c, q, pg, ck) = some true := by
  simp only [F_law05_SlabBack, alive_ok, Option.bind_some, Bool.not_true, cond_false]
  by_cases h1 : (100 : Int) < (s.length : Int)
  · simp [h1]
  simp only [h1, decide_false, cond_false, check_slab hw, Option.bind_some, scheck]
  by_cases hs : okS s
  · obtain ⟨x, e1, e2⟩ := s126_ok (t := t) (c := c) (q := q) hs hw
    have hlen := hs.2.1
    simp only [hs, if_true, bne_self_eq_false, cond_false, e1, e2, Option.bind_some, Free_ok hw, cond_true]
    unfold sfree
    rw [if_neg (by simpa using hs)]
    by_cases h2 : pg < 0 ∨ (s.length : Int) ≤ pg
    · rw [if_pos h2]; rfl
    rw [if_neg h2]
    by_cases h3 : ck < 0 ∨ 15 < ck
    · rw [if_pos h3]; rfl
    rw [if_neg h3]
    obtain ⟨p, rfl⟩ := Int.eq_ofNat_of_zero_le (show 0 ≤ pg by omega)
    obtain ⟨k, rfl⟩ := Int.eq_ofNat_of_zero_le (show 0 ≤ ck by omega)
    rw [Int.toNat_natCast, Int.toNat_natCast]
    by_cases hb : (s.getD p (0, 0, 0)).2.2.toNat / 2 ^ k % 2 = 1
    · rw [if_pos hb]
      have hp : p < s.length := by omega
      obtain ⟨f1, f2, f3⟩ := freed_ok (hs.2.2 p hp) (hw p hp) (k := k) (by omega) hb
      obtain ⟨g1, g2⟩ := set_okS (p := p) hs hw ⟨f1, f2⟩
      have hpl : p < (s.set p (freed (s.getD p (0, 0, 0)) k)).length := by simpa using hp
      have d1 : decide ((p : Int) < 0) = false := by simp
      have d2 : decide ((s.length : Int) ≤ (p : Int)) = false := by simp; omega
      have d3 : (((s.set p (freed (s.getD p (0, 0, 0)) k)).length : Int) != (s.length : Int)) = false := by simp
      have hpop := popc_less (hw p hp) (k := k) (by omega) hb
      have hpb := popc_bd (s.getD p (0, 0, 0)).2.2
      have hloop := iter_count (f := F_law05_SlabBack.l8186 mx s (p : Int) (s.set p (freed (s.getD p (0, 0, 0)) k), 0)) (fun i => (i : Int)) s.length (r := .inr ()) (lt_N0 (by omega))
        (fun i hi => by
          have hil : i < (s.set p (freed (s.getD p (0, 0, 0)) k)).length := by simpa using hi
          simp only [F_law05_SlabBack.l8186, lez, Bool.and_self, ltd hi, ltd hil, cond_true, Int.toNat_natCast, blt_t hil, ine]
          rw [inc64 (by omega)]
          by_cases e : i = p
          · subst e; simp
          · have : ¬ (i : Int) = (p : Int) := by omega
            rw [gset_ne (Ne.symm e)]
            simp only [this, decide_false, Bool.not_false, cond_true, beq_self_eq_true, Bool.and_self, Bool.not_true, cond_false])
        (by simp only [F_law05_SlabBack.l8186, nltd, cond_false])
      have hloop' : iter mx (F_law05_SlabBack.l8186 mx s (p : Int) (s.set p (freed (s.getD p (0, 0, 0)) k), 0)) 0 = some (.inr ()) := hloop
      have hu1 : F_law05_used mx ((freed (s.getD p (0, 0, 0)) k).1, (freed (s.getD p (0, 0, 0)) k).2.1, (freed (s.getD p (0, 0, 0)) k).2.2) = some (popc (s.getD p (0, 0, 0)).2.2 - 1) := by rw [used_ok f2, f3, hpop]
      have hu2 : F_law05_used mx ((s.getD p (0, 0, 0)).1, (s.getD p (0, 0, 0)).2.1, (s.getD p (0, 0, 0)).2.2) = some (popc (s.getD p (0, 0, 0)).2.2) := used_ok (hw p hp)
      simp only [bne_self_eq_false, cond_false, check_slab g2, scheck, g1, if_true, Option.bind_some, d1, d2, d3, lez, Bool.and_self, ltd hp, ltd hpl, cond_true, Int.toNat_natCast, blt_t hpl, gset_self hp, hu1, hu2]
      rw [w64 (by omega) (by omega)]
      simp only [bne_self_eq_false, cond_false, hloop', Option.bind_some]
      by_cases hz : 0 < popc (s.getD p (0, 0, 0)).2.2 - 1
      · simp only [hz, decide_true, cond_true]
      · have h0 : (freed (s.getD p (0, 0, 0)) k).2.2 = 0 := popc_zero f2 (by rw [f3, hpop]; omega)
        obtain ⟨z1, z2⟩ := (okP0 h0).1 f1
        simp only [hz, decide_false, cond_false, h0, z1, z2, beq_self_eq_true, Bool.and_self]
    · rw [if_neg hb]; rfl
  · simp [hs]
theorem pure (p) (hp : wfIns F_law05_SlabBack.sig.pars p) : F_law05_SlabBack mx p = some true := by
  obtain ⟨s, t, c, q, pg, ck⟩ := p
  refine main s t c q pg ck fun k hk => ?_
  have hs : Ty.wf (.sl (.pr (.int .i64) (.pr (.int .i64) (.int .u16)))) s := hp.1.1
  have := hs.1 _ (getD_lt (d := (0, 0, 0)) hk)
  exact wfu16 this.2.2
end Go.Proofs.YtmkcmchmmemcgaaDoor.slabBack
