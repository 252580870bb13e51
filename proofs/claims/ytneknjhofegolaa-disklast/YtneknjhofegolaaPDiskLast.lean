/- The plain law of DiskLast. -/
import Derived.Test.YtneknjhofegolaaKL
namespace Go.Proofs.Ytneknjhofegolaa.diskLast
open Go.Abs
set_option maxRecDepth 100000

theorem want_loop {d y : List Int} {l : List Put} {m : Int} {n : Nat} (hm : 0 ≤ m ∧ m ≤ (l.length : Int)) (hl : l.length ≤ 200) :
    iter mx (F_law02_DiskLast.l522826 mx l m ((n : Int), y)) (blockOf d n, (0 : Int)) = some ((l.take m.toNat).foldl (fun w p => if p.1 = (n : Int) then p.2 else w) (blockOf d n)) := by
  have hlen : (l.take m.toNat).length = m.toNat := by rw [List.length_take]; omega
  have hget : ∀ k, k < m.toNat → (l.take m.toNat).getD k (0, []) = l.getD k (0, []) := fun k hk => by
    rw [getD_some (by omega), getD_some (by omega), List.getElem_take]
  refine iter_fold (f := F_law02_DiskLast.l522826 mx l m ((n : Int), y)) (l.take m.toNat) (0, []) (fun w (p : Put) => if p.1 = (n : Int) then p.2 else w) (blockOf d n) (fun k s => (s, (k : Int))) (lt_N0 (by omega)) (fun k hk => ?_) ?_
  · rw [hlen] at hk
    have h1 : decide ((k : Int) < m) = true := by simp; omega
    rw [hget k hk]
    simp only [F_law02_DiskLast.l522826, h1, ltd (show k < l.length by omega), lez, Bool.and_self, cond_true, Int.toNat_natCast, ieq]
    rw [inc64 (by omega)]
    by_cases e : (l.getD k (0, [])).1 = (n : Int)
    · simp only [decide_eq_true e, cond_true, if_pos e]
    · simp only [decide_eq_false e, cond_false, if_neg e]
  · have h1 : decide (((l.take m.toNat).length : Int) < m) = false := by rw [hlen]; simp; omega
    simp only [F_law02_DiskLast.l522826, h1, cond_false]

theorem slice_block {d : List Int} {n : Nat} (h : n < d.length / 64) (hd : d.length ≤ 300000) :
    (decide ((0 : Int) ≤ IntKind.i64.wrap ((64 : Int) * (n : Int))) && decide (IntKind.i64.wrap ((64 : Int) * (n : Int)) ≤ IntKind.i64.wrap (IntKind.i64.wrap ((64 : Int) * (n : Int)) + 64)) && decide (IntKind.i64.wrap (IntKind.i64.wrap ((64 : Int) * (n : Int)) + 64) ≤ (d.length : Int)) && decide ((d.length : Int) ≤ (d.length : Int))) = true ∧
      (d.take (IntKind.i64.wrap (IntKind.i64.wrap ((64 : Int) * (n : Int)) + 64)).toNat).drop (IntKind.i64.wrap ((64 : Int) * (n : Int))).toNat = blockOf d n := by
  have hm := Nat.div_mul_le_self d.length 64
  rw [w64 (n := (64 : Int) * (n : Int)) (by omega) (by omega), w64 (n := (64 : Int) * (n : Int) + 64) (by omega) (by omega)]
  refine ⟨by simp; omega, ?_⟩
  rw [show ((64 : Int) * (n : Int) + 64).toNat = 64 * n + 64 by omega, show ((64 : Int) * (n : Int)).toNat = 64 * n by omega, List.drop_take, show 64 * n + 64 - 64 * n = 64 by omega]
  rfl

theorem main (d : List Int) (l : List Put) (m : Int) (hl : l.length ≤ 140737488351232) : F_law02_DiskLast mx (d, l, m) = some true := by
  simp only [F_law02_DiskLast, alive_ok, Option.bind_some, F_law02_large, Bool.not_true, cond_false]
  by_cases h1 : 300000 < d.length
  · have : decide ((300000 : Int) < (d.length : Int)) = true := by simp; omega
    rw [this]; rfl
  · have h1' : decide ((300000 : Int) < (d.length : Int)) = false := by simp; omega
    rw [h1', cond_false]
    by_cases h2 : 200 < l.length
    · have : decide ((200 : Int) < (l.length : Int)) = true := by simp; omega
      rw [this]; rfl
    · have h2' : decide ((200 : Int) < (l.length : Int)) = false := by simp; omega
      obtain ⟨b, hb, _⟩ := heavy_some l (by omega)
      rw [h2', cond_false, hb, Option.bind_some]
      cases b with
      | true => rfl
      | false =>
        rw [cond_false, do_disk (by omega), Option.bind_some]
        rcases doS_cases d l m with ⟨g1, g2⟩ | ⟨g1, g2, g3, g4, g5⟩
        · have : ((doS d l m).2 != 0) = true := by simpa using g1
          rw [this, g2]; rfl
        · rw [g5]
          have hw : (wr d (l.take m.toNat)).length = d.length := wr_len fun p hp => g2 p (List.mem_of_mem_take hp)
          have e1 : (((wr d (l.take m.toNat)).length : Int) != (d.length : Int)) = false := by rw [hw]; simp
          have e2 : decide (m < 0) = false := by simp; omega
          have e3 : decide ((l.length : Int) < m) = false := by simp; omega
          simp only [bne_self_eq_false, e1, e2, e3, cond_false]
          have hq : IntKind.i64.wrap ((d.length : Int).tdiv 64) = ((d.length / 64 : Nat) : Int) := by
            rw [show ((d.length : Int).tdiv (64 : Int)) = ((d.length / 64 : Nat) : Int) from cast_tdiv _ 64, w64 (by omega) (by omega)]
          have hit : iter mx (F_law02_DiskLast.l2042 mx d l m) ((0 : Int), wr d (l.take m.toNat)) = some (.inr ()) := by
            refine iter_count (f := F_law02_DiskLast.l2042 mx d l m) (fun k => ((k : Int), wr d (l.take m.toNat))) (d.length / 64) (lt_N0 (by omega)) (fun k hk => ?_) ?_
            · obtain ⟨s1, s2⟩ := slice_block (d := d) hk (by omega)
              obtain ⟨s3, s4⟩ := slice_block (d := wr d (l.take m.toNat)) (n := k) (by rw [hw]; exact hk) (by omega)
              have s5 := block_wr (n := k) (l := l.take m.toNat) (d := d) (fun p hp => g2 p (List.mem_of_mem_take hp)) hk
              have s6 := want_loop (d := d) (y := wr d (l.take m.toNat)) (l := l) (m := m) (n := k) ⟨g3, g4⟩ (by omega)
              simp only [F_law02_DiskLast.l2042, hq, ltd hk, cond_true]
              rw [s1, cond_true, s2, s6, Option.bind_some, s3, cond_true, s4, s5]
              simp only [beq_self_eq_true, Bool.not_true, cond_false]
              rw [inc64 (by omega)]
            · simp only [F_law02_DiskLast.l2042, hq, nltd, cond_false]
          rw [hit]; rfl
theorem pure (p : (List Int) × (List (Int × (List Int))) × Int) (h : wfIns F_law02_DiskLast.sig.pars p) : F_law02_DiskLast mx p = some true := by
  obtain ⟨d, l, m⟩ := p
  exact main d l m h.2.1.1.2
end Go.Proofs.Ytneknjhofegolaa.diskLast
