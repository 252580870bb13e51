/- The plain law of DiskDoes. -/
import Derived.Test.YtneknjhofegolaaKW
namespace Go.Proofs.Ytneknjhofegolaa.diskDoes
open Go.Abs
set_option maxRecDepth 100000

theorem bump (f : Fu → Int × List Int → Option (Step (Int × List Int) Unit)) (hf : ∀ (k : Nat) (l : List Int), k < l.length → l.length ≤ 1000000000000000000 → f mx ((k : Int), l) = some (.next (((k + 1 : Nat) : Int), l.set k (IntKind.u8.wrap (l.getD k 0 + 1)))))
    (he : ∀ l : List Int, f mx ((l.length : Int), l) = some (.fin ())) (l : List Int) (hl : l.length ≤ 1000000000000000000) : iter mx (f mx) ((0 : Int), l) = some () := by
  obtain ⟨r, hr, _⟩ := iter_inv (f := f mx) (fun s => ∃ k : Nat, s.1 = (k : Int) ∧ k ≤ l.length ∧ s.2.length = l.length) (fun s => l.length - s.1.toNat) (fun _ => True) ((0 : Int), l) ⟨0, rfl, Nat.zero_le _, rfl⟩ (by
    simp only [Int.toNat_zero, Nat.sub_zero]; exact lt_N0 hl) (fun s ⟨k, e, hk, hs⟩ => by
    obtain ⟨i, s⟩ := s
    dsimp only at e hs
    subst e
    by_cases h1 : k < l.length
    · left
      exact ⟨_, hf k s (by omega) (by omega), ⟨k + 1, rfl, by omega, by simp [hs]⟩, by dsimp only; omega⟩
    · right
      have : k = s.length := by omega
      subst this
      exact ⟨_, he s, trivial⟩)
  exact hr

theorem main (d : List Int) (l : List Put) (m n : Int) (x : List Int) (hl : l.length ≤ 140737488351232) (hb : ∀ p ∈ l, p.2.length ≤ 140737488351232) : F_law02_DiskDoes mx (d, l, m, n, x) = some true := by
  simp only [F_law02_DiskDoes, Option.bind_some, F_law02_large]
  by_cases h1 : 300000 < d.length
  · have : decide ((300000 : Int) < (d.length : Int)) = true := by simp; omega
    rw [this]; rfl
  have h1' : decide ((300000 : Int) < (d.length : Int)) = false := by simp; omega
  rw [h1', cond_false]
  obtain ⟨b, hb', hb2⟩ := heavy_some l (by omega)
  rw [hb', Option.bind_some]
  cases b with
  | true => rfl
  | false =>
  have hl5 := hb2 rfl
  rw [cond_false]
  by_cases h2 : 10000 < x.length
  · have : decide ((10000 : Int) < (x.length : Int)) = true := by simp; omega
    rw [this]; rfl
  have h2' : decide ((10000 : Int) < (x.length : Int)) = false := by simp; omega
  rw [h2', cond_false, twin02 (by omega), Option.bind_some, puts02 (by omega) hb, Option.bind_some, ble_t (by omega), cond_true]
  rw [new_disk, new02, read_disk, read02]
  simp only [F_disk_Write, F_ref02_Write]
  rw [do_disk (by simp), do02 (by omega) (by simp), do_disk (by omega), do02 (by omega) (by omega), left_disk (by omega) hb, left02 (by omega) hb, many_disk, check02]
  simp only [Option.bind_some]
  generalize hr : (if okD d then (if 0 ≤ n ∧ n < ((d.length / 64 : Nat) : Int) then (blockOf d n.toNat, (0 : Int)) else ([], 2)) else ([], 20)) = rd
  have hrl : rd.1.length ≤ 1000000 := by
    rw [← hr]
    split
    · split
      · simp only [blockOf, List.length_take]; omega
      · simp
    · simp
  have hdl : (doS d l m).1.length ≤ 1000000 := by
    rcases doS_cases d l m with ⟨_, e⟩ | ⟨g1, g2, _, _, e⟩
    · rw [e]; simp
    · rw [e]
      show (wr d (l.take m.toNat)).length ≤ 1000000
      rw [wr_len fun p hp => g2 p (List.mem_of_mem_take hp)]; omega
  have hll : (leftS l m).1.length ≤ 5000 := by
    unfold leftS
    split
    · simp; omega
    · simp
  have hs : F_law02_DiskDoes.s524286 mx d d (if 1 ≤ n ∧ n ≤ 4096 then (List.replicate (n * 64).toNat 0, 0) else ([], 20)) (if 1 ≤ n ∧ n ≤ 4096 then (List.replicate (n * 64).toNat 0, 0) else ([], 20)) rd rd (doS d [(n, x)] 1) (doS d [(n, x)] 1) (doS d l m) (doS d l m) (leftS l m) (leftS l m)
      (if okD d then (((d.length / 64 : Nat) : Int), 0) else (0, 20)) (if okD d then 0 else 20) = some (.inr ()) := by
    simp only [F_law02_DiskDoes.s524286, beq_self_eq_true, bne_self_eq_false, Bool.not_true, cond_false, same02 (l := (leftS l m).1) (by omega), Option.bind_some, check_disk, F_disk_Same, F_bytes_Equal]
    by_cases hd : okD d
    · simp only [if_pos hd, many02 (d := d) (by omega), beq_self_eq_true, bne_self_eq_false, cond_false, cond_true, Option.bind_some, Bool.not_true]
    · simp only [if_neg hd, beq_self_eq_true, bne_self_eq_false, cond_false, Bool.not_true]
      rfl
  rw [hs, Option.bind_some]
  dsimp only
  have e1 : iter mx (F_law02_DiskDoes.l4194298 mx) ((0 : Int), rd.1) = some () := bump F_law02_DiskDoes.l4194298 (fun k l hk hl => by
    simp only [F_law02_DiskDoes.l4194298, ltd hk, lez, Bool.and_self, cond_true, Int.toNat_natCast, blt_t hk]
    rw [inc64 (by omega)]) (fun l => by simp only [F_law02_DiskDoes.l4194298, nltd, cond_false]) _ (by omega)
  have e2 : iter mx (F_law02_DiskDoes.l8388602 mx) ((0 : Int), (doS d l m).1) = some () := bump F_law02_DiskDoes.l8388602 (fun k l hk hl => by
    simp only [F_law02_DiskDoes.l8388602, ltd hk, lez, Bool.and_self, cond_true, Int.toNat_natCast, blt_t hk]
    rw [inc64 (by omega)]) (fun l => by simp only [F_law02_DiskDoes.l8388602, nltd, cond_false]) _ (by omega)
  have hlb : ∀ p ∈ (leftS l m).1, p.2.length ≤ 140737488351232 := by
    unfold leftS
    split
    · exact fun p hp => hb p (List.mem_of_mem_drop hp)
    · intro p hp; cases hp
  have e4 : ∀ k, k < (leftS l m).1.length → iter mx (F_law02_DiskDoes.l1073741458 mx (leftS l m) (k : Int)) (0 : Int) = some () := fun k hk => by
    have hbk : ((leftS l m).1.getD k (0, [])).2.length ≤ 140737488351232 := hlb _ (getD_lt hk)
    have := iter_fold (f := F_law02_DiskDoes.l1073741458 mx (leftS l m) (k : Int)) ((leftS l m).1.getD k (0, [])).2 0 (fun (s : Unit) _ => s) () (fun k _ => (k : Int)) (r := ()) (lt_N0 (by omega)) (fun j hj => by
        simp only [F_law02_DiskDoes.l1073741458, ltd hk, lez, Bool.and_self, cond_true, Int.toNat_natCast, blt_t hk, ltd hj]
        rw [inc64 (by omega)])
        (by simp only [F_law02_DiskDoes.l1073741458, ltd hk, lez, Bool.and_self, cond_true, Int.toNat_natCast, blt_t hk, nltd, cond_false])
    exact this
  have e3 : iter mx (F_law02_DiskDoes.l16777210 mx (leftS l m)) (0 : Int) = some () := by
    have := iter_fold (f := F_law02_DiskDoes.l16777210 mx (leftS l m)) (leftS l m).1 (0, []) (fun (s : Unit) _ => s) () (fun k _ => (k : Int)) (r := ()) (lt_N0 (by omega)) (fun j hj => by
        simp only [F_law02_DiskDoes.l16777210, ltd hj, cond_true, e4 j hj, Option.bind_some]
        rw [inc64 (by omega)])
        (by simp only [F_law02_DiskDoes.l16777210, nltd, cond_false])
    exact this
  rw [e1, Option.bind_some, e2, Option.bind_some, e3, Option.bind_some]
  simp only [beq_self_eq_true, cond_true, same02 (l := l) (by omega), Option.bind_some]
theorem pure (p : (List Int) × (List (Int × (List Int))) × Int × Int × (List Int)) (h : wfIns F_law02_DiskDoes.sig.pars p) : F_law02_DiskDoes mx p = some true := by
  obtain ⟨d, l, m, n, x⟩ := p
  exact main d l m n x h.2.1.1.2 (fun p hp => (h.2.1.1.1 p hp).2.2)
end Go.Proofs.Ytneknjhofegolaa.diskDoes
