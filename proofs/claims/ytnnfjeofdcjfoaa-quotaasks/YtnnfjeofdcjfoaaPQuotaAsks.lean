/- The plain law of QuotaAsks. -/
import Derived.Test.YtnnfjeofdcjfoaaK3
namespace Go.Proofs.Ytnnfjeofdcjfoaa.quotaAsks
open Go.Abs
set_option maxRecDepth 100000

theorem fill {a : List Int} (hl : a.length ≤ 1000) : ∃ r, iter mx (F_law08_QuotaAsks.l65530 mx) ((0 : Int), a) = some r := by
  obtain ⟨r, h, _⟩ := iter_inv (f := F_law08_QuotaAsks.l65530 mx) (fun x => ∃ k : Nat, x.1 = (k : Int) ∧ k ≤ x.2.length ∧ x.2.length = a.length) (fun x => (a.length - x.1).toNat) (fun _ => True) ((0 : Int), a) ⟨0, rfl, Nat.zero_le _, rfl⟩ (lt_N0 (by simp; omega))
    (by
      rintro ⟨i, b⟩ ⟨k, rfl, h1, h2⟩
      simp only at h1 h2
      by_cases h : k < b.length
      · left
        refine ⟨(((k + 1 : Nat) : Int), b.set k 77), ?_, ⟨k + 1, rfl, ?_, ?_⟩, ?_⟩
        rotate_left
        · simp; omega
        · simp [h2]
        · simp only; omega
        · simp only [F_law08_QuotaAsks.l65530, lez, Bool.and_self, ltd h, cond_true, Int.toNat_natCast, blt_t h]
          rw [inc64 (by omega)]
      · right
        have : k = b.length := by omega
        subst this
        exact ⟨(), by simp only [F_law08_QuotaAsks.l65530, nltd, cond_false], trivial⟩)
  exact ⟨r, h⟩
theorem main (pool : Int) (q : List Int) (s : List Pg) (t n : Int) (hw : wfS s) : F_law08_QuotaAsks mx (pool, q, s, t, n) = some true := by
  simp only [F_law08_QuotaAsks]
  by_cases h1 : (100 : Int) < (q.length : Int)
  · simp [h1]
  by_cases h2 : (100 : Int) < (s.length : Int)
  · simp [h1, h2]
  have hb : Nat.ble q.length 4294967296 = true := Nat.ble_eq_true_of_le (by omega)
  have hql := qset_len (pool := pool) (t := t) (n := n) (q := q)
  obtain ⟨r, hr⟩ := fill (a := (qset pool q t n).1) (by omega)
  simp only [h1, h2, decide_false, cond_false, hb, cond_true, set_ok, set_ref, Sum_ok, Sum_ref, Room_ok hw, Room_ref hw, Over_ok hw, Over_ref hw, check_ok, check_ref, Option.bind_some, bne_self_eq_false, same_ref (a := (qset pool q t n).1) (by omega), same_ref (a := q) (by omega), Bool.not_true, beq_self_eq_true, hr, check_ref05 hw, ieq]
  by_cases h : okS s
  · simp [scheck, h]
  · simp [scheck, smore, h]
theorem pure (p) (hp : wfIns F_law08_QuotaAsks.sig.pars p) : F_law08_QuotaAsks mx p = some true := by
  obtain ⟨pool, q, s, t, n⟩ := p
  refine main pool q s t n fun k hk => ?_
  have hs : Ty.wf (.sl (.pr (.int .i64) (.pr (.int .i64) (.int .u16)))) s := hp.2.2.1.1
  have := hs.1 _ (getD_lt (d := (0, 0, 0)) hk)
  exact wfu16 this.2.2
end Go.Proofs.Ytnnfjeofdcjfoaa.quotaAsks
