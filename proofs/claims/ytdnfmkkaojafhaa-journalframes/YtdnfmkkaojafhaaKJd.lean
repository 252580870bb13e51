/- Blocks that are handed in. -/
import Derived.Test.YtdnfmkkaojafhaaKJc
namespace Go.Proofs.Ytdnfmkkaojafhaa
open Go.Abs
set_option maxRecDepth 100000

theorem Open_ok {g n p : Int} (hg : 0 ≤ g) (hn : 0 ≤ n) (hp : 0 ≤ p) {l : List Blk} (hl : okBlks l) (hlen : l.length ≤ 4096) :
    F_journal_Open mx (g, n, p, l) = some (match opn g n p l with | some (r, s, k) => (r, s, (k : Int), 0) | none => ([], 0, 0, 6)) := by
  have h := iter_count (f := F_journal_Open.l58 mx l (l.length : Int)) (fun i => (i : Int)) l.length (r := .inr ()) (lt_N0 (by omega)) (fun i hi => by
    have hb := hl _ (getD_lt (d := []) hi)
    have e : (((l.getD i []).length : Int) != 64) = false := by rw [hb.1]; rfl
    simp only [F_journal_Open.l58, ltd hi, lez, Bool.and_self, cond_true, Int.toNat_natCast, e, cond_false]
    rw [inc64 (by omega)]) (by simp only [F_journal_Open.l58, nltd, cond_false])
  have h : iter mx (F_journal_Open.l58 mx l (l.length : Int)) (0 : Int) = _ := h
  simp only [F_journal_Open, decide_eq_false (show ¬ (4096 : Int) < (l.length : Int) by omega), cond_false, h, Option.bind_some, open_ok hg hn hp hl (by omega)]
  cases opn g n p l with
  | none => rfl
  | some x => rfl
theorem same_ok {a b : List (List Int)} (ha : a.length ≤ 1000000000000000000) : F_ref22_Same mx (a, b) = some (decide (a = b)) := by
  simp only [F_ref22_Same, bne_int]
  by_cases hlen : a.length = b.length
  · rw [decide_eq_true (show (a.length : Int) = (b.length : Int) by omega), Bool.not_true, cond_false]
    rcases iter_scan (f := F_ref22_Same.l58 mx a b) (fun i => (i : Int)) a.length (fun i => a.getD i [] = b.getD i []) (lt_N0 ha) (fun _ => .inl false) (.inr ())
      (fun i hi hp _ => by
        simp only [F_ref22_Same.l58, ltd hi, lez, Bool.and_self, cond_true, Int.toNat_natCast, ltd (show i < b.length by omega), hp, beq_self_eq_true, Bool.not_true, cond_false]
        rw [inc64 (by omega)])
      (fun i hi hp _ => by
        have : (a.getD i [] == b.getD i []) = false := by simpa using hp
        simp only [F_ref22_Same.l58, ltd hi, lez, Bool.and_self, cond_true, Int.toNat_natCast, ltd (show i < b.length by omega), this, Bool.not_false])
      (fun _ => by simp only [F_ref22_Same.l58, nltd, cond_false]) with ⟨h, e⟩ | ⟨i, hi, hp, _, e⟩
    · have e : iter mx (F_ref22_Same.l58 mx a b) (0 : Int) = _ := e
      rw [e, decide_eq_true]
      · rfl
      · have := eq_take h (by omega)
        rw [hlen, List.take_length] at this
        exact this
    · have e : iter mx (F_ref22_Same.l58 mx a b) (0 : Int) = _ := e
      rw [e, decide_eq_false (fun h => hp (by rw [h]))]
      rfl
  · rw [decide_eq_false (show ¬ (a.length : Int) = (b.length : Int) by omega), decide_eq_false (fun h => hlen (by rw [h]))]
    rfl
end Go.Proofs.Ytdnfmkkaojafhaa
