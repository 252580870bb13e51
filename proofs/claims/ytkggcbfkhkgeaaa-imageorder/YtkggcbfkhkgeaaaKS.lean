/- Which change touched a name last. -/
import Derived.Test.YtkggcbfkhkgeaaaKIg
namespace Go.Proofs.Ytkggcbfkhkgeaaa
open Go.Abs
set_option maxRecDepth 100000
def touchN (c : Chg) (x : Nm) : Bool := if c.1 = 1 then decide (c.2.1 = x.1 ∧ c.2.2.1.1 = x.2) else if c.1 = 2 then decide (c.2.1 = x.1 ∧ c.2.2.2.1 = x.2) else if c.1 = 3 then decide (c.2.1 = x.1) else false
theorem touches_ok (c : Chg) (x : Nm) : F_ref19_Touches mx (c.1, c.2.1, c.2.2.1.1, c.2.2.1.2.1, c.2.2.1.2.2.1, c.2.2.1.2.2.2.1, c.2.2.1.2.2.2.2, c.2.2.2.1, c.2.2.2.2.1, c.2.2.2.2.2.1, c.2.2.2.2.2.2, x.1, x.2) = some (touchN c x) := by
  simp only [F_ref19_Touches, touchN, ieq]
  by_cases k1 : c.1 = 1
  · rw [decide_eq_true k1, if_pos k1]
    by_cases h : c.2.1 = x.1
    · rw [decide_eq_true h]; simp only [cond_true, cond_false, h, true_and, Option.some.injEq]; rw [Bool.eq_iff_iff]; simp
    · rw [decide_eq_false h]; simp [h]
  rw [decide_eq_false k1, if_neg k1]
  by_cases k2 : c.1 = 2
  · rw [decide_eq_true k2, if_pos k2]
    by_cases h : c.2.1 = x.1
    · rw [decide_eq_true h]; simp only [cond_true, cond_false, h, true_and, Option.some.injEq]; rw [Bool.eq_iff_iff]; simp
    · rw [decide_eq_false h]; simp [h]
  rw [decide_eq_false k2, if_neg k2]
  by_cases k3 : c.1 = 3
  · rw [decide_eq_true k3, if_pos k3]; rfl
  · rw [decide_eq_false k3, if_neg k3]; rfl
def lastT (cs : List Chg) (x : Nm) : Nat → Int
  | 0 => -1
  | i + 1 => if touchN (cs.getD i C0) x = true then (i : Int) else lastT cs x i
theorem last_ok {cs : List Chg} (hl : cs.length ≤ 1000000) (x : Nm) : F_law21_last mx (cs, x.1, x.2) = some (lastT cs x cs.length) := by
  have := iter_count (f := F_law21_last.l58 mx cs x.1 x.2) (fun i => (lastT cs x i, (i : Int))) cs.length (r := lastT cs x cs.length) (lt_N0 (by omega)) (fun i hi => by
    have ht := touches_ok (cs.getD i C0) x
    simp only [F_law21_last.l58, ltd hi, lez, Bool.and_self, cond_true, Int.toNat_natCast, ht, Option.bind_some]
    rw [inc64 (by omega), lastT]
    cases touchN (cs.getD i C0) x <;> rfl) (by simp only [F_law21_last.l58, nltd, cond_false])
  have this : iter mx (F_law21_last.l58 mx cs x.1 x.2) ((-1 : Int), (0 : Int)) = _ := this
  simp only [F_law21_last, this, Option.bind_some]
theorem lastT_bd (cs : List Chg) (x : Nm) : ∀ i, -1 ≤ lastT cs x i ∧ lastT cs x i < (i : Int)
  | 0 => by simp [lastT]
  | i + 1 => by
    have := lastT_bd cs x i
    rw [lastT]; split <;> omega
/-- What stands at a name is told by the last change that touched it. -/
def stepT (x : Nm) (st : Bool × Itm) (c : Chg) : Bool × Itm := if touchN c x = true then (c.1 == 1, c.2.2.1) else st
theorem foldT (cs : List Chg) (x : Nm) (st : Bool × Itm) : ∀ i, i ≤ cs.length → (lastT cs x i = -1 ∧ (cs.take i).foldl (stepT x) st = st) ∨
    ∃ j : Nat, j < i ∧ lastT cs x i = (j : Int) ∧ (cs.take i).foldl (stepT x) st = ((cs.getD j C0).1 == 1, (cs.getD j C0).2.2.1)
  | 0, _ => .inl ⟨rfl, rfl⟩
  | i + 1, hi => by
    rw [take_succ' (l := cs) (k := i) (by omega) C0, List.foldl_append, lastT]
    show (_ ∧ stepT x ((cs.take i).foldl (stepT x) st) (cs.getD i C0) = st) ∨ ∃ j, j < i + 1 ∧ _ ∧ stepT x ((cs.take i).foldl (stepT x) st) (cs.getD i C0) = _
    unfold stepT
    by_cases h : touchN (cs.getD i C0) x = true
    · rw [if_pos h, if_pos h]
      exact .inr ⟨i, by omega, rfl, rfl⟩
    · rw [if_neg h, if_neg h]
      rcases foldT cs x st i (by omega) with h2 | ⟨j, h1, h2⟩
      · exact .inl h2
      · exact .inr ⟨j, by omega, h2⟩
def Holds (x : Nm) (v : Img) (st : Bool × Itm) : Prop := ∀ k, (k ∈ v.2.2.1 ∧ nm k = x) ↔ (st.1 = true ∧ dueB st.2 v.1 = false ∧ k = (x.1, st.2))
theorem due_mono {it : Itm} {t u : Int} (h : t ≤ u) (hd : dueB it u = false) : dueB it t = false := by
  unfold dueB at hd ⊢
  have := of_decide_eq_false hd
  exact decide_eq_false fun hh => this ⟨hh.1, by omega⟩
theorem touch_nm {c : Chg} {k : Kept} (h4 : c.1 ≠ 4) : touch c k = touchN c (nm k) := by
  unfold touch touchN nm
  by_cases k1 : c.1 = 1
  · rw [if_pos k1, if_pos k1, decide_eq_decide]; simp only [Prod.mk.injEq]
    exact ⟨fun h => ⟨h.1.symm, h.2.symm⟩, fun h => ⟨h.1.symm, h.2.symm⟩⟩
  rw [if_neg k1, if_neg k1]
  by_cases k2 : c.1 = 2
  · rw [if_pos k2, if_pos k2, decide_eq_decide]; simp only [Prod.mk.injEq]
    exact ⟨fun h => ⟨h.1.symm, h.2.symm⟩, fun h => ⟨h.1.symm, h.2.symm⟩⟩
  rw [if_neg k2, if_neg k2]
  by_cases k3 : c.1 = 3
  · rw [if_pos k3, if_pos k3, decide_eq_decide]; exact eq_comm
  rw [if_neg k3, if_neg k3, if_neg h4]
theorem one_holds {x : Nm} {v w : Img} {st : Bool × Itm} {c : Chg} (h : Holds x v st) (ho : oneS v c = .inr w) : Holds x w (stepT x st c) := by
  have left : c.1 ≠ 4 → c.1 ≠ 1 → Holds x (v.1, v.2.1, leftL c v.2.2.1, v.2.2.2) (stepT x st c) := fun h4 h1 k => by
    unfold stepT
    by_cases ht : touchN c x = true
    · rw [if_pos ht]
      constructor
      · rintro ⟨a, b⟩
        have := (leftL_mem.1 a).2
        rw [touch_nm h4, b, ht] at this; cases this
      · rintro ⟨a, _⟩
        exact absurd (by simpa using a) h1
    · rw [if_neg ht, ← h k]
      constructor
      · rintro ⟨a, b⟩; exact ⟨(leftL_mem.1 a).1, b⟩
      · rintro ⟨a, b⟩; exact ⟨leftL_mem.2 ⟨a, by rw [touch_nm h4, b]; exact Bool.eq_false_iff.2 ht⟩, b⟩
  unfold oneS at ho
  by_cases g0 : c.1 ≠ 4 ∧ c.1 ≠ 6 ∧ c.1 ≠ 7 ∧ (v.2.1.length : Int) ≤ c.2.1
  · rw [if_pos g0] at ho; cases ho
  rw [if_neg g0] at ho
  by_cases k1 : c.1 = 1
  · rw [if_pos k1] at ho
    by_cases g1 : 256 < 8 + c.2.2.1.1.length + c.2.2.1.2.1.length
    · rw [if_pos g1] at ho; cases ho
    rw [if_neg g1] at ho
    have h4 : c.1 ≠ 4 := by omega
    have hsame : ∀ k, touchN c x = false → ((k ∈ leftL c v.2.2.1 ∧ nm k = x) ↔ (k ∈ v.2.2.1 ∧ nm k = x)) := fun k ht =>
      ⟨fun ⟨a, b⟩ => ⟨(leftL_mem.1 a).1, b⟩, fun ⟨a, b⟩ => ⟨leftL_mem.2 ⟨a, by rw [touch_nm h4, b, ht]⟩, b⟩⟩
    have hnone : ∀ k, touchN c x = true → ¬ (k ∈ leftL c v.2.2.1 ∧ nm k = x) := fun k ht ⟨a, b⟩ => by
      have := (leftL_mem.1 a).2
      rw [touch_nm h4, b, ht] at this; cases this
    by_cases g2 : dueB c.2.2.1 v.1 = true
    · rw [if_pos g2] at ho
      cases ho
      intro k
      unfold stepT
      by_cases ht : touchN c x = true
      · rw [if_pos ht]
        constructor
        · intro hh; exact absurd hh (hnone k ht)
        · rintro ⟨_, a, _⟩; dsimp only at a; rw [g2] at a; cases a
      · rw [if_neg ht, ← h k]
        exact hsame k (Bool.eq_false_iff.2 ht)
    rw [if_neg g2] at ho
    by_cases g3 : (leftL c v.2.2.1).length = 1024
    · rw [if_pos g3] at ho; cases ho
    rw [if_neg g3] at ho
    cases ho
    intro k
    unfold stepT
    have hn : touchN c x = true ↔ nm (c.2.1, c.2.2.1) = x := by
      unfold touchN nm; rw [if_pos k1, decide_eq_true_eq]
      exact ⟨fun hh => Prod.ext hh.1 hh.2, fun hh => by rw [← hh]; exact ⟨rfl, rfl⟩⟩
    dsimp only
    rw [List.mem_append, List.mem_singleton]
    by_cases ht : touchN c x = true
    · rw [if_pos ht]
      have hx := hn.1 ht
      constructor
      · rintro ⟨a | a, b⟩
        · exact absurd ⟨a, b⟩ (hnone k ht)
        · refine ⟨by simpa using k1, Bool.eq_false_iff.2 g2, ?_⟩
          rw [a, ← hx]; rfl
      · rintro ⟨_, _, a⟩
        have : k = (c.2.1, c.2.2.1) := by rw [a, ← hx]; rfl
        exact ⟨.inr this, by rw [this]; exact hx⟩
    · rw [if_neg ht, ← h k, ← hsame k (Bool.eq_false_iff.2 ht)]
      constructor
      · rintro ⟨a | a, b⟩
        · exact ⟨a, b⟩
        · exact absurd (hn.2 (by rw [← a]; exact b)) ht
      · rintro ⟨a, b⟩; exact ⟨.inl a, b⟩
  rw [if_neg k1] at ho
  by_cases k4 : c.1 = 4
  · rw [if_pos k4] at ho
    by_cases g1 : c.2.2.2.2.2.1 < v.1
    · rw [if_pos g1] at ho; cases ho
    rw [if_neg g1] at ho
    cases ho
    have htn : touchN c x = false := by unfold touchN; rw [if_neg k1, if_neg (by omega), if_neg (by omega)]
    have htc : ∀ k : Kept, touch c k = dueB k.2 c.2.2.2.2.2.1 := fun k => by unfold touch; rw [if_neg k1, if_neg (by omega), if_neg (by omega), if_pos k4]
    intro k
    unfold stepT
    rw [htn, if_neg (by decide)]
    dsimp only
    rw [leftL_mem, htc]
    constructor
    · rintro ⟨⟨a, b⟩, d⟩
      obtain ⟨p1, p2, p3⟩ := (h k).1 ⟨a, d⟩
      exact ⟨p1, by rw [p3] at b; exact b, p3⟩
    · rintro ⟨p1, p2, p3⟩
      obtain ⟨a, d⟩ := (h k).2 ⟨p1, due_mono (by omega) p2, p3⟩
      exact ⟨⟨a, by rw [p3]; exact p2⟩, d⟩
  rw [if_neg k4] at ho
  have keep : c.1 ≠ 2 → c.1 ≠ 3 → stepT x st c = st := fun k2 k3 => by
    have htn : touchN c x = false := by unfold touchN; rw [if_neg k1, if_neg k2, if_neg k3]
    unfold stepT; rw [htn, if_neg (by decide)]
  by_cases k5 : c.1 = 5
  · rw [if_pos k5] at ho
    cases ho
    rw [keep (by omega) (by omega)]; exact h
  rw [if_neg k5] at ho
  by_cases k6 : c.1 = 6
  · rw [if_pos k6] at ho
    by_cases g1 : c.2.2.2.2.2.1 < v.2.2.2.1
    · rw [if_pos g1] at ho; cases ho
    rw [if_neg g1] at ho
    cases ho
    rw [keep (by omega) (by omega)]; exact h
  rw [if_neg k6] at ho
  by_cases k7 : c.1 = 7
  · rw [if_pos k7] at ho
    cases ho
    rw [keep (by omega) (by omega)]; exact h
  rw [if_neg k7] at ho
  cases ho
  exact left k4 k1
theorem apply_holds {x : Nm} : ∀ {cs : List Chg} {v w : Img} {st : Bool × Itm}, Holds x v st → applyL v cs = .inr w → Holds x w (cs.foldl (stepT x) st)
  | [], _, _, _, h, e => by cases e; exact h
  | c :: cs, v, w, st, h, e => by
    rw [applyL] at e
    cases ho : oneS v c with
    | inl e2 => rw [ho] at e; cases e
    | inr u => rw [ho] at e; exact apply_holds (cs := cs) (one_holds h ho) e
theorem one_quotas {v w : Img} {c : Chg} (ho : oneS v c = .inr w) : w.2.1.length = v.2.1.length ∧ v.1 ≤ w.1 := by
  unfold oneS at ho
  repeat' split at ho
  all_goals (cases ho)
  all_goals (first | exact ⟨rfl, Int.le_refl _⟩ | exact ⟨by simp, Int.le_refl _⟩ | exact ⟨rfl, by dsimp only; omega⟩)
theorem apply_quotas : ∀ {cs : List Chg} {v w : Img}, applyL v cs = .inr w → w.2.1.length = v.2.1.length ∧ v.1 ≤ w.1
  | [], _, _, e => by cases e; exact ⟨rfl, Int.le_refl _⟩
  | c :: cs, v, w, e => by
    rw [applyL] at e
    cases ho : oneS v c with
    | inl e2 => rw [ho] at e; cases e
    | inr u =>
      rw [ho] at e
      have h1 := one_quotas ho
      have h2 := apply_quotas e
      exact ⟨h2.1.trans h1.1, Int.le_trans h1.2 h2.2⟩
end Go.Proofs.Ytkggcbfkhkgeaaa
