/- What changes do to an image. -/
import Derived.Test.YtmkfifilpkhfoaaKId
namespace Go.Proofs.Ytmkfifilpkhfoaa
open Go.Abs
set_option maxRecDepth 100000

def applyL : Img → List Chg → Int ⊕ Img
  | v, [] => .inr v
  | v, c :: cs => match oneS v c with
    | .inl e => .inl e
    | .inr w => applyL w cs
def zeroI (e : Int) : Int × List Int × List Kept × Int × Int × Bool × Int := (0, [], [], 0, 0, false, e)
def withE (w : Img) : Int × List Int × List Kept × Int × Int × Bool × Int := (w.1, w.2.1, w.2.2.1, w.2.2.2.1, w.2.2.2.2.1, w.2.2.2.2.2, 0)
def resI : Int ⊕ Img → Int × List Int × List Kept × Int × Int × Bool × Int
  | .inl e => zeroI e
  | .inr w => withE w
def applyS (v : Img) (cs : List Chg) : Int × List Int × List Kept × Int × Int × Bool × Int :=
  if okI v then (if chErr cs = 0 then resI (applyL v cs) else zeroI (chErr cs)) else zeroI 8
theorem one_err {v : Img} {c : Chg} {e : Int} (h : oneS v c = .inl e) : e = 2 ∨ e = 9 := by
  unfold oneS at h
  repeat' split at h
  all_goals (cases h <;> simp)
theorem apply_err : ∀ {cs : List Chg} {v : Img} {e : Int}, applyL v cs = .inl e → e = 2 ∨ e = 9
  | [], _, _, h => by cases h
  | c :: cs, v, e, h => by
    rw [applyL] at h
    cases ho : oneS v c with
    | inl e2 => rw [ho] at h; cases h; exact one_err ho
    | inr w => rw [ho] at h; exact apply_err h
theorem applyL_app : ∀ (a b : List Chg) (v : Img), applyL v (a ++ b) = match applyL v a with | .inl e => .inl e | .inr w => applyL w b
  | [], _, _ => rfl
  | c :: a, b, v => by
    rw [List.cons_append, applyL, applyL]
    cases oneS v c with
    | inl e => rfl
    | inr w => exact applyL_app a b w

theorem leftL_mem {c : Chg} {l : List Kept} {k : Kept} : k ∈ leftL c l ↔ k ∈ l ∧ touch c k = false := by
  unfold leftL; rw [List.mem_filter]; simp
theorem leftL_sub (c : Chg) (l : List Kept) : (leftL c l).Sublist l := List.filter_sublist
theorem okI_left {v : Img} (h : okI v) (c : Chg) : okI (v.1, v.2.1, leftL c v.2.2.1, v.2.2.2) := by
  obtain ⟨h1, h2, h3, h4, h5, h6, h7⟩ := h
  exact ⟨h1, h2, Nat.le_trans (leftL_sub c _).length_le h3, h4, h5, fun k hk => h6 k (leftL_mem.1 hk).1, ((leftL_sub c _).map nm).nodup h7⟩
theorem one_okI {v : Img} (h : okI v) {c : Chg} (hc : chOk c) {w : Img} (ho : oneS v c = .inr w) : okI w := by
  have hl := okI_left h c
  obtain ⟨h1, h2, h3, h4, h5, h6, h7⟩ := h
  obtain ⟨l1, l2, l3, l4, l5, l6, l7⟩ := id hl
  obtain ⟨⟨t1, t2⟩, hc⟩ := hc
  unfold oneS at ho
  by_cases g0 : c.1 ≠ 4 ∧ c.1 ≠ 6 ∧ c.1 ≠ 7 ∧ (v.2.1.length : Int) ≤ c.2.1
  · rw [if_pos g0] at ho; cases ho
  rw [if_neg g0] at ho
  by_cases k1 : c.1 = 1
  · rw [if_pos k1] at ho
    have hc : ((1 ≤ c.2.2.1.1.length ∧ c.2.2.1.1.length ≤ 32) ∧ c.2.2.1.2.1.length ≤ 512 ∧ (0 ≤ c.2.2.1.2.2.2.1 ∧ c.2.2.1.2.2.2.1 ≤ 1099511627776)) := by
      rcases hc with h | h | h | h | h | h | h
      · exact h.2.1
      all_goals (exfalso; have := h.1; omega)
    by_cases g1 : 256 < 8 + c.2.2.1.1.length + c.2.2.1.2.1.length
    · rw [if_pos g1] at ho; cases ho
    rw [if_neg g1] at ho
    by_cases g2 : dueB c.2.2.1 v.1 = true
    · rw [if_pos g2] at ho; cases ho; exact hl
    rw [if_neg g2] at ho
    by_cases g3 : (leftL c v.2.2.1).length = 1024
    · rw [if_pos g3] at ho; cases ho
    rw [if_neg g3] at ho
    cases ho
    refine ⟨l1, l2, ?_, l4, l5, ?_, ?_⟩
    · dsimp only at l3 ⊢; rw [List.length_append, List.length_singleton]; omega
    · intro k hk
      rcases List.mem_append.1 hk with hk | hk
      · exact l6 k hk
      · rw [List.mem_singleton] at hk
        subst hk
        refine ⟨t1, ?_, ⟨hc.1.1, hc.1.2, by dsimp only; omega, hc.2.2.1, hc.2.2.2⟩, Bool.eq_false_iff.2 g2⟩
        have : ¬ (v.2.1.length : Int) ≤ c.2.1 := fun hh => g0 ⟨by omega, by omega, by omega, hh⟩
        dsimp only; omega
    · dsimp only at l7 ⊢
      rw [List.map_append, List.map_singleton]
      refine List.nodup_append.2 ⟨l7, by simp, fun a ha b hb => ?_⟩
      rw [List.mem_singleton] at hb
      subst hb
      obtain ⟨k, hk, rfl⟩ := List.mem_map.1 ha
      have ht := (leftL_mem.1 hk).2
      unfold touch at ht
      rw [if_pos k1] at ht
      exact of_decide_eq_false ht
  rw [if_neg k1] at ho
  by_cases k4 : c.1 = 4
  · rw [if_pos k4] at ho
    have hc : 0 ≤ c.2.2.2.2.2.1 ∧ c.2.2.2.2.2.1 ≤ 1099511627776 := by
      rcases hc with h | h | h | h | h | h | h
      · exfalso; have := h.1; omega
      · exfalso; have := h.1; omega
      · exfalso; have := h.1; omega
      · exact h.2.1
      all_goals (exfalso; have := h.1; omega)
    by_cases g1 : c.2.2.2.2.2.1 < v.1
    · rw [if_pos g1] at ho; cases ho
    rw [if_neg g1] at ho
    cases ho
    refine ⟨hc, l2, l3, l4, l5, fun k hk => ?_, l7⟩
    obtain ⟨a1, a2, a3, a4⟩ := l6 k hk
    refine ⟨a1, a2, a3, ?_⟩
    have ht := (leftL_mem.1 hk).2
    unfold touch at ht
    rw [if_neg k1, if_neg (by omega), if_neg (by omega), if_pos k4] at ht
    exact ht
  rw [if_neg k4] at ho
  by_cases k5 : c.1 = 5
  · rw [if_pos k5] at ho
    have hc : 0 ≤ c.2.2.2.2.2.1 ∧ c.2.2.2.2.2.1 ≤ 16 := by
      rcases hc with h | h | h | h | h | h | h
      · exfalso; have := h.1; omega
      · exfalso; have := h.1; omega
      · exfalso; have := h.1; omega
      · exfalso; have := h.1; omega
      · exact h.2.1
      all_goals (exfalso; have := h.1; omega)
    cases ho
    refine ⟨h1, ⟨by dsimp only; rw [List.length_set]; exact h2.1, by dsimp only; rw [List.length_set]; exact h2.2.1, fun x hx => ?_⟩, h3, h4, h5, fun k hk => ?_, h7⟩
    · rcases List.mem_or_eq_of_mem_set hx with hx | hx
      · exact h2.2.2 x hx
      · rw [hx]; exact hc
    · obtain ⟨a1, a2, a3, a4⟩ := h6 k hk
      exact ⟨a1, by dsimp only; rw [List.length_set]; exact a2, a3, a4⟩
  rw [if_neg k5] at ho
  by_cases k6 : c.1 = 6
  · rw [if_pos k6] at ho
    have hc : 0 ≤ c.2.2.2.2.2.1 ∧ c.2.2.2.2.2.1 ≤ 2147483647 := by
      rcases hc with h | h | h | h | h | h | h
      · exfalso; have := h.1; omega
      · exfalso; have := h.1; omega
      · exfalso; have := h.1; omega
      · exfalso; have := h.1; omega
      · exfalso; have := h.1; omega
      · exact h.2.1
      · exfalso; have := h.1; omega
    by_cases g1 : c.2.2.2.2.2.1 < v.2.2.2.1
    · rw [if_pos g1] at ho; cases ho
    rw [if_neg g1] at ho
    cases ho
    exact ⟨h1, h2, h3, hc, h5, h6, h7⟩
  rw [if_neg k6] at ho
  by_cases k7 : c.1 = 7
  · rw [if_pos k7] at ho
    have hc : 0 ≤ c.2.2.2.2.2.1 ∧ c.2.2.2.2.2.1 ≤ 2147483647 := by
      rcases hc with h | h | h | h | h | h | h
      · exfalso; have := h.1; omega
      · exfalso; have := h.1; omega
      · exfalso; have := h.1; omega
      · exfalso; have := h.1; omega
      · exfalso; have := h.1; omega
      · exfalso; have := h.1; omega
      · exact h.2.1
    cases ho
    exact ⟨h1, h2, h3, h4, hc, h6, h7⟩
  rw [if_neg k7] at ho
  cases ho
  exact hl
theorem apply_okI : ∀ {cs : List Chg} {v w : Img}, okI v → (∀ c ∈ cs, chOk c) → applyL v cs = .inr w → okI w
  | [], _, _, h, _, e => by cases e; exact h
  | c :: cs, v, w, h, hc, e => by
    rw [applyL] at e
    cases ho : oneS v c with
    | inl e2 => rw [ho] at e; cases e
    | inr u => rw [ho] at e; exact apply_okI (one_okI h (hc c (by simp)) ho) (fun x hx => hc x (by simp [hx])) e

/-! ### the walk -/
theorem alive_app' : ∀ {l : List Kept} {g : List Bool}, g.length = l.length → ∀ (k : Kept) (b : Bool), alive (l ++ [k]) (g ++ [b]) = alive l g ++ (if b = true then [] else [k])
  | [], [], _, k, b => by cases b <;> simp [alive]
  | a :: l, c :: g, h, k, b => by
    have := alive_app' (l := l) (g := g) (by simpa using h) k b
    simp only [List.cons_append, alive, this]
    split <;> rfl
  | [], _ :: _, h, _, _ => by simp at h
  | _ :: _, [], h, _, _ => by simp at h
end Go.Proofs.Ytmkfifilpkhfoaa
