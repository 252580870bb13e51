/- Sizes that are looked at; asking an image; two images alike. -/
import Derived.Test.YtmkfifilpkhfoaaKIe
namespace Go.Proofs.Ytmkfifilpkhfoaa
open Go.Abs
set_option maxRecDepth 100000

theorem great_some (v : Img) (hl : v.2.2.1.length ≤ 1000000000000000000) : ∃ b, F_ref21_Great mx v = some b ∧ (b = false → v.2.1.length ≤ 40 ∧ v.2.2.1.length ≤ 1100) := by
  obtain ⟨t, q, l, e, n, b⟩ := v
  dsimp only at hl ⊢
  obtain ⟨r, hr, _⟩ := iter_inv (f := F_ref21_Great.l58 mx l) (fun s => ∃ k : Nat, s.2 = (k : Int) ∧ k ≤ l.length) (fun s => l.length - s.2.toNat) (fun _ => True) ((0 : Int), (0 : Int)) ⟨0, rfl, Nat.zero_le _⟩ (by
    simp only [Int.toNat_zero, Nat.sub_zero]; exact lt_N0 hl) (fun s ⟨k, e, hk⟩ => by
    obtain ⟨s, i⟩ := s
    dsimp only at e
    subst e
    by_cases h1 : k < l.length
    · by_cases h2 : (k : Int) < 3000
      · left
        have h2' : decide ((k : Int) < 3000) = true := by simpa using h2
        refine ⟨_, by simp only [F_ref21_Great.l58, F_ref21_Great.s232, ltd h1, h2', lez, Bool.and_self, cond_true, Option.bind_some]; rfl, ⟨k + 1, by dsimp only; rw [inc64 (by omega)], by omega⟩, by dsimp only; rw [inc64 (by omega)]; omega⟩
      · right
        have h2' : decide ((k : Int) < 3000) = false := by simpa using h2
        exact ⟨s, by simp only [F_ref21_Great.l58, F_ref21_Great.s232, ltd h1, h2', cond_true, cond_false, Option.bind_some], trivial⟩
    · right
      have h1' : decide ((k : Int) < (l.length : Int)) = false := by simp; omega
      exact ⟨s, by simp only [F_ref21_Great.l58, F_ref21_Great.s232, h1', cond_false, Option.bind_some], trivial⟩)
  have hr : iter mx (F_ref21_Great.l58 mx l) ((0 : Int), (0 : Int)) = some r := hr
  simp only [F_ref21_Great, hr, Option.bind_some]
  by_cases h1 : 40 < q.length
  · exact ⟨true, by rw [decide_eq_true (show (40 : Int) < (q.length : Int) by omega)]; rfl, fun h => by cases h⟩
  rw [decide_eq_false (show ¬ (40 : Int) < (q.length : Int) by omega)]
  by_cases h : 1100 < l.length
  · exact ⟨true, by rw [decide_eq_true (show (1100 : Int) < (l.length : Int) by omega)]; rfl, fun h => by cases h⟩
  · exact ⟨_, by rw [decide_eq_false (show ¬ (1100 : Int) < (l.length : Int) by omega)]; rfl, fun _ => ⟨by omega, by omega⟩⟩
theorem heavy_some (l : List Chg) (hl : l.length ≤ 1000000000000000000) : ∃ b, F_ref01_Heavy mx l = some b ∧ (b = false → l.length ≤ 5000) := by
  obtain ⟨r, hr, _⟩ := iter_inv (f := F_ref01_Heavy.l58 mx l) (fun s => ∃ k : Nat, s.2 = (k : Int) ∧ k ≤ l.length) (fun s => l.length - s.2.toNat) (fun _ => True) ((0 : Int), (0 : Int)) ⟨0, rfl, Nat.zero_le _⟩ (by
    simp only [Int.toNat_zero, Nat.sub_zero]; exact lt_N0 hl) (fun s ⟨k, e, hk⟩ => by
    obtain ⟨s, i⟩ := s
    dsimp only at e
    subst e
    by_cases h1 : k < l.length
    · by_cases h2 : (k : Int) < 10000
      · left
        have h2' : decide ((k : Int) < 10000) = true := by simpa using h2
        refine ⟨_, by simp only [F_ref01_Heavy.l58, F_ref01_Heavy.s232, ltd h1, h2', lez, Bool.and_self, cond_true, Option.bind_some]; rfl, ⟨k + 1, by dsimp only; rw [inc64 (by omega)], by omega⟩, by dsimp only; rw [inc64 (by omega)]; omega⟩
      · right
        have h2' : decide ((k : Int) < 10000) = false := by simpa using h2
        exact ⟨s, by simp only [F_ref01_Heavy.l58, F_ref01_Heavy.s232, ltd h1, h2', cond_true, cond_false, Option.bind_some], trivial⟩
    · right
      have h1' : decide ((k : Int) < (l.length : Int)) = false := by simp; omega
      exact ⟨s, by simp only [F_ref01_Heavy.l58, F_ref01_Heavy.s232, h1', cond_false, Option.bind_some], trivial⟩)
  have hr : iter mx (F_ref01_Heavy.l58 mx l) ((0 : Int), (0 : Int)) = some r := hr
  simp only [F_ref01_Heavy, hr, Option.bind_some]
  by_cases h : 5000 < l.length
  · have : decide ((5000 : Int) < (l.length : Int)) = true := by simp; omega
    exact ⟨true, by rw [this]; rfl, fun h => by cases h⟩
  · have : decide ((5000 : Int) < (l.length : Int)) = false := by simp; omega
    exact ⟨_, by rw [this]; rfl, fun _ => by omega⟩
def getS (v : Img) (tn : Int) (key : List Int) : List Int × List Int × Int × Int × Int × Bool × Int :=
  if okI v then (if 0 ≤ tn ∧ tn ≤ (v.2.1.length : Int) - 1 then (if 1 ≤ key.length ∧ key.length ≤ 32 then
    (match v.2.2.1.find? (fun k => decide (nm k = (tn, key))) with | some k => (k.2.1, k.2.2.1, k.2.2.2.1, k.2.2.2.2.1, k.2.2.2.2.2, true, 0) | none => ([], [], 0, 0, 0, false, 0))
    else ([], [], 0, 0, 0, false, 3)) else ([], [], 0, 0, 0, false, 2)) else ([], [], 0, 0, 0, false, 8)
theorem plc_find {l : List Kept} (hl : (l.map nm).Nodup) (x : Nm) : match l.find? (fun k => decide (nm k = x)) with
    | some k => ∃ j : Nat, mget KQ (plc l l.length) x = some (j : Int) ∧ j < l.length ∧ l.getD j K0 = k
    | none => mget KQ (plc l l.length) x = none := by
  cases hf : l.find? (fun k => decide (nm k = x)) with
  | none =>
    dsimp only
    cases hm : mget KQ (plc l l.length) x with
    | none => rfl
    | some i =>
      obtain ⟨j, rfl, h1, h2⟩ := (plc_get hl l.length (Nat.le_refl _) x i).1 hm
      have := List.find?_eq_none.1 hf _ (getD_lt (d := K0) h1)
      simp only [decide_eq_true_eq] at this
      exact absurd h2 this
  | some k =>
    dsimp only
    have h1 := List.find?_some hf
    have h2 := List.mem_of_find?_eq_some hf
    obtain ⟨j, hj, rfl⟩ := List.mem_iff_getElem.1 h2
    simp only [decide_eq_true_eq] at h1
    exact ⟨j, (plc_get hl l.length (Nat.le_refl _) x j).2 ⟨j, rfl, hj, by rw [getD_some hj, h1]⟩, hj, getD_some hj K0⟩
theorem kept_beq (x y : Kept) : ((x.1 == y.1) && (((x.2.1 == y.2.1) && ((x.2.2.1 == y.2.2.1) && ((x.2.2.2.1 == y.2.2.2.1) && ((x.2.2.2.2.1 == y.2.2.2.2.1) && ((x.2.2.2.2.2 == y.2.2.2.2.2) && true))))) && true)) = decide (x = y) := by
  obtain ⟨a, b, c, d, e, f⟩ := x
  obtain ⟨a', b', c', d', e', f'⟩ := y
  rw [Bool.eq_iff_iff]
  simp only [Bool.and_eq_true, beq_iff_eq, decide_eq_true_eq, Prod.mk.injEq, and_true]
instance decKept : DecidableEq Kept := fun x y => inferInstanceAs (Decidable (x = y))
instance decImg : DecidableEq Img := @instDecidableEqProd Int _ _ (@instDecidableEqProd (List Int) _ _ (@instDecidableEqProd (List Kept) _ _ (@instDecidableEqProd Int _ _ (@instDecidableEqProd Int Bool _ _))))
theorem smF_mono : ∀ (f : Nat) {n m : Nat}, n ≤ m → (smF f n).length ≤ (smF f m).length
  | 0, n, m, _ => by simp [smF]
  | f + 1, n, m, h => by
    have := smF_mono f (Nat.div_le_div_right (c := 128) h)
    have l1 := (smF_len f (m / 128)).1
    simp only [smF]
    split
    · split
      · exact Nat.le_refl _
      · rw [List.length_cons, List.length_cons, List.length_nil]; omega
    · rw [if_neg (by omega), List.length_cons, List.length_cons]; omega
theorem sm_mono {n m : Nat} (h : n ≤ m) : (sm n).length ≤ (sm m).length := smF_mono 10 h
theorem chErr_part {a b : List Chg} (h : chErr (a ++ b) = 0) : chErr a = 0 ∧ chErr b = 0 := by
  obtain ⟨h1, h2, h3⟩ := chErr_zero.1 h
  unfold chBytes at h3
  rw [List.length_append] at h1
  rw [putsB_app, List.length_append, List.length_append, List.length_append] at h3
  have m1 := sm_mono (show a.length ≤ a.length + b.length by omega)
  have m2 := sm_mono (show b.length ≤ a.length + b.length by omega)
  refine ⟨chErr_zero.2 ⟨by omega, fun c hc => h2 c (List.mem_append.2 (.inl hc)), ?_⟩, chErr_zero.2 ⟨by omega, fun c hc => h2 c (List.mem_append.2 (.inr hc)), ?_⟩⟩
  · unfold chBytes; rw [List.length_append]; omega
  · unfold chBytes; rw [List.length_append]; omega
theorem applyS_zero {v : Img} {cs : List Chg} : (applyS v cs).2.2.2.2.2.2 = 0 ↔ okI v ∧ chErr cs = 0 ∧ ∃ w, applyL v cs = .inr w := by
  unfold applyS
  by_cases h1 : okI v
  · rw [if_pos h1]
    by_cases h2 : chErr cs = 0
    · rw [if_pos h2]
      cases h3 : applyL v cs with
      | inl e => exact ⟨fun h => (by rcases apply_err h3 with rfl | rfl <;> cases h), fun ⟨_, _, w, hw⟩ => (by cases hw)⟩
      | inr w => exact ⟨fun _ => ⟨h1, h2, w, rfl⟩, fun _ => rfl⟩
    · rw [if_neg h2]; exact ⟨fun h => absurd h h2, fun h => absurd h.2.1 h2⟩
  · rw [if_neg h1]; exact ⟨fun h => (by cases h), fun h => absurd h.1 h1⟩
theorem applyS_val {v w : Img} {cs : List Chg} (h1 : okI v) (h2 : chErr cs = 0) (h3 : applyL v cs = .inr w) : applyS v cs = withE w := by
  unfold applyS; rw [if_pos h1, if_pos h2, h3]; rfl
theorem applyS_bad {v : Img} {cs : List Chg} (h : (applyS v cs).2.2.2.2.2.2 ≠ 0) : ∃ e, applyS v cs = zeroI e := by
  unfold applyS at h ⊢
  by_cases h1 : okI v
  · rw [if_pos h1] at h ⊢
    by_cases h2 : chErr cs = 0
    · rw [if_pos h2] at h ⊢
      cases h3 : applyL v cs with
      | inl e => exact ⟨e, rfl⟩
      | inr w => rw [h3] at h; exact absurd rfl h
    · rw [if_neg h2]; exact ⟨_, rfl⟩
  · rw [if_neg h1]; exact ⟨_, rfl⟩
end Go.Proofs.Ytmkfifilpkhfoaa
