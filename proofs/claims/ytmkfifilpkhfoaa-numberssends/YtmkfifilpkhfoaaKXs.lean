/- The document's own answers on senders; what is alike. -/
import Derived.Test.YtmkfifilpkhfoaaKXo
import Derived.Test.YtmkfifilpkhfoaaKXc
import Derived.Test.YtmkfifilpkhfoaaKNc
namespace Go.Proofs.Ytmkfifilpkhfoaa
open Go.Abs
set_option maxRecDepth 100000
theorem great24 (s : Snd) (hl : s.2.2.2.length ≤ 1000000000000000000) : ∃ b, F_ref24_Great mx s = some b ∧ (b = false → s.2.2.2.length ≤ 100) := by
  obtain ⟨e, n, a, l⟩ := s
  dsimp only at hl ⊢
  obtain ⟨r, hr, _⟩ := iter_inv (f := F_ref24_Great.l58 mx l) (fun s => ∃ k : Nat, s.2 = (k : Int) ∧ k ≤ l.length) (fun s => l.length - s.2.toNat) (fun _ => True) ((0 : Int), (0 : Int)) ⟨0, rfl, Nat.zero_le _⟩ (by
    simp only [Int.toNat_zero, Nat.sub_zero]; exact lt_N0 hl) (fun s ⟨k, e, hk⟩ => by
    obtain ⟨s, i⟩ := s
    dsimp only at e
    subst e
    by_cases h1 : k < l.length
    · by_cases h2 : (k : Int) < 200
      · left
        have h2' : decide ((k : Int) < 200) = true := by simpa using h2
        refine ⟨_, by simp only [F_ref24_Great.l58, F_ref24_Great.s232, ltd h1, h2', lez, Bool.and_self, cond_true, Option.bind_some]; rfl, ⟨k + 1, by dsimp only; rw [inc64 (by omega)], by omega⟩, by dsimp only; rw [inc64 (by omega)]; omega⟩
      · right
        have h2' : decide ((k : Int) < 200) = false := by simpa using h2
        exact ⟨s, by simp only [F_ref24_Great.l58, F_ref24_Great.s232, ltd h1, h2', cond_true, cond_false, Option.bind_some], trivial⟩
    · right
      have h1' : decide ((k : Int) < (l.length : Int)) = false := by simp; omega
      exact ⟨s, by simp only [F_ref24_Great.l58, F_ref24_Great.s232, h1', cond_false, Option.bind_some], trivial⟩)
  have hr : iter mx (F_ref24_Great.l58 mx l) ((0 : Int), (0 : Int)) = some r := hr
  simp only [F_ref24_Great, hr, Option.bind_some]
  by_cases h : 100 < l.length
  · rw [decide_eq_true (show (100 : Int) < (l.length : Int) by omega)]; exact ⟨true, rfl, fun h => by cases h⟩
  · rw [decide_eq_false (show ¬ (100 : Int) < (l.length : Int) by omega)]; exact ⟨_, rfl, fun _ => by omega⟩
theorem rtwin24_ok {s : Snd} (h1 : s.2.2.2.length ≤ 1000000) (h2 : ∀ r ∈ s.2.2.2, r.length ≤ 140737488351232) : F_ref24_Twin mx s = some s := by
  obtain ⟨e, n, a, l⟩ := s
  dsimp only at h1 h2
  have := iter_count (f := F_ref24_Twin.l58 mx l) (fun i => ((i : Int), e, n, a, l.take i)) l.length (r := (e, n, a, l)) (lt_N0 (by omega)) (fun i hi => by
    have c0 : Nat.ble (l.getD i []).length 140737488351232 = true := ble_t (h2 _ (getD_lt hi))
    have c1 : Nat.ble ((l.take i).length + 1) 4294967296 = true := ble_t (by rw [List.length_take]; omega)
    simp only [F_ref24_Twin.l58, ltd hi, lez, Bool.and_self, cond_true, Int.toNat_natCast, c0, List.length_singleton, c1]
    rw [inc64 (by omega), take_succ' hi []])
    (by simp only [F_ref24_Twin.l58, nltd, cond_false, List.take_length])
  have this : iter mx (F_ref24_Twin.l58 mx l) ((0 : Int), e, n, a, ([] : List (List Int))) = _ := this
  simp only [F_ref24_Twin, this, Option.bind_some]
theorem rin24_ok (x : Int) : F_ref24_in mx x = some (decide (inN x)) := by
  simp only [F_ref24_in]
  by_cases h : 0 ≤ x
  · rw [decide_eq_true h, cond_true]; congr 1; exact decide_eq_decide.2 ⟨fun hh => ⟨h, hh⟩, fun hh => hh.2⟩
  · rw [decide_eq_false h, decide_eq_false (fun hh : inN x => h hh.1)]; rfl
theorem rnew24_ok (e n : Int) : F_ref24_New mx (e, n) = some (if inN e ∧ inN n then (e, n, 0, [], 0) else (0, 0, 0, [], 2)) := by
  simp only [F_ref24_New, rin24_ok, Option.bind_some]
  by_cases h1 : inN e
  case neg => rw [decide_eq_false h1, if_neg (fun h => h1 h.1)]; rfl
  by_cases h2 : inN n
  case neg => rw [decide_eq_true h1, decide_eq_false h2, if_neg (fun h => h2 h.2)]; rfl
  rw [decide_eq_true h1, decide_eq_true h2, if_pos ⟨h1, h2⟩]; rfl
theorem rcheck24_ok {s : Snd} (hw : wfS s) : (okN s → F_ref24_Check mx s = some 0) ∧ (¬ okN s → F_ref24_Check mx s = some 8) := by
  obtain ⟨e, n, a, l⟩ := s
  obtain ⟨hw1, hw2⟩ := hw
  dsimp only at hw1 hw2
  have key : ((∀ r ∈ l, isCh r) → l.length ≤ 1000 → iter mx (F_ref24_Check.l58 mx l) (0 : Int) = some (.inr ())) ∧ (¬ (∀ r ∈ l, isCh r) → l.length ≤ 1000 → iter mx (F_ref24_Check.l58 mx l) (0 : Int) = some (.inl 8)) := by
    by_cases hl : l.length ≤ 1000
    case neg => exact ⟨fun _ h => absurd h hl, fun _ h => absurd h hl⟩
    have hstep : ∀ i, i < l.length → (isCh (l.getD i []) → F_ref24_Check.l58 mx l (i : Int) = some (.next ((i + 1 : Nat) : Int))) ∧ (¬ isCh (l.getD i []) → F_ref24_Check.l58 mx l (i : Int) = some (.fin (.inl 8))) := fun i hi => by
      obtain ⟨y, _, h2, h3⟩ := rof_both (hw2 _ (getD_lt (l := l) (d := []) hi)).1
      refine ⟨fun h => ?_, fun h => ?_⟩
      · simp only [F_ref24_Check.l58, ltd hi, lez, Bool.and_self, cond_true, Int.toNat_natCast, h2, Option.bind_some, h3.2 h, bne_self_eq_false, cond_false]
        rw [inc64 (by omega)]
      · have hne : y.2 ≠ 0 := fun hh => h (h3.1 hh)
        simp only [F_ref24_Check.l58, ltd hi, lez, Bool.and_self, cond_true, Int.toNat_natCast, h2, Option.bind_some, bne_iff_ne.2 hne]
    letI : DecidablePred (fun i => isCh (l.getD i [])) := fun _ => Classical.propDecidable _
    rcases iter_scan (f := F_ref24_Check.l58 mx l) (fun i => (i : Int)) l.length (fun i => isCh (l.getD i [])) (lt_N0 (by omega)) (fun _ => .inl 8) (.inr ())
      (fun i hi hp _ => (hstep i hi).1 hp) (fun i hi hp _ => (hstep i hi).2 hp) (fun _ => by simp only [F_ref24_Check.l58, nltd, cond_false]) with ⟨h, e⟩ | ⟨i, hi, hp, _, e⟩
    · have e : iter mx (F_ref24_Check.l58 mx l) (0 : Int) = _ := e
      refine ⟨fun _ _ => e, fun hh _ => absurd (fun r hr => ?_) hh⟩
      obtain ⟨j, hj, rfl⟩ := List.mem_iff_getElem.1 hr
      have := h j hj
      rwa [getD_some hj] at this
    · have e : iter mx (F_ref24_Check.l58 mx l) (0 : Int) = _ := e
      exact ⟨fun hh _ => absurd (hh _ (getD_lt hi)) hp, fun _ _ => e⟩
  simp only [F_ref24_Check, rin24_ok, Option.bind_some]
  by_cases h1 : inN e
  case neg => rw [decide_eq_false h1]; exact ⟨fun h => absurd h.1 h1, fun _ => rfl⟩
  by_cases h2 : inN n
  case neg => rw [decide_eq_true h1, decide_eq_false h2]; exact ⟨fun h => absurd h.2.1 h2, fun _ => rfl⟩
  rw [decide_eq_true h1, decide_eq_true h2]
  simp only [Bool.not_true, cond_false]
  by_cases h3 : a < 0
  · rw [decide_eq_true h3]; exact ⟨fun h => by have := h.2.2.1.1; dsimp only at this; omega, fun _ => rfl⟩
  rw [decide_eq_false h3]
  by_cases h4 : n < a
  · rw [decide_eq_true h4]; exact ⟨fun h => by have := h.2.2.1.2; dsimp only at this; omega, fun _ => rfl⟩
  rw [decide_eq_false h4]
  by_cases h5 : 32 < l.length
  · rw [decide_eq_true (show (32 : Int) < (l.length : Int) by omega)]; exact ⟨fun h => by have := h.2.2.2.1.1; dsimp only at this; omega, fun _ => rfl⟩
  rw [decide_eq_false (show ¬ (32 : Int) < (l.length : Int) by omega)]
  by_cases h6 : n < (l.length : Int)
  · rw [decide_eq_true h6]; exact ⟨fun h => by have := h.2.2.2.1.2; dsimp only at this; omega, fun _ => rfl⟩
  rw [decide_eq_false h6]
  simp only [cond_false]
  refine ⟨fun h => ?_, fun h => ?_⟩
  · rw [key.1 h.2.2.2.2 (by omega)]; rfl
  · rw [key.2 (fun hh => h ⟨h1, h2, ⟨by dsimp only; omega, by dsimp only; omega⟩, ⟨by dsimp only; omega, by dsimp only; omega⟩, hh⟩) (by omega)]; rfl
theorem rsameS_ok {s : Snd} (hl : s.2.2.2.length ≤ 1000000) : F_ref24_SameSender mx (s.1, s.2.1, s.2.2.1, s.2.2.2, s) = some true := by
  obtain ⟨e, n, a, l⟩ := s
  dsimp only at hl ⊢
  have := iter_count (f := F_ref24_SameSender.l58 mx l l) (fun i => (i : Int)) l.length (r := .inr ()) (lt_N0 (by omega)) (fun i hi => by
    simp only [F_ref24_SameSender.l58, ltd hi, lez, Bool.and_self, cond_true, Int.toNat_natCast, beq_self_eq_true, Bool.not_true, cond_false]
    rw [inc64 (by omega)])
    (by simp only [F_ref24_SameSender.l58, nltd, cond_false])
  have this : iter mx (F_ref24_SameSender.l58 mx l l) (0 : Int) = _ := this
  simp only [F_ref24_SameSender, bne_self_eq_false, cond_false, this, Option.bind_some]
end Go.Proofs.Ytmkfifilpkhfoaa
