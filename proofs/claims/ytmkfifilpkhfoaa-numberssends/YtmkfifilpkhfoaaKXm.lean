/- The document's own answers on messages. -/
import Derived.Test.YtmkfifilpkhfoaaKXi
import Derived.Test.YtmkfifilpkhfoaaKXs
namespace Go.Proofs.Ytmkfifilpkhfoaa
open Go.Abs
set_option maxRecDepth 100000
theorem rimg_iff {a : List Int} (ha : bytesI a) : ∃ y, F_ref21_Read mx a = some y ∧ (y.2.2.2.2.2.2 = 0 ↔ isImg a) ∧ (∀ v, writeS v = (a, 0) → wfIm v → y = withE v) := by
  have hw : ∀ y, F_ref21_Read mx a = some y → ∀ v, writeS v = (a, 0) → wfIm v → y = withE v := fun y hy v hv hw => by
    have := rimg_sm hv ha hw.2
    rw [hy] at this
    exact Option.some.inj this
  by_cases hl : a.length ≤ 65536
  · obtain ⟨y, hy, h⟩ := rimg_tot ha hl
    refine ⟨y, hy, ⟨fun h0 => ?_, fun ⟨v, hv, hwv⟩ => ?_⟩, hw y hy⟩
    · rcases h with rfl | ⟨v, rfl, h1, h2⟩
      · cases h0
      · exact ⟨v, h2, h1⟩
    · rw [hw y hy v hv hwv]; rfl
  · refine ⟨_, rimg_big (by omega), ⟨fun h => (by cases h), fun ⟨v, hv, _⟩ => ?_⟩, hw _ (rimg_big (by omega))⟩
    have := (writeS_ok hv).2.2; omega
theorem rmay24_ok {m : Msg} (hk : 0 ≤ m.1 ∧ m.1 ≤ 255) (hb : bytesI m.2.2.2) : ∃ B, F_ref24_May mx m = some B ∧ (B = true ↔ mayM m) := by
  obtain ⟨kd, e, n, a⟩ := m
  dsimp only at hk hb
  simp only [F_ref24_May, rin24_ok, Option.bind_some]
  by_cases h1 : inN e
  case neg => rw [decide_eq_false h1]; exact ⟨false, rfl, ⟨fun h => (by cases h), fun h => absurd h.1 h1⟩⟩
  by_cases h2 : inN n
  case neg => rw [decide_eq_true h1, decide_eq_false h2]; exact ⟨false, rfl, ⟨fun h => (by cases h), fun h => absurd h.2.1 h2⟩⟩
  rw [decide_eq_true h1, decide_eq_true h2]
  obtain ⟨y, _, hy, hyi⟩ := rof_both hb
  obtain ⟨z, hz, hzi, _⟩ := rimg_iff hb
  have hlen : ((a.length : Int) == 0) = decide (a = []) := by
    rw [ieq]; exact decide_eq_decide.2 ⟨fun h => List.length_eq_zero_iff.1 (by omega), fun h => by rw [h]; rfl⟩
  simp only [Bool.not_true, cond_false, ieq, hy, hz, Option.bind_some]
  rw [show decide ((a.length : Int) = 0) = decide (a = []) from (ieq _ _).symm.trans hlen]
  by_cases k1 : kd = 1
  · subst k1
    rw [decide_eq_true rfl]
    by_cases k : (1 : Int) ≤ n
    · rw [decide_eq_true k]
      refine ⟨_, rfl, ?_⟩
      rw [decide_eq_true_iff, hyi]
      exact ⟨fun h => ⟨h1, h2, .inl ⟨rfl, by dsimp only; omega, h⟩⟩, fun h => by
        rcases h.2.2 with h | h | h | h
        · exact h.2.2
        · have := h.1; dsimp only at this; omega
        · have := h.1; dsimp only at this; omega
        · have := h.1; dsimp only at this; omega⟩
    · rw [decide_eq_false k]
      refine ⟨false, rfl, ⟨fun h => (by cases h), fun h => ?_⟩⟩
      rcases h.2.2 with h | h | h | h
      · have := h.2.1; dsimp only at this; omega
      · have := h.1; dsimp only at this; omega
      · have := h.1; dsimp only at this; omega
      · have := h.1; dsimp only at this; omega
  rw [decide_eq_false k1]
  by_cases k2 : kd = 2
  · subst k2
    rw [decide_eq_true rfl]
    refine ⟨_, rfl, ?_⟩
    rw [decide_eq_true_iff]
    exact ⟨fun h => ⟨h1, h2, .inr (.inl ⟨rfl, h⟩)⟩, fun h => by
      rcases h.2.2 with h | h | h | h
      · have := h.1; dsimp only at this; omega
      · exact h.2
      · have := h.1; dsimp only at this; omega
      · have := h.1; dsimp only at this; omega⟩
  rw [decide_eq_false k2]
  by_cases k3 : kd = 3
  · subst k3
    rw [decide_eq_true rfl]
    refine ⟨_, rfl, ?_⟩
    rw [decide_eq_true_iff]
    exact ⟨fun h => ⟨h1, h2, .inr (.inr (.inl ⟨rfl, h⟩))⟩, fun h => by
      rcases h.2.2 with h | h | h | h
      · have := h.1; dsimp only at this; omega
      · have := h.1; dsimp only at this; omega
      · exact h.2
      · have := h.1; dsimp only at this; omega⟩
  rw [decide_eq_false k3]
  by_cases k4 : kd = 4
  · subst k4
    rw [decide_eq_true rfl]
    refine ⟨_, rfl, ?_⟩
    rw [decide_eq_true_iff, hzi]
    exact ⟨fun h => ⟨h1, h2, .inr (.inr (.inr ⟨rfl, h⟩))⟩, fun h => by
      rcases h.2.2 with h | h | h | h
      · have := h.1; dsimp only at this; omega
      · have := h.1; dsimp only at this; omega
      · have := h.1; dsimp only at this; omega
      · exact h.2⟩
  rw [decide_eq_false k4]
  refine ⟨false, rfl, ⟨fun h => (by cases h), fun h => ?_⟩⟩
  rcases h.2.2 with h | h | h | h
  · exact absurd h.1 k1
  · exact absurd h.1 k2
  · exact absurd h.1 k3
  · exact absurd h.1 k4
theorem rsameM_ok (m : Msg) : F_ref24_SameMessage mx (m.1, m.2.1, m.2.2.1, m.2.2.2, m) = some true := by
  obtain ⟨kd, e, n, a⟩ := m
  simp only [F_ref24_SameMessage, beq_self_eq_true, cond_true]
theorem rsameMs_ok {l : List Msg} (hl : l.length ≤ 1000000) : F_ref24_SameMessages mx (l, l) = some true := by
  have := iter_count (f := F_ref24_SameMessages.l58 mx l l) (fun i => (i : Int)) l.length (r := .inr ()) (lt_N0 (by omega)) (fun i hi => by
    have hs := rsameM_ok (l.getD i M0)
    have hs : F_ref24_SameMessage mx ((l.getD i (0, (0, (0, [])))).1, (l.getD i (0, (0, (0, [])))).2.1, (l.getD i (0, (0, (0, [])))).2.2.1, (l.getD i (0, (0, (0, [])))).2.2.2, l.getD i (0, (0, (0, [])))) = some true := hs
    simp only [F_ref24_SameMessages.l58, ltd hi, lez, Bool.and_self, cond_true, Int.toNat_natCast, hs, Option.bind_some, Bool.not_true, cond_false]
    rw [inc64 (by omega)])
    (by simp only [F_ref24_SameMessages.l58, nltd, cond_false])
  have this : iter mx (F_ref24_SameMessages.l58 mx l l) (0 : Int) = _ := this
  simp only [F_ref24_SameMessages, bne_self_eq_false, cond_false, this, Option.bind_some]
end Go.Proofs.Ytmkfifilpkhfoaa
