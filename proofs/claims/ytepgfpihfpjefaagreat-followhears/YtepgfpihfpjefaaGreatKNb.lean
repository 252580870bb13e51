/- Numbered records. -/
import Derived.Test.YtepgfpihfpjefaaGreatKBy
namespace Go.Proofs.YtepgfpihfpjefaaGreat
open Go.Abs
set_option maxRecDepth 100000
abbrev Snd := Int × Int × Int × List (List Int)
abbrev Msg := Int × Int × Int × List Int
abbrev M0 : Msg := (0, (0, (0, [])))
def inN (x : Int) : Prop := 0 ≤ x ∧ x ≤ 2147483647
instance (x : Int) : Decidable (inN x) := by unfold inN; infer_instance
def isCh (a : List Int) : Prop := ∃ cs, IsCh a cs
noncomputable def chB (a : List Int) : Bool := @decide (isCh a) (Classical.propDecidable _)
theorem chB_iff {a : List Int} : chB a = true ↔ isCh a := by unfold chB; exact @decide_eq_true_iff _ (Classical.propDecidable _)
theorem inN_ok (x : Int) : F_numbers_in mx x = some (decide (inN x)) := by
  simp only [F_numbers_in]
  by_cases h : 0 ≤ x
  · rw [decide_eq_true h, cond_true]; congr 1; exact decide_eq_decide.2 ⟨fun hh => ⟨h, hh⟩, fun hh => hh.2⟩
  · rw [decide_eq_false h, decide_eq_false (fun hh : inN x => h hh.1)]; rfl
theorem changesN_ok {a : List Int} (ha : bytesI a) : F_numbers_changes mx a = some (chB a) := by
  obtain ⟨y, h1, h2⟩ := of_tot ha
  simp only [F_numbers_changes, h1, Option.bind_some, ieq]
  congr 1
  rcases h2 with ⟨_, h2⟩ | ⟨h3, h2⟩ | ⟨h3, h2⟩
  · rw [h2, show chB a = false from Bool.eq_false_iff.2 fun hh => by
      obtain ⟨cs, hc⟩ := chB_iff.1 hh
      rw [of_sm hc ha] at h1
      have := Option.some.inj h1
      rw [← this] at h2; cases h2]
    rfl
  · rw [h2, show chB a = false from Bool.eq_false_iff.2 fun hh => by
      obtain ⟨cs, hc⟩ := chB_iff.1 hh
      obtain ⟨q1, q2, q3⟩ := hc
      have := (chErr_zero.1 q1).2.2
      rw [q2] at this; omega]
    rfl
  · rw [h3, chB_iff.2 ⟨_, h2⟩]; rfl
/-- A sender that may be. -/
def okN (s : Snd) : Prop := inN s.1 ∧ inN s.2.1 ∧ (0 ≤ s.2.2.1 ∧ s.2.2.1 ≤ s.2.1) ∧ (s.2.2.2.length ≤ 32 ∧ (s.2.2.2.length : Int) ≤ s.2.1) ∧ ∀ r ∈ s.2.2.2, isCh r
def wfS (s : Snd) : Prop := s.2.2.2.length ≤ 140737488351232 ∧ ∀ r ∈ s.2.2.2, bytesI r ∧ r.length ≤ 140737488351232
/-- A record as a message. -/
def msgN (s : Snd) (k : Int) : Msg := (1, s.1, k, s.2.2.2.getD (((s.2.2.2.length : Int) - 1) - (s.2.1 - k)).toNat [])
def lowN (s : Snd) (k : Int) : Int := mxI k (s.2.1 - (s.2.2.2.length : Int))
def behindL (s : Snd) (k : Int) : List Msg := (List.range (s.2.1 - lowN s k).toNat).map fun i : Nat => msgN s (lowN s k + 1 + (i : Int))
/-- Bytes that are an image. -/
def isImg (a : List Int) : Prop := ∃ v, writeS v = (a, 0) ∧ wfIm v
def mayM (m : Msg) : Prop := inN m.2.1 ∧ inN m.2.2.1 ∧ ((m.1 = 1 ∧ 0 < m.2.2.1 ∧ isCh m.2.2.2) ∨ (m.1 = 2 ∧ m.2.2.2 = []) ∨ (m.1 = 3 ∧ m.2.2.2 = []) ∨ (m.1 = 4 ∧ isImg m.2.2.2))
theorem mayN_ok {m : Msg} (hk : 0 ≤ m.1 ∧ m.1 ≤ 255) (hb : bytesI m.2.2.2) : ∃ B, F_numbers_may mx m = some B ∧ (B = true ↔ mayM m) := by
  obtain ⟨kd, e, n, a⟩ := m
  dsimp only at hk hb
  simp only [F_numbers_may, inN_ok, Option.bind_some]
  by_cases h1 : inN e
  case neg => rw [decide_eq_false h1]; exact ⟨false, rfl, fun h => (by cases h), fun h => absurd h.1 h1⟩
  rw [decide_eq_true h1]
  by_cases h2 : inN n
  case neg => rw [decide_eq_false h2]; exact ⟨false, rfl, fun h => (by cases h), fun h => absurd h.2.1 h2⟩
  rw [decide_eq_true h2]
  have bad : ∀ {x : Option Bool}, x = some false → (kd ≠ 1 ∧ kd ≠ 2 ∧ kd ≠ 3 ∧ kd ≠ 4) → ∃ B, x = some B ∧ (B = true ↔ mayM (kd, e, n, a)) := fun hx hn => ⟨false, hx, fun h => (by cases h), fun h => by
    rcases h.2.2 with h | h | h | h
    · exact absurd h.1 hn.1
    · exact absurd h.1 hn.2.1
    · exact absurd h.1 hn.2.2.1
    · exact absurd h.1 hn.2.2.2⟩
  simp only [cond_true]
  rw [w64 (n := kd) (by omega) (by omega)]
  by_cases h3 : 0 < kd
  case neg => rw [decide_eq_false h3]; exact bad rfl ⟨by omega, by omega, by omega, by omega⟩
  rw [decide_eq_true h3]
  by_cases h4 : kd < 5
  case neg => rw [decide_eq_false h4]; exact bad rfl ⟨by omega, by omega, by omega, by omega⟩
  rw [decide_eq_true h4]
  simp only [cond_true, ieq, decide_eq_false (show ¬ kd = 0 by omega), cond_false]
  have hemp : ∀ B : Bool, B = decide ((a.length : Int) = 0) → (B = true ↔ a = []) := fun B hB => by
    rw [hB, decide_eq_true_eq]
    exact ⟨fun h => List.length_eq_zero_iff.1 (by omega), fun h => by rw [h]; rfl⟩
  by_cases k1 : kd = 1
  · rw [decide_eq_true k1]
    simp only [cond_true, F_numbers_may_c1]
    by_cases g : 0 < n
    · rw [decide_eq_true g]
      simp only [cond_true, changesN_ok hb, Option.bind_some]
      refine ⟨_, rfl, fun h => ⟨h1, h2, .inl ⟨k1, g, chB_iff.1 h⟩⟩, fun h => ?_⟩
      rcases h.2.2 with h | h | h | h
      · exact chB_iff.2 h.2.2
      all_goals (exfalso; have := h.1; dsimp only at this; omega)
    · rw [decide_eq_false g]
      refine ⟨false, rfl, fun h => (by cases h), fun h => ?_⟩
      rcases h.2.2 with h | h | h | h
      · exact absurd h.2.1 g
      all_goals (exfalso; have := h.1; dsimp only at this; omega)
  rw [decide_eq_false k1]
  by_cases k2 : kd = 2
  · rw [decide_eq_true k2]
    simp only [cond_true, cond_false, F_numbers_may_c2, Option.bind_some]
    refine ⟨_, rfl, fun h => ⟨h1, h2, .inr (.inl ⟨k2, (hemp _ (ieq _ _)).1 h⟩)⟩, fun h => ?_⟩
    rcases h.2.2 with h | h | h | h
    · exfalso; have := h.1; dsimp only at this; omega
    · exact (hemp _ (ieq _ _)).2 h.2
    all_goals (exfalso; have := h.1; dsimp only at this; omega)
  rw [decide_eq_false k2]
  by_cases k3 : kd = 3
  · rw [decide_eq_true k3]
    simp only [cond_true, cond_false, F_numbers_may_c3, Option.bind_some]
    refine ⟨_, rfl, fun h => ⟨h1, h2, .inr (.inr (.inl ⟨k3, (hemp _ (ieq _ _)).1 h⟩))⟩, fun h => ?_⟩
    rcases h.2.2 with h | h | h | h
    · exfalso; have := h.1; dsimp only at this; omega
    · exfalso; have := h.1; dsimp only at this; omega
    · exact (hemp _ (ieq _ _)).2 h.2
    · exfalso; have := h.1; dsimp only at this; omega
  rw [decide_eq_false k3]
  have k4 : kd = 4 := by omega
  rw [decide_eq_true k4]
  simp only [cond_true, cond_false, F_numbers_may_c4]
  obtain ⟨y, hy, hyi⟩ : ∃ y, F_image_Read mx a = some y ∧ (y.2.2.2.2.2.2 = 0 ↔ isImg a) := by
    by_cases hl : 65536 < a.length
    · refine ⟨_, read_big hl, fun h => (by cases h), fun ⟨v, h, _⟩ => ?_⟩
      have := (writeS_ok h).2.2; omega
    · obtain ⟨y, hy, hR⟩ := read_tot hb (by omega)
      refine ⟨y, hy, fun h => ?_, fun ⟨v, h, hw⟩ => ?_⟩
      · rcases hR with rfl | ⟨v, rfl, w1, w2⟩
        · cases h
        · exact ⟨v, w2, w1⟩
      · rw [read_sm h hb hw.2] at hy
        rw [← Option.some.inj hy]; rfl
  simp only [hy, Option.bind_some]
  refine ⟨_, rfl, fun h => ⟨h1, h2, .inr (.inr (.inr ⟨k4, hyi.1 (by simpa using h)⟩))⟩, fun h => ?_⟩
  rcases h.2.2 with h | h | h | h
  · exfalso; have := h.1; dsimp only at this; omega
  · exfalso; have := h.1; dsimp only at this; omega
  · exfalso; have := h.1; dsimp only at this; omega
  · simpa using hyi.2 h.2
abbrev HR := Int × Int × Int × List (List Int) × List Msg × Int
/-- What hearing a message does. -/
def hearS (s : Snd) (v : Img) (m : Msg) : HR :=
  if m.1 = 2 then (if m.2.1 = s.1 ∧ m.2.2.1 ≤ s.2.1 then (s.1, s.2.1, mxI s.2.2.1 m.2.2.1, s.2.2.2, [], 0) else (s.1, s.2.1, s.2.2.1, s.2.2.2, [], 0))
  else if m.1 = 3 then (if m.2.1 = s.1 ∧ m.2.2.1 ≤ s.2.1 ∧ s.2.1 - (s.2.2.2.length : Int) ≤ m.2.2.1 then (s.1, s.2.1, s.2.2.1, s.2.2.2, behindL s m.2.2.1, 0)
    else if (writeS v).2 = 0 then (s.1, s.2.1, s.2.2.1, s.2.2.2, [(4, s.1, s.2.1, (writeS v).1)], 0) else (0, 0, 0, [], [], (writeS v).2))
  else (s.1, s.2.1, s.2.2.1, s.2.2.2, [], 0)
end Go.Proofs.YtepgfpihfpjefaaGreat
