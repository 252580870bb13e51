/- Numbered records. -/
import Derived.Test.YtajlmgpcfbhgjaaGreatKBy
namespace Go.Proofs.YtajlmgpcfbhgjaaGreat
open Go.Abs
set_option maxRecDepth 100000
abbrev Snd := Int × Int × Int × List (List Int)
abbrev Msg := Int × Int × Int × List Int
abbrev M0 : Msg := (0, (0, (0, [])))
def inN (x : Int) : Prop := 0 ≤ x ∧ x ≤ 2147483647
instance (x : Int) : Decidable (inN x) := by unfold inN; infer_instance
def isCh (a : List Int) : Prop := ∃ cs, IsCh a cs
noncomputable def chB (a : List Int) : Bool := @decide (isCh a) (Classical.propDecidable _)
theorem chB_iff {a : List Int} : chB a = true ↔ isCh a := by unfold chB; exact @decide_eq_true_iff _ (Classical.propDecidable _)
theorem inN_ok (x : Int) : F_numbers_in mx x = some (decide (inN x)) := by
  simp only [F_numbers_in]
  by_cases h : 0 ≤ x
  · rw [decide_eq_true h, cond_true]; congr 1; exact decide_eq_decide.2 ⟨fun hh => ⟨h, hh⟩, fun hh => hh.2⟩
  · rw [decide_eq_false h, decide_eq_false (fun hh : inN x => h hh.1)]; rfl
theorem changesN_ok {a : List Int} (ha : bytesI a) : F_numbers_changes mx a = some (chB a) := by
  obtain ⟨y, h1, h2⟩ := of_tot ha
  simp only [F_numbers_changes, h1, Option.bind_some, ieq]
  congr 1
  rcases h2 with ⟨_, h2⟩ | ⟨h3, h2⟩ | ⟨h3, h2⟩
  · rw [h2, show chB a = false from Bool.eq_false_iff.2 fun hh => by
      obtain ⟨cs, hc⟩ := chB_iff.1 hh
      rw [of_sm hc ha] at h1
      have := Option.some.inj h1
      rw [← this] at h2; cases h2]
    rfl
  · rw [h2, show chB a = false from Bool.eq_false_iff.2 fun hh => by
      obtain ⟨cs, hc⟩ := chB_iff.1 hh
      obtain ⟨q1, q2, q3⟩ := hc
      have := (chErr_zero.1 q1).2.2
      rw [q2] at this; omega]
    rfl
  · rw [h3, chB_iff.2 ⟨_, h2⟩]; rfl
/-- A sender that may be. -/
def okN (s : Snd) : Prop := inN s.1 ∧ inN s.2.1 ∧ (0 ≤ s.2.2.1 ∧ s.2.2.1 ≤ s.2.1) ∧ (s.2.2.2.length ≤ 32 ∧ (s.2.2.2.length : Int) ≤ s.2.1) ∧ ∀ r ∈ s.2.2.2, isCh r
def wfS (s : Snd) : Prop := s.2.2.2.length ≤ 140737488351232 ∧ ∀ r ∈ s.2.2.2, bytesI r ∧ r.length ≤ 140737488351232
theorem checkN_ok {s : Snd} (hw : wfS s) : (okN s → F_numbers_Check mx s = some 0) ∧ (¬ okN s → F_numbers_Check mx s = some 8) := by
  obtain ⟨e, n, a, rs⟩ := s
  obtain ⟨hl, hb⟩ := hw
  dsimp only at hl hb
  have main : ∃ B, F_numbers_Check mx (e, n, a, rs) = some (if B then 0 else 8) ∧ (B = true ↔ okN (e, n, a, rs)) := by
    simp only [F_numbers_Check, inN_ok, Option.bind_some]
    by_cases h1 : inN e
    case neg => rw [decide_eq_false h1]; exact ⟨false, rfl, fun h => (by cases h), fun h => absurd h.1 h1⟩
    rw [decide_eq_true h1]
    by_cases h2 : inN n
    case neg => rw [decide_eq_false h2]; exact ⟨false, rfl, fun h => (by cases h), fun h => absurd h.2.1 h2⟩
    rw [decide_eq_true h2]
    by_cases h3 : 0 ≤ a
    case neg => rw [decide_eq_true (show a < 0 by omega)]; exact ⟨false, rfl, fun h => (by cases h), fun h => absurd h.2.2.1.1 h3⟩
    rw [decide_eq_false (show ¬ a < 0 by omega)]
    by_cases h4 : a ≤ n
    case neg => rw [decide_eq_true (show n < a by omega)]; exact ⟨false, rfl, fun h => (by cases h), fun h => absurd h.2.2.1.2 h4⟩
    rw [decide_eq_false (show ¬ n < a by omega)]
    have hmn : ∀ x : Int, mnI 32 n < x ↔ (32 < x ∨ n < x) := fun x => by unfold mnI; split <;> omega
    by_cases h5 : rs.length ≤ 32 ∧ (rs.length : Int) ≤ n
    case neg =>
      rw [decide_eq_true ((hmn _).2 (by omega))]; exact ⟨false, rfl, fun h => (by cases h), fun h => absurd h.2.2.2.1 h5⟩
    rw [decide_eq_false (fun hh => by rcases (hmn _).1 hh with hh | hh <;> omega)]
    simp only [Bool.not_true, cond_false, F_slices_ContainsFunc_byte, F_slices_IndexFunc_byte]
    have hstep : ∀ i, i < rs.length → F_slices_IndexFunc_byte.l26 mx rs (rs.length : Int) (i : Int) = some (bif chB (rs.getD i []) then .next ((i + 1 : Nat) : Int) else .fin (.inl (i : Int))) := fun i hi => by
      simp only [F_slices_IndexFunc_byte.l26, ltd hi, lez, Bool.and_self, cond_true, Int.toNat_natCast, F_numbers_Check_c1, changesN_ok (hb _ (getD_lt (d := []) hi)).1, Option.bind_some]
      rw [inc64 (by omega)]
      cases chB (rs.getD i []) <;> rfl
    rcases iter_scan (f := F_slices_IndexFunc_byte.l26 mx rs (rs.length : Int)) (fun i => (i : Int)) rs.length (fun i => chB (rs.getD i []) = true) (lt_N0 (by omega)) (fun i => .inl (i : Int)) (.inr ())
      (fun i hi hp _ => by rw [hstep i hi, hp]; rfl)
      (fun i hi hp _ => by rw [hstep i hi, Bool.eq_false_iff.2 hp]; rfl)
      (fun _ => by simp only [F_slices_IndexFunc_byte.l26, nltd, cond_false]) with ⟨h, e1⟩ | ⟨i, hi, hp, _, e1⟩
    · have e1 : iter mx (F_slices_IndexFunc_byte.l26 mx rs (rs.length : Int)) (0 : Int) = _ := e1
      rw [e1]
      refine ⟨true, rfl, fun _ => ⟨h1, h2, ⟨h3, h4⟩, h5, fun r hr => ?_⟩, fun _ => rfl⟩
      obtain ⟨j, hj, rfl⟩ := List.mem_iff_getElem.1 hr
      have := h j hj
      rw [getD_some hj] at this
      exact chB_iff.1 this
    · have e1 : iter mx (F_slices_IndexFunc_byte.l26 mx rs (rs.length : Int)) (0 : Int) = _ := e1
      rw [e1]
      refine ⟨false, ?_, fun h => (by cases h), fun h => absurd (chB_iff.2 (h.2.2.2.2 _ (getD_lt hi))) hp⟩
      simp only [Option.bind_some, lez, cond_true]; rfl
  obtain ⟨B, h1, h2⟩ := main
  refine ⟨fun h => by rw [h1, h2.2 h]; rfl, fun h => ?_⟩
  have : B = false := Bool.eq_false_iff.2 fun hh => h (h2.1 hh)
  rw [h1, this]; rfl
/-- A record as a message. -/
def msgN (s : Snd) (k : Int) : Msg := (1, s.1, k, s.2.2.2.getD (((s.2.2.2.length : Int) - 1) - (s.2.1 - k)).toNat [])
def lowN (s : Snd) (k : Int) : Int := mxI k (s.2.1 - (s.2.2.2.length : Int))
def behindL (s : Snd) (k : Int) : List Msg := (List.range (s.2.1 - lowN s k).toNat).map fun i : Nat => msgN s (lowN s k + 1 + (i : Int))
/-- Bytes that are an image. -/
def isImg (a : List Int) : Prop := ∃ v, writeS v = (a, 0) ∧ wfIm v
def mayM (m : Msg) : Prop := inN m.2.1 ∧ inN m.2.2.1 ∧ ((m.1 = 1 ∧ 0 < m.2.2.1 ∧ isCh m.2.2.2) ∨ (m.1 = 2 ∧ m.2.2.2 = []) ∨ (m.1 = 3 ∧ m.2.2.2 = []) ∨ (m.1 = 4 ∧ isImg m.2.2.2))
abbrev HR := Int × Int × Int × List (List Int) × List Msg × Int
/-- What hearing a message does. -/
def hearS (s : Snd) (v : Img) (m : Msg) : HR :=
  if m.1 = 2 then (if m.2.1 = s.1 ∧ m.2.2.1 ≤ s.2.1 then (s.1, s.2.1, mxI s.2.2.1 m.2.2.1, s.2.2.2, [], 0) else (s.1, s.2.1, s.2.2.1, s.2.2.2, [], 0))
  else if m.1 = 3 then (if m.2.1 = s.1 ∧ m.2.2.1 ≤ s.2.1 ∧ s.2.1 - (s.2.2.2.length : Int) ≤ m.2.2.1 then (s.1, s.2.1, s.2.2.1, s.2.2.2, behindL s m.2.2.1, 0)
    else if (writeS v).2 = 0 then (s.1, s.2.1, s.2.2.1, s.2.2.2, [(4, s.1, s.2.1, (writeS v).1)], 0) else (0, 0, 0, [], [], (writeS v).2))
  else (s.1, s.2.1, s.2.2.1, s.2.2.2, [], 0)
end Go.Proofs.YtajlmgpcfbhgjaaGreat
