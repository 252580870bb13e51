/- Numbered records. -/
import Derived.Test.YtmkfifilpkhfoaaKBy
namespace Go.Proofs.Ytmkfifilpkhfoaa
open Go.Abs
set_option maxRecDepth 100000
abbrev Snd := Int × Int × Int × List (List Int)
abbrev Msg := Int × Int × Int × List Int
abbrev M0 : Msg := (0, (0, (0, [])))
def inN (x : Int) : Prop := 0 ≤ x ∧ x ≤ 2147483647
instance (x : Int) : Decidable (inN x) := by unfold inN; infer_instance
def isCh (a : List Int) : Prop := ∃ cs, IsCh a cs
noncomputable def chB (a : List Int) : Bool := @decide (isCh a) (Classical.propDecidable _)
theorem chB_iff {a : List Int} : chB a = true ↔ isCh a := by unfold chB; exact @decide_eq_true_iff _ (Classical.propDecidable _)
theorem inN_ok (x : Int) : F_numbers_in mx x = some (decide (inN x)) := by
  simp only [F_numbers_in]
  by_cases h : 0 ≤ x
  · rw [decide_eq_true h, cond_true]; congr 1; exact decide_eq_decide.2 ⟨fun hh => ⟨h, hh⟩, fun hh => hh.2⟩
  · rw [decide_eq_false h, decide_eq_false (fun hh : inN x => h hh.1)]; rfl
theorem changesN_ok {a : List Int} (ha : bytesI a) : F_numbers_changes mx a = some (chB a) := by
  obtain ⟨y, h1, h2⟩ := of_tot ha
  simp only [F_numbers_changes, h1, Option.bind_some, ieq]
  congr 1
  rcases h2 with ⟨_, h2⟩ | ⟨h3, h2⟩ | ⟨h3, h2⟩
  · rw [h2, show chB a = false from Bool.eq_false_iff.2 fun hh => by
      obtain ⟨cs, hc⟩ := chB_iff.1 hh
      rw [of_sm hc ha] at h1
      have := Option.some.inj h1
      rw [← this] at h2; cases h2]
    rfl
  · rw [h2, show chB a = false from Bool.eq_false_iff.2 fun hh => by
      obtain ⟨cs, hc⟩ := chB_iff.1 hh
      obtain ⟨q1, q2, q3⟩ := hc
      have := (chErr_zero.1 q1).2.2
      rw [q2] at this; omega]
    rfl
  · rw [h3, chB_iff.2 ⟨_, h2⟩]; rfl
/-- A sender that may be. -/
def okN (s : Snd) : Prop := inN s.1 ∧ inN s.2.1 ∧ (0 ≤ s.2.2.1 ∧ s.2.2.1 ≤ s.2.1) ∧ (s.2.2.2.length ≤ 32 ∧ (s.2.2.2.length : Int) ≤ s.2.1) ∧ ∀ r ∈ s.2.2.2, isCh r
def wfS (s : Snd) : Prop := s.2.2.2.length ≤ 140737488351232 ∧ ∀ r ∈ s.2.2.2, bytesI r ∧ r.length ≤ 140737488351232
theorem checkN_ok {s : Snd} (hw : wfS s) : (okN s → F_numbers_Check mx s = some 0) ∧ (¬ okN s → F_numbers_Check mx s = some 8) := by
  obtain ⟨e, n, a, rs⟩ := s
  obtain ⟨hl, hb⟩ := hw
  dsimp only at hl hb
  have main : ∃ B, F_numbers_Check mx (e, n, a, rs) = some (if B then 0 else 8) ∧ (B = true ↔ okN (e, n, a, rs)) := by
    simp only [F_numbers_Check, inN_ok, Option.bind_some]
    by_cases h1 : inN e
    case neg => rw [decide_eq_false h1]; exact ⟨false, rfl, fun h => (by cases h), fun h => absurd h.1 h1⟩
    rw [decide_eq_true h1]
    by_cases h2 : inN n
    case neg => rw [decide_eq_false h2]; exact ⟨false, rfl, fun h => (by cases h), fun h => absurd h.2.1 h2⟩
    rw [decide_eq_true h2]
    by_cases h3 : 0 ≤ a
    case neg => rw [decide_eq_true (show a < 0 by omega)]; exact ⟨false, rfl, fun h => (by cases h), fun h => absurd h.2.2.1.1 h3⟩
    rw [decide_eq_false (show ¬ a < 0 by omega)]
    by_cases h4 : a ≤ n
    case neg => rw [decide_eq_true (show n < a by omega)]; exact ⟨false, rfl, fun h => (by cases h), fun h => absurd h.2.2.1.2 h4⟩
    rw [decide_eq_false (show ¬ n < a by omega)]
    have hmn : ∀ x : Int, mnI 32 n < x ↔ (32 < x ∨ n < x) := fun x => by unfold mnI; split <;> omega
    by_cases h5 : rs.length ≤ 32 ∧ (rs.length : Int) ≤ n
    case neg =>
      rw [decide_eq_true ((hmn _).2 (by omega))]; exact ⟨false, rfl, fun h => (by cases h), fun h => absurd h.2.2.2.1 h5⟩
    rw [decide_eq_false (fun hh => by rcases (hmn _).1 hh with hh | hh <;> omega)]
    simp only [Bool.not_true, cond_false, F_slices_ContainsFunc_byte, F_slices_IndexFunc_byte]
    have hstep : ∀ i, i < rs.length → F_slices_IndexFunc_byte.l26 mx rs (rs.length : Int) (i : Int) = some (bif chB (rs.getD i []) then .next ((i + 1 : Nat) : Int) else .fin (.inl (i : Int))) := fun i hi => by
      simp only [F_slices_IndexFunc_byte.l26, ltd hi, lez, Bool.and_self, cond_true, Int.toNat_natCast, F_numbers_Check_c1, changesN_ok (hb _ (getD_lt (d := []) hi)).1, Option.bind_some]
      rw [inc64 (by omega)]
      cases chB (rs.getD i []) <;> rfl
    rcases iter_scan (f := F_slices_IndexFunc_byte.l26 mx rs (rs.length : Int)) (fun i => (i : Int)) rs.length (fun i => chB (rs.getD i []) = true) (lt_N0 (by omega)) (fun i => .inl (i : Int)) (.inr ())
      (fun i hi hp _ => by rw [hstep i hi, hp]; rfl)
      (fun i hi hp _ => by rw [hstep i hi, Bool.eq_false_iff.2 hp]; rfl)
      (fun _ => by simp only [F_slices_IndexFunc_byte.l26, nltd, cond_false]) with ⟨h, e1⟩ | ⟨i, hi, hp, _, e1⟩
    · have e1 : iter mx (F_slices_IndexFunc_byte.l26 mx rs (rs.length : Int)) (0 : Int) = _ := e1
      rw [e1]
      refine ⟨true, rfl, fun _ => ⟨h1, h2, ⟨h3, h4⟩, h5, fun r hr => ?_⟩, fun _ => rfl⟩
      obtain ⟨j, hj, rfl⟩ := List.mem_iff_getElem.1 hr
      have := h j hj
      rw [getD_some hj] at this
      exact chB_iff.1 this
    · have e1 : iter mx (F_slices_IndexFunc_byte.l26 mx rs (rs.length : Int)) (0 : Int) = _ := e1
      rw [e1]
      refine ⟨false, ?_, fun h => (by cases h), fun h => absurd (chB_iff.2 (h.2.2.2.2 _ (getD_lt hi))) hp⟩
      simp only [Option.bind_some, lez, cond_true]; rfl
  obtain ⟨B, h1, h2⟩ := main
  refine ⟨fun h => by rw [h1, h2.2 h]; rfl, fun h => ?_⟩
  have : B = false := Bool.eq_false_iff.2 fun hh => h (h2.1 hh)
  rw [h1, this]; rfl
theorem twin_ok {s : Snd} (h1 : s.2.2.2.length ≤ 1000000) (h2 : ∀ r ∈ s.2.2.2, r.length ≤ 140737488351232) : F_numbers_twin mx s = some s := by
  obtain ⟨e, n, a, rs⟩ := s
  dsimp only at h1 h2
  have := iter_count (f := F_numbers_twin.l122 mx rs (rs.length : Int)) (fun i => ((i : Int), e, n, a, rs.take i)) rs.length (r := (e, n, a, rs)) (lt_N0 (by omega)) (fun i hi => by
    have c1 : Nat.ble (rs.getD i []).length 140737488351232 = true := ble_t (h2 _ (getD_lt hi))
    have c2 : Nat.ble ((rs.take i).length + 1) 4294967296 = true := ble_t (by rw [List.length_take]; omega)
    simp only [F_numbers_twin.l122, ltd hi, lez, Bool.and_self, cond_true, Int.toNat_natCast, C_bytes_Clone, c1, Option.bind_some, List.length_singleton, c2]
    rw [inc64 (by omega), take_succ' hi []]) (by simp only [F_numbers_twin.l122, nltd, cond_false, List.take_length])
  have this : iter mx (F_numbers_twin.l122 mx rs (rs.length : Int)) ((0 : Int), e, n, a, ([] : List (List Int))) = _ := this
  simp only [F_numbers_twin, this, Option.bind_some]
/-- A record as a message. -/
def msgN (s : Snd) (k : Int) : Msg := (1, s.1, k, s.2.2.2.getD (((s.2.2.2.length : Int) - 1) - (s.2.1 - k)).toNat [])
theorem message_ok {s : Snd} (hw : ∀ r ∈ s.2.2.2, r.length ≤ 140737488351232) (h1 : s.2.2.2.length ≤ 1000) {k : Int} (hk1 : s.2.1 - (s.2.2.2.length : Int) < k) (hk2 : k ≤ s.2.1) :
    F_numbers_message mx (s.1, s.2.1, s.2.2.1, s.2.2.2, k) = some (msgN s k) := by
  obtain ⟨e, n, a, rs⟩ := s
  dsimp only at hw h1 hk1 hk2 ⊢
  have w1 : IntKind.i64.wrap ((rs.length : Int) - 1) = (rs.length : Int) - 1 := w64 (by omega) (by omega)
  have w2 : IntKind.i64.wrap (n - k) = n - k := w64 (by omega) (by omega)
  obtain ⟨j, hj⟩ := Int.eq_ofNat_of_zero_le (show 0 ≤ (rs.length : Int) - 1 - (n - k) by omega)
  have w3 : IntKind.i64.wrap ((rs.length : Int) - 1 - (n - k)) = (j : Int) := by rw [w64 (by omega) (by omega)]; exact hj
  have hjl : j < rs.length := by omega
  have c1 : Nat.ble (rs.getD j []).length 140737488351232 = true := ble_t (hw _ (getD_lt hjl))
  simp only [F_numbers_message, w1, w2, w3, lez, ltd hjl, Bool.and_self, cond_true, Int.toNat_natCast, C_bytes_Clone, c1, Option.bind_some, msgN]
  rw [hj, Int.toNat_natCast]
def lowN (s : Snd) (k : Int) : Int := mxI k (s.2.1 - (s.2.2.2.length : Int))
def behindL (s : Snd) (k : Int) : List Msg := (List.range (s.2.1 - lowN s k).toNat).map fun i : Nat => msgN s (lowN s k + 1 + (i : Int))
theorem behind_ok {s : Snd} (hw : ∀ r ∈ s.2.2.2, r.length ≤ 140737488351232) (hn : inN s.2.1) (hl : s.2.2.2.length ≤ 32) {k : Int} (hk : 0 ≤ k ∧ k ≤ 2147483647) : F_numbers_behind mx (s.1, s.2.1, s.2.2.1, s.2.2.2, k) = some (behindL s k) := by
  have hmsg := fun {k} => message_ok (s := s) hw (by omega) (k := k)
  obtain ⟨e, n, a, rs⟩ := s
  obtain ⟨n1, n2⟩ := hn
  dsimp only at n1 n2 hl hmsg ⊢
  have w1 : IntKind.i64.wrap (n - (rs.length : Int)) = n - (rs.length : Int) := w64 (by omega) (by omega)
  have hlo : lowN (e, n, a, rs) k = mxI k (n - (rs.length : Int)) := rfl
  have hge : k ≤ lowN (e, n, a, rs) k ∧ n - (rs.length : Int) ≤ lowN (e, n, a, rs) k ∧ lowN (e, n, a, rs) k ≤ 2147483647 ∧ 0 ≤ lowN (e, n, a, rs) k := by
    rw [hlo]; unfold mxI; split <;> omega
  have w2 : IntKind.i64.wrap (lowN (e, n, a, rs) k + 1) = lowN (e, n, a, rs) k + 1 := w64 (by omega) (by omega)
  have hbl : behindL (e, n, a, rs) k = (List.range (n - lowN (e, n, a, rs) k).toNat).map fun i : Nat => msgN (e, n, a, rs) (lowN (e, n, a, rs) k + 1 + (i : Int)) := rfl
  simp only [F_numbers_behind, w1, ← hlo, w2, hbl]
  generalize lowN (e, n, a, rs) k = L at hge ⊢
  obtain ⟨g1, g2, g3, g4⟩ := hge
  have hcnt : (n - L).toNat ≤ 32 := by omega
  have := iter_count (f := F_numbers_behind.l26 mx e n a rs) (fun i => (L + 1 + (i : Int), (List.range i).map fun i : Nat => msgN (e, n, a, rs) (L + 1 + (i : Int)))) (n - L).toNat (r := (List.range (n - L).toNat).map fun i : Nat => msgN (e, n, a, rs) (L + 1 + (i : Int))) (lt_N0 (by omega)) (fun i hi => by
    have hm := hmsg (k := L + 1 + (i : Int)) (by omega) (by omega)
    have c1 : Nat.ble (((List.range i).map fun i : Nat => msgN (e, n, a, rs) (L + 1 + (i : Int))).length + 1) 4294967296 = true := ble_t (by rw [List.length_map, List.length_range]; omega)
    simp only [F_numbers_behind.l26, decide_eq_true (show L + 1 + (i : Int) ≤ n by omega), cond_true, hm, Option.bind_some, List.length_singleton, c1]
    rw [w64 (by omega) (by omega), List.range_succ, List.map_append]
    congr 3
    omega) (by
    simp only [F_numbers_behind.l26, decide_eq_false (show ¬ L + 1 + (((n - L).toNat : Nat) : Int) ≤ n by omega), cond_false])
  have this : iter mx (F_numbers_behind.l26 mx e n a rs) (L + 1 + ((0 : Nat) : Int), ([] : List Msg)) = _ := this
  rw [show L + 1 + ((0 : Nat) : Int) = L + 1 by omega] at this
  rw [this]; rfl
/-- Bytes that are an image. -/
def isImg (a : List Int) : Prop := ∃ v, writeS v = (a, 0) ∧ wfIm v
def mayM (m : Msg) : Prop := inN m.2.1 ∧ inN m.2.2.1 ∧ ((m.1 = 1 ∧ 0 < m.2.2.1 ∧ isCh m.2.2.2) ∨ (m.1 = 2 ∧ m.2.2.2 = []) ∨ (m.1 = 3 ∧ m.2.2.2 = []) ∨ (m.1 = 4 ∧ isImg m.2.2.2))
theorem mayN_ok {m : Msg} (hk : 0 ≤ m.1 ∧ m.1 ≤ 255) (hb : bytesI m.2.2.2) : ∃ B, F_numbers_may mx m = some B ∧ (B = true ↔ mayM m) := by
  obtain ⟨kd, e, n, a⟩ := m
  dsimp only at hk hb
  simp only [F_numbers_may, inN_ok, Option.bind_some]
  by_cases h1 : inN e
  case neg => rw [decide_eq_false h1]; exact ⟨false, rfl, fun h => (by cases h), fun h => absurd h.1 h1⟩
  rw [decide_eq_true h1]
  by_cases h2 : inN n
  case neg => rw [decide_eq_false h2]; exact ⟨false, rfl, fun h => (by cases h), fun h => absurd h.2.1 h2⟩
  rw [decide_eq_true h2]
  have bad : ∀ {x : Option Bool}, x = some false → (kd ≠ 1 ∧ kd ≠ 2 ∧ kd ≠ 3 ∧ kd ≠ 4) → ∃ B, x = some B ∧ (B = true ↔ mayM (kd, e, n, a)) := fun hx hn => ⟨false, hx, fun h => (by cases h), fun h => by
    rcases h.2.2 with h | h | h | h
    · exact absurd h.1 hn.1
    · exact absurd h.1 hn.2.1
    · exact absurd h.1 hn.2.2.1
    · exact absurd h.1 hn.2.2.2⟩
  simp only [cond_true]
  rw [w64 (n := kd) (by omega) (by omega)]
  by_cases h3 : 0 < kd
  case neg => rw [decide_eq_false h3]; exact bad rfl ⟨by omega, by omega, by omega, by omega⟩
  rw [decide_eq_true h3]
  by_cases h4 : kd < 5
  case neg => rw [decide_eq_false h4]; exact bad rfl ⟨by omega, by omega, by omega, by omega⟩
  rw [decide_eq_true h4]
  simp only [cond_true, ieq, decide_eq_false (show ¬ kd = 0 by omega), cond_false]
  have hemp : ∀ B : Bool, B = decide ((a.length : Int) = 0) → (B = true ↔ a = []) := fun B hB => by
    rw [hB, decide_eq_true_eq]
    exact ⟨fun h => List.length_eq_zero_iff.1 (by omega), fun h => by rw [h]; rfl⟩
  by_cases k1 : kd = 1
  · rw [decide_eq_true k1]
    simp only [cond_true, F_numbers_may_c1]
    by_cases g : 0 < n
    · rw [decide_eq_true g]
      simp only [cond_true, changesN_ok hb, Option.bind_some]
      refine ⟨_, rfl, fun h => ⟨h1, h2, .inl ⟨k1, g, chB_iff.1 h⟩⟩, fun h => ?_⟩
      rcases h.2.2 with h | h | h | h
      · exact chB_iff.2 h.2.2
      all_goals (exfalso; have := h.1; dsimp only at this; omega)
    · rw [decide_eq_false g]
      refine ⟨false, rfl, fun h => (by cases h), fun h => ?_⟩
      rcases h.2.2 with h | h | h | h
      · exact absurd h.2.1 g
      all_goals (exfalso; have := h.1; dsimp only at this; omega)
  rw [decide_eq_false k1]
  by_cases k2 : kd = 2
  · rw [decide_eq_true k2]
    simp only [cond_true, cond_false, F_numbers_may_c2, Option.bind_some]
    refine ⟨_, rfl, fun h => ⟨h1, h2, .inr (.inl ⟨k2, (hemp _ (ieq _ _)).1 h⟩)⟩, fun h => ?_⟩
    rcases h.2.2 with h | h | h | h
    · exfalso; have := h.1; dsimp only at this; omega
    · exact (hemp _ (ieq _ _)).2 h.2
    all_goals (exfalso; have := h.1; dsimp only at this; omega)
  rw [decide_eq_false k2]
  by_cases k3 : kd = 3
  · rw [decide_eq_true k3]
    simp only [cond_true, cond_false, F_numbers_may_c3, Option.bind_some]
    refine ⟨_, rfl, fun h => ⟨h1, h2, .inr (.inr (.inl ⟨k3, (hemp _ (ieq _ _)).1 h⟩))⟩, fun h => ?_⟩
    rcases h.2.2 with h | h | h | h
    · exfalso; have := h.1; dsimp only at this; omega
    · exfalso; have := h.1; dsimp only at this; omega
    · exact (hemp _ (ieq _ _)).2 h.2
    · exfalso; have := h.1; dsimp only at this; omega
  rw [decide_eq_false k3]
  have k4 : kd = 4 := by omega
  rw [decide_eq_true k4]
  simp only [cond_true, cond_false, F_numbers_may_c4]
  obtain ⟨y, hy, hyi⟩ : ∃ y, F_image_Read mx a = some y ∧ (y.2.2.2.2.2.2 = 0 ↔ isImg a) := by
    by_cases hl : 65536 < a.length
    · refine ⟨_, read_big hl, fun h => (by cases h), fun ⟨v, h, _⟩ => ?_⟩
      have := (writeS_ok h).2.2; omega
    · obtain ⟨y, hy, hR⟩ := read_tot hb (by omega)
      refine ⟨y, hy, fun h => ?_, fun ⟨v, h, hw⟩ => ?_⟩
      · rcases hR with rfl | ⟨v, rfl, w1, w2⟩
        · cases h
        · exact ⟨v, w2, w1⟩
      · rw [read_sm h hb hw.2] at hy
        rw [← Option.some.inj hy]; rfl
  simp only [hy, Option.bind_some]
  refine ⟨_, rfl, fun h => ⟨h1, h2, .inr (.inr (.inr ⟨k4, hyi.1 (by simpa using h)⟩))⟩, fun h => ?_⟩
  rcases h.2.2 with h | h | h | h
  · exfalso; have := h.1; dsimp only at this; omega
  · exfalso; have := h.1; dsimp only at this; omega
  · exfalso; have := h.1; dsimp only at this; omega
  · simpa using hyi.2 h.2
abbrev HR := Int × Int × Int × List (List Int) × List Msg × Int
/-- What hearing a message does. -/
def hearS (s : Snd) (v : Img) (m : Msg) : HR :=
  if m.1 = 2 then (if m.2.1 = s.1 ∧ m.2.2.1 ≤ s.2.1 then (s.1, s.2.1, mxI s.2.2.1 m.2.2.1, s.2.2.2, [], 0) else (s.1, s.2.1, s.2.2.1, s.2.2.2, [], 0))
  else if m.1 = 3 then (if m.2.1 = s.1 ∧ m.2.2.1 ≤ s.2.1 ∧ s.2.1 - (s.2.2.2.length : Int) ≤ m.2.2.1 then (s.1, s.2.1, s.2.2.1, s.2.2.2, behindL s m.2.2.1, 0)
    else if (writeS v).2 = 0 then (s.1, s.2.1, s.2.2.1, s.2.2.2, [(4, s.1, s.2.1, (writeS v).1)], 0) else (0, 0, 0, [], [], (writeS v).2))
  else (s.1, s.2.1, s.2.2.1, s.2.2.2, [], 0)
theorem hear_ok {s : Snd} {v : Img} {m : Msg} (hws : wfS s) (hb : ∀ k ∈ v.2.2.1, k.2.1.length ≤ 140737488351232 ∧ k.2.2.1.length ≤ 140737488351232) (hwk : ∀ k ∈ v.2.2.1, wfK k) (hk : 0 ≤ m.1 ∧ m.1 ≤ 255) (hm : bytesI m.2.2.2) :
    (okN s ∧ okI v ∧ mayM m ∧ F_numbers_Hear mx (s.1, s.2.1, s.2.2.1, s.2.2.2, v.1, v.2.1, v.2.2.1, v.2.2.2.1, v.2.2.2.2.1, v.2.2.2.2.2, m) = some (hearS s v m)) ∨
    (¬ (okN s ∧ okI v ∧ mayM m) ∧ F_numbers_Hear mx (s.1, s.2.1, s.2.2.1, s.2.2.2, v.1, v.2.1, v.2.2.1, v.2.2.2.1, v.2.2.2.2.1, v.2.2.2.2.2, m) = some (0, 0, 0, [], [], 8)) := by
  have hck := checkN_ok hws
  have hic := check_ok hb
  have hwr := write_ok hb hwk
  obtain ⟨B, hB, hBi⟩ := mayN_ok hk hm
  have hbeh := fun {k} (h1 : inN s.2.1) (h2 : s.2.2.2.length ≤ 32) => behind_ok (s := s) (fun r hr => (hws.2 r hr).2) h1 h2 (k := k)
  have htw := fun h1 => twin_ok (s := s) h1 (fun r hr => (hws.2 r hr).2)
  obtain ⟨e, n, a, rs⟩ := s
  obtain ⟨kd, me, mn, mb⟩ := m
  obtain ⟨t, q, l, ie, inn, ib⟩ := v
  dsimp only at hck hic hwr hB hbeh htw ⊢
  by_cases h1 : okN (e, n, a, rs)
  case neg => exact .inr ⟨fun h => h1 h.1, by simp only [F_numbers_Hear, hck.2 h1, Option.bind_some]; rfl⟩
  by_cases h2 : okI (t, q, l, ie, inn, ib)
  case neg => exact .inr ⟨fun h => h2 h.2.1, by simp only [F_numbers_Hear, hck.1 h1, hic, if_neg h2, Option.bind_some]; rfl⟩
  by_cases h3 : mayM (kd, me, mn, mb)
  case neg =>
    have : B = false := Bool.eq_false_iff.2 fun hh => h3 (hBi.1 hh)
    exact .inr ⟨fun h => h3 h.2.2, by simp only [F_numbers_Hear, hck.1 h1, hic, if_pos h2, hB, this, Option.bind_some]; rfl⟩
  refine .inl ⟨h1, h2, h3, ?_⟩
  obtain ⟨n1, n2, ⟨n3, n4⟩, ⟨n5, n6⟩, _⟩ := id h1
  obtain ⟨m1, m2, _⟩ := id h3
  unfold inN at n1 n2 m1 m2
  dsimp only at n1 n2 n3 n4 n5 n6 m1 m2
  have s126 : F_numbers_Hear.s126 mx me mn (e, n, a, rs) = some (decide (me = e ∧ mn ≤ n)) := by
    simp only [F_numbers_Hear.s126, ieq]
    by_cases g : me = e
    · rw [decide_eq_true g]; simp [g]
    · rw [decide_eq_false g, decide_eq_false (fun hh : me = e ∧ mn ≤ n => g hh.1)]; rfl
  simp only [F_numbers_Hear, hck.1 h1, hic, if_pos h2, hB, hBi.2 h3, Option.bind_some, bne_self_eq_false, cond_false, Bool.not_true, htw (by omega), s126]
  simp only [F_numbers_Hear.s254, hearS, ieq]
  by_cases k2 : kd = 2
  · rw [decide_eq_true k2, if_pos k2]
    by_cases g : me = e ∧ mn ≤ n
    · rw [decide_eq_true g, if_pos g]; rfl
    · rw [decide_eq_false g, if_neg g]; rfl
  rw [decide_eq_false k2, if_neg k2]
  by_cases k3 : kd = 3
  · rw [decide_eq_true k3, if_pos k3]
    have s652 : F_numbers_Hear.s65208 mx mn (e, n, a, rs) (decide (me = e ∧ mn ≤ n)) = some (decide (me = e ∧ mn ≤ n ∧ n - (rs.length : Int) ≤ mn)) := by
      simp only [F_numbers_Hear.s65208]
      rw [w64 (n := n - (rs.length : Int)) (by omega) (by omega)]
      by_cases g : me = e ∧ mn ≤ n
      · rw [decide_eq_true g, cond_true]; congr 1
        exact decide_eq_decide.2 ⟨fun hh => ⟨g.1, g.2, hh⟩, fun hh => hh.2.2⟩
      · rw [decide_eq_false g, decide_eq_false (fun hh : me = e ∧ mn ≤ n ∧ n - (rs.length : Int) ≤ mn => g ⟨hh.1, hh.2.1⟩)]; rfl
    simp only [cond_false, cond_true, F_numbers_Hear.s32604, s652, Option.bind_some]
    by_cases g : me = e ∧ mn ≤ n ∧ n - (rs.length : Int) ≤ mn
    · rw [decide_eq_true g, if_pos g]
      simp only [cond_true, hbeh n2 n5 (k := mn) m2, Option.bind_some]
    · rw [decide_eq_false g, if_neg g]
      simp only [cond_false, Option.bind_some, hwr, bne_int]
      by_cases g2 : (writeS (t, q, l, ie, inn, ib)).2 = 0
      · rw [decide_eq_true g2, if_pos g2]; rfl
      · rw [decide_eq_false g2, if_neg g2]; rfl
  · rw [decide_eq_false k3, if_neg k3]; rfl
end Go.Proofs.Ytmkfifilpkhfoaa
