/- Messages as bytes: both readings, both writings. -/
import Derived.Test.YtmkfifilpkhfoaaKXm
import Derived.Test.YtmkfifilpkhfoaaKNc
namespace Go.Proofs.Ytmkfifilpkhfoaa
open Go.Abs
set_option maxRecDepth 100000
def wfM (m : Msg) : Prop := (0 ≤ m.1 ∧ m.1 ≤ 255) ∧ bytesI m.2.2.2
theorem nwrite_tot {m : Msg} (hw : wfM m) (hl : m.2.2.2.length ≤ 1000000) : (mayM m ∧ F_numbers_Write mx m = some (msgB m, 0)) ∨ (¬ mayM m ∧ F_numbers_Write mx m = some ([], 8)) := by
  rcases Classical.em (mayM m) with h | h
  · exact .inl ⟨h, nwrite_eq hw.1 hw.2 hl h⟩
  · exact .inr ⟨h, nwrite_bad hw.1 hw.2 h⟩
theorem rwrite24_tot {m : Msg} (hw : wfM m) (hl : m.2.2.2.length ≤ 1000000) : (mayM m ∧ F_ref24_Write mx m = some (msgB m, 0)) ∨ (¬ mayM m ∧ F_ref24_Write mx m = some ([], 8)) := by
  obtain ⟨B, hB, hBi⟩ := rmay24_ok hw.1 hw.2
  obtain ⟨kd, e, n, a⟩ := m
  dsimp only at hl
  rcases Classical.em (mayM (kd, e, n, a)) with h | h
  · refine .inl ⟨h, ?_⟩
    obtain ⟨m1, m2, _⟩ := id h
    unfold inN at m1 m2
    dsimp only at m1 m2
    have a1 := sm_len e.toNat
    have a2 := sm_len n.toNat
    have a3 := sm_len a.length
    have p1 := rsmall_wrap (n := e) m1.1 (by omega)
    have p2 := rsmall_wrap (n := n) m2.1 (by omega)
    have p3 := rtext_ok (s := a) (by omega)
    have c1 : Nat.ble (([kd] : List Int).length + (sm e.toNat).length) 140737488351232 = true := ble_t (by simp; omega)
    have c2 : Nat.ble (([kd] ++ sm e.toNat).length + (sm n.toNat).length) 140737488351232 = true := ble_t (by simp only [List.length_append, List.length_singleton]; omega)
    have c3 : Nat.ble (([kd] ++ sm e.toNat ++ sm n.toNat).length + (txt a).length) 140737488351232 = true := ble_t (by unfold txt; simp only [List.length_append, List.length_singleton]; omega)
    simp only [F_ref24_Write, hB, hBi.2 h, Option.bind_some, Bool.not_true, cond_false, p1, p2, p3, c1, c2, c3, cond_true]
    rw [show ([kd] ++ sm e.toNat ++ sm n.toNat) ++ txt a = msgB (kd, e, n, a) by unfold msgB; simp]
  · have hf : B = false := Bool.eq_false_iff.2 fun hh => h (hBi.1 hh)
    refine .inr ⟨h, ?_⟩
    simp only [F_ref24_Write, hB, hf, Option.bind_some, Bool.not_false, cond_true]
/-- What a reading tells. -/
def MsgTo (a : List Int) (y : Int × Int × Int × List Int × Int) : Prop :=
  (65600 < a.length ∧ y = (0, 0, 0, [], 3)) ∨ (a.length ≤ 65600 ∧ y = (0, 0, 0, [], 8)) ∨ (a.length ≤ 65600 ∧ ∃ m : Msg, mayM m ∧ wfM m ∧ msgB m = a ∧ y = (m.1, m.2.1, m.2.2.1, m.2.2.2, 0))
theorem nstep_tot {a : List Int} (ha : Rd a) : ∃ (v : Int) (n : Nat) (e : Int), F_code_Read mx a = some (v, (n : Int), e) ∧ 0 ≤ v ∧ n ≤ a.length ∧
    (∀ t x y, F_numbers_Read.l506 mx (a, (0 : Int), t, x, y) = some (.fin (.inl (8, 0, 0, 0))) ∨ (inN v ∧ Rd (a.drop n) ∧ F_numbers_Read.l506 mx (a, (0 : Int), t, x, y) = some (.next (a.drop n, (1 : Int), t, v, y)))) ∧
    (∀ t x y, F_numbers_Read.l506 mx (a, (1 : Int), t, x, y) = some (.fin (.inl (8, 0, 0, 0))) ∨ (inN v ∧ Rd (a.drop n) ∧ F_numbers_Read.l506 mx (a, (1 : Int), t, x, y) = some (.next (a.drop n, (2 : Int), t, x, v)))) ∧
    (e = 0 → v ≤ 2147483647 → (∀ t x y, F_numbers_Read.l506 mx (a, (0 : Int), t, x, y) = some (.next (a.drop n, (1 : Int), t, v, y))) ∧ (∀ t x y, F_numbers_Read.l506 mx (a, (1 : Int), t, x, y) = some (.next (a.drop n, (2 : Int), t, x, v)))) := by
  obtain ⟨v, n, e, h1, h2, h3, h4⟩ := codeRead_tot ha.1 (by have := ha.2; omega)
  refine ⟨v, n, e, h1, h2, h4, ?_⟩
  have hn : decide ((n : Int) ≤ (a.length : Int)) = true := decide_eq_true (by omega)
  have d0 : decide ((0 : Int) < 2) = true := rfl
  have d1 : decide ((1 : Int) < 2) = true := rfl
  have e0 : ((0 : Int) == 0) = true := rfl
  have e1 : ((1 : Int) == 0) = false := rfl
  have e2 : ((1 : Int) == 1) = true := rfl
  have w0 : IntKind.i64.wrap ((0 : Int) + 1) = 1 := rfl
  have w1 : IntKind.i64.wrap ((1 : Int) + 1) = 2 := rfl
  by_cases g1 : e = 0
  case neg =>
    have hf0 : ∀ t x y, F_numbers_Read.l506 mx (a, (0 : Int), t, x, y) = some (.fin (.inl (8, 0, 0, 0))) := fun t x y => by
      simp only [F_numbers_Read.l506, d0, e0, cond_true, h1, Option.bind_some, bne_int, decide_eq_false g1, Bool.not_false]
    have hf1 : ∀ t x y, F_numbers_Read.l506 mx (a, (1 : Int), t, x, y) = some (.fin (.inl (8, 0, 0, 0))) := fun t x y => by
      simp only [F_numbers_Read.l506, d1, e1, e2, cond_true, cond_false, h1, Option.bind_some, bne_int, decide_eq_false g1, Bool.not_false]
    exact ⟨fun t x y => .inl (hf0 t x y), fun t x y => .inl (hf1 t x y), fun h => absurd h g1⟩
  by_cases g2 : v ≤ 2147483647
  case neg =>
    have hf0 : ∀ t x y, F_numbers_Read.l506 mx (a, (0 : Int), t, x, y) = some (.fin (.inl (8, 0, 0, 0))) := fun t x y => by
      simp only [F_numbers_Read.l506, d0, e0, cond_true, h1, Option.bind_some, bne_int, decide_eq_true g1, Bool.not_true, cond_false, decide_eq_true (show (2147483647 : Int) < v by omega)]
    have hf1 : ∀ t x y, F_numbers_Read.l506 mx (a, (1 : Int), t, x, y) = some (.fin (.inl (8, 0, 0, 0))) := fun t x y => by
      simp only [F_numbers_Read.l506, d1, e1, e2, cond_true, cond_false, h1, Option.bind_some, bne_int, decide_eq_true g1, Bool.not_true, decide_eq_true (show (2147483647 : Int) < v by omega)]
    exact ⟨fun t x y => .inl (hf0 t x y), fun t x y => .inl (hf1 t x y), fun _ h => absurd h g2⟩
  have wv : IntKind.i64.wrap v = v := w64 (by omega) (by omega)
  have hf0 : ∀ t x y, F_numbers_Read.l506 mx (a, (0 : Int), t, x, y) = some (.next (a.drop n, (1 : Int), t, v, y)) := fun t x y => by
    simp only [F_numbers_Read.l506, d0, e0, cond_true, h1, Option.bind_some, bne_int, decide_eq_true g1, Bool.not_true, cond_false, decide_eq_false (show ¬ (2147483647 : Int) < v by omega), lez, hn, Int.le_refl, decide_true, Bool.and_self, Int.toNat_natCast, List.take_length, wv, w0]
  have hf1 : ∀ t x y, F_numbers_Read.l506 mx (a, (1 : Int), t, x, y) = some (.next (a.drop n, (2 : Int), t, x, v)) := fun t x y => by
    simp only [F_numbers_Read.l506, d1, e1, e2, cond_true, h1, Option.bind_some, bne_int, decide_eq_true g1, Bool.not_true, cond_false, decide_eq_false (show ¬ (2147483647 : Int) < v by omega), lez, hn, Int.le_refl, decide_true, Bool.and_self, Int.toNat_natCast, List.take_length, wv, w1]
  exact ⟨fun t x y => .inr ⟨⟨h2, g2⟩, ha.drop n, hf0 t x y⟩, fun t x y => .inr ⟨⟨h2, g2⟩, ha.drop n, hf1 t x y⟩, fun _ _ => ⟨hf0, hf1⟩⟩
theorem cut_tot {a : List Int} (ha : Rd a) : ∃ s r e, F_code_Cut mx a = some (s, r, e) ∧ Rd s := by
  obtain ⟨v, n, e, h1, h2, h3, h4⟩ := codeRead_tot ha.1 (by have := ha.2; omega)
  have hc := cut_eq ha.2 h1 h4 ⟨h2, h3⟩
  have hl := ha.2
  by_cases g : e = 0 ∧ v ≤ (a.length : Int) - (n : Int)
  · rw [if_pos g] at hc
    simp only [F_code_Cut, hc, Option.bind_some, C_bytes_Clone, ble_t (show (a.drop (n + v.toNat)).length ≤ 140737488351232 by rw [List.length_drop]; omega), cond_true]
    exact ⟨_, _, _, rfl, (ha.drop _).take _⟩
  · rw [if_neg g] at hc
    simp only [F_code_Cut, hc, Option.bind_some, C_bytes_Clone, ble_t (show ([] : List Int).length ≤ 140737488351232 by simp), cond_true]
    exact ⟨_, _, _, rfl, ⟨fun x hx => (by cases hx), by simp⟩⟩
theorem nread_tot {a : List Int} (ha : bytesI a) : ∃ y, F_numbers_Read mx a = some y ∧ MsgTo a y := by
  by_cases hl : 65600 < a.length
  · exact ⟨_, by simp only [F_numbers_Read, decide_eq_true (show (65600 : Int) < (a.length : Int) by omega), cond_true], .inl ⟨hl, rfl⟩⟩
  have hl2 : a.length ≤ 65600 := by omega
  have bad : MsgTo a (0, 0, 0, [], 8) := .inr (.inl ⟨hl2, rfl⟩)
  cases a with
  | nil => exact ⟨(0, 0, 0, [], 8), rfl, bad⟩
  | cons t r0 =>
    have hR0 : Rd r0 := ⟨fun x hx => ha x (List.mem_cons_of_mem _ hx), by rw [List.length_cons] at hl2; omega⟩
    have ht := ha t List.mem_cons_self
    have hlc : (t :: r0).length = r0.length + 1 := List.length_cons
    have hpre : ∀ z, (iter mx (F_numbers_Read.l506 mx) (r0, (0 : Int), t, (0 : Int), (0 : Int))) = some z → F_numbers_Read mx (t :: r0) = (some z).bind fun x21 =>
        match x21 with
        | .inl x22 => some (x22.2.1, x22.2.2.1, x22.2.2.2, ([] : List Int), x22.1)
        | .inr x23 =>
          (F_code_Cut mx x23.1).bind fun x24 =>
          (F_numbers_Write mx (x23.2.1, x23.2.2.1, x23.2.2.2, x24.1)).bind fun x25 =>
          bif x24.2.2 != (0 : Int) then some ((0 : Int), (0 : Int), (0 : Int), ([] : List Int), (8 : Int)) else
          bif x25.2 != (0 : Int) then some ((0 : Int), (0 : Int), (0 : Int), ([] : List Int), (8 : Int)) else
          (F_bytes_Equal mx (x25.1, (t :: r0))).bind fun x28 =>
          bif !x28 then
            some ((0 : Int), (0 : Int), (0 : Int), ([] : List Int), (8 : Int))
          else some (x23.2.1, x23.2.2.1, x23.2.2.2, x24.1, (0 : Int)) := fun z hz => by
      have d1 : (t :: r0).getD 0 0 = t := rfl
      have d2 : List.drop 1 (t :: r0) = r0 := rfl
      simp only [F_numbers_Read, decide_eq_false (show ¬ (65600 : Int) < ((t :: r0).length : Int) by omega), cond_false, ieq, decide_eq_false (show ¬ ((t :: r0).length : Int) = 0 by omega), decide_eq_true (show (0 : Int) < ((t :: r0).length : Int) by omega), cond_true, decide_eq_true (show (1 : Int) ≤ ((t :: r0).length : Int) by omega), Int.le_refl, decide_true, Bool.and_self, Int.toNat_natCast, List.take_length, d1, d2, hz]
      rfl
    obtain ⟨k, hk⟩ : ∃ k, N0 = k + 3 := ⟨N0 - 3, by unfold N0; omega⟩
    obtain ⟨v, n, e, p1, p2, p3, p4, _, _⟩ := nstep_tot hR0
    rcases p4 t 0 0 with q | ⟨iv, hR1, q⟩
    · have hit : iter mx (F_numbers_Read.l506 mx) (r0, (0 : Int), t, (0 : Int), (0 : Int)) = some (.inl (8, 0, 0, 0)) := by
        show iterN _ N0 _ = _
        rw [hk]; exact iterN_fin q
      exact ⟨_, by rw [hpre _ hit]; rfl, bad⟩
    obtain ⟨v2, n2, e2, p1, p2, p3, _, p5, _⟩ := nstep_tot hR1
    rcases p5 t v 0 with q2 | ⟨iv2, hR2, q2⟩
    · have hit : iter mx (F_numbers_Read.l506 mx) (r0, (0 : Int), t, (0 : Int), (0 : Int)) = some (.inl (8, 0, 0, 0)) := by
        show iterN _ N0 _ = _
        rw [hk, iterN_next q]; exact iterN_fin q2
      exact ⟨_, by rw [hpre _ hit]; rfl, bad⟩
    have hit : iter mx (F_numbers_Read.l506 mx) (r0, (0 : Int), t, (0 : Int), (0 : Int)) = some (.inr ((r0.drop n).drop n2, t, v, v2)) := by
      show iterN _ N0 _ = _
      rw [hk, iterN_next q, iterN_next q2]; exact iterN_fin rfl
    obtain ⟨s, r, e3, hc, hRs⟩ := cut_tot hR2
    have hwm : wfM (t, v, v2, s) := ⟨ht, hRs.1⟩
    have hlm : s.length ≤ 1000000 := by have := hRs.2; omega
    rw [hpre _ hit]
    simp only [Option.bind_some, hc, bne_int]
    rcases nwrite_tot hwm hlm with ⟨hm, hw⟩ | ⟨hm, hw⟩
    · rw [hw]; simp only [Option.bind_some]
      by_cases g1 : e3 = 0
      case neg => rw [decide_eq_false g1]; exact ⟨_, rfl, bad⟩
      rw [decide_eq_true g1]
      simp only [Bool.not_true, cond_false, decide_true, equal_ok, Option.bind_some]
      by_cases g2 : msgB (t, v, v2, s) = t :: r0
      · rw [decide_eq_true g2]
        exact ⟨_, rfl, .inr (.inr ⟨hl2, (t, v, v2, s), hm, hwm, g2, rfl⟩)⟩
      · rw [decide_eq_false g2]; exact ⟨_, rfl, bad⟩
    · rw [hw]; simp only [Option.bind_some]
      by_cases g1 : e3 = 0
      case neg => rw [decide_eq_false g1]; exact ⟨_, rfl, bad⟩
      rw [decide_eq_true g1]
      exact ⟨_, rfl, bad⟩
theorem rd_msg {m : Msg} (hm : mayM m) (hw : wfM m) : bytesI (msgB m) ∧ (msgB m).length ≤ 65600 ∧ Rd (m.2.2.2 ++ []) ∧ Rd (txt m.2.2.2 ++ []) ∧ Rd (sm m.2.2.1.toNat ++ txt m.2.2.2) ∧ Rd (sm m.2.1.toNat ++ (sm m.2.2.1.toNat ++ txt m.2.2.2)) ∧ (msgB m).length = 1 + (sm m.2.1.toNat).length + (sm m.2.2.1.toNat).length + (sm m.2.2.2.length).length + m.2.2.2.length := by
  obtain ⟨kd, e, n, a⟩ := m
  have hlen := may_len hm
  obtain ⟨m1, m2, _⟩ := id hm
  unfold inN at m1 m2
  dsimp only at m1 m2 hlen
  have a1 := sm_len e.toNat
  have a2 := sm_len n.toNat
  have a3 := sm_len a.length
  have b1 := sm_bytes (n := e.toNat) (by omega)
  have b2 := sm_bytes (n := n.toNat) (by omega)
  have b3 := sm_bytes (n := a.length) (by omega)
  have hba : bytesI a := hw.2
  have ht : bytesI (txt a) := by unfold txt; exact app_bytes b3 hba
  have htl : (txt a).length = (sm a.length).length + a.length := by unfold txt; rw [List.length_append]
  refine ⟨?_, ?_, ⟨by rw [List.append_nil]; exact hba, by rw [List.append_nil]; dsimp only; omega⟩, ⟨by rw [List.append_nil]; exact ht, by rw [List.append_nil]; dsimp only; omega⟩, ⟨app_bytes b2 ht, by rw [List.length_append]; dsimp only; omega⟩, ⟨app_bytes b1 (app_bytes b2 ht), by rw [List.length_append, List.length_append]; dsimp only; omega⟩, ?_⟩
  · unfold msgB
    exact app_bytes (fun x hx => by rw [List.mem_singleton] at hx; rw [hx]; exact hw.1) (app_bytes b1 (app_bytes b2 ht))
  · unfold msgB; simp only [List.length_append, List.length_singleton, htl]; omega
  · unfold msgB; simp only [List.length_append, List.length_singleton, htl]; omega
theorem nstep_sm {v : Int} (hv : inN v) {rest : List Int} (hr : Rd (sm v.toNat ++ rest)) :
    (∀ t x y, F_numbers_Read.l506 mx (sm v.toNat ++ rest, (0 : Int), t, x, y) = some (.next (rest, (1 : Int), t, v, y))) ∧ (∀ t x y, F_numbers_Read.l506 mx (sm v.toNat ++ rest, (1 : Int), t, x, y) = some (.next (rest, (2 : Int), t, x, v))) := by
  obtain ⟨v', n, e, h1, h2, h4, _, _, h5⟩ := nstep_tot hr
  unfold inN at hv
  have h := codeRead_sm (n := v.toNat) (by omega) (rest := rest) hr.right.1 (by have := hr.right.2; omega)
  rw [h] at h1
  injection h1 with h1
  injection h1 with g1 g2
  injection g2 with g2 g3
  have g2 : (sm v.toNat).length = n := by omega
  obtain ⟨f0, f1⟩ := h5 g3.symm (by omega)
  rw [← g2, List.drop_left' rfl] at f0 f1
  have g1 : v' = v := by omega
  rw [g1] at f0 f1
  exact ⟨f0, f1⟩
theorem nread_sm {m : Msg} (hm : mayM m) (hw : wfM m) : F_numbers_Read mx (msgB m) = some (m.1, m.2.1, m.2.2.1, m.2.2.2, 0) := by
  obtain ⟨hb, hl, r0, r1, r2, r3, hlen⟩ := rd_msg hm hw
  have hlm := may_len hm
  obtain ⟨kd, e, n, a⟩ := m
  obtain ⟨m1, m2, _⟩ := id hm
  dsimp only at r0 r1 r2 r3 m1 m2 hlm
  have hwr := nwrite_eq hw.1 hw.2 (by dsimp only; omega) hm
  have hm0 : msgB (kd, e, n, a) = kd :: (sm e.toNat ++ (sm n.toNat ++ txt a)) := rfl
  have hit : iter mx (F_numbers_Read.l506 mx) (sm e.toNat ++ (sm n.toNat ++ txt a), (0 : Int), kd, (0 : Int), (0 : Int)) = some (.inr (txt a, kd, e, n)) := by
    obtain ⟨k, hk⟩ : ∃ k, N0 = k + 3 := ⟨N0 - 3, by unfold N0; omega⟩
    show iterN _ N0 _ = _
    rw [hk, iterN_next ((nstep_sm m1 r3).1 _ _ _), iterN_next ((nstep_sm m2 r2).2 _ _ _)]; exact iterN_fin rfl
  have hcr := codeRead_sm (n := a.length) (by omega) (rest := a) hw.2 (by omega)
  have htl : (sm a.length ++ a).length = (sm a.length).length + a.length := by rw [List.length_append]
  have hcut := cut_eq (a := sm a.length ++ a) (by have := r1.2; rw [List.append_nil] at this; exact this) hcr (by omega) ⟨by omega, by omega⟩
  rw [if_pos ⟨rfl, by omega⟩, Int.toNat_natCast, List.drop_left' rfl, List.take_length] at hcut
  have hcut : F_code_cut mx (txt a) = some (a, (sm a.length ++ a).drop ((sm a.length).length + a.length), 0) := hcut
  have hC : F_code_Cut mx (txt a) = some (a, (sm a.length ++ a).drop ((sm a.length).length + a.length), 0) := by
    simp only [F_code_Cut, hcut, Option.bind_some, C_bytes_Clone, ble_t (show ((sm a.length ++ a).drop ((sm a.length).length + a.length)).length ≤ 140737488351232 by rw [List.length_drop]; omega), cond_true]
  have d1 : (kd :: (sm e.toNat ++ (sm n.toNat ++ txt a))).getD 0 0 = kd := rfl
  have d2 : List.drop 1 (kd :: (sm e.toNat ++ (sm n.toNat ++ txt a))) = sm e.toNat ++ (sm n.toNat ++ txt a) := rfl
  rw [hm0] at hl hwr ⊢
  have hlc : (kd :: (sm e.toNat ++ (sm n.toNat ++ txt a))).length = (sm e.toNat ++ (sm n.toNat ++ txt a)).length + 1 := List.length_cons
  simp only [F_numbers_Read, decide_eq_false (show ¬ (65600 : Int) < ((kd :: (sm e.toNat ++ (sm n.toNat ++ txt a))).length : Int) by omega), cond_false, ieq, decide_eq_false (show ¬ ((kd :: (sm e.toNat ++ (sm n.toNat ++ txt a))).length : Int) = 0 by omega), decide_eq_true (show (0 : Int) < ((kd :: (sm e.toNat ++ (sm n.toNat ++ txt a))).length : Int) by omega), cond_true, decide_eq_true (show (1 : Int) ≤ ((kd :: (sm e.toNat ++ (sm n.toNat ++ txt a))).length : Int) by omega), Int.le_refl, decide_true, Bool.and_self, Int.toNat_natCast, List.take_length, d1, d2, hit, Option.bind_some, hC, hwr, bne_self_eq_false, equal_ok, Bool.not_true]
theorem rread24_tot {a : List Int} (ha : bytesI a) : ∃ y, F_ref24_Read mx a = some y ∧ MsgTo a y := by
  by_cases hl : 65600 < a.length
  · exact ⟨_, by simp only [F_ref24_Read, decide_eq_true (show (65600 : Int) < (a.length : Int) by omega), cond_true], .inl ⟨hl, rfl⟩⟩
  have hl2 : a.length ≤ 65600 := by omega
  have bad : MsgTo a (0, 0, 0, [], 8) := .inr (.inl ⟨hl2, rfl⟩)
  have hR : Rd a := ⟨ha, by omega⟩
  obtain ⟨t, r0, b0, p0, hR0, ht⟩ : ∃ v rest bad', F_ref01_Reader_Byte mx (a, false) = some (v, rest, bad') ∧ Rd rest ∧ (0 ≤ v ∧ v ≤ 255) := by
    cases a with
    | nil => exact ⟨0, [], true, rfl, hR, by omega, by omega⟩
    | cons t r0 => exact ⟨t, r0, false, rbyte_sm t r0 false, ⟨fun x hx => ha x (List.mem_cons_of_mem _ hx), by rw [List.length_cons] at hl2; omega⟩, ha t List.mem_cons_self⟩
  obtain ⟨e, r1, b1, p1, he, _, hR1⟩ := rnum_tot hR0 b0 (m := 2147483647) (by omega)
  obtain ⟨n, r2, b2, p2, hn, _, hR2⟩ := rnum_tot hR1 b1 (m := 2147483647) (by omega)
  obtain ⟨s, r3, b3, p3, hRs, _⟩ := rtxt_tot hR2 b2
  have we : IntKind.i64.wrap e = e := w64 (by omega) (by omega)
  have wn : IntKind.i64.wrap n = n := w64 (by omega) (by omega)
  simp only [F_ref24_Read, decide_eq_false (show ¬ (65600 : Int) < (a.length : Int) by omega), cond_false, p0, p1, p2, p3, we, wn, Option.bind_some]
  cases b3 with
  | true => exact ⟨_, rfl, bad⟩
  | false =>
    have hwm : wfM (t, e, n, s) := ⟨ht, hRs.1⟩
    have hlm : s.length ≤ 1000000 := by have := hRs.2; omega
    simp only [cond_false]
    rcases rwrite24_tot hwm hlm with ⟨hm, hw⟩ | ⟨hm, hw⟩
    · rw [hw]; simp only [Option.bind_some, bne_self_eq_false, cond_false]
      by_cases g2 : msgB (t, e, n, s) = a
      · rw [g2, beq_self_eq_true]
        exact ⟨_, rfl, .inr (.inr ⟨hl2, (t, e, n, s), hm, hwm, g2, rfl⟩)⟩
      · rw [beq_eq_false_iff_ne.2 g2]; exact ⟨_, rfl, bad⟩
    · rw [hw]; exact ⟨_, rfl, bad⟩
theorem rread24_sm {m : Msg} (hm : mayM m) (hw : wfM m) : F_ref24_Read mx (msgB m) = some (m.1, m.2.1, m.2.2.1, m.2.2.2, 0) := by
  obtain ⟨hb, hl, r0, r1, r2, r3, hlen⟩ := rd_msg hm hw
  have hlm := may_len hm
  obtain ⟨kd, e, n, a⟩ := m
  obtain ⟨m1, m2, _⟩ := id hm
  dsimp only at r0 r1 r2 r3 m1 m2 hlm
  unfold inN at m1 m2
  have hm0 : msgB (kd, e, n, a) = kd :: (sm e.toNat ++ (sm n.toNat ++ txt a)) := rfl
  rcases rwrite24_tot hw (by dsimp only; omega) with ⟨_, hwr⟩ | ⟨hmm, _⟩
  case inr => exact absurd hm hmm
  have p1 := rnum_sm (n := e.toNat) (by omega) (rest := sm n.toNat ++ txt a) r2 false (m := 2147483647) (by omega)
  have p2 := rnum_sm (n := n.toNat) (by omega) (rest := txt a) (by rw [List.append_nil] at r1; exact r1) false (m := 2147483647) (by omega)
  rw [Int.toNat_of_nonneg m1.1] at p1
  rw [Int.toNat_of_nonneg m2.1] at p2
  have p3 := rtxt_sm (s := a) (rest := []) r0 false
  rw [List.append_nil] at p3
  have we : IntKind.i64.wrap e = e := w64 (by omega) (by omega)
  have wn : IntKind.i64.wrap n = n := w64 (by omega) (by omega)
  rw [hm0] at hl hwr ⊢
  simp only [F_ref24_Read, decide_eq_false (show ¬ (65600 : Int) < ((kd :: (sm e.toNat ++ (sm n.toNat ++ txt a))).length : Int) by omega), cond_false, rbyte_sm, p1, p2, p3, we, wn, Option.bind_some, hwr, bne_self_eq_false, beq_self_eq_true, Bool.not_true]
/-- Both readings tell the same. -/
theorem read24_both {a : List Int} (ha : bytesI a) : ∃ y, F_numbers_Read mx a = some y ∧ F_ref24_Read mx a = some y ∧ MsgTo a y := by
  obtain ⟨y, hy, hm⟩ := nread_tot ha
  obtain ⟨z, hz, hn⟩ := rread24_tot ha
  refine ⟨y, hy, ?_, hm⟩
  rcases hm with ⟨h1, h2⟩ | ⟨h1, h2⟩ | ⟨h1, m, h2, h3, h4, h5⟩
  · rcases hn with ⟨g1, g2⟩ | ⟨g1, g2⟩ | ⟨g1, _⟩
    · rw [hz, h2, g2]
    · omega
    · omega
  · rcases hn with ⟨g1, g2⟩ | ⟨g1, g2⟩ | ⟨g1, m, g2, g3, g4, g5⟩
    · omega
    · rw [hz, h2, g2]
    · have := nread_sm g2 g3
      rw [g4, hy, h2] at this
      injection this with this
      injection this with _ this; injection this with _ this; injection this with _ this; injection this with _ this
      exact absurd this (by decide)
  · have := rread24_sm h2 h3
    rw [h4] at this
    rw [this, h5]
end Go.Proofs.Ytmkfifilpkhfoaa
