/- The document's senders. -/
import Derived.Test.YtmkfifilpkhfoaaKXm
namespace Go.Proofs.Ytmkfifilpkhfoaa
open Go.Abs
set_option maxRecDepth 100000

theorem rbehind_ok {s : Snd} (hw : ∀ r ∈ s.2.2.2, r.length ≤ 140737488351232) (hn : inN s.2.1) (hl : s.2.2.2.length ≤ 32) (hl2 : (s.2.2.2.length : Int) ≤ s.2.1) {k : Int} (hk : 0 ≤ k ∧ k ≤ 2147483647) : F_ref24_behind mx (s.1, s.2.1, s.2.2.1, s.2.2.2, k) = some (behindL s k) := by
  obtain ⟨e, n, a, rs⟩ := s
  obtain ⟨n1, n2⟩ := hn
  dsimp only at n1 n2 hl hl2 hw ⊢
  have hlo : lowN (e, n, a, rs) k = mxI k (n - (rs.length : Int)) := rfl
  have hge : (lowN (e, n, a, rs) k = k ∧ n - (rs.length : Int) ≤ k) ∨ (lowN (e, n, a, rs) k = n - (rs.length : Int) ∧ k ≤ n - (rs.length : Int)) := by
    rw [hlo]; unfold mxI; split
    · exact .inr ⟨rfl, by omega⟩
    · exact .inl ⟨rfl, by omega⟩
  have hbl : behindL (e, n, a, rs) k = (List.range (n - lowN (e, n, a, rs) k).toNat).map fun i : Nat => msgN (e, n, a, rs) (lowN (e, n, a, rs) k + 1 + (i : Int)) := rfl
  rw [hbl]
  generalize lowN (e, n, a, rs) k = L at hge ⊢
  have w0 : IntKind.i64.wrap (n - (rs.length : Int)) = n - (rs.length : Int) := w64 (by omega) (by omega)
  have w1 : IntKind.i64.wrap (n - (rs.length : Int) + 1) = n - (rs.length : Int) + 1 := w64 (by omega) (by omega)
  have := iter_count (f := F_ref24_behind.l58 mx e n rs k) (fun i => ((List.range (n - (rs.length : Int) + (i : Int) - L).toNat).map (fun j : Nat => msgN (e, n, a, rs) (L + 1 + (j : Int))), (i : Int))) rs.length
    (r := (List.range (n - L).toNat).map fun i : Nat => msgN (e, n, a, rs) (L + 1 + (i : Int))) (lt_N0 (by omega)) (fun i hi => by
    have w2 : IntKind.i64.wrap (n - (rs.length : Int) + 1 + (i : Int)) = n - (rs.length : Int) + 1 + (i : Int) := w64 (by omega) (by omega)
    simp only [F_ref24_behind.l58, ltd hi, cond_true, w0, w1, w2, lez, Bool.and_self, Int.toNat_natCast, ble_t (hw _ (getD_lt hi)), List.length_singleton, List.length_map, List.length_range]
    by_cases hki : k < n - (rs.length : Int) + 1 + (i : Int)
    · obtain ⟨c, hc⟩ := Int.eq_ofNat_of_zero_le (show 0 ≤ n - (rs.length : Int) + (i : Int) - L by omega)
      have hc2 : (n - (rs.length : Int) + ((i + 1 : Nat) : Int) - L).toNat = c + 1 := by omega
      have hm : msgN (e, n, a, rs) (L + 1 + (c : Int)) = (1, e, n - (rs.length : Int) + 1 + (i : Int), rs.getD i []) := by
        unfold msgN
        dsimp only
        rw [show L + 1 + (c : Int) = n - (rs.length : Int) + 1 + (i : Int) by omega, show ((rs.length : Int) - 1 - (n - (n - (rs.length : Int) + 1 + (i : Int)))).toNat = i by omega]
      rw [decide_eq_true hki, cond_true, hc2, hc, Int.toNat_natCast, ble_t (by omega), cond_true, inc64 (by omega), List.range_succ, List.map_append, List.map_singleton, hm]
    · rw [decide_eq_false hki, cond_false, inc64 (by omega), show (n - (rs.length : Int) + ((i + 1 : Nat) : Int) - L).toNat = 0 by omega, show (n - (rs.length : Int) + (i : Int) - L).toNat = 0 by omega])
    (by simp only [F_ref24_behind.l58, nltd, cond_false, show n - (rs.length : Int) + (rs.length : Int) - L = n - L by omega])
  have this : iter mx (F_ref24_behind.l58 mx e n rs k) ((List.range (n - (rs.length : Int) + ((0 : Nat) : Int) - L).toNat).map (fun j : Nat => msgN (e, n, a, rs) (L + 1 + (j : Int))), (0 : Int)) = _ := this
  rw [show (n - (rs.length : Int) + ((0 : Nat) : Int) - L).toNat = 0 by omega] at this
  simp only [F_ref24_behind, show iter mx (F_ref24_behind.l58 mx e n rs k) (([] : List Msg), (0 : Int)) = _ from this, Option.bind_some]
theorem ragain_ok {s : Snd} (hs : wfS s) : (okN s → F_ref24_Again mx s = some (behindL s s.2.2.1, 0)) ∧ (¬ okN s → F_ref24_Again mx s = some ([], 8)) := by
  have hck := rcheck24_ok hs
  have hb := fun h1 h2 h3 => rbehind_ok (s := s) (fun r hr => (hs.2 r hr).2) h1 h2 h3 (k := s.2.2.1)
  obtain ⟨e, n, a, rs⟩ := s
  dsimp only at hck hb
  refine ⟨fun h1 => ?_, fun h1 => ?_⟩
  · obtain ⟨n1, n2, ⟨n3, n4⟩, ⟨n5, n6⟩, _⟩ := id h1
    have n2' := n2
    unfold inN at n1 n2
    dsimp only at n1 n2 n3 n4 n5 n6
    simp only [F_ref24_Again, hck.1 h1, Option.bind_some, bne_self_eq_false, cond_false, hb n2' n5 n6 ⟨n3, by omega⟩]
  · simp only [F_ref24_Again, hck.2 h1, Option.bind_some]; rfl
open Classical in
/-- What sending yields. -/
noncomputable def sendS (s : Snd) (cs : List Chg) : SR := if okN s then (if chErr cs = 0 then (if s.2.1 = 2147483647 then (0, 0, 0, [], 0, 0, 0, [], 9)
  else (s.1, s.2.1 + 1, s.2.2.1, lastR (s.2.2.2 ++ [chBytes cs]), 1, s.1, s.2.1 + 1, chBytes cs, 0)) else (0, 0, 0, [], 0, 0, 0, [], chErr cs)) else (0, 0, 0, [], 0, 0, 0, [], 8)
open Classical in
theorem nsend_ok {s : Snd} (hs : wfS s) {cs : List Chg} (hw : ∀ c ∈ cs, wfC c) : F_numbers_Send mx (s.1, s.2.1, s.2.2.1, s.2.2.2, cs) = some (sendS s cs) := by
  have hck := checkN_ok hs
  have hsend := send_ok hs hw
  unfold sendS
  obtain ⟨e, n, a, rs⟩ := s
  dsimp only at hck hsend ⊢
  by_cases h1 : okN (e, n, a, rs)
  case neg => rw [if_neg h1]; simp only [F_numbers_Send, hck.2 h1, Option.bind_some]; rfl
  by_cases h2 : chErr cs = 0
  case neg =>
    rw [if_pos h1, if_neg h2]
    simp only [F_numbers_Send, hck.1 h1, Option.bind_some, bne_self_eq_false, cond_false, changes_ok hw, bne_iff_ne.2 h2, cond_true]
  by_cases h3 : n = 2147483647
  · rw [if_pos h1, if_pos h2, if_pos h3]
    simp only [F_numbers_Send, hck.1 h1, Option.bind_some, bne_self_eq_false, cond_false, changes_ok hw, h2, if_pos, ieq, decide_eq_true h3, cond_true]
  rw [if_pos h1, if_pos h2, if_neg h3]
  rcases hsend with ⟨_, h⟩ | ⟨_, h⟩
  · exact absurd ⟨h1, h2, h3⟩ h
  · exact h
theorem rsend_ok {s : Snd} (hs : wfS s) {cs : List Chg} (hw : ∀ c ∈ cs, wfC c) : F_ref24_Send mx (s.1, s.2.1, s.2.2.1, s.2.2.2, cs) = some (sendS s cs) := by
  have hck := rcheck24_ok hs
  have htw := fun h1 => rtwin24_ok (s := s) h1 (fun r hr => (hs.2 r hr).2)
  unfold sendS
  obtain ⟨e, n, a, rs⟩ := s
  dsimp only at hck htw ⊢
  by_cases h1 : okN (e, n, a, rs)
  case neg => rw [if_neg h1]; simp only [F_ref24_Send, hck.2 h1, Option.bind_some]; rfl
  by_cases h2 : chErr cs = 0
  case neg =>
    rw [if_pos h1, if_neg h2]
    simp only [F_ref24_Send, hck.1 h1, Option.bind_some, bne_self_eq_false, cond_false, rchanges_ok hw, bne_iff_ne.2 h2, cond_true]
  by_cases h3 : n = 2147483647
  · rw [if_pos h1, if_pos h2, if_pos h3]
    simp only [F_ref24_Send, hck.1 h1, Option.bind_some, bne_self_eq_false, cond_false, rchanges_ok hw, h2, if_pos, ieq, decide_eq_true h3, cond_true]
  rw [if_pos h1, if_pos h2, if_neg h3]
  obtain ⟨n1, n2, ⟨n3, n4⟩, ⟨n5, n6⟩, _⟩ := id h1
  unfold inN at n1 n2
  dsimp only at n1 n2 n3 n4 n5 n6
  have hcl := (chErr_zero.1 h2).2.2
  have w1 : IntKind.i64.wrap (n + 1) = n + 1 := w64 (by omega) (by omega)
  have c1 : Nat.ble (rs.length + 1) 4294967296 = true := ble_t (by omega)
  have hl9 : (rs ++ [chBytes cs]).length = rs.length + 1 := by simp
  have h4 : F_ref24_Send.s2046 mx (e, n, a, rs) (n + 1) (rs ++ [chBytes cs]) = some (e, n + 1, a, lastR (rs ++ [chBytes cs])) := by
    simp only [F_ref24_Send.s2046, hl9, lastR]
    by_cases h5 : 32 < rs.length + 1
    · rw [decide_eq_true (show (32 : Int) < ((rs.length + 1 : Nat) : Int) by omega), decide_eq_true (show (1 : Int) ≤ ((rs.length + 1 : Nat) : Int) by omega)]
      simp only [Int.le_refl, decide_true, Bool.and_self, cond_true, Int.toNat_natCast, show rs.length + 1 - 32 = 1 by omega]
      rw [List.take_of_length_le (by rw [hl9]; exact Nat.le_refl _)]
    · rw [decide_eq_false (show ¬ (32 : Int) < ((rs.length + 1 : Nat) : Int) by omega), cond_false, show rs.length + 1 - 32 = 0 by omega, List.drop_zero]
  simp only [F_ref24_Send, hck.1 h1, Option.bind_some, bne_self_eq_false, cond_false, rchanges_ok hw, h2, if_pos, ieq, decide_eq_false h3, htw (show rs.length ≤ 1000000 by omega), w1, List.length_singleton, c1, cond_true,
    ble_t (show (chBytes cs).length ≤ 140737488351232 by omega), h4]
theorem nagain_ok {s : Snd} (hs : wfS s) : (okN s → F_numbers_Again mx s = some (behindL s s.2.2.1, 0)) ∧ (¬ okN s → F_numbers_Again mx s = some ([], 8)) := by
  refine ⟨again_ok hs, fun h1 => ?_⟩
  have hck := (checkN_ok hs).2 h1
  obtain ⟨e, n, a, rs⟩ := s
  simp only [F_numbers_Again, hck, Option.bind_some]; rfl
theorem rhear_ok {s : Snd} {v : Img} {m : Msg} (hws : wfS s) (hb : ∀ k ∈ v.2.2.1, k.2.1.length ≤ 140737488351232 ∧ k.2.2.1.length ≤ 140737488351232) (hwk : ∀ k ∈ v.2.2.1, wfK k) (hk : 0 ≤ m.1 ∧ m.1 ≤ 255) (hm : bytesI m.2.2.2) :
    ((okN s ∧ okI v ∧ mayM m) → F_ref24_Hear mx (s.1, s.2.1, s.2.2.1, s.2.2.2, v.1, v.2.1, v.2.2.1, v.2.2.2.1, v.2.2.2.2.1, v.2.2.2.2.2, m) = some (hearS s v m)) ∧
    (¬ (okN s ∧ okI v ∧ mayM m) → F_ref24_Hear mx (s.1, s.2.1, s.2.2.1, s.2.2.2, v.1, v.2.1, v.2.2.1, v.2.2.2.1, v.2.2.2.2.1, v.2.2.2.2.2, m) = some (0, 0, 0, [], [], 8)) := by
  have hck := rcheck24_ok hws
  have hic := rcheck_ok hb
  have hwr := rwrite_ok hb hwk
  obtain ⟨B, hB, hBi⟩ := rmay24_ok hk hm
  have hbeh := fun {k} (h1 : inN s.2.1) (h2 : s.2.2.2.length ≤ 32) (h3 : (s.2.2.2.length : Int) ≤ s.2.1) => rbehind_ok (s := s) (fun r hr => (hws.2 r hr).2) h1 h2 h3 (k := k)
  have htw := fun h1 => rtwin24_ok (s := s) h1 (fun r hr => (hws.2 r hr).2)
  obtain ⟨e, n, a, rs⟩ := s
  obtain ⟨kd, me, mn, mb⟩ := m
  obtain ⟨t, q, l, ie, inn, ib⟩ := v
  dsimp only at hck hic hwr hB hbeh htw ⊢
  by_cases h1 : okN (e, n, a, rs)
  case neg => exact ⟨fun h => absurd h.1 h1, fun _ => by simp only [F_ref24_Hear, F_ref24_Hear.s14, F_ref24_Hear.s30, hck.2 h1, Option.bind_some]; rfl⟩
  by_cases h2 : okI (t, q, l, ie, inn, ib)
  case neg => exact ⟨fun h => absurd h.2.1 h2, fun _ => by simp only [F_ref24_Hear, F_ref24_Hear.s14, F_ref24_Hear.s30, hck.1 h1, hic, if_neg h2, Option.bind_some, beq_self_eq_true, cond_true]; rfl⟩
  by_cases h3 : mayM (kd, me, mn, mb)
  case neg =>
    have : B = false := Bool.eq_false_iff.2 fun hh => h3 (hBi.1 hh)
    exact ⟨fun h => absurd h.2.2 h3, fun _ => by simp only [F_ref24_Hear, F_ref24_Hear.s14, F_ref24_Hear.s30, hck.1 h1, hic, if_pos h2, hB, this, Option.bind_some, beq_self_eq_true, cond_true, Bool.not_false]; rfl⟩
  have hBt : B = true := hBi.2 h3
  refine ⟨fun _ => ?_, fun h => absurd ⟨h1, h2, h3⟩ h⟩
  obtain ⟨n1, n2, ⟨n3, n4⟩, ⟨n5, n6⟩, _⟩ := id h1
  obtain ⟨m1, m2, _⟩ := id h3
  have n2' := n2
  unfold inN at n1 n2 m1 m2
  dsimp only at n1 n2 n3 n4 n5 n6 m1 m2
  have s508 : F_ref24_Hear.s508 mx e n kd me mn = some (decide (kd = 2 ∧ me = e ∧ mn ≤ n)) := by
    simp only [F_ref24_Hear.s508, ieq]
    by_cases g0 : kd = 2
    · by_cases g : me = e
      · rw [decide_eq_true g0, decide_eq_true g]; simp [g0, g]
      · rw [decide_eq_true g0, decide_eq_false g]; simp [g]
    · rw [decide_eq_false g0]; simp [g0]
  have w1 : IntKind.i64.wrap (n - (rs.length : Int)) = n - (rs.length : Int) := w64 (by omega) (by omega)
  have s2044 : F_ref24_Hear.s2044 mx e n rs me mn = some (decide (me = e ∧ mn ≤ n ∧ n - (rs.length : Int) ≤ mn)) := by
    simp only [F_ref24_Hear.s2044, ieq, w1]
    by_cases g : me = e
    · by_cases g2 : mn ≤ n
      · rw [decide_eq_true g, decide_eq_true g2]; simp [g, g2]
      · rw [decide_eq_true g, decide_eq_false g2]; simp [g2]
    · rw [decide_eq_false g]; simp [g]
  simp only [F_ref24_Hear, F_ref24_Hear.s14, F_ref24_Hear.s30, hck.1 h1, hic, if_pos h2, hB, hBt, Option.bind_some, beq_self_eq_true, cond_true, Bool.not_true, cond_false, bne_self_eq_false, htw (show rs.length ≤ 1000000 by omega), F_ref24_Hear.s254, s508, hearS]
  by_cases g2 : kd = 2
  · subst g2
    have e3 : ((2 : Int) != 3) = true := rfl
    by_cases g : me = e ∧ mn ≤ n
    · rw [decide_eq_true (show (2 : Int) = 2 ∧ me = e ∧ mn ≤ n from ⟨rfl, g⟩), if_pos rfl, if_pos g]
      simp only [cond_true, Option.bind_some, e3]
    · rw [decide_eq_false (show ¬ ((2 : Int) = 2 ∧ me = e ∧ mn ≤ n) from fun h => g h.2), if_pos rfl, if_neg g]
      simp only [cond_false, Option.bind_some, e3, cond_true]
  · rw [decide_eq_false (show ¬ (kd = 2 ∧ me = e ∧ mn ≤ n) from fun h => g2 h.1), if_neg g2]
    simp only [cond_false, Option.bind_some, bne_int]
    by_cases g3 : kd = 3
    · rw [decide_eq_true g3, if_pos g3]
      simp only [Bool.not_true, cond_false, F_ref24_Hear.s1022, s2044, Option.bind_some]
      by_cases g : me = e ∧ mn ≤ n ∧ n - (rs.length : Int) ≤ mn
      · rw [decide_eq_true g, if_pos g]
        simp only [cond_true, hbeh n2' n5 n6 m2, Option.bind_some]
      · rw [decide_eq_false g, if_neg g]
        simp only [cond_false, Option.bind_some, hwr]
        by_cases g4 : (writeS (t, q, l, ie, inn, ib)).2 = 0
        · rw [decide_eq_true g4, if_pos g4]; rfl
        · rw [decide_eq_false g4, if_neg g4]; rfl
    · rw [decide_eq_false g3, if_neg g3]
      rfl
end Go.Proofs.Ytmkfifilpkhfoaa
