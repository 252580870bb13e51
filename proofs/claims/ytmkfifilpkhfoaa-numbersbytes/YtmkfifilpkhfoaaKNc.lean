/- Records are sent. -/
import Derived.Test.YtmkfifilpkhfoaaKNb
namespace Go.Proofs.Ytmkfifilpkhfoaa
open Go.Abs
set_option maxRecDepth 100000
theorem newN_ok (e n : Int) : F_numbers_New mx (e, n) = some (if inN e ∧ inN n then (e, n, 0, [], 0) else (0, 0, 0, [], 2)) := by
  simp only [F_numbers_New, inN_ok, Option.bind_some]
  by_cases h1 : inN e
  case neg => rw [decide_eq_false h1, if_neg (fun h => h1 h.1)]; rfl
  by_cases h2 : inN n
  case neg => rw [decide_eq_true h1, decide_eq_false h2, if_neg (fun h => h2 h.2)]; rfl
  rw [decide_eq_true h1, decide_eq_true h2, if_pos ⟨h1, h2⟩]; rfl
/-- The last records. -/
def lastR (l : List (List Int)) : List (List Int) := l.drop (l.length - 32)
theorem lastR_len (l : List (List Int)) : (lastR l).length = min l.length 32 := by unfold lastR; rw [List.length_drop]; omega
abbrev SR := Int × Int × Int × List (List Int) × Int × Int × Int × List Int × Int
theorem send_ok {s : Snd} (hs : wfS s) {cs : List Chg} (hw : ∀ c ∈ cs, wfC c) :
    (∃ e, e ≠ 0 ∧ F_numbers_Send mx (s.1, s.2.1, s.2.2.1, s.2.2.2, cs) = some (0, 0, 0, [], 0, 0, 0, [], e)) ∧ ¬ (okN s ∧ chErr cs = 0 ∧ s.2.1 ≠ 2147483647) ∨
    ((okN s ∧ chErr cs = 0 ∧ s.2.1 ≠ 2147483647) ∧ F_numbers_Send mx (s.1, s.2.1, s.2.2.1, s.2.2.2, cs) = some (s.1, s.2.1 + 1, s.2.2.1, lastR (s.2.2.2 ++ [chBytes cs]), 1, s.1, s.2.1 + 1, chBytes cs, 0)) := by
  have hck := checkN_ok hs
  have htw := fun h1 => twin_ok (s := s) h1 (fun r hr => (hs.2 r hr).2)
  obtain ⟨e, n, a, rs⟩ := s
  dsimp only at hck htw ⊢
  by_cases h1 : okN (e, n, a, rs)
  case neg => exact .inl ⟨⟨8, by decide, by simp only [F_numbers_Send, hck.2 h1, Option.bind_some]; rfl⟩, fun h => h1 h.1⟩
  by_cases h2 : chErr cs = 0
  case neg =>
    refine .inl ⟨⟨chErr cs, h2, ?_⟩, fun h => h2 h.2.1⟩
    simp only [F_numbers_Send, hck.1 h1, Option.bind_some, bne_self_eq_false, cond_false, changes_ok hw, bne_iff_ne.2 h2, cond_true]
  by_cases h3 : n = 2147483647
  · refine .inl ⟨⟨9, by decide, ?_⟩, fun h => h.2.2 h3⟩
    simp only [F_numbers_Send, hck.1 h1, Option.bind_some, bne_self_eq_false, cond_false, changes_ok hw, h2, if_pos, ieq, decide_eq_true h3, cond_true]
  refine .inr ⟨⟨h1, h2, h3⟩, ?_⟩
  obtain ⟨n1, n2, ⟨n3, n4⟩, ⟨n5, n6⟩, _⟩ := id h1
  unfold inN at n1 n2
  dsimp only at n1 n2 n3 n4 n5 n6
  have hcl := (chErr_zero.1 h2).2.2
  have w1 : IntKind.i64.wrap (n + 1) = n + 1 := w64 (by omega) (by omega)
  have c1 : Nat.ble (rs.length + 1) 4294967296 = true := ble_t (by omega)
  have hl9 : (rs ++ [chBytes cs]).length = rs.length + 1 := by simp
  have w2 : mxI 0 (IntKind.i64.wrap (((rs ++ [chBytes cs]).length : Int) - 32)) = (((rs ++ [chBytes cs]).length - 32 : Nat) : Int) := by
    rw [w64 (by omega) (by omega)]; unfold mxI; split <;> omega
  have hlr : (lastR (rs ++ [chBytes cs])).length ≤ 32 := by rw [lastR_len]; omega
  have hlr1 : 1 ≤ (lastR (rs ++ [chBytes cs])).length := by rw [lastR_len, hl9]; omega
  have hlast : (lastR (rs ++ [chBytes cs])).getD ((lastR (rs ++ [chBytes cs])).length - 1) [] = chBytes cs := by
    rw [getD_some (by omega)]
    unfold lastR at hlr1 ⊢
    rw [List.length_drop] at hlr1
    simp only [List.getElem_drop, List.length_drop, hl9]
    rw [List.getElem_append_right (by omega)]
    simp
  have hm := message_ok (s := (e, n + 1, a, lastR (rs ++ [chBytes cs]))) (fun r hr => by
    have hr := List.mem_of_mem_drop hr
    rcases List.mem_append.1 hr with hr | hr
    · exact (hs.2 r hr).2
    · rw [List.mem_singleton] at hr; subst hr; omega) (by dsimp only; omega) (k := n + 1) (by dsimp only; omega) (by dsimp only; omega)
  have hmv : msgN (e, n + 1, a, lastR (rs ++ [chBytes cs])) (n + 1) = (1, e, n + 1, chBytes cs) := by
    unfold msgN
    dsimp only
    rw [show (((lastR (rs ++ [chBytes cs])).length : Int) - 1 - (n + 1 - (n + 1))).toNat = (lastR (rs ++ [chBytes cs])).length - 1 by omega, hlast]
  rw [hmv] at hm
  dsimp only at hm
  have hd : (rs ++ [chBytes cs]).drop ((rs ++ [chBytes cs]).length - 32) = lastR (rs ++ [chBytes cs]) := rfl
  simp only [F_numbers_Send, hck.1 h1, Option.bind_some, bne_self_eq_false, cond_false, changes_ok hw, h2, if_pos, ieq, decide_eq_false h3, htw (show rs.length ≤ 1000000 by omega), w1, List.length_singleton, c1, cond_true, w2, lez,
    decide_eq_true (show (((rs ++ [chBytes cs]).length - 32 : Nat) : Int) ≤ ((rs ++ [chBytes cs]).length : Int) by omega), Int.le_refl, decide_true, Bool.and_self, Int.toNat_natCast, List.take_length, hd, hm]
theorem again_ok {s : Snd} (hs : wfS s) (h1 : okN s) : F_numbers_Again mx s = some (behindL s s.2.2.1, 0) := by
  have hck := (checkN_ok hs).1 h1
  have hb := behind_ok (s := s) (fun r hr => (hs.2 r hr).2) h1.2.1 h1.2.2.2.1.1 (k := s.2.2.1)
  obtain ⟨e, n, a, rs⟩ := s
  obtain ⟨n1, n2, ⟨n3, n4⟩, _⟩ := id h1
  unfold inN at n1 n2
  dsimp only at n1 n2 n3 n4 hck hb
  simp only [F_numbers_Again, hck, Option.bind_some, bne_self_eq_false, cond_false, hb ⟨n3, by omega⟩]
def msgB (m : Msg) : List Int := [m.1] ++ (sm m.2.1.toNat ++ (sm m.2.2.1.toNat ++ txt m.2.2.2))
theorem nwrite_eq {m : Msg} (hk : 0 ≤ m.1 ∧ m.1 ≤ 255) (hb : bytesI m.2.2.2) (hl : m.2.2.2.length ≤ 1000000) (hm : mayM m) : F_numbers_Write mx m = some (msgB m, 0) := by
  obtain ⟨B, hB, hBi⟩ := mayN_ok hk hb
  obtain ⟨kd, e, n, a⟩ := m
  obtain ⟨m1, m2, _⟩ := id hm
  unfold inN at m1 m2
  dsimp only at m1 m2 hl
  have a1 := sm_len e.toNat
  have a2 := sm_len n.toNat
  have a3 := sm_len a.length
  have c1 : Nat.ble (([kd] : List Int).length + (sm e.toNat).length) 140737488351232 = true := ble_t (by simp; omega)
  have c2 : Nat.ble (([kd] ++ sm e.toNat).length + (sm n.toNat).length) 140737488351232 = true := ble_t (by simp only [List.length_append, List.length_singleton]; omega)
  have c3 : Nat.ble (([kd] ++ sm e.toNat ++ sm n.toNat).length + (sm a.length).length) 140737488351232 = true := ble_t (by simp only [List.length_append, List.length_singleton]; omega)
  have p1 := small_wrap (n := e) m1.1 (by omega)
  have p2 := small_wrap (n := n) m2.1 (by omega)
  have p3 := small_wrap (n := (a.length : Int)) (by omega) (by omega)
  rw [Int.toNat_natCast] at p3
  have s0 : F_numbers_Write.l122 mx [e, n, (a.length : Int)] (3 : Int) ([kd], (0 : Int)) = some (.next ([kd] ++ sm e.toNat, (1 : Int))) := by
    show (F_code_Small mx (IntKind.u64.wrap e)).bind _ = _
    rw [p1]
    simp only [Option.bind_some, c1, cond_true]; rfl
  have s1 : F_numbers_Write.l122 mx [e, n, (a.length : Int)] (3 : Int) ([kd] ++ sm e.toNat, (1 : Int)) = some (.next ([kd] ++ sm e.toNat ++ sm n.toNat, (2 : Int))) := by
    show (F_code_Small mx (IntKind.u64.wrap n)).bind _ = _
    rw [p2]
    simp only [Option.bind_some, c2, cond_true]; rfl
  have s2 : F_numbers_Write.l122 mx [e, n, (a.length : Int)] (3 : Int) ([kd] ++ sm e.toNat ++ sm n.toNat, (2 : Int)) = some (.next ([kd] ++ sm e.toNat ++ sm n.toNat ++ sm a.length, (3 : Int))) := by
    show (F_code_Small mx (IntKind.u64.wrap (a.length : Int))).bind _ = _
    rw [p3]
    simp only [Option.bind_some, c3, cond_true]; rfl
  have hit : iter mx (F_numbers_Write.l122 mx [e, n, (a.length : Int)] (3 : Int)) ([kd], (0 : Int)) = some ([kd] ++ sm e.toNat ++ sm n.toNat ++ sm a.length) := by
    obtain ⟨k, hk⟩ : ∃ k, N0 = k + 4 := ⟨N0 - 4, by unfold N0; omega⟩
    show iterN _ N0 _ = _
    rw [hk, iterN_next s0, iterN_next s1, iterN_next s2]
    exact iterN_fin rfl
  have c4 : Nat.ble (([kd] ++ sm e.toNat ++ sm n.toNat ++ sm a.length).length + a.length) 140737488351232 = true := ble_t (by simp only [List.length_append, List.length_singleton]; omega)
  have hlen : (([e, n, (a.length : Int)] : List Int).length : Int) = 3 := rfl
  simp only [F_numbers_Write, hB, hBi.2 hm, Option.bind_some, Bool.not_true, cond_false, hlen, hit, c4, cond_true]
  rw [show ([kd] ++ sm e.toNat ++ sm n.toNat ++ sm a.length) ++ a = msgB (kd, e, n, a) by unfold msgB txt; simp]
theorem nwrite_ok {m : Msg} (hk : 0 ≤ m.1 ∧ m.1 ≤ 255) (hb : bytesI m.2.2.2) (hl : m.2.2.2.length ≤ 1000000) (hm : mayM m) : ∃ x, F_numbers_Write mx m = some (x, 0) := ⟨_, nwrite_eq hk hb hl hm⟩
theorem nwrite_bad {m : Msg} (hk : 0 ≤ m.1 ∧ m.1 ≤ 255) (hb : bytesI m.2.2.2) (hm : ¬ mayM m) : F_numbers_Write mx m = some ([], 8) := by
  obtain ⟨B, hB, hBi⟩ := mayN_ok hk hb
  have : B = false := Bool.eq_false_iff.2 fun h => hm (hBi.1 h)
  obtain ⟨kd, e, n, a⟩ := m
  simp only [F_numbers_Write, hB, this, Option.bind_some, Bool.not_false, cond_true]
theorem may_len {m : Msg} (h : mayM m) : m.2.2.2.length ≤ 65536 := by
  rcases h.2.2 with h | h | h | h
  · obtain ⟨cs, hc⟩ := h.2.2
    have := (chErr_zero.1 hc.1).2.2
    rw [hc.2.1] at this; exact this
  · rw [h.2]; simp
  · rw [h.2]; simp
  · obtain ⟨v, hv, _⟩ := h.2
    exact (writeS_ok hv).2.2
end Go.Proofs.Ytmkfifilpkhfoaa
