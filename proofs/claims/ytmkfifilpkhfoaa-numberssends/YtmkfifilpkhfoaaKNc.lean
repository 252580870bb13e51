/- Records are sent. -/
import Derived.Test.YtmkfifilpkhfoaaKNb
namespace Go.Proofs.Ytmkfifilpkhfoaa
open Go.Abs
set_option maxRecDepth 100000
theorem newN_ok (e n : Int) : F_numbers_New mx (e, n) = some (if inN e ∧ inN n then (e, n, 0, [], 0) else (0, 0, 0, [], 2)) := by
  simp only [F_numbers_New, inN_ok, Option.bind_some]
  by_cases h1 : inN e
  case neg => rw [decide_eq_false h1, if_neg (fun h => h1 h.1)]; rfl
  by_cases h2 : inN n
  case neg => rw [decide_eq_true h1, decide_eq_false h2, if_neg (fun h => h2 h.2)]; rfl
  rw [decide_eq_true h1, decide_eq_true h2, if_pos ⟨h1, h2⟩]; rfl
/-- The last records. -/
def lastR (l : List (List Int)) : List (List Int) := l.drop (l.length - 32)
theorem lastR_len (l : List (List Int)) : (lastR l).length = min l.length 32 := by unfold lastR; rw [List.length_drop]; omega
abbrev SR := Int × Int × Int × List (List Int) × Int × Int × Int × List Int × Int
theorem send_ok {s : Snd} (hs : wfS s) {cs : List Chg} (hw : ∀ c ∈ cs, wfC c) :
    (∃ e, e ≠ 0 ∧ F_numbers_Send mx (s.1, s.2.1, s.2.2.1, s.2.2.2, cs) = some (0, 0, 0, [], 0, 0, 0, [], e)) ∧ ¬ (okN s ∧ chErr cs = 0 ∧ s.2.1 ≠ 2147483647) ∨
    ((okN s ∧ chErr cs = 0 ∧ s.2.1 ≠ 2147483647) ∧ F_numbers_Send mx (s.1, s.2.1, s.2.2.1, s.2.2.2, cs) = some (s.1, s.2.1 + 1, s.2.2.1, lastR (s.2.2.2 ++ [chBytes cs]), 1, s.1, s.2.1 + 1, chBytes cs, 0)) := by
  have hck := checkN_ok hs
  have htw := fun h1 => twin_ok (s := s) h1 (fun r hr => (hs.2 r hr).2)
  obtain ⟨e, n, a, rs⟩ := s
  dsimp only at hck htw ⊢
  by_cases h1 : okN (e, n, a, rs)
  case neg => exact .inl ⟨⟨8, by decide, by simp only [F_numbers_Send, hck.2 h1, Option.bind_some]; rfl⟩, fun h => h1 h.1⟩
  by_cases h2 : chErr cs = 0
  case neg =>
    refine .inl ⟨⟨chErr cs, h2, ?_⟩, fun h => h2 h.2.1⟩
    simp only [F_numbers_Send, hck.1 h1, Option.bind_some, bne_self_eq_false, cond_false, changes_ok hw, bne_iff_ne.2 h2, cond_true]
  by_cases h3 : n = 2147483647
  · refine .inl ⟨⟨9, by decide, ?_⟩, fun h => h.2.2 h3⟩
    simp only [F_numbers_Send, hck.1 h1, Option.bind_some, bne_self_eq_false, cond_false, changes_ok hw, h2, if_pos, ieq, decide_eq_true h3, cond_true]
  refine .inr ⟨⟨h1, h2, h3⟩, ?_⟩
  obtain ⟨n1, n2, ⟨n3, n4⟩, ⟨n5, n6⟩, _⟩ := id h1
  unfold inN at n1 n2
  dsimp only at n1 n2 n3 n4 n5 n6
  have hcl := (chErr_zero.1 h2).2.2
  have w1 : IntKind.i64.wrap (n + 1) = n + 1 := w64 (by omega) (by omega)
  have c1 : Nat.ble (rs.length + 1) 4294967296 = true := ble_t (by omega)
  have hl9 : (rs ++ [chBytes cs]).length = rs.length + 1 := by simp
  have w2 : mxI 0 (IntKind.i64.wrap (((rs ++ [chBytes cs]).length : Int) - 32)) = (((rs ++ [chBytes cs]).length - 32 : Nat) : Int) := by
    rw [w64 (by omega) (by omega)]; unfold mxI; split <;> omega
  have hlr : (lastR (rs ++ [chBytes cs])).length ≤ 32 := by rw [lastR_len]; omega
  have hlr1 : 1 ≤ (lastR (rs ++ [chBytes cs])).length := by rw [lastR_len, hl9]; omega
  have hlast : (lastR (rs ++ [chBytes cs])).getD ((lastR (rs ++ [chBytes cs])).length - 1) [] = chBytes cs := by
    rw [getD_some (by omega)]
    unfold lastR at hlr1 ⊢
    rw [List.length_drop] at hlr1
    simp only [List.getElem_drop, List.length_drop, hl9]
    rw [List.getElem_append_right (by omega)]
    simp
  have hm := message_ok (s := (e, n + 1, a, lastR (rs ++ [chBytes cs]))) (fun r hr => by
    have hr := List.mem_of_mem_drop hr
    rcases List.mem_append.1 hr with hr | hr
    · exact (hs.2 r hr).2
    · rw [List.mem_singleton] at hr; subst hr; omega) (by dsimp only; omega) (k := n + 1) (by dsimp only; omega) (by dsimp only; omega)
  have hmv : msgN (e, n + 1, a, lastR (rs ++ [chBytes cs])) (n + 1) = (1, e, n + 1, chBytes cs) := by
    unfold msgN
    dsimp only
    rw [show (((lastR (rs ++ [chBytes cs])).length : Int) - 1 - (n + 1 - (n + 1))).toNat = (lastR (rs ++ [chBytes cs])).length - 1 by omega, hlast]
  rw [hmv] at hm
  dsimp only at hm
  have hd : (rs ++ [chBytes cs]).drop ((rs ++ [chBytes cs]).length - 32) = lastR (rs ++ [chBytes cs]) := rfl
  simp only [F_numbers_Send, hck.1 h1, Option.bind_some, bne_self_eq_false, cond_false, changes_ok hw, h2, if_pos, ieq, decide_eq_false h3, htw (show rs.length ≤ 1000000 by omega), w1, List.length_singleton, c1, cond_true, w2, lez,
    decide_eq_true (show (((rs ++ [chBytes cs]).length - 32 : Nat) : Int) ≤ ((rs ++ [chBytes cs]).length : Int) by omega), Int.le_refl, decide_true, Bool.and_self, Int.toNat_natCast, List.take_length, hd, hm]
theorem again_ok {s : Snd} (hs : wfS s) (h1 : okN s) : F_numbers_Again mx s = some (behindL s s.2.2.1, 0) := by
  have hck := (checkN_ok hs).1 h1
  have hb := behind_ok (s := s) (fun r hr => (hs.2 r hr).2) h1.2.1 h1.2.2.2.1.1 (k := s.2.2.1)
  obtain ⟨e, n, a, rs⟩ := s
  obtain ⟨n1, n2, ⟨n3, n4⟩, _⟩ := id h1
  unfold inN at n1 n2
  dsimp only at n1 n2 n3 n4 hck hb
  simp only [F_numbers_Again, hck, Option.bind_some, bne_self_eq_false, cond_false, hb ⟨n3, by omega⟩]
def msgB (m : Msg) : List Int := [m.1] ++ (sm m.2.1.toNat ++ (sm m.2.2.1.toNat ++ txt m.2.2.2))
theorem may_len {m : Msg} (h : mayM m) : m.2.2.2.length ≤ 65536 := by
  rcases h.2.2 with h | h | h | h
  · obtain ⟨cs, hc⟩ := h.2.2
    have := (chErr_zero.1 hc.1).2.2
    rw [hc.2.1] at this; exact this
  · rw [h.2]; simp
  · rw [h.2]; simp
  · obtain ⟨v, hv, _⟩ := h.2
    exact (writeS_ok hv).2.2
end Go.Proofs.Ytmkfifilpkhfoaa
