/- Records are sent. -/
import Derived.Test.YtepgfpihfpjefaaGreatKNb
namespace Go.Proofs.YtepgfpihfpjefaaGreat
open Go.Abs
set_option maxRecDepth 100000
/-- The last records. -/
def lastR (l : List (List Int)) : List (List Int) := l.drop (l.length - 32)
theorem lastR_len (l : List (List Int)) : (lastR l).length = min l.length 32 := by unfold lastR; rw [List.length_drop]; omega
abbrev SR := Int × Int × Int × List (List Int) × Int × Int × Int × List Int × Int
theorem nwrite_ok {m : Msg} (hk : 0 ≤ m.1 ∧ m.1 ≤ 255) (hb : bytesI m.2.2.2) (hl : m.2.2.2.length ≤ 1000000) (hm : mayM m) : ∃ x, F_numbers_Write mx m = some (x, 0) := by
  obtain ⟨B, hB, hBi⟩ := mayN_ok hk hb
  obtain ⟨kd, e, n, a⟩ := m
  obtain ⟨m1, m2, _⟩ := id hm
  unfold inN at m1 m2
  dsimp only at m1 m2 hl
  have a1 := sm_len e.toNat
  have a2 := sm_len n.toNat
  have a3 := sm_len a.length
  have c1 : Nat.ble (([kd] : List Int).length + (sm e.toNat).length) 140737488351232 = true := ble_t (by simp; omega)
  have c2 : Nat.ble (([kd] ++ sm e.toNat).length + (sm n.toNat).length) 140737488351232 = true := ble_t (by simp only [List.length_append, List.length_singleton]; omega)
  have c3 : Nat.ble (([kd] ++ sm e.toNat ++ sm n.toNat).length + (sm a.length).length) 140737488351232 = true := ble_t (by simp only [List.length_append, List.length_singleton]; omega)
  have p1 := small_wrap (n := e) m1.1 (by omega)
  have p2 := small_wrap (n := n) m2.1 (by omega)
  have p3 := small_wrap (n := (a.length : Int)) (by omega) (by omega)
  rw [Int.toNat_natCast] at p3
  have s0 : F_numbers_Write.l122 mx [e, n, (a.length : Int)] (3 : Int) ([kd], (0 : Int)) = some (.next ([kd] ++ sm e.toNat, (1 : Int))) := by
    show (F_code_Small mx (IntKind.u64.wrap e)).bind _ = _
    rw [p1]
    simp only [Option.bind_some, c1, cond_true]; rfl
  have s1 : F_numbers_Write.l122 mx [e, n, (a.length : Int)] (3 : Int) ([kd] ++ sm e.toNat, (1 : Int)) = some (.next ([kd] ++ sm e.toNat ++ sm n.toNat, (2 : Int))) := by
    show (F_code_Small mx (IntKind.u64.wrap n)).bind _ = _
    rw [p2]
    simp only [Option.bind_some, c2, cond_true]; rfl
  have s2 : F_numbers_Write.l122 mx [e, n, (a.length : Int)] (3 : Int) ([kd] ++ sm e.toNat ++ sm n.toNat, (2 : Int)) = some (.next ([kd] ++ sm e.toNat ++ sm n.toNat ++ sm a.length, (3 : Int))) := by
    show (F_code_Small mx (IntKind.u64.wrap (a.length : Int))).bind _ = _
    rw [p3]
    simp only [Option.bind_some, c3, cond_true]; rfl
  have hit : iter mx (F_numbers_Write.l122 mx [e, n, (a.length : Int)] (3 : Int)) ([kd], (0 : Int)) = some ([kd] ++ sm e.toNat ++ sm n.toNat ++ sm a.length) := by
    obtain ⟨k, hk⟩ : ∃ k, N0 = k + 4 := ⟨N0 - 4, by unfold N0; omega⟩
    show iterN _ N0 _ = _
    rw [hk, iterN_next s0, iterN_next s1, iterN_next s2]
    exact iterN_fin rfl
  have c4 : Nat.ble (([kd] ++ sm e.toNat ++ sm n.toNat ++ sm a.length).length + a.length) 140737488351232 = true := ble_t (by simp only [List.length_append, List.length_singleton]; omega)
  refine ⟨([kd] ++ sm e.toNat ++ sm n.toNat ++ sm a.length) ++ a, ?_⟩
  have hlen : (([e, n, (a.length : Int)] : List Int).length : Int) = 3 := rfl
  simp only [F_numbers_Write, hB, hBi.2 hm, Option.bind_some, Bool.not_true, cond_false, hlen, hit, c4, cond_true]
end Go.Proofs.YtepgfpihfpjefaaGreat
