/- Blocks behind writes; heavy writes. -/
import Derived.Test.YtneknjhofegolaaKDisk
namespace Go.Proofs.Ytneknjhofegolaa
open Go.Abs
set_option maxRecDepth 100000

theorem block_wr1 {d : List Int} {p : Put} {n : Nat} (h : putErr d p = 0) (hn : n < d.length / 64) : blockOf (wr1 d p) n = if p.1 = (n : Int) then p.2 else blockOf d n := by
  obtain ⟨h1, h2, h3⟩ := putErr_ok h
  obtain ⟨q, x⟩ := p
  dsimp only at h1 h2 h3
  obtain ⟨k, rfl⟩ := Int.eq_ofNat_of_zero_le h1
  have hm := Nat.div_mul_le_self d.length 64
  simp only [blockOf, wr1, Int.toNat_natCast]
  have hk : (d.take (64 * k)).length = 64 * k := by simp; omega
  rcases Nat.lt_trichotomy n k with g | g | g
  · rw [if_neg (by omega), List.append_assoc, List.drop_append_of_le_length (by omega), List.take_append_of_le_length (by simp; omega), List.drop_take, List.take_take, Nat.min_eq_left (by omega)]
  · subst g
    rw [if_pos rfl, List.append_assoc, List.drop_append, hk, List.drop_eq_nil_of_le (by omega), Nat.sub_self, List.drop_zero, List.nil_append, List.take_append_of_le_length (by omega), List.take_of_length_le (by omega)]
  · rw [if_neg (by omega), List.drop_append, List.drop_eq_nil_of_le (by simp; omega), List.nil_append, List.drop_drop]
    congr 2
    simp only [List.length_append, hk, h3]
    omega
theorem block_wr {n : Nat} : ∀ {l : List Put} {d : List Int}, (∀ p ∈ l, putErr d p = 0) → n < d.length / 64 → blockOf (wr d l) n = l.foldl (fun w p => if p.1 = (n : Int) then p.2 else w) (blockOf d n)
  | [], _, _, _ => rfl
  | p :: l, d, h, hn => by
    have h1 := wr1_len (h p (by simp))
    show blockOf (wr (wr1 d p) l) n = _
    rw [block_wr (l := l) (fun q hq => by rw [putErr_len h1]; exact h q (by simp [hq])) (by rw [h1]; exact hn), block_wr1 (h p (by simp)) hn]
    rfl

theorem heavy_some (l : List Put) (hl : l.length ≤ 1000000000000000000) : ∃ b, F_ref02_Heavy mx l = some b ∧ (b = false → l.length ≤ 5000) := by
  obtain ⟨r, hr, _⟩ := iter_inv (f := F_ref02_Heavy.l58 mx l) (fun s => ∃ k : Nat, s.2 = (k : Int) ∧ k ≤ l.length) (fun s => l.length - s.2.toNat) (fun _ => True) ((0 : Int), (0 : Int)) ⟨0, rfl, Nat.zero_le _⟩ (by
    simp only [Int.toNat_zero, Nat.sub_zero]; exact lt_N0 hl) (fun s ⟨k, e, hk⟩ => by
    obtain ⟨s, i⟩ := s
    dsimp only at e
    subst e
    by_cases h1 : k < l.length
    · by_cases h2 : (k : Int) < 10000
      · left
        have h2' : decide ((k : Int) < 10000) = true := by simpa using h2
        refine ⟨_, by simp only [F_ref02_Heavy.l58, F_ref02_Heavy.s232, ltd h1, h2', lez, Bool.and_self, cond_true, Option.bind_some]; rfl, ⟨k + 1, by dsimp only; rw [inc64 (by omega)], by omega⟩, by dsimp only; rw [inc64 (by omega)]; omega⟩
      · right
        have h2' : decide ((k : Int) < 10000) = false := by simpa using h2
        exact ⟨s, by simp only [F_ref02_Heavy.l58, F_ref02_Heavy.s232, ltd h1, h2', cond_true, cond_false, Option.bind_some], trivial⟩
    · right
      have h1' : decide ((k : Int) < (l.length : Int)) = false := by simp; omega
      exact ⟨s, by simp only [F_ref02_Heavy.l58, F_ref02_Heavy.s232, h1', cond_false, Option.bind_some], trivial⟩)
  have hr : iter mx (F_ref02_Heavy.l58 mx l) ((0 : Int), (0 : Int)) = some r := hr
  simp only [F_ref02_Heavy, hr, Option.bind_some]
  by_cases h : 5000 < l.length
  · have : decide ((5000 : Int) < (l.length : Int)) = true := by simp; omega
    exact ⟨true, by rw [this]; rfl, fun h => by cases h⟩
  · have : decide ((5000 : Int) < (l.length : Int)) = false := by simp; omega
    exact ⟨_, by rw [this]; rfl, fun _ => by omega⟩
theorem alive_ok : F_law02_alive mx () = some true := by kernel_rfl
theorem doS_cases (d : List Int) (l : List Put) (m : Int) : ((doS d l m).2 ≠ 0 ∧ (doS d l m).1 = []) ∨ (okD d ∧ (∀ p ∈ l, putErr d p = 0) ∧ 0 ≤ m ∧ m ≤ (l.length : Int) ∧ doS d l m = (wr d (l.take m.toNat), 0)) := by
  unfold doS
  by_cases h1 : okD d
  · rw [if_pos h1]
    by_cases h2 : putsErr d l = 0
    · rw [if_pos h2]
      by_cases h3 : 0 ≤ m ∧ m ≤ (l.length : Int)
      · rw [if_pos h3]
        exact .inr ⟨h1, putsErr_ok.1 h2, h3.1, h3.2, rfl⟩
      · rw [if_neg h3]; exact .inl ⟨by decide, rfl⟩
    · rw [if_neg h2]; exact .inl ⟨h2, rfl⟩
  · rw [if_neg h1]; exact .inl ⟨by decide, rfl⟩
end Go.Proofs.Ytneknjhofegolaa
