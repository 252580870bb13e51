/- Blocks behind writes. -/
import Derived.Test.YtdnfmkkaojafhaaKDisk
namespace Go.Proofs.Ytdnfmkkaojafhaa
open Go.Abs
set_option maxRecDepth 100000

theorem block_wr1 {d : List Int} {p : Put} {n : Nat} (h : putErr d p = 0) (hn : n < d.length / 64) : blockOf (wr1 d p) n = if p.1 = (n : Int) then p.2 else blockOf d n := by
  obtain ⟨h1, h2, h3⟩ := putErr_ok h
  obtain ⟨q, x⟩ := p
  dsimp only at h1 h2 h3
  obtain ⟨k, rfl⟩ := Int.eq_ofNat_of_zero_le h1
  have hm := Nat.div_mul_le_self d.length 64
  simp only [blockOf, wr1, Int.toNat_natCast]
  have hk : (d.take (64 * k)).length = 64 * k := by simp; omega
  rcases Nat.lt_trichotomy n k with g | g | g
  · rw [if_neg (by omega), List.append_assoc, List.drop_append_of_le_length (by omega), List.take_append_of_le_length (by simp; omega), List.drop_take, List.take_take, Nat.min_eq_left (by omega)]
  · subst g
    rw [if_pos rfl, List.append_assoc, List.drop_append, hk, List.drop_eq_nil_of_le (by omega), Nat.sub_self, List.drop_zero, List.nil_append, List.take_append_of_le_length (by omega), List.take_of_length_le (by omega)]
  · rw [if_neg (by omega), List.drop_append, List.drop_eq_nil_of_le (by simp; omega), List.nil_append, List.drop_drop]
    congr 2
    simp only [List.length_append, hk, h3]
    omega
theorem block_wr {n : Nat} : ∀ {l : List Put} {d : List Int}, (∀ p ∈ l, putErr d p = 0) → n < d.length / 64 → blockOf (wr d l) n = l.foldl (fun w p => if p.1 = (n : Int) then p.2 else w) (blockOf d n)
  | [], _, _, _ => rfl
  | p :: l, d, h, hn => by
    have h1 := wr1_len (h p (by simp))
    show blockOf (wr (wr1 d p) l) n = _
    rw [block_wr (l := l) (fun q hq => by rw [putErr_len h1]; exact h q (by simp [hq])) (by rw [h1]; exact hn), block_wr1 (h p (by simp)) hn]
    rfl

theorem doS_cases (d : List Int) (l : List Put) (m : Int) : ((doS d l m).2 ≠ 0 ∧ (doS d l m).1 = []) ∨ (okD d ∧ (∀ p ∈ l, putErr d p = 0) ∧ 0 ≤ m ∧ m ≤ (l.length : Int) ∧ doS d l m = (wr d (l.take m.toNat), 0)) := by
  unfold doS
  by_cases h1 : okD d
  · rw [if_pos h1]
    by_cases h2 : putsErr d l = 0
    · rw [if_pos h2]
      by_cases h3 : 0 ≤ m ∧ m ≤ (l.length : Int)
      · rw [if_pos h3]
        exact .inr ⟨h1, putsErr_ok.1 h2, h3.1, h3.2, rfl⟩
      · rw [if_neg h3]; exact .inl ⟨by decide, rfl⟩
    · rw [if_neg h2]; exact .inl ⟨h2, rfl⟩
  · rw [if_neg h1]; exact .inl ⟨by decide, rfl⟩

/-- Blocks from one on. -/
def blks (d : List Int) (f m : Nat) : List (List Int) := (List.range m).map fun i => blockOf d (f + i)
theorem blks_len (d : List Int) (f m : Nat) : (blks d f m).length = m := by simp [blks]
/-- Blocks as writes, from a block on. -/
def putsAt (l : List (List Int)) (f : Nat) : List Put := l.mapIdx fun i b => (((f + i : Nat) : Int), b)
theorem putsAt_len (l : List (List Int)) (f : Nat) : (putsAt l f).length = l.length := by simp [putsAt]
theorem putsAt_get {l : List (List Int)} {f i : Nat} (h : i < l.length) : (putsAt l f).getD i (0, []) = (((f + i : Nat) : Int), l.getD i []) := by
  rw [getD_some (by rw [putsAt_len]; exact h), getD_some h]; simp [putsAt]
theorem putsAt_ok {d : List Int} {l : List (List Int)} {f : Nat} (hl : ∀ b ∈ l, b.length = 64) (hf : f + l.length ≤ d.length / 64) : ∀ p ∈ putsAt l f, putErr d p = 0 := by
  intro p hp
  obtain ⟨i, hi, rfl⟩ := List.mem_iff_getElem.1 hp
  rw [putsAt_len] at hi
  have := putsAt_get (f := f) hi
  rw [getD_some (by rw [putsAt_len]; exact hi)] at this
  rw [this]
  have h1 := hl _ (getD_lt (d := []) hi)
  unfold putErr
  rw [if_pos ⟨by dsimp only; omega, by dsimp only; omega⟩, if_pos h1]
/-- What stands in the blocks behind the first of such writes. -/
theorem block_puts {d : List Int} {l : List (List Int)} {f : Nat} (hl : ∀ b ∈ l, b.length = 64) (hf : f + l.length ≤ d.length / 64) {n : Nat} (hn : n < d.length / 64) : ∀ t, t ≤ l.length →
    blockOf (wr d ((putsAt l f).take t)) n = if f ≤ n ∧ n < f + t then l.getD (n - f) [] else blockOf d n
  | 0, _ => by
    rw [if_neg (by omega)]; rfl
  | t + 1, ht => by
    have hok := putsAt_ok hl hf
    have hlt : t < (putsAt l f).length := by rw [putsAt_len]; omega
    have hw : (wr d ((putsAt l f).take t)).length = d.length := wr_len fun p hp => hok p (List.mem_of_mem_take hp)
    have e : wr d ((putsAt l f).take (t + 1)) = wr1 (wr d ((putsAt l f).take t)) ((putsAt l f).getD t (0, [])) := by
      rw [take_succ' hlt (0, []), wr, wr, List.foldl_append]; rfl
    rw [e, block_wr1 (by rw [putErr_len hw]; exact hok _ (getD_lt hlt)) (by rw [hw]; exact hn), block_puts hl hf hn t (by omega), putsAt_get (by omega)]
    by_cases h1 : n = f + t
    · subst h1
      rw [if_pos rfl, if_pos (by omega), Nat.add_sub_cancel_left]
    · rw [if_neg (by dsimp only; omega)]
      by_cases h2 : f ≤ n ∧ n < f + t
      · rw [if_pos h2, if_pos (by omega)]
      · rw [if_neg h2, if_neg (by omega)]
theorem blks_puts {d : List Int} {l : List (List Int)} {f m B t : Nat} (hl : ∀ b ∈ l, b.length = 64) (hm : f + m ≤ d.length / 64) (hB : B + l.length ≤ m) (ht : t ≤ l.length) :
    blks (wr d ((putsAt l (f + B)).take t)) f m = (blks d f m).take B ++ (l.take t ++ (blks d f m).drop (B + t)) := by
  apply List.ext_getElem
  · simp only [blks_len, List.length_append, List.length_take, List.length_drop]; omega
  · intro i h1 h2
    rw [blks_len] at h1
    have e : (blks (wr d ((putsAt l (f + B)).take t)) f m)[i] = blockOf (wr d ((putsAt l (f + B)).take t)) (f + i) := by simp [blks]
    have e2 : ∀ (j : Nat) (h : j < (blks d f m).length), (blks d f m)[j] = blockOf d (f + j) := fun j h => by simp [blks]
    rw [e, block_puts hl (by omega) (show f + i < d.length / 64 by omega) t ht]
    by_cases g1 : i < B
    · rw [if_neg (by omega), List.getElem_append_left (by rw [List.length_take, blks_len]; omega), List.getElem_take, e2]
    · have hB' : ((blks d f m).take B).length = B := by rw [List.length_take, blks_len]; omega
      rw [List.getElem_append_right (by rw [hB']; omega)]
      by_cases g2 : i < B + t
      · rw [if_pos (by omega), List.getElem_append_left (by rw [hB', List.length_take]; omega), List.getElem_take, getD_some (by omega)]
        congr 1
        rw [hB']; omega
      · have ht' : (l.take t).length = t := by rw [List.length_take]; omega
        rw [if_neg (by omega), List.getElem_append_right (by rw [hB', ht']; omega), List.getElem_drop, e2]
        congr 1
        rw [hB', ht']; omega
end Go.Proofs.Ytdnfmkkaojafhaa
