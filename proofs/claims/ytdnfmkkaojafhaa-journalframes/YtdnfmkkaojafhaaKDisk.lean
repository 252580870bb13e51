/- What the functions on disks compute, in plain words. -/
import Derived.Test.YtdnfmkkaojafhaaF
import Derived.Test.YtdnfmkkaojafhaaA3
namespace Go.Proofs.Ytdnfmkkaojafhaa
open Go.Abs
set_option maxRecDepth 100000

abbrev Put := Int × List Int
/-- May a disk be? -/
def okD (d : List Int) : Prop := 64 ≤ d.length ∧ d.length ≤ 262144 ∧ d.length % 64 = 0
instance (d : List Int) : Decidable (okD d) := by unfold okD; infer_instance
/-- A block. -/
def blockOf (d : List Int) (n : Nat) : List Int := (d.drop (64 * n)).take 64
theorem blockOf_len {d : List Int} {n : Nat} (h : n < d.length / 64) : (blockOf d n).length = 64 := by
  unfold blockOf
  have := Nat.div_mul_le_self d.length 64
  have h2 : 64 * (n + 1) ≤ 64 * (d.length / 64) := Nat.mul_le_mul_left 64 h
  simp; omega
/-- What is wrong with a write. -/
def putErr (d : List Int) (p : Put) : Int := if 0 ≤ p.1 ∧ p.1 < ((d.length / 64 : Nat) : Int) then (if p.2.length = 64 then 0 else 3) else 2
def putsErr (d : List Int) (l : List Put) : Int := match l.find? (fun p => !decide (putErr d p = 0)) with
  | some p => putErr d p
  | none => 0
/-- One write is done. -/
def wr1 (d : List Int) (p : Put) : List Int := d.take (64 * p.1.toNat) ++ p.2 ++ d.drop (64 * p.1.toNat + 64)
def wr (d : List Int) (l : List Put) : List Int := l.foldl wr1 d
theorem putErr_ok {d : List Int} {p : Put} (h : putErr d p = 0) : 0 ≤ p.1 ∧ p.1 < ((d.length / 64 : Nat) : Int) ∧ p.2.length = 64 := by
  unfold putErr at h
  split at h
  · rename_i h1
    split at h
    · rename_i h2; exact ⟨h1.1, h1.2, h2⟩
    · cases h
  · cases h
theorem wr1_len {d : List Int} {p : Put} (h : putErr d p = 0) : (wr1 d p).length = d.length := by
  obtain ⟨h1, h2, h3⟩ := putErr_ok h
  have hm := Nat.div_mul_le_self d.length 64
  simp only [wr1, List.length_append, List.length_take, List.length_drop, h3]
  omega
theorem putErr_len {d e : List Int} (h : e.length = d.length) (p : Put) : putErr e p = putErr d p := by simp only [putErr, h]
theorem putsErr_len {d e : List Int} (h : e.length = d.length) (l : List Put) : putsErr e l = putsErr d l := by
  have : putErr e = putErr d := by funext p; exact putErr_len h p
  simp only [putsErr, this]
theorem putsErr_ok {d : List Int} {l : List Put} : putsErr d l = 0 ↔ ∀ p ∈ l, putErr d p = 0 := by
  unfold putsErr
  constructor
  · intro h p hp
    cases hf : l.find? (fun p => !decide (putErr d p = 0)) with
    | none =>
      rw [List.find?_eq_none] at hf
      simpa using hf p hp
    | some q =>
      have := List.find?_some hf
      rw [hf] at h
      simp [h] at this
  · intro h
    have : l.find? (fun p => !decide (putErr d p = 0)) = none := by
      rw [List.find?_eq_none]
      intro p hp
      simp [h p hp]
    rw [this]
theorem wr_len : ∀ {l : List Put} {d : List Int}, (∀ p ∈ l, putErr d p = 0) → (wr d l).length = d.length
  | [], _, _ => rfl
  | p :: l, d, h => by
    have h1 := wr1_len (h p (by simp))
    show (wr (wr1 d p) l).length = _
    rw [wr_len (l := l) (fun q hq => by rw [putErr_len h1]; exact h q (by simp [hq])), h1]

/-- What doing some writes yields. -/
def doS (d : List Int) (l : List Put) (m : Int) : List Int × Int :=
  if okD d then (if putsErr d l = 0 then (if 0 ≤ m ∧ m ≤ (l.length : Int) then (wr d (l.take m.toNat), 0) else ([], 2)) else ([], putsErr d l)) else ([], 20)
/-- Those that were not done. -/
def leftS (l : List Put) (m : Int) : List Put × Int := if 0 ≤ m ∧ m ≤ (l.length : Int) then (l.drop m.toNat, 0) else ([], 2)
end Go.Proofs.Ytdnfmkkaojafhaa
