/- An image is read. -/
import Derived.Test.YtajlmgpcfbhgjaaGreatKIv
namespace Go.Proofs.YtajlmgpcfbhgjaaGreat
open Go.Abs
set_option maxRecDepth 100000
def Rd (a : List Int) : Prop := bytesI a ∧ a.length ≤ 65536
theorem Rd.drop {a : List Int} (h : Rd a) (n : Nat) : Rd (a.drop n) := ⟨bytesI_drop h.1 n, by rw [List.length_drop]; have := h.2; omega⟩
theorem Rd.take {a : List Int} (h : Rd a) (n : Nat) : Rd (a.take n) := ⟨bytesI_take h.1 n, by rw [List.length_take]; have := h.2; omega⟩
theorem Rd.right {a b : List Int} (h : Rd (a ++ b)) : Rd b := ⟨fun x hx => h.1 x (List.mem_append.2 (.inr hx)), by have := h.2; rw [List.length_append] at this; omega⟩
/-! ### any bytes -/
def wfIm (v : Img) : Prop := (∀ k ∈ v.2.2.1, (k.2.1.length ≤ 140737488351232 ∧ k.2.2.1.length ≤ 140737488351232) ∧ bytesI k.2.1 ∧ bytesI k.2.2.1) ∧ ∀ k ∈ v.2.2.1, wfK k
def ReadTo (a : List Int) (y : Int × List Int × List Kept × Int × Int × Bool × Int) : Prop := y = zeroI 8 ∨ ∃ v, y = withE v ∧ wfIm v ∧ writeS v = (a, 0)
theorem equal_ok (a b : List Int) : F_bytes_Equal mx (a, b) = some (decide (a = b)) := by
  simp only [F_bytes_Equal]; congr 1; rw [Bool.eq_iff_iff]; simp
/-! ### what was written -/
theorem writeS_ok {v : Img} {a : List Int} (h : writeS v = (a, 0)) : okI v ∧ imgB v = a ∧ a.length ≤ 65536 := by
  unfold writeS at h
  by_cases h1 : okI v
  · rw [if_pos h1] at h
    by_cases h2 : 65536 < (imgB v).length
    · rw [if_pos h2] at h; cases h
    · rw [if_neg h2] at h; cases h; exact ⟨h1, rfl, by omega⟩
  · rw [if_neg h1] at h; cases h
theorem numsB_cons (x : Int) (l : List Int) : numsB (x :: l) = sm x.toNat ++ numsB l := rfl
theorem keptsB_cons (x : Kept) (l : List Kept) : keptsB (x :: l) = keptB x ++ keptsB l := rfl
end Go.Proofs.YtajlmgpcfbhgjaaGreat
