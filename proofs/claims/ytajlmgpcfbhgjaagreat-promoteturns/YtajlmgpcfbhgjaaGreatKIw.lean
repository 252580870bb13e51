/- An image as bytes. -/
import Derived.Test.YtajlmgpcfbhgjaaGreatKIf
namespace Go.Proofs.YtajlmgpcfbhgjaaGreat
open Go.Abs
set_option maxRecDepth 100000
def keptB (k : Kept) : List Int := sm k.1.toNat ++ txt k.2.1 ++ txt k.2.2.1 ++ (sm k.2.2.2.1.toNat ++ sm k.2.2.2.2.1.toNat) ++ sm k.2.2.2.2.2.toNat
def keptsB (l : List Kept) : List Int := (l.map keptB).flatten
def headB (v : Img) : List Int := sm v.1.toNat ++ sm v.2.1.length ++ numsB v.2.1 ++ (sm v.2.2.2.1.toNat ++ sm v.2.2.2.2.1.toNat) ++ [if v.2.2.2.2.2 then 1 else 0] ++ sm v.2.2.1.length
def imgB (v : Img) : List Int := headB v ++ keptsB v.2.2.1
theorem keptsB_app (a b : List Kept) : keptsB (a ++ b) = keptsB a ++ keptsB b := by simp [keptsB]
theorem keptsB_one (c : Kept) : keptsB [c] = keptB c := by simp [keptsB]
/-- Numbers that have a width of their own. -/
def wfK (k : Kept) : Prop := (0 ≤ k.2.2.2.1 ∧ k.2.2.2.1 ≤ 4294967295) ∧ 0 ≤ k.2.2.2.2.2 ∧ k.2.2.2.2.2 ≤ 18446744073709551615
theorem keptB_len {k : Kept} (h : itemOk k.2) : (keptB k).length ≤ 400 := by
  have a1 := sm_len k.1.toNat
  have a2 := txt_len k.2.1
  have a3 := txt_len k.2.2.1
  have a4 := sm_len k.2.2.2.1.toNat
  have a5 := sm_len k.2.2.2.2.1.toNat
  have a6 := sm_len k.2.2.2.2.2.toNat
  have := h.2.2.1
  unfold keptB; simp only [List.length_append]; omega
theorem headB_len {v : Img} (h : okI v) : (headB v).length ≤ 200 := by
  have a1 := sm_len v.1.toNat
  have a2 := sm_len v.2.1.length
  have a3 := numsB_len v.2.1
  have a4 := sm_len v.2.2.2.1.toNat
  have a5 := sm_len v.2.2.2.2.1.toNat
  have a6 := sm_len v.2.2.1.length
  have := h.2.1.2.1
  unfold headB; simp only [List.length_append, List.length_singleton]; omega
def writeS (v : Img) : List Int × Int := if okI v then (if 65536 < (imgB v).length then ([], 3) else (imgB v, 0)) else ([], 8)
end Go.Proofs.YtajlmgpcfbhgjaaGreat
