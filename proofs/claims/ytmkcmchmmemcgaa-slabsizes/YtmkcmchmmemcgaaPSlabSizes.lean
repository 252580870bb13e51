/- The plain law of SlabSizes. -/
import Derived.Test.YtmkcmchmmemcgaaF
import Derived.Test.YtmkcmchmmemcgaaA2
namespace Go.Proofs.Ytmkcmchmmemcgaa.slabSizes
open Go.Abs
set_option maxRecDepth 100000

noncomputable def chk (n : Nat) : Bool := match F_slab_Class mx ((n : Int) + 1), F_ref05_Class mx ((n : Int) + 1) with
  | some a, some b => a.1 == b.1 && a.2 == b.2
  | _, _ => false
theorem chk_all : (List.range 256).all chk = true := by kernel_rfl

theorem classes (n : Int) : ∃ a b, F_slab_Class mx n = some a ∧ F_ref05_Class mx n = some b ∧ a = b := by
  by_cases h1 : n < 1
  · exact ⟨(0, 2), (0, 2), by simp [F_slab_Class, h1], by simp [F_ref05_Class, h1], rfl⟩
  by_cases h2 : 256 < n
  · exact ⟨(0, 2), (0, 2), by simp [F_slab_Class, h1, h2], by simp [F_ref05_Class, h1, h2], rfl⟩
  obtain ⟨k, hk, rfl⟩ : ∃ k : Nat, k < 256 ∧ n = (k : Int) + 1 := ⟨(n - 1).toNat, by omega, by omega⟩
  have h := List.all_eq_true.1 chk_all k (by simp [hk])
  unfold chk at h
  split at h
  · rename_i a b ha hb
    simp only [Bool.and_eq_true, beq_iff_eq] at h
    exact ⟨a, b, ha, hb, Prod.ext h.1 h.2⟩
  · cases h

noncomputable def chk2 (n : Nat) : Bool := match F_slab_size mx n, F_slab_chunks mx n, F_ref05_Size mx n, F_ref05_Chunks mx n with
  | some a, some b, some c, some d => a == c && b == d
  | _, _, _, _ => false
theorem chk2_all : (List.range 5).all chk2 = true := by kernel_rfl

theorem pure (p : Int × Int) (_ : wfIns F_law05_SlabSizes.sig.pars p) : F_law05_SlabSizes mx p = some true := by
  obtain ⟨n, c⟩ := p
  obtain ⟨a, b, h1, h2, rfl⟩ := classes n
  by_cases hc : 0 ≤ c ∧ c < 5
  · obtain ⟨k, hk, rfl⟩ : ∃ k : Nat, k < 5 ∧ c = (k : Int) := ⟨c.toNat, by omega, by omega⟩
    have h := List.all_eq_true.1 chk2_all k (by simp [hk])
    unfold chk2 at h
    split at h
    · rename_i x y z u hx hy hz hu
      simp only [Bool.and_eq_true, beq_iff_eq] at h
      obtain ⟨rfl, rfl⟩ := h
      simp [F_law05_SlabSizes, h1, h2, F_slab_Size, F_slab_Chunks, F_slab_classed, F_ref05_IsClass, hc, hx, hy, hz, hu]
    · cases h
  · by_cases h0 : 0 ≤ c
    · have h5 : ¬ c < 5 := by omega
      simp [F_law05_SlabSizes, h1, h2, F_slab_Size, F_slab_Chunks, F_slab_classed, F_ref05_IsClass, h0, h5]
    · simp [F_law05_SlabSizes, h1, h2, F_slab_Size, F_slab_Chunks, F_slab_classed, F_ref05_IsClass, h0]
end Go.Proofs.Ytmkcmchmmemcgaa.slabSizes
