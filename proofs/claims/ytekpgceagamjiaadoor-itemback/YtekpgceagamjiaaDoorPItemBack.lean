/- The plain law of ItemBack. -/
import Derived.Test.YtekpgceagamjiaaDoorK
namespace Go.Proofs.YtekpgceagamjiaaDoor.itemBack
open Go.Abs
set_option maxRecDepth 100000
theorem alive_ok : F_law09_alive mx () = some true := by kernel_rfl
theorem main (n : Int) (h0 : 0 ≤ n) (h1 : n ≤ 18446744073709551615) (s : List Int) (hs : bytesI s) : F_law09_ItemBack mx (n, s) = some true := by
  have hb := tI_bytes n.toNat
  have hn : numI (tI n.toNat) = (n, true) := by
    have := num_text (n := n.toNat) (by omega)
    rw [this, Int.toNat_of_nonneg h0]
  simp only [F_law09_ItemBack, alive_ok, Option.bind_some, item_text h0 h1, item_num hb, hn, F_law09_ItemBack.s60, cond_true, beq_self_eq_true]
  by_cases h2 : (2000 : Int) < (s.length : Int)
  · rw [decide_eq_true h2]; rfl
  · rw [decide_eq_false h2]
    simp only [cond_false, Option.bind_some, Bool.not_true, item_num hs]
    cases hk : (numI s).2 with
    | false => rfl
    | true =>
      obtain ⟨r0, r1⟩ := numI_range s
      simp only [Bool.not_true, cond_false, item_text r0 r1, Option.bind_some, num_back hk, beq_self_eq_true]
theorem pure (p : (tupT (insL F_law09_ItemBack.sig.pars)).den) (h : wfIns F_law09_ItemBack.sig.pars p) : F_law09_ItemBack mx p = some true := by
  obtain ⟨n, s⟩ := p
  exact main n (wfu64 h.1.1).1 (wfu64 h.1.1).2 s (fun x hx => by have := h.2.1.1.1 x hx; omega)
end Go.Proofs.YtekpgceagamjiaaDoor.itemBack
