/- The walk through the changes. -/
import Derived.Test.YtmkfifilpkhfoaaKIc
namespace Go.Proofs.Ytmkfifilpkhfoaa
open Go.Abs
set_option maxRecDepth 100000

theorem inv_bd {l : List Kept} {g : List Bool} {m : Mp} {c : Int} (h : Inv l g m c) : 0 ≤ c ∧ c ≤ (l.length : Int) := by
  have := alive_len (l := l) (g := g)
  rw [h.cnt]; omega
theorem drop_ok {l : List Kept} {g : List Bool} {m : Mp} {c : Int} (h : Inv l g m c) (hl : l.length ≤ 1000000) (x : Nm) {α : Type} (K : List Bool × Mp × Int → α) :
    (bif (mget KQ m x).isSome then (bif decide ((0 : Int) ≤ ((mget KQ m x).getD 0)) && decide (((mget KQ m x).getD 0) < (g.length : Int)) then
      (bif Nat.blt ((mget KQ m x).getD 0).toNat g.length then some (K (g.set ((mget KQ m x).getD 0).toNat true, mdel KQ m x, IntKind.i64.wrap (c - 1))) else none) else none) else some (K (g, m, c))) = some (K (dropS (g, m, c) x)) := by
  have hb := inv_bd h
  unfold dropS
  cases hm : mget KQ m x with
  | none => rfl
  | some i =>
    obtain ⟨j0, rfl, h1, h2, h3⟩ := (h.get x i).1 hm
    have hlt : j0 < g.length := by rw [h.len]; exact h1
    simp only [Option.isSome_some, cond_true, Option.getD_some, lez, ltd hlt, Bool.and_self, Int.toNat_natCast, blt_t hlt]
    rw [w64 (by omega) (by omega)]

/-- One change. -/
def OneRes (s s' : Cor) (code : Int) : Int ⊕ Img → Prop
  | .inl e => code = e ∧ e ≠ 0
  | .inr w => code = 0 ∧ imgOf s' = w ∧ InvC s' ∧ s.2.2.1.length ≤ s'.2.2.1.length ∧ s'.2.2.1.length ≤ s.2.2.1.length + 1
end Go.Proofs.Ytmkfifilpkhfoaa
