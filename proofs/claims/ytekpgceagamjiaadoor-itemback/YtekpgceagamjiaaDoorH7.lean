/- What the row lists of package-level variables, as the frame knows it. -/
import Derived.Test.YtekpgceagamjiaaDoorA3
import Derived.Test.YtekpgceagamjiaaDoorRows
import Derived.LaidLaws
namespace Go.Proofs.YtekpgceagamjiaaDoor
open Go.Abs Go.RowKit
set_option maxRecDepth 100000
def pow10L : List Int := [1, 10, 100, 1000, 10000, 100000, 1000000, 10000000, 100000000, 1000000000, 10000000000, 100000000000, 1000000000000, 10000000000000, 100000000000000, 1000000000000000, 10000000000000000, 100000000000000000, 1000000000000000000, 10000000000000000000]
theorem pow10L_at : ∀ j, j < 20 → pow10L.getD j 0 = ((10 ^ j : Nat) : Int) := by decide
def laid5 : List (String × DataW Unit) := [("math/bits.deBruijn32tab", Rows.laid_math_bits_deBruijn32tab), ("math/bits.deBruijn64tab", Rows.laid_math_bits_deBruijn64tab), ("internal/strconv.uint64pow10", Rows.laid_internal_strconv_uint64pow10), ("strconv.ErrRange", Rows.laid_strconv_ErrRange), ("strconv.ErrSyntax", Rows.laid_strconv_ErrSyntax)]
theorem tab_cells {P : Program} {H : Type} {enc : TypeId × Value → H} {name : String} {g : Nat} {tT eT : TypeId} {n : Nat} {k : IntKind} (hg : P.globalNamed name = some g) (hu : P.underlying tT = some (.array n eT)) (he : P.underlying eT = some (.int k)) (hc : P.cellsOf eT = 1) {W : World}
    {base : Nat} {sp : Nat → Bool} {held : Bool} {fuel : Nat} {cs0 : Array Value} {p0 : List MemPlace} (zs : List Int) (hz : zs.length = n) (hv0 : W.var? P name = some cs0) (hd0 : DataW.trod enc P W base sp held fuel tT cs0.toList = some (.agg (zs.map fun z => .lit (.int k z)), p0)) :
    ∀ j, j < n → g < W.heap.size ∧ W.cell? ⟨g, j, none⟩ = some (.int k (zs.getD j 0)) := by
  intro j hj
  obtain ⟨xs, m1, rfl, hx1, hlen, hn, hel⟩ := DataW.trod_array hu hd0
  have hxj : j < xs.length := by rw [hn]; exact hj
  have h0 := hel j hj
  rw [List.getElem?_eq_getElem hxj, hc, Nat.mul_one] at h0
  obtain ⟨k', e1, e2, _⟩ := DataW.trod_int he h0
  simp only [Prod.mk.injEq, DataW.agg.injEq] at hx1
  have hk : k' = zs.getD j 0 := by
    have h1 := congrArg (fun l => l[j]?) hx1.1
    simp only [List.getElem?_map, List.getElem?_eq_getElem hxj, Option.map_some, e2] at h1
    rw [List.getD_eq_getElem?_getD]
    cases h2 : zs[j]? with
    | none => rw [h2] at h1; cases h1
    | some z =>
      rw [h2] at h1
      simp only [Option.map_some, Option.some.injEq, DataW.lit.injEq, Lit.int.injEq, true_and] at h1
      exact h1.symm
  have hcell := World.var?_cell hg hv0 j
  have e3 : cs0[j]? = some (.int k k') := by
    have := congrArg (fun l => l[0]?) e1
    simpa [List.getElem?_take, List.getElem?_drop] using this
  refine ⟨?_, by rw [hcell, e3, hk]⟩
  rcases Nat.lt_or_ge g W.heap.size with hh | hh
  · exact hh
  · have hn : W.heap[g]? = none := Array.getElem?_eq_none hh
    have := hcell.trans e3
    simp [World.cell?, hn] at this
theorem gok5 (W : World) (h : laidMetH Tryd.prog laid5 W) : GOk Tryd.prog W (oldOk W) := by
  rw [MakeChecks.laidMetH_plain _ _ _ (by kernel_rfl)] at h
  obtain ⟨ps, ⟨g0, t0, cs0, f0, p0, q0, hg0, ht0, hv0, hd0, ⟨g1, t1, cs1, f1, p1, q1, hg1, ht1, hv1, hd1, ⟨g2, t2, cs2, f2, p2, q2, hg2, ht2, hv2, hd2, ⟨g3, t3, cs3, f3, p3, q3, hg3, ht3, hv3, hd3, _⟩, _⟩, _⟩, _⟩, _⟩ := h
  obtain rfl := Option.some.inj ((show (Tryd.prog.globals[3]?).map (·.type) = some 81 by kernel_rfl).symm.trans ((congrArg (fun g => (Tryd.prog.globals[g]?).map (·.type)) (Option.some.inj ((show Tryd.prog.globalNamed "math/bits.deBruijn32tab" = some 3 by kernel_rfl).symm.trans hg0))).trans ht0))
  obtain rfl := Option.some.inj ((show (Tryd.prog.globals[2]?).map (·.type) = some 72 by kernel_rfl).symm.trans ((congrArg (fun g => (Tryd.prog.globals[g]?).map (·.type)) (Option.some.inj ((show Tryd.prog.globalNamed "internal/strconv.uint64pow10" = some 2 by kernel_rfl).symm.trans hg2))).trans ht2))
  obtain rfl := Option.some.inj ((show (Tryd.prog.globals[1]?).map (·.type) = some 45 by kernel_rfl).symm.trans ((congrArg (fun g => (Tryd.prog.globals[g]?).map (·.type)) (Option.some.inj ((show Tryd.prog.globalNamed "strconv.ErrRange" = some 1 by kernel_rfl).symm.trans hg3))).trans ht3))
  refine ⟨fun g hg j hj => ?_, fun g hg j hj => ?_, fun g hg => ?_⟩
  · obtain ⟨h1, h2⟩ := tab_cells hg Tryd.underlying81 Tryd.underlying5 (by kernel_rfl) tab32 rfl hv0 hd0 j hj
    exact ⟨h1, h2⟩
  · obtain ⟨h1, h2⟩ := tab_cells hg Tryd.underlying72 Tryd.underlying22 (by kernel_rfl) pow10L rfl hv2 hd2 j hj
    rw [pow10L_at j hj] at h2
    exact ⟨h1, h2⟩
  · obtain ⟨_, u, v, e, _⟩ := iface_of_trod Tryd.underlying45 hd3
    have hcell := World.var?_cell hg hv3 0
    have e3 : cs3[0]? = some (.iface u v) := by
      have := congrArg (fun l => l[0]?) e
      simpa using this
    refine ⟨?_, u, v, by rw [hcell, e3]⟩
    show g < W.heap.size
    rcases Nat.lt_or_ge g W.heap.size with hh | hh
    · exact hh
    · have hn : W.heap[g]? = none := Array.getElem?_eq_none hh
      have := hcell.trans e3
      simp [World.cell?, hn] at this
end Go.Proofs.YtekpgceagamjiaaDoor
