/-
  NARROWER THAN 'FOR EVERY INPUT', by the rows' own cells (each row's printed sentence says how): SlabFills: laid · SlabOwns: laid · SlabBack: laid · SlabTakes: laid · SlabNames: laid.
  DERIVED. THE GIVEN ROWS OF THIS SEAT. 5 by the template 'for every input the law returns true; each argument reads behind the call as it read before'; 0 by the template 'total and deterministic' (their statements: YtmkcmchmmemcgaaDoorTotals.lean).
  GIVEN WITH THE SEED: the statements are not yours to turn. If you find one false, say at which input.
  Laid BY PROGRAM, IN A SANDBOX (cutbox-rows.mjs): the forced cells as the released guide's own fill.sh prints them over the translation 58723d333ef1690c… (all of the seat's roots in one cut). By AI agents, Wed Nov 11 2026. No macro, syntax, notation, axiom, sorry.
-/
import Derived.Test.YtmkcmchmmemcgaaDoorChecked
import GoSem.Claim
import GoSem.ClaimJoined
import GoSem.ClaimMapViews
import Derived.JoinedTies
import Derived.KernelRfl
namespace Go.Proofs.YtmkcmchmmemcgaaDoor
/- THE CELL 'sum', in the pinned program and in every row, IS THE sha256 OF THE DUMP (.gsa) THAT YtmkcmchmmemcgaaDoorProg.lean LOADS. Nothing in Lean hashes anything: it is a label: what it is worth is what the hold of that sum in a sandbox is worth. -/
noncomputable def Tryd.pinned : Pinned := { name := "ytmkcmchmmemcgaadoor", sum := "58723d333ef1690cc65bab3e9f04a33b686499f77ed14ec4a75e539e9b9d3906", checked := Tryd.checked }
namespace Rows
def none {H : Type} : Left H := { results := [], args := [] }

/- WHAT THE LISTED PACKAGE-LEVEL VARIABLES READ AS WHEN THE CALL BEGINS. Each datum BY PROGRAM (the guide's laid-datum.mjs) off the statement by which the dump's own 'gosem.cut.vars' lays the variable. In a bare row this is a premise. The card (YtmkcmchmmemcgaaDoorCards.lean) ties it to the program's text. -/
def laid_math_bits_deBruijn32tab {H : Type} : DataW H := .agg [.lit (.int .u8 0), .lit (.int .u8 1), .lit (.int .u8 28), .lit (.int .u8 2), .lit (.int .u8 29), .lit (.int .u8 14), .lit (.int .u8 24), .lit (.int .u8 3), .lit (.int .u8 30), .lit (.int .u8 22), .lit (.int .u8 20), .lit (.int .u8 15), .lit (.int .u8 25), .lit (.int .u8 17), .lit (.int .u8 4), .lit (.int .u8 8), .lit (.int .u8 31), .lit (.int .u8 27), .lit (.int .u8 13), .lit (.int .u8 23), .lit (.int .u8 21), .lit (.int .u8 19), .lit (.int .u8 16), .lit (.int .u8 7), .lit (.int .u8 26), .lit (.int .u8 12), .lit (.int .u8 18), .lit (.int .u8 6), .lit (.int .u8 11), .lit (.int .u8 5), .lit (.int .u8 10), .lit (.int .u8 9)]

/-- 'cloakroomlaw05.SlabFills': WHATEVER THE INPUT: true; the input reads as it did. -/
def slabFillsSpec : ChangeSpec := { name := "slabFills", fn := fun _ => fun
  | [d1, d2, d3, d4] => { results := [.lit (.bool true)], args := [d1, d2, d3, d4] }
  | _ => none }
def slabFillsRow : OpenClaim := { program := "ytmkcmchmmemcgaadoor", sum := "58723d333ef1690cc65bab3e9f04a33b686499f77ed14ec4a75e539e9b9d3906", func := "cloakroom/cloakroomlaw05.SlabFills", spec := "slabFills", unfollowed := true, recurses := true, named := ["math/bits.deBruijn32tab"], apart := false, laid := [("math/bits.deBruijn32tab", laid_math_bits_deBruijn32tab)] }
def SlabFillsSaid : Prop := slabFillsRow.holds Tryd.pinned (OpenSpec.ofChange slabFillsSpec)

/-- ITS FALSE NEIGHBOUR: 'it returns false'. Refute it at one input. -/
def slabFillsWrong : ChangeSpec := { name := "slabFills", fn := fun _ => fun
  | [d1, d2, d3, d4] => { results := [.lit (.bool false)], args := [d1, d2, d3, d4] }
  | _ => none }
def SlabFillsWrongFalsely : Prop := slabFillsRow.holds Tryd.pinned (OpenSpec.ofChange slabFillsWrong)

/-- 'cloakroomlaw05.SlabOwns': WHATEVER THE INPUT: true; the input reads as it did. -/
def slabOwnsSpec : ChangeSpec := { name := "slabOwns", fn := fun _ => fun
  | [d1, d2, d3, d4] => { results := [.lit (.bool true)], args := [d1, d2, d3, d4] }
  | _ => none }
def slabOwnsRow : OpenClaim := { program := "ytmkcmchmmemcgaadoor", sum := "58723d333ef1690cc65bab3e9f04a33b686499f77ed14ec4a75e539e9b9d3906", func := "cloakroom/cloakroomlaw05.SlabOwns", spec := "slabOwns", unfollowed := true, recurses := true, named := ["math/bits.deBruijn32tab"], apart := false, laid := [("math/bits.deBruijn32tab", laid_math_bits_deBruijn32tab)] }
def SlabOwnsSaid : Prop := slabOwnsRow.holds Tryd.pinned (OpenSpec.ofChange slabOwnsSpec)

/-- ITS FALSE NEIGHBOUR: 'it returns false'. Refute it at one input. -/
def slabOwnsWrong : ChangeSpec := { name := "slabOwns", fn := fun _ => fun
  | [d1, d2, d3, d4] => { results := [.lit (.bool false)], args := [d1, d2, d3, d4] }
  | _ => none }
def SlabOwnsWrongFalsely : Prop := slabOwnsRow.holds Tryd.pinned (OpenSpec.ofChange slabOwnsWrong)

/-- 'cloakroomlaw05.SlabBack': WHATEVER THE INPUT: true; the input reads as it did. -/
def slabBackSpec : ChangeSpec := { name := "slabBack", fn := fun _ => fun
  | [d1, d2, d3, d4, d5, d6] => { results := [.lit (.bool true)], args := [d1, d2, d3, d4, d5, d6] }
  | _ => none }
def slabBackRow : OpenClaim := { program := "ytmkcmchmmemcgaadoor", sum := "58723d333ef1690cc65bab3e9f04a33b686499f77ed14ec4a75e539e9b9d3906", func := "cloakroom/cloakroomlaw05.SlabBack", spec := "slabBack", unfollowed := true, recurses := true, named := ["math/bits.deBruijn32tab"], apart := false, laid := [("math/bits.deBruijn32tab", laid_math_bits_deBruijn32tab)] }
def SlabBackSaid : Prop := slabBackRow.holds Tryd.pinned (OpenSpec.ofChange slabBackSpec)

/-- ITS FALSE NEIGHBOUR: 'it returns false'. Refute it at one input. -/
def slabBackWrong : ChangeSpec := { name := "slabBack", fn := fun _ => fun
  | [d1, d2, d3, d4, d5, d6] => { results := [.lit (.bool false)], args := [d1, d2, d3, d4, d5, d6] }
  | _ => none }
def SlabBackWrongFalsely : Prop := slabBackRow.holds Tryd.pinned (OpenSpec.ofChange slabBackWrong)

/-- 'cloakroomlaw05.SlabTakes': WHATEVER THE INPUT: true; the input reads as it did. -/
def slabTakesSpec : ChangeSpec := { name := "slabTakes", fn := fun _ => fun
  | [d1, d2, d3, d4, d5, d6] => { results := [.lit (.bool true)], args := [d1, d2, d3, d4, d5, d6] }
  | _ => none }
def slabTakesRow : OpenClaim := { program := "ytmkcmchmmemcgaadoor", sum := "58723d333ef1690cc65bab3e9f04a33b686499f77ed14ec4a75e539e9b9d3906", func := "cloakroom/cloakroomlaw05.SlabTakes", spec := "slabTakes", unfollowed := true, recurses := true, named := ["math/bits.deBruijn32tab"], apart := false, laid := [("math/bits.deBruijn32tab", laid_math_bits_deBruijn32tab)] }
def SlabTakesSaid : Prop := slabTakesRow.holds Tryd.pinned (OpenSpec.ofChange slabTakesSpec)

/-- ITS FALSE NEIGHBOUR: 'it returns false'. Refute it at one input. -/
def slabTakesWrong : ChangeSpec := { name := "slabTakes", fn := fun _ => fun
  | [d1, d2, d3, d4, d5, d6] => { results := [.lit (.bool false)], args := [d1, d2, d3, d4, d5, d6] }
  | _ => none }
def SlabTakesWrongFalsely : Prop := slabTakesRow.holds Tryd.pinned (OpenSpec.ofChange slabTakesWrong)

/-- 'cloakroomlaw05.SlabNames': WHATEVER THE INPUT: true; the input reads as it did. -/
def slabNamesSpec : ChangeSpec := { name := "slabNames", fn := fun _ => fun
  | [] => { results := [.lit (.bool true)], args := [] }
  | _ => none }
def slabNamesRow : OpenClaim := { program := "ytmkcmchmmemcgaadoor", sum := "58723d333ef1690cc65bab3e9f04a33b686499f77ed14ec4a75e539e9b9d3906", func := "cloakroom/cloakroomlaw05.SlabNames", spec := "slabNames", unfollowed := true, recurses := true, named := ["math/bits.deBruijn32tab"], apart := false, laid := [("math/bits.deBruijn32tab", laid_math_bits_deBruijn32tab)] }
def SlabNamesSaid : Prop := slabNamesRow.holds Tryd.pinned (OpenSpec.ofChange slabNamesSpec)

/-- ITS FALSE NEIGHBOUR: 'it returns false'. Refute it at one input. -/
def slabNamesWrong : ChangeSpec := { name := "slabNames", fn := fun _ => fun
  | [] => { results := [.lit (.bool false)], args := [] }
  | _ => none }
def SlabNamesWrongFalsely : Prop := slabNamesRow.holds Tryd.pinned (OpenSpec.ofChange slabNamesWrong)

/- THE SECOND FORM. 'bulk': how many values and letters a reading holds, each counted each time it is reached (what is shared counts as often as it is met; a slice's spare places count too). A statement '..UptoSaid' is the law's where the arguments, and the package variables that the reading takes, are together of bulk at most 1048576: NARROWER than '..Said'. Prove '..Said' where nothing that the law and all that it calls make is longer than what came in: it says more and counts as full. Else prove '..UptoSaid'. A law counts once. -/
mutual
def uptoBulk {H : Type} : DataW H → Nat
  | .lit (.string bytes) => bytes.length + 1
  | .lit _ => 1
  | .nil => 1
  | .ptr d => uptoBulk d + 1
  | .slice elems spare => uptoBulkAll elems + uptoBulkAll spare + 1
  | .agg parts => uptoBulkAll parts + 1
  | .iface _ d => uptoBulk d + 1
  | .map entries => uptoBulkEntries entries + 1
  | .held _ => 1
def uptoBulkAll {H : Type} : List (DataW H) → Nat
  | [] => 0
  | d :: r => uptoBulk d + uptoBulkAll r
def uptoBulkEntries {H : Type} : List (Lit × DataW H) → Nat
  | [] => 0
  | x :: r => uptoBulkEntry x + uptoBulkEntries r
def uptoBulkEntry {H : Type} : Lit × DataW H → Nat
  | (.string bytes, d) => bytes.length + uptoBulk d + 1
  | (_, d) => uptoBulk d + 1
 end
def uptoSmall : (H : Type) → List (DataW H) → Bool := fun _ ds => decide (uptoBulkAll ds ≤ 1048576)
def OpenSpec.upto (s : _root_.Go.ChangeSpec) : _root_.Go.OpenSpec := { _root_.Go.OpenSpec.ofChange s with cond := some uptoSmall }

/-- 'cloakroomlaw05.SlabFills', WHERE WHAT IT READS IS OF BULK AT MOST 1048576: true; the input reads as it did. -/
def slabFillsUptoRow : OpenClaim := { program := "ytmkcmchmmemcgaadoor", sum := "58723d333ef1690cc65bab3e9f04a33b686499f77ed14ec4a75e539e9b9d3906", func := "cloakroom/cloakroomlaw05.SlabFills", spec := "slabFills", unfollowed := true, recurses := true, named := ["math/bits.deBruijn32tab"], apart := false, laid := [("math/bits.deBruijn32tab", laid_math_bits_deBruijn32tab)], narrowed := true }
def SlabFillsUptoSaid : Prop := slabFillsUptoRow.holds Tryd.pinned (OpenSpec.upto slabFillsSpec)

/-- 'cloakroomlaw05.SlabOwns', WHERE WHAT IT READS IS OF BULK AT MOST 1048576: true; the input reads as it did. -/
def slabOwnsUptoRow : OpenClaim := { program := "ytmkcmchmmemcgaadoor", sum := "58723d333ef1690cc65bab3e9f04a33b686499f77ed14ec4a75e539e9b9d3906", func := "cloakroom/cloakroomlaw05.SlabOwns", spec := "slabOwns", unfollowed := true, recurses := true, named := ["math/bits.deBruijn32tab"], apart := false, laid := [("math/bits.deBruijn32tab", laid_math_bits_deBruijn32tab)], narrowed := true }
def SlabOwnsUptoSaid : Prop := slabOwnsUptoRow.holds Tryd.pinned (OpenSpec.upto slabOwnsSpec)

/-- 'cloakroomlaw05.SlabBack', WHERE WHAT IT READS IS OF BULK AT MOST 1048576: true; the input reads as it did. -/
def slabBackUptoRow : OpenClaim := { program := "ytmkcmchmmemcgaadoor", sum := "58723d333ef1690cc65bab3e9f04a33b686499f77ed14ec4a75e539e9b9d3906", func := "cloakroom/cloakroomlaw05.SlabBack", spec := "slabBack", unfollowed := true, recurses := true, named := ["math/bits.deBruijn32tab"], apart := false, laid := [("math/bits.deBruijn32tab", laid_math_bits_deBruijn32tab)], narrowed := true }
def SlabBackUptoSaid : Prop := slabBackUptoRow.holds Tryd.pinned (OpenSpec.upto slabBackSpec)

/-- 'cloakroomlaw05.SlabTakes', WHERE WHAT IT READS IS OF BULK AT MOST 1048576: true; the input reads as it did. -/
def slabTakesUptoRow : OpenClaim := { program := "ytmkcmchmmemcgaadoor", sum := "58723d333ef1690cc65bab3e9f04a33b686499f77ed14ec4a75e539e9b9d3906", func := "cloakroom/cloakroomlaw05.SlabTakes", spec := "slabTakes", unfollowed := true, recurses := true, named := ["math/bits.deBruijn32tab"], apart := false, laid := [("math/bits.deBruijn32tab", laid_math_bits_deBruijn32tab)], narrowed := true }
def SlabTakesUptoSaid : Prop := slabTakesUptoRow.holds Tryd.pinned (OpenSpec.upto slabTakesSpec)

/-- 'cloakroomlaw05.SlabNames', WHERE WHAT IT READS IS OF BULK AT MOST 1048576: true; the input reads as it did. -/
def slabNamesUptoRow : OpenClaim := { program := "ytmkcmchmmemcgaadoor", sum := "58723d333ef1690cc65bab3e9f04a33b686499f77ed14ec4a75e539e9b9d3906", func := "cloakroom/cloakroomlaw05.SlabNames", spec := "slabNames", unfollowed := true, recurses := true, named := ["math/bits.deBruijn32tab"], apart := false, laid := [("math/bits.deBruijn32tab", laid_math_bits_deBruijn32tab)], narrowed := true }
def SlabNamesUptoSaid : Prop := slabNamesUptoRow.holds Tryd.pinned (OpenSpec.upto slabNamesSpec)

end Rows
end Go.Proofs.YtmkcmchmmemcgaaDoor
