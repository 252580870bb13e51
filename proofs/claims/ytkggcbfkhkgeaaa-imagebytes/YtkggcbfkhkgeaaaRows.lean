/-
  No cell of these rows narrows 'for every input' (looked for: loops, veiled, ifaces, maps, wideKeys, modest, calm, conditions, laid).
  DERIVED. THE GIVEN ROWS OF THIS SEAT. 7 by the template 'for every input the law returns true; each argument reads behind the call as it read before'; 0 by the template 'total and deterministic' (their statements: YtkggcbfkhkgeaaaTotals.lean).
  GIVEN WITH THE SEED: the statements are not yours to turn. If you find one false, say at which input.
  Laid BY PROGRAM, IN A SANDBOX (cutbox-rows.mjs): the forced cells as the released guide's own fill.sh prints them over the translation a08503aabe4718de… (all of the seat's roots in one cut). By AI agents, Wed Nov 11 2026. No macro, syntax, notation, axiom, sorry.
-/
import Derived.Test.YtkggcbfkhkgeaaaChecked
import GoSem.Claim
import GoSem.ClaimJoined
import GoSem.ClaimMapViews
import Derived.JoinedTies
import Derived.KernelRfl
namespace Go.Proofs.Ytkggcbfkhkgeaaa
/- THE CELL 'sum', in the pinned program and in every row, IS THE sha256 OF THE DUMP (.gsa) THAT YtkggcbfkhkgeaaaProg.lean LOADS. Nothing in Lean hashes anything: it is a label: what it is worth is what the hold of that sum in a sandbox is worth. -/
noncomputable def Try.pinned : Pinned := { name := "ytkggcbfkhkgeaaa", sum := "a08503aabe4718dede25300335d0cba2d4edb95e7d76a3ccff2f1667ca602477", checked := Try.checked }
namespace Rows
def none {H : Type} : Left H := { results := [], args := [] }

/-- 'cloakroomlaw21.ImageBytes': WHATEVER THE INPUT: true; the input reads as it did. -/
def imageBytesSpec : ChangeSpec := { name := "imageBytes", fn := fun _ => fun
  | [d1, d2] => { results := [.lit (.bool true)], args := [d1, d2] }
  | _ => none }
def imageBytesRow : OpenClaim := { program := "ytkggcbfkhkgeaaa", sum := "a08503aabe4718dede25300335d0cba2d4edb95e7d76a3ccff2f1667ca602477", func := "cloakroom/cloakroomlaw21.ImageBytes", spec := "imageBytes", unfollowed := true, recurses := true, plainKeys := false, apart := false }
def ImageBytesSaid : Prop := imageBytesRow.holds Try.pinned (OpenSpec.ofChange imageBytesSpec)

/-- ITS FALSE NEIGHBOUR: 'it returns false'. Refute it at one input. -/
def imageBytesWrong : ChangeSpec := { name := "imageBytes", fn := fun _ => fun
  | [d1, d2] => { results := [.lit (.bool false)], args := [d1, d2] }
  | _ => none }
def ImageBytesWrongFalsely : Prop := imageBytesRow.holds Try.pinned (OpenSpec.ofChange imageBytesWrong)

/-- 'cloakroomlaw21.ImageOrder': WHATEVER THE INPUT: true; the input reads as it did. -/
def imageOrderSpec : ChangeSpec := { name := "imageOrder", fn := fun _ => fun
  | [d1, d2] => { results := [.lit (.bool true)], args := [d1, d2] }
  | _ => none }
def imageOrderRow : OpenClaim := { program := "ytkggcbfkhkgeaaa", sum := "a08503aabe4718dede25300335d0cba2d4edb95e7d76a3ccff2f1667ca602477", func := "cloakroom/cloakroomlaw21.ImageOrder", spec := "imageOrder", unfollowed := true, recurses := true, plainKeys := false, apart := false }
def ImageOrderSaid : Prop := imageOrderRow.holds Try.pinned (OpenSpec.ofChange imageOrderSpec)

/-- ITS FALSE NEIGHBOUR: 'it returns false'. Refute it at one input. -/
def imageOrderWrong : ChangeSpec := { name := "imageOrder", fn := fun _ => fun
  | [d1, d2] => { results := [.lit (.bool false)], args := [d1, d2] }
  | _ => none }
def ImageOrderWrongFalsely : Prop := imageOrderRow.holds Try.pinned (OpenSpec.ofChange imageOrderWrong)

/-- 'cloakroomlaw21.ImageParts': WHATEVER THE INPUT: true; the input reads as it did. -/
def imagePartsSpec : ChangeSpec := { name := "imageParts", fn := fun _ => fun
  | [d1, d2, d3] => { results := [.lit (.bool true)], args := [d1, d2, d3] }
  | _ => none }
def imagePartsRow : OpenClaim := { program := "ytkggcbfkhkgeaaa", sum := "a08503aabe4718dede25300335d0cba2d4edb95e7d76a3ccff2f1667ca602477", func := "cloakroom/cloakroomlaw21.ImageParts", spec := "imageParts", unfollowed := true, recurses := true, plainKeys := false, apart := false }
def ImagePartsSaid : Prop := imagePartsRow.holds Try.pinned (OpenSpec.ofChange imagePartsSpec)

/-- ITS FALSE NEIGHBOUR: 'it returns false'. Refute it at one input. -/
def imagePartsWrong : ChangeSpec := { name := "imageParts", fn := fun _ => fun
  | [d1, d2, d3] => { results := [.lit (.bool false)], args := [d1, d2, d3] }
  | _ => none }
def ImagePartsWrongFalsely : Prop := imagePartsRow.holds Try.pinned (OpenSpec.ofChange imagePartsWrong)

/-- 'cloakroomlaw21.ImageLast': WHATEVER THE INPUT: true; the input reads as it did. -/
def imageLastSpec : ChangeSpec := { name := "imageLast", fn := fun _ => fun
  | [d1, d2, d3] => { results := [.lit (.bool true)], args := [d1, d2, d3] }
  | _ => none }
def imageLastRow : OpenClaim := { program := "ytkggcbfkhkgeaaa", sum := "a08503aabe4718dede25300335d0cba2d4edb95e7d76a3ccff2f1667ca602477", func := "cloakroom/cloakroomlaw21.ImageLast", spec := "imageLast", unfollowed := true, recurses := true, plainKeys := false, apart := false }
def ImageLastSaid : Prop := imageLastRow.holds Try.pinned (OpenSpec.ofChange imageLastSpec)

/-- ITS FALSE NEIGHBOUR: 'it returns false'. Refute it at one input. -/
def imageLastWrong : ChangeSpec := { name := "imageLast", fn := fun _ => fun
  | [d1, d2, d3] => { results := [.lit (.bool false)], args := [d1, d2, d3] }
  | _ => none }
def ImageLastWrongFalsely : Prop := imageLastRow.holds Try.pinned (OpenSpec.ofChange imageLastWrong)

/-- 'cloakroomlaw21.ImageChanges': WHATEVER THE INPUT: true; the input reads as it did. -/
def imageChangesSpec : ChangeSpec := { name := "imageChanges", fn := fun _ => fun
  | [d1, d2, d3, d4] => { results := [.lit (.bool true)], args := [d1, d2, d3, d4] }
  | _ => none }
def imageChangesRow : OpenClaim := { program := "ytkggcbfkhkgeaaa", sum := "a08503aabe4718dede25300335d0cba2d4edb95e7d76a3ccff2f1667ca602477", func := "cloakroom/cloakroomlaw21.ImageChanges", spec := "imageChanges", unfollowed := true, recurses := true, plainKeys := false, apart := false }
def ImageChangesSaid : Prop := imageChangesRow.holds Try.pinned (OpenSpec.ofChange imageChangesSpec)

/-- ITS FALSE NEIGHBOUR: 'it returns false'. Refute it at one input. -/
def imageChangesWrong : ChangeSpec := { name := "imageChanges", fn := fun _ => fun
  | [d1, d2, d3, d4] => { results := [.lit (.bool false)], args := [d1, d2, d3, d4] }
  | _ => none }
def ImageChangesWrongFalsely : Prop := imageChangesRow.holds Try.pinned (OpenSpec.ofChange imageChangesWrong)

/-- 'cloakroomlaw21.ImageNames': WHATEVER THE INPUT: true; the input reads as it did. -/
def imageNamesSpec : ChangeSpec := { name := "imageNames", fn := fun _ => fun
  | [] => { results := [.lit (.bool true)], args := [] }
  | _ => none }
def imageNamesRow : OpenClaim := { program := "ytkggcbfkhkgeaaa", sum := "a08503aabe4718dede25300335d0cba2d4edb95e7d76a3ccff2f1667ca602477", func := "cloakroom/cloakroomlaw21.ImageNames", spec := "imageNames", unfollowed := true, recurses := true, plainKeys := false, apart := false }
def ImageNamesSaid : Prop := imageNamesRow.holds Try.pinned (OpenSpec.ofChange imageNamesSpec)

/-- ITS FALSE NEIGHBOUR: 'it returns false'. Refute it at one input. -/
def imageNamesWrong : ChangeSpec := { name := "imageNames", fn := fun _ => fun
  | [] => { results := [.lit (.bool false)], args := [] }
  | _ => none }
def ImageNamesWrongFalsely : Prop := imageNamesRow.holds Try.pinned (OpenSpec.ofChange imageNamesWrong)

/-- 'cloakroomlaw21.ImageBack': WHATEVER THE INPUT: true; the input reads as it did. -/
def imageBackSpec : ChangeSpec := { name := "imageBack", fn := fun _ => fun
  | [d1, d2] => { results := [.lit (.bool true)], args := [d1, d2] }
  | _ => none }
def imageBackRow : OpenClaim := { program := "ytkggcbfkhkgeaaa", sum := "a08503aabe4718dede25300335d0cba2d4edb95e7d76a3ccff2f1667ca602477", func := "cloakroom/cloakroomlaw21.ImageBack", spec := "imageBack", unfollowed := true, recurses := true, plainKeys := false, apart := false }
def ImageBackSaid : Prop := imageBackRow.holds Try.pinned (OpenSpec.ofChange imageBackSpec)

/-- ITS FALSE NEIGHBOUR: 'it returns false'. Refute it at one input. -/
def imageBackWrong : ChangeSpec := { name := "imageBack", fn := fun _ => fun
  | [d1, d2] => { results := [.lit (.bool false)], args := [d1, d2] }
  | _ => none }
def ImageBackWrongFalsely : Prop := imageBackRow.holds Try.pinned (OpenSpec.ofChange imageBackWrong)

/- THE SECOND FORM. 'bulk': how many values and letters a reading holds, each counted each time it is reached (what is shared counts as often as it is met; a slice's spare places count too). A statement '..UptoSaid' is the law's where the arguments, and the package variables that the reading takes, are together of bulk at most 1048576: NARROWER than '..Said'. Prove '..Said' where nothing that the law and all that it calls make is longer than what came in: it says more and counts as full. Else prove '..UptoSaid'. A law counts once. -/
mutual
def uptoBulk {H : Type} : DataW H → Nat
  | .lit (.string bytes) => bytes.length + 1
  | .lit _ => 1
  | .nil => 1
  | .ptr d => uptoBulk d + 1
  | .slice elems spare => uptoBulkAll elems + uptoBulkAll spare + 1
  | .agg parts => uptoBulkAll parts + 1
  | .iface _ d => uptoBulk d + 1
  | .map entries => uptoBulkEntries entries + 1
  | .held _ => 1
def uptoBulkAll {H : Type} : List (DataW H) → Nat
  | [] => 0
  | d :: r => uptoBulk d + uptoBulkAll r
def uptoBulkEntries {H : Type} : List (Lit × DataW H) → Nat
  | [] => 0
  | x :: r => uptoBulkEntry x + uptoBulkEntries r
def uptoBulkEntry {H : Type} : Lit × DataW H → Nat
  | (.string bytes, d) => bytes.length + uptoBulk d + 1
  | (_, d) => uptoBulk d + 1
 end
def uptoSmall : (H : Type) → List (DataW H) → Bool := fun _ ds => decide (uptoBulkAll ds ≤ 1048576)
def OpenSpec.upto (s : _root_.Go.ChangeSpec) : _root_.Go.OpenSpec := { _root_.Go.OpenSpec.ofChange s with cond := some uptoSmall }

/-- 'cloakroomlaw21.ImageBytes', WHERE WHAT IT READS IS OF BULK AT MOST 1048576: true; the input reads as it did. -/
def imageBytesUptoRow : OpenClaim := { program := "ytkggcbfkhkgeaaa", sum := "a08503aabe4718dede25300335d0cba2d4edb95e7d76a3ccff2f1667ca602477", func := "cloakroom/cloakroomlaw21.ImageBytes", spec := "imageBytes", unfollowed := true, recurses := true, plainKeys := false, apart := false, narrowed := true }
def ImageBytesUptoSaid : Prop := imageBytesUptoRow.holds Try.pinned (OpenSpec.upto imageBytesSpec)

/-- 'cloakroomlaw21.ImageOrder', WHERE WHAT IT READS IS OF BULK AT MOST 1048576: true; the input reads as it did. -/
def imageOrderUptoRow : OpenClaim := { program := "ytkggcbfkhkgeaaa", sum := "a08503aabe4718dede25300335d0cba2d4edb95e7d76a3ccff2f1667ca602477", func := "cloakroom/cloakroomlaw21.ImageOrder", spec := "imageOrder", unfollowed := true, recurses := true, plainKeys := false, apart := false, narrowed := true }
def ImageOrderUptoSaid : Prop := imageOrderUptoRow.holds Try.pinned (OpenSpec.upto imageOrderSpec)

/-- 'cloakroomlaw21.ImageParts', WHERE WHAT IT READS IS OF BULK AT MOST 1048576: true; the input reads as it did. -/
def imagePartsUptoRow : OpenClaim := { program := "ytkggcbfkhkgeaaa", sum := "a08503aabe4718dede25300335d0cba2d4edb95e7d76a3ccff2f1667ca602477", func := "cloakroom/cloakroomlaw21.ImageParts", spec := "imageParts", unfollowed := true, recurses := true, plainKeys := false, apart := false, narrowed := true }
def ImagePartsUptoSaid : Prop := imagePartsUptoRow.holds Try.pinned (OpenSpec.upto imagePartsSpec)

/-- 'cloakroomlaw21.ImageLast', WHERE WHAT IT READS IS OF BULK AT MOST 1048576: true; the input reads as it did. -/
def imageLastUptoRow : OpenClaim := { program := "ytkggcbfkhkgeaaa", sum := "a08503aabe4718dede25300335d0cba2d4edb95e7d76a3ccff2f1667ca602477", func := "cloakroom/cloakroomlaw21.ImageLast", spec := "imageLast", unfollowed := true, recurses := true, plainKeys := false, apart := false, narrowed := true }
def ImageLastUptoSaid : Prop := imageLastUptoRow.holds Try.pinned (OpenSpec.upto imageLastSpec)

/-- 'cloakroomlaw21.ImageChanges', WHERE WHAT IT READS IS OF BULK AT MOST 1048576: true; the input reads as it did. -/
def imageChangesUptoRow : OpenClaim := { program := "ytkggcbfkhkgeaaa", sum := "a08503aabe4718dede25300335d0cba2d4edb95e7d76a3ccff2f1667ca602477", func := "cloakroom/cloakroomlaw21.ImageChanges", spec := "imageChanges", unfollowed := true, recurses := true, plainKeys := false, apart := false, narrowed := true }
def ImageChangesUptoSaid : Prop := imageChangesUptoRow.holds Try.pinned (OpenSpec.upto imageChangesSpec)

/-- 'cloakroomlaw21.ImageNames', WHERE WHAT IT READS IS OF BULK AT MOST 1048576: true; the input reads as it did. -/
def imageNamesUptoRow : OpenClaim := { program := "ytkggcbfkhkgeaaa", sum := "a08503aabe4718dede25300335d0cba2d4edb95e7d76a3ccff2f1667ca602477", func := "cloakroom/cloakroomlaw21.ImageNames", spec := "imageNames", unfollowed := true, recurses := true, plainKeys := false, apart := false, narrowed := true }
def ImageNamesUptoSaid : Prop := imageNamesUptoRow.holds Try.pinned (OpenSpec.upto imageNamesSpec)

/-- 'cloakroomlaw21.ImageBack', WHERE WHAT IT READS IS OF BULK AT MOST 1048576: true; the input reads as it did. -/
def imageBackUptoRow : OpenClaim := { program := "ytkggcbfkhkgeaaa", sum := "a08503aabe4718dede25300335d0cba2d4edb95e7d76a3ccff2f1667ca602477", func := "cloakroom/cloakroomlaw21.ImageBack", spec := "imageBack", unfollowed := true, recurses := true, plainKeys := false, apart := false, narrowed := true }
def ImageBackUptoSaid : Prop := imageBackUptoRow.holds Try.pinned (OpenSpec.upto imageBackSpec)

end Rows
end Go.Proofs.Ytkggcbfkhkgeaaa
