/-
  No cell of these rows narrows 'for every input' (looked for: loops, veiled, ifaces, maps, wideKeys, modest, calm, conditions, laid).
  DERIVED. THE GIVEN ROWS OF THIS SEAT. 5 by the template 'for every input the law returns true; each argument reads behind the call as it read before'; 0 by the template 'total and deterministic' (their statements: YtpfjjbpoikgocaaTotals.lean).
  GIVEN WITH THE SEED: the statements are not yours to turn. If you find one false, say at which input.
  Laid BY PROGRAM, IN A SANDBOX (cutbox-rows.mjs): the forced cells as the released guide's own fill.sh prints them over the translation abce36db225bef4a… (all of the seat's roots in one cut). By AI agents, Wed Nov 11 2026. No macro, syntax, notation, axiom, sorry.
-/
import Derived.Test.YtpfjjbpoikgocaaChecked
import GoSem.Claim
import GoSem.ClaimJoined
import GoSem.ClaimMapViews
import Derived.JoinedTies
import Derived.KernelRfl
namespace Go.Proofs.Ytpfjjbpoikgocaa
/- THE CELL 'sum', in the pinned program and in every row, IS THE sha256 OF THE DUMP (.gsa) THAT YtpfjjbpoikgocaaProg.lean LOADS. Nothing in Lean hashes anything: it is a label: what it is worth is what the hold of that sum in a sandbox is worth. -/
noncomputable def Try.pinned : Pinned := { name := "ytpfjjbpoikgocaa", sum := "abce36db225bef4abb43cd83d8fce8a0798f8d2621cf9e964c0643ce88a1e03b", checked := Try.checked }
namespace Rows
def none {H : Type} : Left H := { results := [], args := [] }

/-- 'cloakroomlaw23.ReopenSwaps': WHATEVER THE INPUT: true; the input reads as it did. -/
def reopenSwapsSpec : ChangeSpec := { name := "reopenSwaps", fn := fun _ => fun
  | [d1, d2, d3] => { results := [.lit (.bool true)], args := [d1, d2, d3] }
  | _ => none }
def reopenSwapsRow : OpenClaim := { program := "ytpfjjbpoikgocaa", sum := "abce36db225bef4abb43cd83d8fce8a0798f8d2621cf9e964c0643ce88a1e03b", func := "cloakroom/cloakroomlaw23.ReopenSwaps", spec := "reopenSwaps", unfollowed := true, recurses := true, plainKeys := false, apart := false }
def ReopenSwapsSaid : Prop := reopenSwapsRow.holds Try.pinned (OpenSpec.ofChange reopenSwapsSpec)

/-- ITS FALSE NEIGHBOUR: 'it returns false'. Refute it at one input. -/
def reopenSwapsWrong : ChangeSpec := { name := "reopenSwaps", fn := fun _ => fun
  | [d1, d2, d3] => { results := [.lit (.bool false)], args := [d1, d2, d3] }
  | _ => none }
def ReopenSwapsWrongFalsely : Prop := reopenSwapsRow.holds Try.pinned (OpenSpec.ofChange reopenSwapsWrong)

/-- 'cloakroomlaw23.ReopenTorn': WHATEVER THE INPUT: true; the input reads as it did. -/
def reopenTornSpec : ChangeSpec := { name := "reopenTorn", fn := fun _ => fun
  | [d1, d2, d3] => { results := [.lit (.bool true)], args := [d1, d2, d3] }
  | _ => none }
def reopenTornRow : OpenClaim := { program := "ytpfjjbpoikgocaa", sum := "abce36db225bef4abb43cd83d8fce8a0798f8d2621cf9e964c0643ce88a1e03b", func := "cloakroom/cloakroomlaw23.ReopenTorn", spec := "reopenTorn", unfollowed := true, recurses := true, plainKeys := false, apart := false }
def ReopenTornSaid : Prop := reopenTornRow.holds Try.pinned (OpenSpec.ofChange reopenTornSpec)

/-- ITS FALSE NEIGHBOUR: 'it returns false'. Refute it at one input. -/
def reopenTornWrong : ChangeSpec := { name := "reopenTorn", fn := fun _ => fun
  | [d1, d2, d3] => { results := [.lit (.bool false)], args := [d1, d2, d3] }
  | _ => none }
def ReopenTornWrongFalsely : Prop := reopenTornRow.holds Try.pinned (OpenSpec.ofChange reopenTornWrong)

/-- 'cloakroomlaw23.ReopenNames': WHATEVER THE INPUT: true; the input reads as it did. -/
def reopenNamesSpec : ChangeSpec := { name := "reopenNames", fn := fun _ => fun
  | [] => { results := [.lit (.bool true)], args := [] }
  | _ => none }
def reopenNamesRow : OpenClaim := { program := "ytpfjjbpoikgocaa", sum := "abce36db225bef4abb43cd83d8fce8a0798f8d2621cf9e964c0643ce88a1e03b", func := "cloakroom/cloakroomlaw23.ReopenNames", spec := "reopenNames", unfollowed := true, recurses := true, plainKeys := false, apart := false }
def ReopenNamesSaid : Prop := reopenNamesRow.holds Try.pinned (OpenSpec.ofChange reopenNamesSpec)

/-- ITS FALSE NEIGHBOUR: 'it returns false'. Refute it at one input. -/
def reopenNamesWrong : ChangeSpec := { name := "reopenNames", fn := fun _ => fun
  | [] => { results := [.lit (.bool false)], args := [] }
  | _ => none }
def ReopenNamesWrongFalsely : Prop := reopenNamesRow.holds Try.pinned (OpenSpec.ofChange reopenNamesWrong)

/-- 'cloakroomlaw23.ReopenRoom': WHATEVER THE INPUT: true; the input reads as it did. -/
def reopenRoomSpec : ChangeSpec := { name := "reopenRoom", fn := fun _ => fun
  | [d1, d2] => { results := [.lit (.bool true)], args := [d1, d2] }
  | _ => none }
def reopenRoomRow : OpenClaim := { program := "ytpfjjbpoikgocaa", sum := "abce36db225bef4abb43cd83d8fce8a0798f8d2621cf9e964c0643ce88a1e03b", func := "cloakroom/cloakroomlaw23.ReopenRoom", spec := "reopenRoom", unfollowed := true, recurses := true, plainKeys := false, apart := false }
def ReopenRoomSaid : Prop := reopenRoomRow.holds Try.pinned (OpenSpec.ofChange reopenRoomSpec)

/-- ITS FALSE NEIGHBOUR: 'it returns false'. Refute it at one input. -/
def reopenRoomWrong : ChangeSpec := { name := "reopenRoom", fn := fun _ => fun
  | [d1, d2] => { results := [.lit (.bool false)], args := [d1, d2] }
  | _ => none }
def ReopenRoomWrongFalsely : Prop := reopenRoomRow.holds Try.pinned (OpenSpec.ofChange reopenRoomWrong)

/-- 'cloakroomlaw23.ReopenDays': WHATEVER THE INPUT: true; the input reads as it did. -/
def reopenDaysSpec : ChangeSpec := { name := "reopenDays", fn := fun _ => fun
  | [d1, d2, d3] => { results := [.lit (.bool true)], args := [d1, d2, d3] }
  | _ => none }
def reopenDaysRow : OpenClaim := { program := "ytpfjjbpoikgocaa", sum := "abce36db225bef4abb43cd83d8fce8a0798f8d2621cf9e964c0643ce88a1e03b", func := "cloakroom/cloakroomlaw23.ReopenDays", spec := "reopenDays", unfollowed := true, recurses := true, plainKeys := false, apart := false }
def ReopenDaysSaid : Prop := reopenDaysRow.holds Try.pinned (OpenSpec.ofChange reopenDaysSpec)

/-- ITS FALSE NEIGHBOUR: 'it returns false'. Refute it at one input. -/
def reopenDaysWrong : ChangeSpec := { name := "reopenDays", fn := fun _ => fun
  | [d1, d2, d3] => { results := [.lit (.bool false)], args := [d1, d2, d3] }
  | _ => none }
def ReopenDaysWrongFalsely : Prop := reopenDaysRow.holds Try.pinned (OpenSpec.ofChange reopenDaysWrong)

/- THE SECOND FORM. 'bulk': how many values and letters a reading holds, each counted each time it is reached (what is shared counts as often as it is met; a slice's spare places count too). A statement '..UptoSaid' is the law's where the arguments, and the package variables that the reading takes, are together of bulk at most 1048576: NARROWER than '..Said'. Prove '..Said' where nothing that the law and all that it calls make is longer than what came in: it says more and counts as full. Else prove '..UptoSaid'. A law counts once. -/
mutual
def uptoBulk {H : Type} : DataW H → Nat
  | .lit (.string bytes) => bytes.length + 1
  | .lit _ => 1
  | .nil => 1
  | .ptr d => uptoBulk d + 1
  | .slice elems spare => uptoBulkAll elems + uptoBulkAll spare + 1
  | .agg parts => uptoBulkAll parts + 1
  | .iface _ d => uptoBulk d + 1
  | .map entries => uptoBulkEntries entries + 1
  | .held _ => 1
def uptoBulkAll {H : Type} : List (DataW H) → Nat
  | [] => 0
  | d :: r => uptoBulk d + uptoBulkAll r
def uptoBulkEntries {H : Type} : List (Lit × DataW H) → Nat
  | [] => 0
  | x :: r => uptoBulkEntry x + uptoBulkEntries r
def uptoBulkEntry {H : Type} : Lit × DataW H → Nat
  | (.string bytes, d) => bytes.length + uptoBulk d + 1
  | (_, d) => uptoBulk d + 1
 end
def uptoSmall : (H : Type) → List (DataW H) → Bool := fun _ ds => decide (uptoBulkAll ds ≤ 1048576)
def OpenSpec.upto (s : _root_.Go.ChangeSpec) : _root_.Go.OpenSpec := { _root_.Go.OpenSpec.ofChange s with cond := some uptoSmall }

/-- 'cloakroomlaw23.ReopenSwaps', WHERE WHAT IT READS IS OF BULK AT MOST 1048576: true; the input reads as it did. -/
def reopenSwapsUptoRow : OpenClaim := { program := "ytpfjjbpoikgocaa", sum := "abce36db225bef4abb43cd83d8fce8a0798f8d2621cf9e964c0643ce88a1e03b", func := "cloakroom/cloakroomlaw23.ReopenSwaps", spec := "reopenSwaps", unfollowed := true, recurses := true, plainKeys := false, apart := false, narrowed := true }
def ReopenSwapsUptoSaid : Prop := reopenSwapsUptoRow.holds Try.pinned (OpenSpec.upto reopenSwapsSpec)

/-- 'cloakroomlaw23.ReopenTorn', WHERE WHAT IT READS IS OF BULK AT MOST 1048576: true; the input reads as it did. -/
def reopenTornUptoRow : OpenClaim := { program := "ytpfjjbpoikgocaa", sum := "abce36db225bef4abb43cd83d8fce8a0798f8d2621cf9e964c0643ce88a1e03b", func := "cloakroom/cloakroomlaw23.ReopenTorn", spec := "reopenTorn", unfollowed := true, recurses := true, plainKeys := false, apart := false, narrowed := true }
def ReopenTornUptoSaid : Prop := reopenTornUptoRow.holds Try.pinned (OpenSpec.upto reopenTornSpec)

/-- 'cloakroomlaw23.ReopenNames', WHERE WHAT IT READS IS OF BULK AT MOST 1048576: true; the input reads as it did. -/
def reopenNamesUptoRow : OpenClaim := { program := "ytpfjjbpoikgocaa", sum := "abce36db225bef4abb43cd83d8fce8a0798f8d2621cf9e964c0643ce88a1e03b", func := "cloakroom/cloakroomlaw23.ReopenNames", spec := "reopenNames", unfollowed := true, recurses := true, plainKeys := false, apart := false, narrowed := true }
def ReopenNamesUptoSaid : Prop := reopenNamesUptoRow.holds Try.pinned (OpenSpec.upto reopenNamesSpec)

/-- 'cloakroomlaw23.ReopenRoom', WHERE WHAT IT READS IS OF BULK AT MOST 1048576: true; the input reads as it did. -/
def reopenRoomUptoRow : OpenClaim := { program := "ytpfjjbpoikgocaa", sum := "abce36db225bef4abb43cd83d8fce8a0798f8d2621cf9e964c0643ce88a1e03b", func := "cloakroom/cloakroomlaw23.ReopenRoom", spec := "reopenRoom", unfollowed := true, recurses := true, plainKeys := false, apart := false, narrowed := true }
def ReopenRoomUptoSaid : Prop := reopenRoomUptoRow.holds Try.pinned (OpenSpec.upto reopenRoomSpec)

/-- 'cloakroomlaw23.ReopenDays', WHERE WHAT IT READS IS OF BULK AT MOST 1048576: true; the input reads as it did. -/
def reopenDaysUptoRow : OpenClaim := { program := "ytpfjjbpoikgocaa", sum := "abce36db225bef4abb43cd83d8fce8a0798f8d2621cf9e964c0643ce88a1e03b", func := "cloakroom/cloakroomlaw23.ReopenDays", spec := "reopenDays", unfollowed := true, recurses := true, plainKeys := false, apart := false, narrowed := true }
def ReopenDaysUptoSaid : Prop := reopenDaysUptoRow.holds Try.pinned (OpenSpec.upto reopenDaysSpec)

end Rows
end Go.Proofs.Ytpfjjbpoikgocaa
