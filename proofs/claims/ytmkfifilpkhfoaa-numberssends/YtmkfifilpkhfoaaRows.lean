/-
  No cell of these rows narrows 'for every input' (looked for: loops, veiled, ifaces, maps, wideKeys, modest, calm, conditions, laid).
  DERIVED. THE GIVEN ROWS OF THIS SEAT. 7 by the template 'for every input the law returns true; each argument reads behind the call as it read before'; 0 by the template 'total and deterministic' (their statements: YtmkfifilpkhfoaaTotals.lean).
  GIVEN WITH THE SEED: the statements are not yours to turn. If you find one false, say at which input.
  Laid BY PROGRAM, IN A SANDBOX (cutbox-rows.mjs): the forced cells as the released guide's own fill.sh prints them over the translation f21a8d91d768793d… (all of the seat's roots in one cut). By AI agents, Wed Nov 11 2026. No macro, syntax, notation, axiom, sorry.
-/
import Derived.Test.YtmkfifilpkhfoaaChecked
import GoSem.Claim
import GoSem.ClaimJoined
import GoSem.ClaimMapViews
import Derived.JoinedTies
import Derived.KernelRfl
namespace Go.Proofs.Ytmkfifilpkhfoaa
/- THE CELL 'sum', in the pinned program and in every row, IS THE sha256 OF THE DUMP (.gsa) THAT YtmkfifilpkhfoaaProg.lean LOADS. Nothing in Lean hashes anything: it is a label: what it is worth is what the hold of that sum in a sandbox is worth. -/
noncomputable def Try.pinned : Pinned := { name := "ytmkfifilpkhfoaa", sum := "f21a8d91d768793de4d9fcb0fae71f62f1ce69d4e2c45409befc1ee22098615e", checked := Try.checked }
namespace Rows
def none {H : Type} : Left H := { results := [], args := [] }

/-- 'cloakroomlaw24.NumbersBytes': WHATEVER THE INPUT: true; the input reads as it did. -/
def numbersBytesSpec : ChangeSpec := { name := "numbersBytes", fn := fun _ => fun
  | [d1, d2] => { results := [.lit (.bool true)], args := [d1, d2] }
  | _ => none }
def numbersBytesRow : OpenClaim := { program := "ytmkfifilpkhfoaa", sum := "f21a8d91d768793de4d9fcb0fae71f62f1ce69d4e2c45409befc1ee22098615e", func := "cloakroom/cloakroomlaw24.NumbersBytes", spec := "numbersBytes", unfollowed := true, recurses := true, plainKeys := false, apart := false }
def NumbersBytesSaid : Prop := numbersBytesRow.holds Try.pinned (OpenSpec.ofChange numbersBytesSpec)

/-- ITS FALSE NEIGHBOUR: 'it returns false'. Refute it at one input. -/
def numbersBytesWrong : ChangeSpec := { name := "numbersBytes", fn := fun _ => fun
  | [d1, d2] => { results := [.lit (.bool false)], args := [d1, d2] }
  | _ => none }
def NumbersBytesWrongFalsely : Prop := numbersBytesRow.holds Try.pinned (OpenSpec.ofChange numbersBytesWrong)

/-- 'cloakroomlaw24.NumbersEnough': WHATEVER THE INPUT: true; the input reads as it did. -/
def numbersEnoughSpec : ChangeSpec := { name := "numbersEnough", fn := fun _ => fun
  | [d1, d2, d3, d4] => { results := [.lit (.bool true)], args := [d1, d2, d3, d4] }
  | _ => none }
def numbersEnoughRow : OpenClaim := { program := "ytmkfifilpkhfoaa", sum := "f21a8d91d768793de4d9fcb0fae71f62f1ce69d4e2c45409befc1ee22098615e", func := "cloakroom/cloakroomlaw24.NumbersEnough", spec := "numbersEnough", unfollowed := true, recurses := true, plainKeys := false, apart := false }
def NumbersEnoughSaid : Prop := numbersEnoughRow.holds Try.pinned (OpenSpec.ofChange numbersEnoughSpec)

/-- ITS FALSE NEIGHBOUR: 'it returns false'. Refute it at one input. -/
def numbersEnoughWrong : ChangeSpec := { name := "numbersEnough", fn := fun _ => fun
  | [d1, d2, d3, d4] => { results := [.lit (.bool false)], args := [d1, d2, d3, d4] }
  | _ => none }
def NumbersEnoughWrongFalsely : Prop := numbersEnoughRow.holds Try.pinned (OpenSpec.ofChange numbersEnoughWrong)

/-- 'cloakroomlaw24.NumbersAcked': WHATEVER THE INPUT: true; the input reads as it did. -/
def numbersAckedSpec : ChangeSpec := { name := "numbersAcked", fn := fun _ => fun
  | [d1, d2, d3] => { results := [.lit (.bool true)], args := [d1, d2, d3] }
  | _ => none }
def numbersAckedRow : OpenClaim := { program := "ytmkfifilpkhfoaa", sum := "f21a8d91d768793de4d9fcb0fae71f62f1ce69d4e2c45409befc1ee22098615e", func := "cloakroom/cloakroomlaw24.NumbersAcked", spec := "numbersAcked", unfollowed := true, recurses := true, plainKeys := false, apart := false }
def NumbersAckedSaid : Prop := numbersAckedRow.holds Try.pinned (OpenSpec.ofChange numbersAckedSpec)

/-- ITS FALSE NEIGHBOUR: 'it returns false'. Refute it at one input. -/
def numbersAckedWrong : ChangeSpec := { name := "numbersAcked", fn := fun _ => fun
  | [d1, d2, d3] => { results := [.lit (.bool false)], args := [d1, d2, d3] }
  | _ => none }
def NumbersAckedWrongFalsely : Prop := numbersAckedRow.holds Try.pinned (OpenSpec.ofChange numbersAckedWrong)

/-- 'cloakroomlaw24.NumbersBack': WHATEVER THE INPUT: true; the input reads as it did. -/
def numbersBackSpec : ChangeSpec := { name := "numbersBack", fn := fun _ => fun
  | [d1, d2] => { results := [.lit (.bool true)], args := [d1, d2] }
  | _ => none }
def numbersBackRow : OpenClaim := { program := "ytmkfifilpkhfoaa", sum := "f21a8d91d768793de4d9fcb0fae71f62f1ce69d4e2c45409befc1ee22098615e", func := "cloakroom/cloakroomlaw24.NumbersBack", spec := "numbersBack", unfollowed := true, recurses := true, plainKeys := false, apart := false }
def NumbersBackSaid : Prop := numbersBackRow.holds Try.pinned (OpenSpec.ofChange numbersBackSpec)

/-- ITS FALSE NEIGHBOUR: 'it returns false'. Refute it at one input. -/
def numbersBackWrong : ChangeSpec := { name := "numbersBack", fn := fun _ => fun
  | [d1, d2] => { results := [.lit (.bool false)], args := [d1, d2] }
  | _ => none }
def NumbersBackWrongFalsely : Prop := numbersBackRow.holds Try.pinned (OpenSpec.ofChange numbersBackWrong)

/-- 'cloakroomlaw24.NumbersSends': WHATEVER THE INPUT: true; the input reads as it did. -/
def numbersSendsSpec : ChangeSpec := { name := "numbersSends", fn := fun _ => fun
  | [d1, d2, d3, d4, d5, d6] => { results := [.lit (.bool true)], args := [d1, d2, d3, d4, d5, d6] }
  | _ => none }
def numbersSendsRow : OpenClaim := { program := "ytmkfifilpkhfoaa", sum := "f21a8d91d768793de4d9fcb0fae71f62f1ce69d4e2c45409befc1ee22098615e", func := "cloakroom/cloakroomlaw24.NumbersSends", spec := "numbersSends", unfollowed := true, recurses := true, plainKeys := false, apart := false }
def NumbersSendsSaid : Prop := numbersSendsRow.holds Try.pinned (OpenSpec.ofChange numbersSendsSpec)

/-- ITS FALSE NEIGHBOUR: 'it returns false'. Refute it at one input. -/
def numbersSendsWrong : ChangeSpec := { name := "numbersSends", fn := fun _ => fun
  | [d1, d2, d3, d4, d5, d6] => { results := [.lit (.bool false)], args := [d1, d2, d3, d4, d5, d6] }
  | _ => none }
def NumbersSendsWrongFalsely : Prop := numbersSendsRow.holds Try.pinned (OpenSpec.ofChange numbersSendsWrong)

/-- 'cloakroomlaw24.NumbersRise': WHATEVER THE INPUT: true; the input reads as it did. -/
def numbersRiseSpec : ChangeSpec := { name := "numbersRise", fn := fun _ => fun
  | [d1, d2, d3, d4] => { results := [.lit (.bool true)], args := [d1, d2, d3, d4] }
  | _ => none }
def numbersRiseRow : OpenClaim := { program := "ytmkfifilpkhfoaa", sum := "f21a8d91d768793de4d9fcb0fae71f62f1ce69d4e2c45409befc1ee22098615e", func := "cloakroom/cloakroomlaw24.NumbersRise", spec := "numbersRise", unfollowed := true, recurses := true, plainKeys := false, apart := false }
def NumbersRiseSaid : Prop := numbersRiseRow.holds Try.pinned (OpenSpec.ofChange numbersRiseSpec)

/-- ITS FALSE NEIGHBOUR: 'it returns false'. Refute it at one input. -/
def numbersRiseWrong : ChangeSpec := { name := "numbersRise", fn := fun _ => fun
  | [d1, d2, d3, d4] => { results := [.lit (.bool false)], args := [d1, d2, d3, d4] }
  | _ => none }
def NumbersRiseWrongFalsely : Prop := numbersRiseRow.holds Try.pinned (OpenSpec.ofChange numbersRiseWrong)

/-- 'cloakroomlaw24.NumbersNames': WHATEVER THE INPUT: true; the input reads as it did. -/
def numbersNamesSpec : ChangeSpec := { name := "numbersNames", fn := fun _ => fun
  | [] => { results := [.lit (.bool true)], args := [] }
  | _ => none }
def numbersNamesRow : OpenClaim := { program := "ytmkfifilpkhfoaa", sum := "f21a8d91d768793de4d9fcb0fae71f62f1ce69d4e2c45409befc1ee22098615e", func := "cloakroom/cloakroomlaw24.NumbersNames", spec := "numbersNames", unfollowed := true, recurses := true, plainKeys := false, apart := false }
def NumbersNamesSaid : Prop := numbersNamesRow.holds Try.pinned (OpenSpec.ofChange numbersNamesSpec)

/-- ITS FALSE NEIGHBOUR: 'it returns false'. Refute it at one input. -/
def numbersNamesWrong : ChangeSpec := { name := "numbersNames", fn := fun _ => fun
  | [] => { results := [.lit (.bool false)], args := [] }
  | _ => none }
def NumbersNamesWrongFalsely : Prop := numbersNamesRow.holds Try.pinned (OpenSpec.ofChange numbersNamesWrong)

/- THE SECOND FORM. 'bulk': how many values and letters a reading holds, each counted each time it is reached (what is shared counts as often as it is met; a slice's spare places count too). A statement '..UptoSaid' is the law's where the arguments, and the package variables that the reading takes, are together of bulk at most 1048576: NARROWER than '..Said'. Prove '..Said' where nothing that the law and all that it calls make is longer than what came in: it says more and counts as full. Else prove '..UptoSaid'. A law counts once. -/
mutual
def uptoBulk {H : Type} : DataW H → Nat
  | .lit (.string bytes) => bytes.length + 1
  | .lit _ => 1
  | .nil => 1
  | .ptr d => uptoBulk d + 1
  | .slice elems spare => uptoBulkAll elems + uptoBulkAll spare + 1
  | .agg parts => uptoBulkAll parts + 1
  | .iface _ d => uptoBulk d + 1
  | .map entries => uptoBulkEntries entries + 1
  | .held _ => 1
def uptoBulkAll {H : Type} : List (DataW H) → Nat
  | [] => 0
  | d :: r => uptoBulk d + uptoBulkAll r
def uptoBulkEntries {H : Type} : List (Lit × DataW H) → Nat
  | [] => 0
  | x :: r => uptoBulkEntry x + uptoBulkEntries r
def uptoBulkEntry {H : Type} : Lit × DataW H → Nat
  | (.string bytes, d) => bytes.length + uptoBulk d + 1
  | (_, d) => uptoBulk d + 1
 end
def uptoSmall : (H : Type) → List (DataW H) → Bool := fun _ ds => decide (uptoBulkAll ds ≤ 1048576)
def OpenSpec.upto (s : _root_.Go.ChangeSpec) : _root_.Go.OpenSpec := { _root_.Go.OpenSpec.ofChange s with cond := some uptoSmall }

/-- 'cloakroomlaw24.NumbersBytes', WHERE WHAT IT READS IS OF BULK AT MOST 1048576: true; the input reads as it did. -/
def numbersBytesUptoRow : OpenClaim := { program := "ytmkfifilpkhfoaa", sum := "f21a8d91d768793de4d9fcb0fae71f62f1ce69d4e2c45409befc1ee22098615e", func := "cloakroom/cloakroomlaw24.NumbersBytes", spec := "numbersBytes", unfollowed := true, recurses := true, plainKeys := false, apart := false, narrowed := true }
def NumbersBytesUptoSaid : Prop := numbersBytesUptoRow.holds Try.pinned (OpenSpec.upto numbersBytesSpec)

/-- 'cloakroomlaw24.NumbersEnough', WHERE WHAT IT READS IS OF BULK AT MOST 1048576: true; the input reads as it did. -/
def numbersEnoughUptoRow : OpenClaim := { program := "ytmkfifilpkhfoaa", sum := "f21a8d91d768793de4d9fcb0fae71f62f1ce69d4e2c45409befc1ee22098615e", func := "cloakroom/cloakroomlaw24.NumbersEnough", spec := "numbersEnough", unfollowed := true, recurses := true, plainKeys := false, apart := false, narrowed := true }
def NumbersEnoughUptoSaid : Prop := numbersEnoughUptoRow.holds Try.pinned (OpenSpec.upto numbersEnoughSpec)

/-- 'cloakroomlaw24.NumbersAcked', WHERE WHAT IT READS IS OF BULK AT MOST 1048576: true; the input reads as it did. -/
def numbersAckedUptoRow : OpenClaim := { program := "ytmkfifilpkhfoaa", sum := "f21a8d91d768793de4d9fcb0fae71f62f1ce69d4e2c45409befc1ee22098615e", func := "cloakroom/cloakroomlaw24.NumbersAcked", spec := "numbersAcked", unfollowed := true, recurses := true, plainKeys := false, apart := false, narrowed := true }
def NumbersAckedUptoSaid : Prop := numbersAckedUptoRow.holds Try.pinned (OpenSpec.upto numbersAckedSpec)

/-- 'cloakroomlaw24.NumbersBack', WHERE WHAT IT READS IS OF BULK AT MOST 1048576: true; the input reads as it did. -/
def numbersBackUptoRow : OpenClaim := { program := "ytmkfifilpkhfoaa", sum := "f21a8d91d768793de4d9fcb0fae71f62f1ce69d4e2c45409befc1ee22098615e", func := "cloakroom/cloakroomlaw24.NumbersBack", spec := "numbersBack", unfollowed := true, recurses := true, plainKeys := false, apart := false, narrowed := true }
def NumbersBackUptoSaid : Prop := numbersBackUptoRow.holds Try.pinned (OpenSpec.upto numbersBackSpec)

/-- 'cloakroomlaw24.NumbersSends', WHERE WHAT IT READS IS OF BULK AT MOST 1048576: true; the input reads as it did. -/
def numbersSendsUptoRow : OpenClaim := { program := "ytmkfifilpkhfoaa", sum := "f21a8d91d768793de4d9fcb0fae71f62f1ce69d4e2c45409befc1ee22098615e", func := "cloakroom/cloakroomlaw24.NumbersSends", spec := "numbersSends", unfollowed := true, recurses := true, plainKeys := false, apart := false, narrowed := true }
def NumbersSendsUptoSaid : Prop := numbersSendsUptoRow.holds Try.pinned (OpenSpec.upto numbersSendsSpec)

/-- 'cloakroomlaw24.NumbersRise', WHERE WHAT IT READS IS OF BULK AT MOST 1048576: true; the input reads as it did. -/
def numbersRiseUptoRow : OpenClaim := { program := "ytmkfifilpkhfoaa", sum := "f21a8d91d768793de4d9fcb0fae71f62f1ce69d4e2c45409befc1ee22098615e", func := "cloakroom/cloakroomlaw24.NumbersRise", spec := "numbersRise", unfollowed := true, recurses := true, plainKeys := false, apart := false, narrowed := true }
def NumbersRiseUptoSaid : Prop := numbersRiseUptoRow.holds Try.pinned (OpenSpec.upto numbersRiseSpec)

/-- 'cloakroomlaw24.NumbersNames', WHERE WHAT IT READS IS OF BULK AT MOST 1048576: true; the input reads as it did. -/
def numbersNamesUptoRow : OpenClaim := { program := "ytmkfifilpkhfoaa", sum := "f21a8d91d768793de4d9fcb0fae71f62f1ce69d4e2c45409befc1ee22098615e", func := "cloakroom/cloakroomlaw24.NumbersNames", spec := "numbersNames", unfollowed := true, recurses := true, plainKeys := false, apart := false, narrowed := true }
def NumbersNamesUptoSaid : Prop := numbersNamesUptoRow.holds Try.pinned (OpenSpec.upto numbersNamesSpec)

end Rows
end Go.Proofs.Ytmkfifilpkhfoaa
