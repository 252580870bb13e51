/-
  No cell of these rows narrows 'for every input' (looked for: loops, veiled, ifaces, maps, wideKeys, modest, calm, conditions, laid).
  DERIVED. THE GIVEN ROWS OF THIS SEAT. 4 by the template 'for every input the law returns true; each argument reads behind the call as it read before'; 0 by the template 'total and deterministic' (their statements: YtepgfpihfpjefaaTotals.lean).
  GIVEN WITH THE SEED: the statements are not yours to turn. If you find one false, say at which input.
  Laid BY PROGRAM, IN A SANDBOX (cutbox-rows.mjs): the forced cells as the released guide's own fill.sh prints them over the translation 8dbbadc9dd330989… (all of the seat's roots in one cut). By AI agents, Wed Nov 11 2026. No macro, syntax, notation, axiom, sorry.
-/
import Derived.Test.YtepgfpihfpjefaaChecked
import GoSem.Claim
import GoSem.ClaimJoined
import GoSem.ClaimMapViews
import Derived.JoinedTies
import Derived.KernelRfl
namespace Go.Proofs.Ytepgfpihfpjefaa
/- THE CELL 'sum', in the pinned program and in every row, IS THE sha256 OF THE DUMP (.gsa) THAT YtepgfpihfpjefaaProg.lean LOADS. Nothing in Lean hashes anything: it is a label: what it is worth is what the hold of that sum in a sandbox is worth. -/
noncomputable def Try.pinned : Pinned := { name := "ytepgfpihfpjefaa", sum := "8dbbadc9dd3309896ec941ca39b2e2ef00a6f7fd42759a0dedff9c82f6db45ef", checked := Try.checked }
namespace Rows
def none {H : Type} : Left H := { results := [], args := [] }

/-- 'cloakroomlaw25.FollowNames': WHATEVER THE INPUT: true; the input reads as it did. -/
def followNamesSpec : ChangeSpec := { name := "followNames", fn := fun _ => fun
  | [] => { results := [.lit (.bool true)], args := [] }
  | _ => none }
def followNamesRow : OpenClaim := { program := "ytepgfpihfpjefaa", sum := "8dbbadc9dd3309896ec941ca39b2e2ef00a6f7fd42759a0dedff9c82f6db45ef", func := "cloakroom/cloakroomlaw25.FollowNames", spec := "followNames", unfollowed := true, recurses := true, plainKeys := false, apart := false }
def FollowNamesSaid : Prop := followNamesRow.holds Try.pinned (OpenSpec.ofChange followNamesSpec)

/-- ITS FALSE NEIGHBOUR: 'it returns false'. Refute it at one input. -/
def followNamesWrong : ChangeSpec := { name := "followNames", fn := fun _ => fun
  | [] => { results := [.lit (.bool false)], args := [] }
  | _ => none }
def FollowNamesWrongFalsely : Prop := followNamesRow.holds Try.pinned (OpenSpec.ofChange followNamesWrong)

/-- 'cloakroomlaw25.FollowNever': WHATEVER THE INPUT: true; the input reads as it did. -/
def followNeverSpec : ChangeSpec := { name := "followNever", fn := fun _ => fun
  | [d1, d2] => { results := [.lit (.bool true)], args := [d1, d2] }
  | _ => none }
def followNeverRow : OpenClaim := { program := "ytepgfpihfpjefaa", sum := "8dbbadc9dd3309896ec941ca39b2e2ef00a6f7fd42759a0dedff9c82f6db45ef", func := "cloakroom/cloakroomlaw25.FollowNever", spec := "followNever", unfollowed := true, recurses := true, plainKeys := false, apart := false }
def FollowNeverSaid : Prop := followNeverRow.holds Try.pinned (OpenSpec.ofChange followNeverSpec)

/-- ITS FALSE NEIGHBOUR: 'it returns false'. Refute it at one input. -/
def followNeverWrong : ChangeSpec := { name := "followNever", fn := fun _ => fun
  | [d1, d2] => { results := [.lit (.bool false)], args := [d1, d2] }
  | _ => none }
def FollowNeverWrongFalsely : Prop := followNeverRow.holds Try.pinned (OpenSpec.ofChange followNeverWrong)

/-- 'cloakroomlaw25.FollowCatches': WHATEVER THE INPUT: true; the input reads as it did. -/
def followCatchesSpec : ChangeSpec := { name := "followCatches", fn := fun _ => fun
  | [d1, d2, d3] => { results := [.lit (.bool true)], args := [d1, d2, d3] }
  | _ => none }
def followCatchesRow : OpenClaim := { program := "ytepgfpihfpjefaa", sum := "8dbbadc9dd3309896ec941ca39b2e2ef00a6f7fd42759a0dedff9c82f6db45ef", func := "cloakroom/cloakroomlaw25.FollowCatches", spec := "followCatches", unfollowed := true, recurses := true, plainKeys := false, apart := false }
def FollowCatchesSaid : Prop := followCatchesRow.holds Try.pinned (OpenSpec.ofChange followCatchesSpec)

/-- ITS FALSE NEIGHBOUR: 'it returns false'. Refute it at one input. -/
def followCatchesWrong : ChangeSpec := { name := "followCatches", fn := fun _ => fun
  | [d1, d2, d3] => { results := [.lit (.bool false)], args := [d1, d2, d3] }
  | _ => none }
def FollowCatchesWrongFalsely : Prop := followCatchesRow.holds Try.pinned (OpenSpec.ofChange followCatchesWrong)

/-- 'cloakroomlaw25.FollowPrefix': WHATEVER THE INPUT: true; the input reads as it did. -/
def followPrefixSpec : ChangeSpec := { name := "followPrefix", fn := fun _ => fun
  | [d1, d2, d3, d4] => { results := [.lit (.bool true)], args := [d1, d2, d3, d4] }
  | _ => none }
def followPrefixRow : OpenClaim := { program := "ytepgfpihfpjefaa", sum := "8dbbadc9dd3309896ec941ca39b2e2ef00a6f7fd42759a0dedff9c82f6db45ef", func := "cloakroom/cloakroomlaw25.FollowPrefix", spec := "followPrefix", unfollowed := true, recurses := true, plainKeys := false, apart := false }
def FollowPrefixSaid : Prop := followPrefixRow.holds Try.pinned (OpenSpec.ofChange followPrefixSpec)

/-- ITS FALSE NEIGHBOUR: 'it returns false'. Refute it at one input. -/
def followPrefixWrong : ChangeSpec := { name := "followPrefix", fn := fun _ => fun
  | [d1, d2, d3, d4] => { results := [.lit (.bool false)], args := [d1, d2, d3, d4] }
  | _ => none }
def FollowPrefixWrongFalsely : Prop := followPrefixRow.holds Try.pinned (OpenSpec.ofChange followPrefixWrong)

/- THE SECOND FORM. 'bulk': how many values and letters a reading holds, each counted each time it is reached (what is shared counts as often as it is met; a slice's spare places count too). A statement '..UptoSaid' is the law's where the arguments, and the package variables that the reading takes, are together of bulk at most 1048576: NARROWER than '..Said'. Prove '..Said' where nothing that the law and all that it calls make is longer than what came in: it says more and counts as full. Else prove '..UptoSaid'. A law counts once. -/
mutual
def uptoBulk {H : Type} : DataW H → Nat
  | .lit (.string bytes) => bytes.length + 1
  | .lit _ => 1
  | .nil => 1
  | .ptr d => uptoBulk d + 1
  | .slice elems spare => uptoBulkAll elems + uptoBulkAll spare + 1
  | .agg parts => uptoBulkAll parts + 1
  | .iface _ d => uptoBulk d + 1
  | .map entries => uptoBulkEntries entries + 1
  | .held _ => 1
def uptoBulkAll {H : Type} : List (DataW H) → Nat
  | [] => 0
  | d :: r => uptoBulk d + uptoBulkAll r
def uptoBulkEntries {H : Type} : List (Lit × DataW H) → Nat
  | [] => 0
  | x :: r => uptoBulkEntry x + uptoBulkEntries r
def uptoBulkEntry {H : Type} : Lit × DataW H → Nat
  | (.string bytes, d) => bytes.length + uptoBulk d + 1
  | (_, d) => uptoBulk d + 1
 end
def uptoSmall : (H : Type) → List (DataW H) → Bool := fun _ ds => decide (uptoBulkAll ds ≤ 1048576)
def OpenSpec.upto (s : _root_.Go.ChangeSpec) : _root_.Go.OpenSpec := { _root_.Go.OpenSpec.ofChange s with cond := some uptoSmall }

/-- 'cloakroomlaw25.FollowNames', WHERE WHAT IT READS IS OF BULK AT MOST 1048576: true; the input reads as it did. -/
def followNamesUptoRow : OpenClaim := { program := "ytepgfpihfpjefaa", sum := "8dbbadc9dd3309896ec941ca39b2e2ef00a6f7fd42759a0dedff9c82f6db45ef", func := "cloakroom/cloakroomlaw25.FollowNames", spec := "followNames", unfollowed := true, recurses := true, plainKeys := false, apart := false, narrowed := true }
def FollowNamesUptoSaid : Prop := followNamesUptoRow.holds Try.pinned (OpenSpec.upto followNamesSpec)

/-- 'cloakroomlaw25.FollowNever', WHERE WHAT IT READS IS OF BULK AT MOST 1048576: true; the input reads as it did. -/
def followNeverUptoRow : OpenClaim := { program := "ytepgfpihfpjefaa", sum := "8dbbadc9dd3309896ec941ca39b2e2ef00a6f7fd42759a0dedff9c82f6db45ef", func := "cloakroom/cloakroomlaw25.FollowNever", spec := "followNever", unfollowed := true, recurses := true, plainKeys := false, apart := false, narrowed := true }
def FollowNeverUptoSaid : Prop := followNeverUptoRow.holds Try.pinned (OpenSpec.upto followNeverSpec)

/-- 'cloakroomlaw25.FollowCatches', WHERE WHAT IT READS IS OF BULK AT MOST 1048576: true; the input reads as it did. -/
def followCatchesUptoRow : OpenClaim := { program := "ytepgfpihfpjefaa", sum := "8dbbadc9dd3309896ec941ca39b2e2ef00a6f7fd42759a0dedff9c82f6db45ef", func := "cloakroom/cloakroomlaw25.FollowCatches", spec := "followCatches", unfollowed := true, recurses := true, plainKeys := false, apart := false, narrowed := true }
def FollowCatchesUptoSaid : Prop := followCatchesUptoRow.holds Try.pinned (OpenSpec.upto followCatchesSpec)

/-- 'cloakroomlaw25.FollowPrefix', WHERE WHAT IT READS IS OF BULK AT MOST 1048576: true; the input reads as it did. -/
def followPrefixUptoRow : OpenClaim := { program := "ytepgfpihfpjefaa", sum := "8dbbadc9dd3309896ec941ca39b2e2ef00a6f7fd42759a0dedff9c82f6db45ef", func := "cloakroom/cloakroomlaw25.FollowPrefix", spec := "followPrefix", unfollowed := true, recurses := true, plainKeys := false, apart := false, narrowed := true }
def FollowPrefixUptoSaid : Prop := followPrefixUptoRow.holds Try.pinned (OpenSpec.upto followPrefixSpec)

end Rows
end Go.Proofs.Ytepgfpihfpjefaa
