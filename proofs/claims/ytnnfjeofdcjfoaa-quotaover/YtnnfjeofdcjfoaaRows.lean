/-
  No cell of these rows narrows 'for every input' (looked for: loops, veiled, ifaces, maps, wideKeys, modest, calm, conditions, laid).
  DERIVED. THE GIVEN ROWS OF THIS SEAT. 4 by the template 'for every input the law returns true; each argument reads behind the call as it read before'; 0 by the template 'total and deterministic' (their statements: YtnnfjeofdcjfoaaTotals.lean).
  GIVEN WITH THE SEED: the statements are not yours to turn. If you find one false, say at which input.
  Laid BY PROGRAM, IN A SANDBOX (cutbox-rows.mjs): the forced cells as the released guide's own fill.sh prints them over the translation e06c272503ed4972… (all of the seat's roots in one cut). By AI agents, Wed Nov 11 2026. No macro, syntax, notation, axiom, sorry.
-/
import Derived.Test.YtnnfjeofdcjfoaaChecked
import GoSem.Claim
import GoSem.ClaimJoined
import GoSem.ClaimMapViews
import Derived.JoinedTies
import Derived.KernelRfl
namespace Go.Proofs.Ytnnfjeofdcjfoaa
/- THE CELL 'sum', in the pinned program and in every row, IS THE sha256 OF THE DUMP (.gsa) THAT YtnnfjeofdcjfoaaProg.lean LOADS. Nothing in Lean hashes anything: it is a label: what it is worth is what the hold of that sum in a sandbox is worth. -/
noncomputable def Try.pinned : Pinned := { name := "ytnnfjeofdcjfoaa", sum := "e06c272503ed497258735b71f6e1e95fb1b4864c4699d4ff3384c79fe392282d", checked := Try.checked }
namespace Rows
def none {H : Type} : Left H := { results := [], args := [] }

/-- 'cloakroomlaw08.QuotaSets': WHATEVER THE INPUT: true; the input reads as it did. -/
def quotaSetsSpec : ChangeSpec := { name := "quotaSets", fn := fun _ => fun
  | [d1, d2, d3, d4] => { results := [.lit (.bool true)], args := [d1, d2, d3, d4] }
  | _ => none }
def quotaSetsRow : OpenClaim := { program := "ytnnfjeofdcjfoaa", sum := "e06c272503ed497258735b71f6e1e95fb1b4864c4699d4ff3384c79fe392282d", func := "cloakroom/cloakroomlaw08.QuotaSets", spec := "quotaSets", apart := false }
def QuotaSetsSaid : Prop := quotaSetsRow.holds Try.pinned (OpenSpec.ofChange quotaSetsSpec)

/-- ITS FALSE NEIGHBOUR: 'it returns false'. Refute it at one input. -/
def quotaSetsWrong : ChangeSpec := { name := "quotaSets", fn := fun _ => fun
  | [d1, d2, d3, d4] => { results := [.lit (.bool false)], args := [d1, d2, d3, d4] }
  | _ => none }
def QuotaSetsWrongFalsely : Prop := quotaSetsRow.holds Try.pinned (OpenSpec.ofChange quotaSetsWrong)

/-- 'cloakroomlaw08.QuotaNames': WHATEVER THE INPUT: true; the input reads as it did. -/
def quotaNamesSpec : ChangeSpec := { name := "quotaNames", fn := fun _ => fun
  | [] => { results := [.lit (.bool true)], args := [] }
  | _ => none }
def quotaNamesRow : OpenClaim := { program := "ytnnfjeofdcjfoaa", sum := "e06c272503ed497258735b71f6e1e95fb1b4864c4699d4ff3384c79fe392282d", func := "cloakroom/cloakroomlaw08.QuotaNames", spec := "quotaNames", unfollowed := true, recurses := true, apart := false }
def QuotaNamesSaid : Prop := quotaNamesRow.holds Try.pinned (OpenSpec.ofChange quotaNamesSpec)

/-- ITS FALSE NEIGHBOUR: 'it returns false'. Refute it at one input. -/
def quotaNamesWrong : ChangeSpec := { name := "quotaNames", fn := fun _ => fun
  | [] => { results := [.lit (.bool false)], args := [] }
  | _ => none }
def QuotaNamesWrongFalsely : Prop := quotaNamesRow.holds Try.pinned (OpenSpec.ofChange quotaNamesWrong)

/-- 'cloakroomlaw08.QuotaAsks': WHATEVER THE INPUT: true; the input reads as it did. -/
def quotaAsksSpec : ChangeSpec := { name := "quotaAsks", fn := fun _ => fun
  | [d1, d2, d3, d4, d5] => { results := [.lit (.bool true)], args := [d1, d2, d3, d4, d5] }
  | _ => none }
def quotaAsksRow : OpenClaim := { program := "ytnnfjeofdcjfoaa", sum := "e06c272503ed497258735b71f6e1e95fb1b4864c4699d4ff3384c79fe392282d", func := "cloakroom/cloakroomlaw08.QuotaAsks", spec := "quotaAsks", unfollowed := true, recurses := true, apart := false }
def QuotaAsksSaid : Prop := quotaAsksRow.holds Try.pinned (OpenSpec.ofChange quotaAsksSpec)

/-- ITS FALSE NEIGHBOUR: 'it returns false'. Refute it at one input. -/
def quotaAsksWrong : ChangeSpec := { name := "quotaAsks", fn := fun _ => fun
  | [d1, d2, d3, d4, d5] => { results := [.lit (.bool false)], args := [d1, d2, d3, d4, d5] }
  | _ => none }
def QuotaAsksWrongFalsely : Prop := quotaAsksRow.holds Try.pinned (OpenSpec.ofChange quotaAsksWrong)

/-- 'cloakroomlaw08.QuotaOver': WHATEVER THE INPUT: true; the input reads as it did. -/
def quotaOverSpec : ChangeSpec := { name := "quotaOver", fn := fun _ => fun
  | [d1, d2, d3] => { results := [.lit (.bool true)], args := [d1, d2, d3] }
  | _ => none }
def quotaOverRow : OpenClaim := { program := "ytnnfjeofdcjfoaa", sum := "e06c272503ed497258735b71f6e1e95fb1b4864c4699d4ff3384c79fe392282d", func := "cloakroom/cloakroomlaw08.QuotaOver", spec := "quotaOver", unfollowed := true, recurses := true, apart := false }
def QuotaOverSaid : Prop := quotaOverRow.holds Try.pinned (OpenSpec.ofChange quotaOverSpec)

/-- ITS FALSE NEIGHBOUR: 'it returns false'. Refute it at one input. -/
def quotaOverWrong : ChangeSpec := { name := "quotaOver", fn := fun _ => fun
  | [d1, d2, d3] => { results := [.lit (.bool false)], args := [d1, d2, d3] }
  | _ => none }
def QuotaOverWrongFalsely : Prop := quotaOverRow.holds Try.pinned (OpenSpec.ofChange quotaOverWrong)

/- THE SECOND FORM. 'bulk': how many values and letters a reading holds, each counted each time it is reached (what is shared counts as often as it is met; a slice's spare places count too). A statement '..UptoSaid' is the law's where the arguments, and the package variables that the reading takes, are together of bulk at most 1048576: NARROWER than '..Said'. Prove '..Said' where nothing that the law and all that it calls make is longer than what came in: it says more and counts as full. Else prove '..UptoSaid'. A law counts once. -/
mutual
def uptoBulk {H : Type} : DataW H → Nat
  | .lit (.string bytes) => bytes.length + 1
  | .lit _ => 1
  | .nil => 1
  | .ptr d => uptoBulk d + 1
  | .slice elems spare => uptoBulkAll elems + uptoBulkAll spare + 1
  | .agg parts => uptoBulkAll parts + 1
  | .iface _ d => uptoBulk d + 1
  | .map entries => uptoBulkEntries entries + 1
  | .held _ => 1
def uptoBulkAll {H : Type} : List (DataW H) → Nat
  | [] => 0
  | d :: r => uptoBulk d + uptoBulkAll r
def uptoBulkEntries {H : Type} : List (Lit × DataW H) → Nat
  | [] => 0
  | x :: r => uptoBulkEntry x + uptoBulkEntries r
def uptoBulkEntry {H : Type} : Lit × DataW H → Nat
  | (.string bytes, d) => bytes.length + uptoBulk d + 1
  | (_, d) => uptoBulk d + 1
 end
def uptoSmall : (H : Type) → List (DataW H) → Bool := fun _ ds => decide (uptoBulkAll ds ≤ 1048576)
def OpenSpec.upto (s : _root_.Go.ChangeSpec) : _root_.Go.OpenSpec := { _root_.Go.OpenSpec.ofChange s with cond := some uptoSmall }

/-- 'cloakroomlaw08.QuotaSets', WHERE WHAT IT READS IS OF BULK AT MOST 1048576: true; the input reads as it did. -/
def quotaSetsUptoRow : OpenClaim := { program := "ytnnfjeofdcjfoaa", sum := "e06c272503ed497258735b71f6e1e95fb1b4864c4699d4ff3384c79fe392282d", func := "cloakroom/cloakroomlaw08.QuotaSets", spec := "quotaSets", apart := false, narrowed := true }
def QuotaSetsUptoSaid : Prop := quotaSetsUptoRow.holds Try.pinned (OpenSpec.upto quotaSetsSpec)

/-- 'cloakroomlaw08.QuotaNames', WHERE WHAT IT READS IS OF BULK AT MOST 1048576: true; the input reads as it did. -/
def quotaNamesUptoRow : OpenClaim := { program := "ytnnfjeofdcjfoaa", sum := "e06c272503ed497258735b71f6e1e95fb1b4864c4699d4ff3384c79fe392282d", func := "cloakroom/cloakroomlaw08.QuotaNames", spec := "quotaNames", unfollowed := true, recurses := true, apart := false, narrowed := true }
def QuotaNamesUptoSaid : Prop := quotaNamesUptoRow.holds Try.pinned (OpenSpec.upto quotaNamesSpec)

/-- 'cloakroomlaw08.QuotaAsks', WHERE WHAT IT READS IS OF BULK AT MOST 1048576: true; the input reads as it did. -/
def quotaAsksUptoRow : OpenClaim := { program := "ytnnfjeofdcjfoaa", sum := "e06c272503ed497258735b71f6e1e95fb1b4864c4699d4ff3384c79fe392282d", func := "cloakroom/cloakroomlaw08.QuotaAsks", spec := "quotaAsks", unfollowed := true, recurses := true, apart := false, narrowed := true }
def QuotaAsksUptoSaid : Prop := quotaAsksUptoRow.holds Try.pinned (OpenSpec.upto quotaAsksSpec)

/-- 'cloakroomlaw08.QuotaOver', WHERE WHAT IT READS IS OF BULK AT MOST 1048576: true; the input reads as it did. -/
def quotaOverUptoRow : OpenClaim := { program := "ytnnfjeofdcjfoaa", sum := "e06c272503ed497258735b71f6e1e95fb1b4864c4699d4ff3384c79fe392282d", func := "cloakroom/cloakroomlaw08.QuotaOver", spec := "quotaOver", unfollowed := true, recurses := true, apart := false, narrowed := true }
def QuotaOverUptoSaid : Prop := quotaOverUptoRow.holds Try.pinned (OpenSpec.upto quotaOverSpec)

end Rows
end Go.Proofs.Ytnnfjeofdcjfoaa
