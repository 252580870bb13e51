/-
  No cell of these rows narrows 'for every input' (looked for: loops, veiled, ifaces, maps, wideKeys, modest, calm, conditions, laid).
  DERIVED. THE GIVEN ROWS OF THIS SEAT. 5 by the template 'for every input the law returns true; each argument reads behind the call as it read before'; 0 by the template 'total and deterministic' (their statements: YtajlmgpcfbhgjaaTotals.lean).
  GIVEN WITH THE SEED: the statements are not yours to turn. If you find one false, say at which input.
  Laid BY PROGRAM, IN A SANDBOX (cutbox-rows.mjs): the forced cells as the released guide's own fill.sh prints them over the translation 8a45f92da95c03a9… (all of the seat's roots in one cut). By AI agents, Wed Nov 11 2026. No macro, syntax, notation, axiom, sorry.
-/
import Derived.Test.YtajlmgpcfbhgjaaChecked
import GoSem.Claim
import GoSem.ClaimJoined
import GoSem.ClaimMapViews
import Derived.JoinedTies
import Derived.KernelRfl
namespace Go.Proofs.Ytajlmgpcfbhgjaa
/- THE CELL 'sum', in the pinned program and in every row, IS THE sha256 OF THE DUMP (.gsa) THAT YtajlmgpcfbhgjaaProg.lean LOADS. Nothing in Lean hashes anything: it is a label: what it is worth is what the hold of that sum in a sandbox is worth. -/
noncomputable def Try.pinned : Pinned := { name := "ytajlmgpcfbhgjaa", sum := "8a45f92da95c03a9b99cd3ee0b4c56b49cb2e7b9ad4b4d6eae5960d89364fbc8", checked := Try.checked }
namespace Rows
def none {H : Type} : Left H := { results := [], args := [] }

/-- 'cloakroomlaw26.PromoteUnlike': WHATEVER THE INPUT: true; the input reads as it did. -/
def promoteUnlikeSpec : ChangeSpec := { name := "promoteUnlike", fn := fun _ => fun
  | [d1, d2] => { results := [.lit (.bool true)], args := [d1, d2] }
  | _ => none }
def promoteUnlikeRow : OpenClaim := { program := "ytajlmgpcfbhgjaa", sum := "8a45f92da95c03a9b99cd3ee0b4c56b49cb2e7b9ad4b4d6eae5960d89364fbc8", func := "cloakroom/cloakroomlaw26.PromoteUnlike", spec := "promoteUnlike", unfollowed := true, recurses := true, plainKeys := false, apart := false }
def PromoteUnlikeSaid : Prop := promoteUnlikeRow.holds Try.pinned (OpenSpec.ofChange promoteUnlikeSpec)

/-- ITS FALSE NEIGHBOUR: 'it returns false'. Refute it at one input. -/
def promoteUnlikeWrong : ChangeSpec := { name := "promoteUnlike", fn := fun _ => fun
  | [d1, d2] => { results := [.lit (.bool false)], args := [d1, d2] }
  | _ => none }
def PromoteUnlikeWrongFalsely : Prop := promoteUnlikeRow.holds Try.pinned (OpenSpec.ofChange promoteUnlikeWrong)

/-- 'cloakroomlaw26.PromoteNames': WHATEVER THE INPUT: true; the input reads as it did. -/
def promoteNamesSpec : ChangeSpec := { name := "promoteNames", fn := fun _ => fun
  | [] => { results := [.lit (.bool true)], args := [] }
  | _ => none }
def promoteNamesRow : OpenClaim := { program := "ytajlmgpcfbhgjaa", sum := "8a45f92da95c03a9b99cd3ee0b4c56b49cb2e7b9ad4b4d6eae5960d89364fbc8", func := "cloakroom/cloakroomlaw26.PromoteNames", spec := "promoteNames", unfollowed := true, recurses := true, plainKeys := false, apart := false }
def PromoteNamesSaid : Prop := promoteNamesRow.holds Try.pinned (OpenSpec.ofChange promoteNamesSpec)

/-- ITS FALSE NEIGHBOUR: 'it returns false'. Refute it at one input. -/
def promoteNamesWrong : ChangeSpec := { name := "promoteNames", fn := fun _ => fun
  | [] => { results := [.lit (.bool false)], args := [] }
  | _ => none }
def PromoteNamesWrongFalsely : Prop := promoteNamesRow.holds Try.pinned (OpenSpec.ofChange promoteNamesWrong)

/-- 'cloakroomlaw26.PromoteUp': WHATEVER THE INPUT: true; the input reads as it did. -/
def promoteUpSpec : ChangeSpec := { name := "promoteUp", fn := fun _ => fun
  | [d1, d2, d3] => { results := [.lit (.bool true)], args := [d1, d2, d3] }
  | _ => none }
def promoteUpRow : OpenClaim := { program := "ytajlmgpcfbhgjaa", sum := "8a45f92da95c03a9b99cd3ee0b4c56b49cb2e7b9ad4b4d6eae5960d89364fbc8", func := "cloakroom/cloakroomlaw26.PromoteUp", spec := "promoteUp", unfollowed := true, recurses := true, plainKeys := false, apart := false }
def PromoteUpSaid : Prop := promoteUpRow.holds Try.pinned (OpenSpec.ofChange promoteUpSpec)

/-- ITS FALSE NEIGHBOUR: 'it returns false'. Refute it at one input. -/
def promoteUpWrong : ChangeSpec := { name := "promoteUp", fn := fun _ => fun
  | [d1, d2, d3] => { results := [.lit (.bool false)], args := [d1, d2, d3] }
  | _ => none }
def PromoteUpWrongFalsely : Prop := promoteUpRow.holds Try.pinned (OpenSpec.ofChange promoteUpWrong)

/-- 'cloakroomlaw26.PromoteSure': WHATEVER THE INPUT: true; the input reads as it did. -/
def promoteSureSpec : ChangeSpec := { name := "promoteSure", fn := fun _ => fun
  | [d1, d2] => { results := [.lit (.bool true)], args := [d1, d2] }
  | _ => none }
def promoteSureRow : OpenClaim := { program := "ytajlmgpcfbhgjaa", sum := "8a45f92da95c03a9b99cd3ee0b4c56b49cb2e7b9ad4b4d6eae5960d89364fbc8", func := "cloakroom/cloakroomlaw26.PromoteSure", spec := "promoteSure", unfollowed := true, recurses := true, plainKeys := false, apart := false }
def PromoteSureSaid : Prop := promoteSureRow.holds Try.pinned (OpenSpec.ofChange promoteSureSpec)

/-- ITS FALSE NEIGHBOUR: 'it returns false'. Refute it at one input. -/
def promoteSureWrong : ChangeSpec := { name := "promoteSure", fn := fun _ => fun
  | [d1, d2] => { results := [.lit (.bool false)], args := [d1, d2] }
  | _ => none }
def PromoteSureWrongFalsely : Prop := promoteSureRow.holds Try.pinned (OpenSpec.ofChange promoteSureWrong)

/-- 'cloakroomlaw26.PromoteDown': WHATEVER THE INPUT: true; the input reads as it did. -/
def promoteDownSpec : ChangeSpec := { name := "promoteDown", fn := fun _ => fun
  | [d1, d2, d3, d4] => { results := [.lit (.bool true)], args := [d1, d2, d3, d4] }
  | _ => none }
def promoteDownRow : OpenClaim := { program := "ytajlmgpcfbhgjaa", sum := "8a45f92da95c03a9b99cd3ee0b4c56b49cb2e7b9ad4b4d6eae5960d89364fbc8", func := "cloakroom/cloakroomlaw26.PromoteDown", spec := "promoteDown", unfollowed := true, recurses := true, plainKeys := false, apart := false }
def PromoteDownSaid : Prop := promoteDownRow.holds Try.pinned (OpenSpec.ofChange promoteDownSpec)

/-- ITS FALSE NEIGHBOUR: 'it returns false'. Refute it at one input. -/
def promoteDownWrong : ChangeSpec := { name := "promoteDown", fn := fun _ => fun
  | [d1, d2, d3, d4] => { results := [.lit (.bool false)], args := [d1, d2, d3, d4] }
  | _ => none }
def PromoteDownWrongFalsely : Prop := promoteDownRow.holds Try.pinned (OpenSpec.ofChange promoteDownWrong)

/- THE SECOND FORM. 'bulk': how many values and letters a reading holds, each counted each time it is reached (what is shared counts as often as it is met; a slice's spare places count too). A statement '..UptoSaid' is the law's where the arguments, and the package variables that the reading takes, are together of bulk at most 1048576: NARROWER than '..Said'. Prove '..Said' where nothing that the law and all that it calls make is longer than what came in: it says more and counts as full. Else prove '..UptoSaid'. A law counts once. -/
mutual
def uptoBulk {H : Type} : DataW H → Nat
  | .lit (.string bytes) => bytes.length + 1
  | .lit _ => 1
  | .nil => 1
  | .ptr d => uptoBulk d + 1
  | .slice elems spare => uptoBulkAll elems + uptoBulkAll spare + 1
  | .agg parts => uptoBulkAll parts + 1
  | .iface _ d => uptoBulk d + 1
  | .map entries => uptoBulkEntries entries + 1
  | .held _ => 1
def uptoBulkAll {H : Type} : List (DataW H) → Nat
  | [] => 0
  | d :: r => uptoBulk d + uptoBulkAll r
def uptoBulkEntries {H : Type} : List (Lit × DataW H) → Nat
  | [] => 0
  | x :: r => uptoBulkEntry x + uptoBulkEntries r
def uptoBulkEntry {H : Type} : Lit × DataW H → Nat
  | (.string bytes, d) => bytes.length + uptoBulk d + 1
  | (_, d) => uptoBulk d + 1
 end
def uptoSmall : (H : Type) → List (DataW H) → Bool := fun _ ds => decide (uptoBulkAll ds ≤ 1048576)
def OpenSpec.upto (s : _root_.Go.ChangeSpec) : _root_.Go.OpenSpec := { _root_.Go.OpenSpec.ofChange s with cond := some uptoSmall }

/-- 'cloakroomlaw26.PromoteUnlike', WHERE WHAT IT READS IS OF BULK AT MOST 1048576: true; the input reads as it did. -/
def promoteUnlikeUptoRow : OpenClaim := { program := "ytajlmgpcfbhgjaa", sum := "8a45f92da95c03a9b99cd3ee0b4c56b49cb2e7b9ad4b4d6eae5960d89364fbc8", func := "cloakroom/cloakroomlaw26.PromoteUnlike", spec := "promoteUnlike", unfollowed := true, recurses := true, plainKeys := false, apart := false, narrowed := true }
def PromoteUnlikeUptoSaid : Prop := promoteUnlikeUptoRow.holds Try.pinned (OpenSpec.upto promoteUnlikeSpec)

/-- 'cloakroomlaw26.PromoteNames', WHERE WHAT IT READS IS OF BULK AT MOST 1048576: true; the input reads as it did. -/
def promoteNamesUptoRow : OpenClaim := { program := "ytajlmgpcfbhgjaa", sum := "8a45f92da95c03a9b99cd3ee0b4c56b49cb2e7b9ad4b4d6eae5960d89364fbc8", func := "cloakroom/cloakroomlaw26.PromoteNames", spec := "promoteNames", unfollowed := true, recurses := true, plainKeys := false, apart := false, narrowed := true }
def PromoteNamesUptoSaid : Prop := promoteNamesUptoRow.holds Try.pinned (OpenSpec.upto promoteNamesSpec)

/-- 'cloakroomlaw26.PromoteUp', WHERE WHAT IT READS IS OF BULK AT MOST 1048576: true; the input reads as it did. -/
def promoteUpUptoRow : OpenClaim := { program := "ytajlmgpcfbhgjaa", sum := "8a45f92da95c03a9b99cd3ee0b4c56b49cb2e7b9ad4b4d6eae5960d89364fbc8", func := "cloakroom/cloakroomlaw26.PromoteUp", spec := "promoteUp", unfollowed := true, recurses := true, plainKeys := false, apart := false, narrowed := true }
def PromoteUpUptoSaid : Prop := promoteUpUptoRow.holds Try.pinned (OpenSpec.upto promoteUpSpec)

/-- 'cloakroomlaw26.PromoteSure', WHERE WHAT IT READS IS OF BULK AT MOST 1048576: true; the input reads as it did. -/
def promoteSureUptoRow : OpenClaim := { program := "ytajlmgpcfbhgjaa", sum := "8a45f92da95c03a9b99cd3ee0b4c56b49cb2e7b9ad4b4d6eae5960d89364fbc8", func := "cloakroom/cloakroomlaw26.PromoteSure", spec := "promoteSure", unfollowed := true, recurses := true, plainKeys := false, apart := false, narrowed := true }
def PromoteSureUptoSaid : Prop := promoteSureUptoRow.holds Try.pinned (OpenSpec.upto promoteSureSpec)

/-- 'cloakroomlaw26.PromoteDown', WHERE WHAT IT READS IS OF BULK AT MOST 1048576: true; the input reads as it did. -/
def promoteDownUptoRow : OpenClaim := { program := "ytajlmgpcfbhgjaa", sum := "8a45f92da95c03a9b99cd3ee0b4c56b49cb2e7b9ad4b4d6eae5960d89364fbc8", func := "cloakroom/cloakroomlaw26.PromoteDown", spec := "promoteDown", unfollowed := true, recurses := true, plainKeys := false, apart := false, narrowed := true }
def PromoteDownUptoSaid : Prop := promoteDownUptoRow.holds Try.pinned (OpenSpec.upto promoteDownSpec)

end Rows
end Go.Proofs.Ytajlmgpcfbhgjaa
