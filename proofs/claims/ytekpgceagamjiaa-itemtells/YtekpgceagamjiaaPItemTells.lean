/- The plain law of ItemTells. -/
import Derived.Test.YtekpgceagamjiaaF
import Derived.Test.YtekpgceagamjiaaA2
namespace Go.Proofs.Ytekpgceagamjiaa.itemTells
open Go.Abs
def mo (n : Int) : Bool := decide (0 ≤ n) && decide (n ≤ 1099511627776)
theorem moment (n : Int) : F_item_moment mx n = some (mo n) := by simp only [F_item_moment, bif_and, mo]
theorem moment' (n : Int) : F_ref09_Moment mx n = some (mo n) := by simp only [F_ref09_Moment, bif_and, mo]
def ck (a b : List Int) (d : Int) : Int := bif decide ((a.length : Int) < 1) || (decide (32 < (a.length : Int)) || decide (512 < (b.length : Int))) then 3 else bif mo d then 0 else 2
theorem check (a b c d e) : F_item_Check mx (a, b, c, d, e) = some (ck a b d) := by
  simp only [F_item_Check, F_item_Check.s24, moment, bif_or', Option.bind_some, ck]
  cases decide ((a.length : Int) < 1) || (decide (32 < (a.length : Int)) || decide (512 < (b.length : Int))) <;> cases mo d <;> rfl
theorem check' (a b c d e) : F_ref09_Check mx (a, b, c, d, e) = some (ck a b d) := by
  simp only [F_ref09_Check, moment', Option.bind_some, ck]
  cases decide ((a.length : Int) < 1) <;> cases decide (32 < (a.length : Int)) <;> cases decide (512 < (b.length : Int)) <;> cases mo d <;> rfl
theorem size (a b c d e) : ∃ x, F_item_Size mx (a, b, c, d, e) = some x ∧ F_ref09_Size mx (a, b, c, d, e) = some x := by
  simp only [F_item_Size, F_ref09_Size, F_ref09_Bytes, check, check', Option.bind_some]
  cases ck a b d != 0 <;> exact ⟨_, rfl, rfl⟩
theorem until_ (a b) : ∃ x, F_item_Until mx (a, b) = some x ∧ F_ref09_Until mx (a, b) = some x := by
  simp only [F_item_Until, F_ref09_Until, F_item_Until.s24, F_item_Until.s102, F_ref09_After, moment, moment', bif_or', Option.bind_some]
  cases mo a <;> cases mo b <;> cases b == 0 <;> cases decide (1099511627776 < IntKind.i64.wrap (a + b)) <;> exact ⟨_, rfl, rfl⟩
theorem pure (p) (_ : wfIns F_law09_ItemTells.sig.pars p) : F_law09_ItemTells mx p = some true := by
  obtain ⟨a, b, c, d, u, now, many⟩ := p
  obtain ⟨e1, h1, h1'⟩ := size a b c d u
  obtain ⟨e2, h2, h2'⟩ := until_ now many
  simp [F_law09_ItemTells, h1, h1', h2, h2', check, check', F_item_Due, F_ref09_Due, bif_and]
end Go.Proofs.Ytekpgceagamjiaa.itemTells
