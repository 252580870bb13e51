/- The pure functions that the program's functions compute, and that they compute them. Printed by a program of this session (gen.py). -/
import Derived.Test.YtekpgceagamjiaaDoorProg
import Derived.Test.YtekpgceagamjiaaDoorA3
import Derived.WalkKit
import Derived.Tactics
import Derived.Tactics2
import Derived.StillTactics
import Derived.Laws.Pointers
import Derived.RegionTactic
import Derived.LoopTactic
import Derived.ChangeAlike
import Derived.Laws.Bits64b
import Derived.Test.YtekpgceagamjiaaDoorH6
namespace Go.Proofs.YtekpgceagamjiaaDoor
open Go.Abs Go.RowKit
set_option maxRecDepth 100000
theorem mix : Tryd.prog.follows .mixedOrders = true := by kernel_rfl
/-! ### cloakroom/item.Number -/
noncomputable def F_item_Number (m : Fu) (p : List Int) : Option (Int × Bool) := numFn m p
def F_item_Number.sig : Sig := numSig
noncomputable def F_item_Number.S : Summ := ⟨7, numSig, numFn⟩
theorem F_item_Number.sound : Sound Tryd.prog F_item_Number.S := number_sound
/-! ### cloakroom/cloakroomref09.Number -/
noncomputable def F_ref09_Number.s6 (_ : Fu) (a0 : List Int) : Option ((Int × Bool) ⊕ Unit) :=
  bif a0 == ([] : List Int) then some (Sum.inl ((0 : Int), false)) else
  bif decide ((20 : Int) < (a0.length : Int)) then some (Sum.inl ((0 : Int), false)) else
  bif decide ((0 : Int) < (a0.length : Int)) then
    bif (a0.getD 0 0) == (48 : Int) then
      bif !(a0 == ([48] : List Int)) then
        some (Sum.inl ((0 : Int), false))
      else some (Sum.inr ())
    else some (Sum.inr ())
  else none
noncomputable def F_ref09_Number.l122 (_ : Fu) (a0 : List Int) (x10 : Int × Int) : Option (Step (Int × Int) ((Int × Bool) ⊕ Int)) :=
  bif decide (x10.2 < (a0.length : Int)) then
    bif (decide ((0 : Int) ≤ x10.2)) && (decide (x10.2 < (a0.length : Int))) then
      bif decide ((a0.getD x10.2.toNat 0) < (48 : Int)) then some (.fin (Sum.inl ((0 : Int), false))) else
      bif (decide ((0 : Int) ≤ x10.2)) && (decide (x10.2 < (a0.length : Int))) then
        bif decide ((57 : Int) < (a0.getD x10.2.toNat 0)) then some (.fin (Sum.inl ((0 : Int), false))) else
        bif (decide ((0 : Int) ≤ x10.2)) && (decide (x10.2 < (a0.length : Int))) then
          let x19 := IntKind.u64.wrap (IntKind.u8.wrap ((a0.getD x10.2.toNat 0) - (48 : Int)))
          bif decide ((IntKind.u64.wrap ((IntKind.u64.wrap ((18446744073709551615 : Int) - x19)).tdiv (10 : Int))) < x10.1) then
            some (.fin (Sum.inl ((0 : Int), false)))
          else some (.next ((IntKind.u64.wrap ((IntKind.u64.wrap ((10 : Int) * x10.1)) + x19)), (IntKind.i64.wrap (x10.2 + (1 : Int)))))
        else none
      else none
    else none
  else some (.fin (Sum.inr x10.1))
noncomputable def F_ref09_Number (m : Fu) (p : List Int) : Option (Int × Bool) :=
  let a0 := p
  (F_ref09_Number.s6 m a0).bind fun x7 =>
  match x7 with
  | .inl x8 =>
    some x8
  | .inr _ =>
    (iter m (F_ref09_Number.l122 m a0) ((0 : Int), (0 : Int))).bind fun x26 =>
    match x26 with
    | .inl x27 =>
      some x27
    | .inr x28 =>
      some (x28, true)
def F_ref09_Number.ann : List (Nat × Ann) := [(6, .jnt [(.ret, ⟨[(2, false, [.dat (.int .u64)]), (3, false, [.dat .bool])], [], [], [], 48⟩), (.normal, ⟨[], [], [], [], 48⟩)]),
  (122, .loop ⟨[(4, false, [.dat (.int .u64)]), (5, false, [.dat (.int .i64)])], [], [], [], 80⟩ [(.ret, ⟨[(2, false, [.dat (.int .u64)]), (3, false, [.dat .bool])], [], [], [], 80⟩), (.exit 0, ⟨[(4, false, [.dat (.int .u64)])], [], [], [], 80⟩)])]
def F_ref09_Number.sig : Sig := ⟨[.val false [.str]], [(false, [.dat (.int .u64)]), (false, [.dat .bool])]⟩
noncomputable def F_ref09_Number.S : Summ := ⟨8, F_ref09_Number.sig, F_ref09_Number⟩
noncomputable def F_ref09_Number.G : List Summ := []
theorem F_ref09_Number.eq : absF Tryd.prog F_ref09_Number.G F_ref09_Number.ann F_ref09_Number.sig Tryd.f8 = F_ref09_Number := by kernel_rfl
theorem F_ref09_Number.sound : Sound Tryd.prog F_ref09_Number.S := absF_sound (fn := Tryd.f8) (Γ := F_ref09_Number.G) all_nil mix (by kernel_rfl) (by kernel_rfl) (fun m p => congrFun (congrFun F_ref09_Number.eq m) p)
/-! ### cloakroom/item.Text -/
noncomputable def F_item_Text (m : Fu) (p : Int) : Option (List Int) := textFn m p
def F_item_Text.sig : Sig := textSig
noncomputable def F_item_Text.S : Summ := ⟨13, textSig, textFn⟩
theorem F_item_Text.sound : Sound Tryd.prog F_item_Text.S := text_sound
/-! ### cloakroom/item.Count -/
noncomputable def F_item_Count.s14 (_ : Fu) (a1 : Int) (a2 : Bool) (x1 : Int × Bool) : Option (((List Int) × Int × Bool) ⊕ Int) :=
  bif !x1.2 then some (Sum.inl (([] : List Int), (0 : Int), false)) else
  bif !a2 then
    some (Sum.inr (IntKind.u64.wrap (x1.1 + a1)))
  else some (Sum.inr (IntKind.u64.wrap (x1.1 - (mnI x1.1 a1))))
noncomputable def F_item_Count (m : Fu) (p : (List Int) × Int × Bool) : Option ((List Int) × Int × Bool) :=
  let a0 := p.1
  let a1 := p.2.1
  let a2 := p.2.2
  (F_item_Number m a0).bind fun x1 =>
  (F_item_Count.s14 m a1 a2 x1).bind fun x7 =>
  match x7 with
  | .inl x8 =>
    some x8
  | .inr x9 =>
    (F_item_Text m x9).bind fun x10 =>
    some (x10, x9, true)
def F_item_Count.ann : List (Nat × Ann) := [(14, .jnt [(.ret, ⟨[(6, false, [.dat .str]), (7, false, [.dat (.int .u64)]), (8, false, [.dat .bool])], [], [], [], 208⟩), (.normal, ⟨[(9, false, [.dat (.int .u64)])], [], [], [], 208⟩)])]
def F_item_Count.sig : Sig := ⟨[.val false [.str], .val false [.int .u64], .val false [.bool]], [(false, [.dat .str]), (false, [.dat (.int .u64)]), (false, [.dat .bool])]⟩
noncomputable def F_item_Count.S : Summ := ⟨9, F_item_Count.sig, F_item_Count⟩
noncomputable def F_item_Count.G : List Summ := [F_item_Number.S, F_item_Text.S]
theorem F_item_Count.eq : absF Tryd.prog F_item_Count.G F_item_Count.ann F_item_Count.sig Tryd.f9 = F_item_Count := by kernel_rfl
theorem F_item_Count.sound : Sound Tryd.prog F_item_Count.S := absF_sound (fn := Tryd.f9) (Γ := F_item_Count.G) (all_cons F_item_Number.sound (all_cons F_item_Text.sound all_nil)) mix (by kernel_rfl) (by kernel_rfl) (fun m p => congrFun (congrFun F_item_Count.eq m) p)
/-! ### cloakroom/cloakroomref09.Text -/
noncomputable def F_ref09_Text (m : Fu) (p : Int) : Option (List Int) := textFn m p
def F_ref09_Text.sig : Sig := textSig
noncomputable def F_ref09_Text.S : Summ := ⟨14, textSig, textFn⟩
theorem F_ref09_Text.sound : Sound Tryd.prog F_ref09_Text.S := rtext_sound
/-! ### cloakroom/cloakroomref09.Count -/
noncomputable def F_ref09_Count.s30 (_ : Fu) (a1 : Int) (a2 : Bool) (x1 : Int × Bool) : Option (Int) :=
  bif !a2 then some (IntKind.u64.wrap (x1.1 + a1)) else
  bif decide (x1.1 < a1) then
    some (0 : Int)
  else some (IntKind.u64.wrap (x1.1 - a1))
noncomputable def F_ref09_Count (m : Fu) (p : (List Int) × Int × Bool) : Option ((List Int) × Int × Bool) :=
  let a0 := p.1
  let a1 := p.2.1
  let a2 := p.2.2
  (F_ref09_Number m a0).bind fun x1 =>
  bif !x1.2 then some (([] : List Int), (0 : Int), false) else
  (F_ref09_Count.s30 m a1 a2 x1).bind fun x7 =>
  (F_ref09_Text m x7).bind fun x8 =>
  some (x8, x7, true)
def F_ref09_Count.ann : List (Nat × Ann) := [(30, .jnt [(.normal, ⟨[(9, false, [.dat (.int .u64)])], [], [], [], 240⟩)])]
def F_ref09_Count.sig : Sig := ⟨[.val false [.str], .val false [.int .u64], .val false [.bool]], [(false, [.dat .str]), (false, [.dat (.int .u64)]), (false, [.dat .bool])]⟩
noncomputable def F_ref09_Count.S : Summ := ⟨10, F_ref09_Count.sig, F_ref09_Count⟩
noncomputable def F_ref09_Count.G : List Summ := [F_ref09_Number.S, F_ref09_Text.S]
theorem F_ref09_Count.eq : absF Tryd.prog F_ref09_Count.G F_ref09_Count.ann F_ref09_Count.sig Tryd.f10 = F_ref09_Count := by kernel_rfl
theorem F_ref09_Count.sound : Sound Tryd.prog F_ref09_Count.S := absF_sound (fn := Tryd.f10) (Γ := F_ref09_Count.G) (all_cons F_ref09_Number.sound (all_cons F_ref09_Text.sound all_nil)) mix (by kernel_rfl) (by kernel_rfl) (fun m p => congrFun (congrFun F_ref09_Count.eq m) p)
/-! ### cloakroom/item.Join -/
noncomputable def F_item_Join (_ : Fu) (p : (List Int) × (List Int)) : Option ((List Int) × Int) :=
  let a0 := p.1
  let a1 := p.2
  bif decide ((512 : Int) < (a0.length : Int)) then some (([] : List Int), (3 : Int)) else
  bif decide ((IntKind.i64.wrap ((512 : Int) - (a0.length : Int))) < (a1.length : Int)) then some (([] : List Int), (3 : Int)) else
  bif Nat.ble (a0.length + a1.length) 140737488351232 then
    some ((a0 ++ a1), (0 : Int))
  else none
def F_item_Join.ann : List (Nat × Ann) := []
def F_item_Join.sig : Sig := ⟨[.val false [.str], .val false [.str]], [(false, [.dat .str]), (false, [.dat (.int .i64)])]⟩
noncomputable def F_item_Join.S : Summ := ⟨11, F_item_Join.sig, F_item_Join⟩
noncomputable def F_item_Join.G : List Summ := []
theorem F_item_Join.eq : absF Tryd.prog F_item_Join.G F_item_Join.ann F_item_Join.sig Tryd.f11 = F_item_Join := by kernel_rfl
theorem F_item_Join.sound : Sound Tryd.prog F_item_Join.S := absF_sound (fn := Tryd.f11) (Γ := F_item_Join.G) all_nil mix (by kernel_rfl) (by kernel_rfl) (fun m p => congrFun (congrFun F_item_Join.eq m) p)
/-! ### cloakroom/cloakroomref09.Join -/
noncomputable def F_ref09_Join (_ : Fu) (p : (List Int) × (List Int)) : Option ((List Int) × Int) :=
  let a0 := p.1
  let a1 := p.2
  bif decide ((512 : Int) < (IntKind.i64.wrap ((a0.length : Int) + (a1.length : Int)))) then some (([] : List Int), (3 : Int)) else
  bif Nat.ble (a0.length + a1.length) 140737488351232 then
    some ((a0 ++ a1), (0 : Int))
  else none
def F_ref09_Join.ann : List (Nat × Ann) := []
def F_ref09_Join.sig : Sig := ⟨[.val false [.str], .val false [.str]], [(false, [.dat .str]), (false, [.dat (.int .i64)])]⟩
noncomputable def F_ref09_Join.S : Summ := ⟨12, F_ref09_Join.sig, F_ref09_Join⟩
noncomputable def F_ref09_Join.G : List Summ := []
theorem F_ref09_Join.eq : absF Tryd.prog F_ref09_Join.G F_ref09_Join.ann F_ref09_Join.sig Tryd.f12 = F_ref09_Join := by kernel_rfl
theorem F_ref09_Join.sound : Sound Tryd.prog F_ref09_Join.S := absF_sound (fn := Tryd.f12) (Γ := F_ref09_Join.G) all_nil mix (by kernel_rfl) (by kernel_rfl) (fun m p => congrFun (congrFun F_ref09_Join.eq m) p)
/-! ### cloakroom/cloakroomlaw09.ItemCounts -/
noncomputable def F_law09_ItemCounts (m : Fu) (p : (List Int) × (List Int) × Int × Bool) : Option (Bool) :=
  let a0 := p.1
  let a1 := p.2.1
  let a2 := p.2.2.1
  let a3 := p.2.2.2
  bif decide ((2000 : Int) < (a0.length : Int)) then some true else
  bif decide ((2000 : Int) < (a1.length : Int)) then some true else
  (F_item_Number m a0).bind fun x5 =>
  (F_ref09_Number m a0).bind fun x6 =>
  (F_item_Count m (a0, a2, a3)).bind fun x7 =>
  (F_ref09_Count m (a0, a2, a3)).bind fun x8 =>
  (F_item_Join m (a0, a1)).bind fun x9 =>
  (F_ref09_Join m (a0, a1)).bind fun x10 =>
  bif x5.1 == x6.1 then
    bif x5.2 == x6.2 then
      (F_item_Text m a2).bind fun x13 =>
      (F_ref09_Text m a2).bind fun x14 =>
      bif x13 == x14 then
        bif x7.1 == x8.1 then
          bif x7.2.1 == x8.2.1 then
            bif x7.2.2 == x8.2.2 then
              bif x9.1 == x10.1 then
                some (x9.2 == x10.2)
              else some false
            else some false
          else some false
        else some false
      else some false
    else some false
  else some false
def F_law09_ItemCounts.ann : List (Nat × Ann) := []
def F_law09_ItemCounts.sig : Sig := ⟨[.val false [.str], .val false [.str], .val false [.int .u64], .val false [.bool]], [(false, [.dat .bool])]⟩
noncomputable def F_law09_ItemCounts.S : Summ := ⟨3, F_law09_ItemCounts.sig, F_law09_ItemCounts⟩
noncomputable def F_law09_ItemCounts.G : List Summ := [F_item_Number.S, F_ref09_Number.S, F_item_Count.S, F_ref09_Count.S, F_item_Join.S, F_ref09_Join.S, F_item_Text.S, F_ref09_Text.S]
theorem F_law09_ItemCounts.eq : absF Tryd.prog F_law09_ItemCounts.G F_law09_ItemCounts.ann F_law09_ItemCounts.sig Tryd.f3 = F_law09_ItemCounts := by kernel_rfl
theorem F_law09_ItemCounts.sound : Sound Tryd.prog F_law09_ItemCounts.S := absF_sound (fn := Tryd.f3) (Γ := F_law09_ItemCounts.G) (all_cons F_item_Number.sound (all_cons F_ref09_Number.sound (all_cons F_item_Count.sound (all_cons F_ref09_Count.sound (all_cons F_item_Join.sound (all_cons F_ref09_Join.sound (all_cons F_item_Text.sound (all_cons F_ref09_Text.sound all_nil)))))))) mix (by kernel_rfl) (by kernel_rfl) (fun m p => congrFun (congrFun F_law09_ItemCounts.eq m) p)
/-! ### cloakroom/item.moment -/
noncomputable def F_item_moment (_ : Fu) (p : Int) : Option (Bool) :=
  let a0 := p
  bif decide ((0 : Int) ≤ a0) then
    some (decide (a0 ≤ (1099511627776 : Int)))
  else some false
def F_item_moment.ann : List (Nat × Ann) := []
def F_item_moment.sig : Sig := ⟨[.val false [.int .i64]], [(false, [.dat .bool])]⟩
noncomputable def F_item_moment.S : Summ := ⟨22, F_item_moment.sig, F_item_moment⟩
noncomputable def F_item_moment.G : List Summ := []
theorem F_item_moment.eq : absF Tryd.prog F_item_moment.G F_item_moment.ann F_item_moment.sig Tryd.f22 = F_item_moment := by kernel_rfl
theorem F_item_moment.sound : Sound Tryd.prog F_item_moment.S := absF_sound (fn := Tryd.f22) (Γ := F_item_moment.G) all_nil mix (by kernel_rfl) (by kernel_rfl) (fun m p => congrFun (congrFun F_item_moment.eq m) p)
/-! ### cloakroom/item.Check -/
noncomputable def F_item_Check.s24 (_ : Fu) (a0 : List Int) (a1 : List Int) : Option (Bool) :=
  let x2 := decide ((a0.length : Int) < (1 : Int))
  bif x2 then some x2 else
  let x4 := decide ((32 : Int) < (a0.length : Int))
  bif x4 then
    some x4
  else some (decide ((512 : Int) < (a1.length : Int)))
noncomputable def F_item_Check (m : Fu) (p : (List Int) × (List Int) × Int × Int × Int) : Option (Int) :=
  let a0 := p.1
  let a1 := p.2.1
  let a3 := p.2.2.2.1
  (F_item_Check.s24 m a0 a1).bind fun x7 =>
  bif x7 then some (3 : Int) else
  (F_item_moment m a3).bind fun x8 =>
  bif !x8 then
    some (2 : Int)
  else some (0 : Int)
def F_item_Check.ann : List (Nat × Ann) := [(24, .jnt [(.normal, ⟨[(3, false, [.dat .bool])], [], [], [], 48⟩)])]
def F_item_Check.sig : Sig := ⟨[.val true [.str, .str, .int .u32, .int .i64, .int .u64]], [(false, [.dat (.int .i64)])]⟩
noncomputable def F_item_Check.S : Summ := ⟨18, F_item_Check.sig, F_item_Check⟩
noncomputable def F_item_Check.G : List Summ := [F_item_moment.S]
theorem F_item_Check.eq : absF Tryd.prog F_item_Check.G F_item_Check.ann F_item_Check.sig Tryd.f18 = F_item_Check := by kernel_rfl
theorem F_item_Check.sound : Sound Tryd.prog F_item_Check.S := absF_sound (fn := Tryd.f18) (Γ := F_item_Check.G) (all_cons F_item_moment.sound all_nil) mix (by kernel_rfl) (by kernel_rfl) (fun m p => congrFun (congrFun F_item_Check.eq m) p)
/-! ### cloakroom/item.Size -/
noncomputable def F_item_Size (m : Fu) (p : (List Int) × (List Int) × Int × Int × Int) : Option (Int × Int) :=
  let a0 := p.1
  let a1 := p.2.1
  let a2 := p.2.2.1
  let a3 := p.2.2.2.1
  let a4 := p.2.2.2.2
  (F_item_Check m (a0, a1, a2, a3, a4)).bind fun x1 =>
  bif x1 != (0 : Int) then
    some ((0 : Int), x1)
  else some ((IntKind.i64.wrap ((IntKind.i64.wrap ((8 : Int) + (a0.length : Int))) + (a1.length : Int))), (0 : Int))
def F_item_Size.ann : List (Nat × Ann) := []
def F_item_Size.sig : Sig := ⟨[.val true [.str, .str, .int .u32, .int .i64, .int .u64]], [(false, [.dat (.int .i64)]), (false, [.dat (.int .i64)])]⟩
noncomputable def F_item_Size.S : Summ := ⟨21, F_item_Size.sig, F_item_Size⟩
noncomputable def F_item_Size.G : List Summ := [F_item_Check.S]
theorem F_item_Size.eq : absF Tryd.prog F_item_Size.G F_item_Size.ann F_item_Size.sig Tryd.f21 = F_item_Size := by kernel_rfl
theorem F_item_Size.sound : Sound Tryd.prog F_item_Size.S := absF_sound (fn := Tryd.f21) (Γ := F_item_Size.G) (all_cons F_item_Check.sound all_nil) mix (by kernel_rfl) (by kernel_rfl) (fun m p => congrFun (congrFun F_item_Size.eq m) p)
/-! ### cloakroom/cloakroomlaw09.alive -/
noncomputable def F_law09_alive (m : Fu) (_ : Unit) : Option (Bool) :=
  (F_item_Size m (([107] : List Int), ([97, 98, 99] : List Int), (0 : Int), (0 : Int), (0 : Int))).bind fun x1 =>
  (F_item_Count m (([49, 48] : List Int), (3 : Int), false)).bind fun x2 =>
  bif x1.1 == (12 : Int) then
    bif x1.2 == (0 : Int) then
      bif x2.1 == ([49, 51] : List Int) then
        bif x2.2.1 == (13 : Int) then
          some x2.2.2
        else some false
      else some false
    else some false
  else some false
def F_law09_alive.ann : List (Nat × Ann) := []
def F_law09_alive.sig : Sig := ⟨[], [(false, [.dat .bool])]⟩
noncomputable def F_law09_alive.S : Summ := ⟨15, F_law09_alive.sig, F_law09_alive⟩
noncomputable def F_law09_alive.G : List Summ := [F_item_Size.S, F_item_Count.S]
theorem F_law09_alive.eq : absF Tryd.prog F_law09_alive.G F_law09_alive.ann F_law09_alive.sig Tryd.f15 = F_law09_alive := by kernel_rfl
theorem F_law09_alive.sound : Sound Tryd.prog F_law09_alive.S := absF_sound (fn := Tryd.f15) (Γ := F_law09_alive.G) (all_cons F_item_Size.sound (all_cons F_item_Count.sound all_nil)) mix (by kernel_rfl) (by kernel_rfl) (fun m p => congrFun (congrFun F_law09_alive.eq m) p)
/-! ### cloakroom/cloakroomlaw09.ItemBack -/
noncomputable def F_law09_ItemBack.s60 (_ : Fu) (a1 : List Int) (x1 : Bool) : Option (Bool) :=
  bif decide ((2000 : Int) < (a1.length : Int)) then
    some true
  else some (!x1)
noncomputable def F_law09_ItemBack (m : Fu) (p : Int × (List Int)) : Option (Bool) :=
  let a0 := p.1
  let a1 := p.2
  (F_law09_alive m ()).bind fun x1 =>
  (F_item_Text m a0).bind fun x2 =>
  (F_item_Number m x2).bind fun x3 =>
  (F_law09_ItemBack.s60 m a1 x1).bind fun x7 =>
  bif x7 then
    bif x1 then
      bif x3.2 then
        some (x3.1 == a0)
      else some false
    else some false
  else
    (F_item_Number m a1).bind fun x9 =>
    bif x3.2 then
      bif x3.1 == a0 then
        bif !x9.2 then some true else
        (F_item_Text m x9.1).bind fun x12 =>
        some (x12 == a1)
      else some false
    else some false
def F_law09_ItemBack.ann : List (Nat × Ann) := [(60, .jnt [(.normal, ⟨[(23, false, [.dat .bool])], [], [], [], 208⟩)])]
def F_law09_ItemBack.sig : Sig := ⟨[.val false [.int .u64], .val false [.str]], [(false, [.dat .bool])]⟩
noncomputable def F_law09_ItemBack.S : Summ := ⟨4, F_law09_ItemBack.sig, F_law09_ItemBack⟩
noncomputable def F_law09_ItemBack.G : List Summ := [F_law09_alive.S, F_item_Text.S, F_item_Number.S]
theorem F_law09_ItemBack.eq : absF Tryd.prog F_law09_ItemBack.G F_law09_ItemBack.ann F_law09_ItemBack.sig Tryd.f4 = F_law09_ItemBack := by kernel_rfl
theorem F_law09_ItemBack.sound : Sound Tryd.prog F_law09_ItemBack.S := absF_sound (fn := Tryd.f4) (Γ := F_law09_ItemBack.G) (all_cons F_law09_alive.sound (all_cons F_item_Text.sound (all_cons F_item_Number.sound all_nil))) mix (by kernel_rfl) (by kernel_rfl) (fun m p => congrFun (congrFun F_law09_ItemBack.eq m) p)
/-! ### cloakroom/item.Due -/
noncomputable def F_item_Due (_ : Fu) (p : (List Int) × (List Int) × Int × Int × Int × Int) : Option (Bool) :=
  let a3 := p.2.2.2.1
  let a5 := p.2.2.2.2.2
  bif a3 != (0 : Int) then
    some (decide (a3 ≤ a5))
  else some false
def F_item_Due.ann : List (Nat × Ann) := []
def F_item_Due.sig : Sig := ⟨[.val true [.str, .str, .int .u32, .int .i64, .int .u64], .val false [.int .i64]], [(false, [.dat .bool])]⟩
noncomputable def F_item_Due.S : Summ := ⟨16, F_item_Due.sig, F_item_Due⟩
noncomputable def F_item_Due.G : List Summ := []
theorem F_item_Due.eq : absF Tryd.prog F_item_Due.G F_item_Due.ann F_item_Due.sig Tryd.f16 = F_item_Due := by kernel_rfl
theorem F_item_Due.sound : Sound Tryd.prog F_item_Due.S := absF_sound (fn := Tryd.f16) (Γ := F_item_Due.G) all_nil mix (by kernel_rfl) (by kernel_rfl) (fun m p => congrFun (congrFun F_item_Due.eq m) p)
/-! ### cloakroom/cloakroomlaw09.ItemTurns -/
noncomputable def F_law09_ItemTurns.s126 (m : Fu) (a0 : Int) (x3 : (List Int) × Int × Bool) (x4 : (List Int) × Int × Bool) : Option (Bool ⊕ Unit) :=
  bif decide (a0 ≤ x3.2.1) then
    bif x4.2.1 != a0 then some (Sum.inl false) else
    (F_item_Text m a0).bind fun x15 =>
    bif !(x4.1 == x15) then
      some (Sum.inl false)
    else some (Sum.inr ())
  else some (Sum.inr ())
noncomputable def F_law09_ItemTurns (m : Fu) (p : Int × Int × (List Int) × (List Int) × Int × Int × Int × Int × Int) : Option (Bool) :=
  let a0 := p.1
  let a1 := p.2.1
  let a2 := p.2.2.1
  let a3 := p.2.2.2.1
  let a4 := p.2.2.2.2.1
  let a5 := p.2.2.2.2.2.1
  let a6 := p.2.2.2.2.2.2.1
  let a7 := p.2.2.2.2.2.2.2.1
  let a8 := p.2.2.2.2.2.2.2.2
  (F_law09_alive m ()).bind fun x1 =>
  (F_item_Text m a0).bind fun x2 =>
  (F_item_Count m (x2, a1, false)).bind fun x3 =>
  (F_item_Count m (x3.1, a1, true)).bind fun x4 =>
  bif !x3.2.2 then some false else
  bif !x4.2.2 then some false else
  bif x3.2.1 != (IntKind.u64.wrap (a0 + a1)) then some false else
  (F_item_Text m x3.2.1).bind fun x9 =>
  bif !(x9 == x3.1) then some false else
  (F_item_Text m x4.2.1).bind fun x11 =>
  bif !(x11 == x4.1) then some false else
  (F_law09_ItemTurns.s126 m a0 x3 x4).bind fun x17 =>
  match x17 with
  | .inl x18 =>
    some x18
  | .inr _ =>
    bif x1 then
      (F_item_Due m (a2, a3, a4, a5, a6, a7)).bind fun x20 =>
      bif !x20 then some true else
      bif decide (a8 < a7) then some true else
      (F_item_Due m (a2, a3, a4, a5, a6, a8)).bind fun x23 =>
      some x23
    else some false
def F_law09_ItemTurns.ann : List (Nat × Ann) := [(126, .jnt [(.ret, ⟨[(10, false, [.dat .bool])], [], [], [], 880⟩), (.normal, ⟨[], [], [], [], 880⟩)])]
def F_law09_ItemTurns.sig : Sig := ⟨[.val false [.int .u64], .val false [.int .u64], .val true [.str, .str, .int .u32, .int .i64, .int .u64], .val false [.int .i64], .val false [.int .i64]], [(false, [.dat .bool])]⟩
noncomputable def F_law09_ItemTurns.S : Summ := ⟨5, F_law09_ItemTurns.sig, F_law09_ItemTurns⟩
noncomputable def F_law09_ItemTurns.G : List Summ := [F_law09_alive.S, F_item_Text.S, F_item_Count.S, F_item_Due.S]
theorem F_law09_ItemTurns.eq : absF Tryd.prog F_law09_ItemTurns.G F_law09_ItemTurns.ann F_law09_ItemTurns.sig Tryd.f5 = F_law09_ItemTurns := by kernel_rfl
theorem F_law09_ItemTurns.sound : Sound Tryd.prog F_law09_ItemTurns.S := absF_sound (fn := Tryd.f5) (Γ := F_law09_ItemTurns.G) (all_cons F_law09_alive.sound (all_cons F_item_Text.sound (all_cons F_item_Count.sound (all_cons F_item_Due.sound all_nil)))) mix (by kernel_rfl) (by kernel_rfl) (fun m p => congrFun (congrFun F_law09_ItemTurns.eq m) p)
/-! ### cloakroom/item.Until -/
noncomputable def F_item_Until.s24 (m : Fu) (a0 : Int) (a1 : Int) : Option (Bool) :=
  (F_item_moment m a0).bind fun x1 =>
  let x2 := !x1
  bif x2 then some x2 else
  (F_item_moment m a1).bind fun x3 =>
  some (!x3)
noncomputable def F_item_Until.s102 (_ : Fu) (a0 : Int) (a1 : Int) : Option (Bool) :=
  let x6 := a1 == (0 : Int)
  bif x6 then
    some x6
  else some (decide ((1099511627776 : Int) < (IntKind.i64.wrap (a0 + a1))))
noncomputable def F_item_Until (m : Fu) (p : Int × Int) : Option (Int × Int) :=
  let a0 := p.1
  let a1 := p.2
  (F_item_Until.s24 m a0 a1).bind fun x5 =>
  bif x5 then some ((0 : Int), (2 : Int)) else
  (F_item_Until.s102 m a0 a1).bind fun x9 =>
  bif x9 then
    some ((0 : Int), (0 : Int))
  else some ((IntKind.i64.wrap (a0 + a1)), (0 : Int))
def F_item_Until.ann : List (Nat × Ann) := [(24, .jnt [(.normal, ⟨[(6, false, [.dat .bool])], [], [], [], 64⟩)]),
  (102, .jnt [(.normal, ⟨[(13, false, [.dat .bool])], [], [], [], 64⟩)])]
def F_item_Until.sig : Sig := ⟨[.val false [.int .i64], .val false [.int .i64]], [(false, [.dat (.int .i64)]), (false, [.dat (.int .i64)])]⟩
noncomputable def F_item_Until.S : Summ := ⟨17, F_item_Until.sig, F_item_Until⟩
noncomputable def F_item_Until.G : List Summ := [F_item_moment.S]
theorem F_item_Until.eq : absF Tryd.prog F_item_Until.G F_item_Until.ann F_item_Until.sig Tryd.f17 = F_item_Until := by kernel_rfl
theorem F_item_Until.sound : Sound Tryd.prog F_item_Until.S := absF_sound (fn := Tryd.f17) (Γ := F_item_Until.G) (all_cons F_item_moment.sound all_nil) mix (by kernel_rfl) (by kernel_rfl) (fun m p => congrFun (congrFun F_item_Until.eq m) p)
/-! ### cloakroom/cloakroomlaw09.ItemNames -/
noncomputable def F_law09_ItemNames.s126 (_ : Fu) (x1 : Int × Int) (x2 : Int × Int) (x3 : Int × Int) (x4 : Int × Int) : Option (Bool) :=
  bif x1.1 == (0 : Int) then
    bif x2.1 == (12 : Int) then
      bif x3.1 == (0 : Int) then
        bif x1.2 == (0 : Int) then
          bif x2.2 == (0 : Int) then
            bif x3.2 == (0 : Int) then
              some (x4.2 == (2 : Int))
            else some false
          else some false
        else some false
      else some false
    else some false
  else some false
noncomputable def F_law09_ItemNames.s8190 (_ : Fu) (x13 : Int × Bool) (x14 : Int × Bool) (x15 : Int × Bool) (x16 : Int × Bool) (x17 : Int × Bool) : Option (Bool) :=
  bif x13.1 == (18446744073709551615 : Int) then
    bif x13.2 then
      bif !x14.2 then
        bif x15.1 == (0 : Int) then
          bif x15.2 then
            bif !x16.2 then
              some (!x17.2)
            else some false
          else some false
        else some false
      else some false
    else some false
  else some false
noncomputable def F_law09_ItemNames (m : Fu) (_ : Unit) : Option (Bool) :=
  (F_item_Until m ((5 : Int), (0 : Int))).bind fun x1 =>
  (F_item_Until m ((5 : Int), (7 : Int))).bind fun x2 =>
  (F_item_Until m ((1099511627776 : Int), (1 : Int))).bind fun x3 =>
  (F_item_Until m ((-1 : Int), (0 : Int))).bind fun x4 =>
  (F_law09_ItemNames.s126 m x1 x2 x3 x4).bind fun x12 =>
  (F_item_Number m ([49, 56, 52, 52, 54, 55, 52, 52, 48, 55, 51, 55, 48, 57, 53, 53, 49, 54, 49, 53] : List Int)).bind fun x13 =>
  (F_item_Number m ([49, 56, 52, 52, 54, 55, 52, 52, 48, 55, 51, 55, 48, 57, 53, 53, 49, 54, 49, 54] : List Int)).bind fun x14 =>
  (F_item_Number m ([48] : List Int)).bind fun x15 =>
  (F_item_Number m ([48, 48] : List Int)).bind fun x16 =>
  (F_item_Number m ([] : List Int)).bind fun x17 =>
  (F_law09_ItemNames.s8190 m x13 x14 x15 x16 x17).bind fun x23 =>
  (F_item_Count m (([49, 48] : List Int), (3 : Int), true)).bind fun x24 =>
  (F_item_Count m (([49, 48] : List Int), (11 : Int), true)).bind fun x25 =>
  (F_item_Count m (([120] : List Int), (1 : Int), false)).bind fun x26 =>
  (F_item_Check m (([] : List Int), ([] : List Int), (0 : Int), (0 : Int), (0 : Int))).bind fun x27 =>
  (F_item_Check m (([107] : List Int), ([] : List Int), (0 : Int), (-1 : Int), (0 : Int))).bind fun x28 =>
  (F_law09_alive m ()).bind fun x29 =>
  bif x29 then
    bif x12 then
      bif x23 then
        bif x24.1 == ([55] : List Int) then
          bif x25.1 == ([48] : List Int) then
            bif !x26.2.2 then
              bif x27 == (3 : Int) then
                some (x28 == (2 : Int))
              else some false
            else some false
          else some false
        else some false
      else some false
    else some false
  else some false
def F_law09_ItemNames.ann : List (Nat × Ann) := [(126, .jnt [(.normal, ⟨[(9, false, [.dat .bool])], [], [], [], 400⟩)]),
  (8190, .jnt [(.normal, ⟨[(20, false, [.dat .bool])], [], [], [], 880⟩)])]
def F_law09_ItemNames.sig : Sig := ⟨[], [(false, [.dat .bool])]⟩
noncomputable def F_law09_ItemNames.S : Summ := ⟨6, F_law09_ItemNames.sig, F_law09_ItemNames⟩
noncomputable def F_law09_ItemNames.G : List Summ := [F_item_Until.S, F_item_Number.S, F_item_Count.S, F_item_Check.S, F_law09_alive.S]
theorem F_law09_ItemNames.eq : absF Tryd.prog F_law09_ItemNames.G F_law09_ItemNames.ann F_law09_ItemNames.sig Tryd.f6 = F_law09_ItemNames := by kernel_rfl
theorem F_law09_ItemNames.sound : Sound Tryd.prog F_law09_ItemNames.S := absF_sound (fn := Tryd.f6) (Γ := F_law09_ItemNames.G) (all_cons F_item_Until.sound (all_cons F_item_Number.sound (all_cons F_item_Count.sound (all_cons F_item_Check.sound (all_cons F_law09_alive.sound all_nil))))) mix (by kernel_rfl) (by kernel_rfl) (fun m p => congrFun (congrFun F_law09_ItemNames.eq m) p)
end Go.Proofs.YtekpgceagamjiaaDoor
