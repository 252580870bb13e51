/- The pure functions that the program's functions compute, and that they compute them. Printed by a program of this session (gen.py). -/
import Derived.Test.YtekpgceagamjiaaProg
import Derived.Test.YtekpgceagamjiaaA2
namespace Go.Proofs.Ytekpgceagamjiaa
open Go.Abs
set_option maxRecDepth 100000
theorem mix : Try.prog.follows .mixedOrders = true := by kernel_rfl
/-! ### cloakroom/item.moment -/
noncomputable def F_item_moment (m : Fu) (p : Int) : Option (Bool) :=
  let a0 := p
  bif decide ((0 : Int) ≤ a0) then
    some (decide (a0 ≤ (1099511627776 : Int)))
  else some false
def F_item_moment.ann : List (Nat × Ann) := []
def F_item_moment.sig : Sig := ⟨[.val false [.int .i64]], [(false, [.dat .bool])]⟩
noncomputable def F_item_moment.S : Summ := ⟨13, F_item_moment.sig, F_item_moment⟩
noncomputable def F_item_moment.G : List Summ := []
theorem F_item_moment.eq : absF Try.prog F_item_moment.G F_item_moment.ann F_item_moment.sig Try.f13 = F_item_moment := by kernel_rfl
theorem F_item_moment.sound : Sound Try.prog F_item_moment.S := absF_sound (fn := Try.f13) (Γ := F_item_moment.G) all_nil mix (by kernel_rfl) (by kernel_rfl) (fun m p => congrFun (congrFun F_item_moment.eq m) p)
/-! ### cloakroom/item.Check -/
noncomputable def F_item_Check.s24 (m : Fu) (a0 : List Int) (a1 : List Int) : Option (Bool) :=
  let x2 := decide ((a0.length : Int) < (1 : Int))
  bif x2 then some x2 else
  let x4 := decide ((32 : Int) < (a0.length : Int))
  bif x4 then
    some x4
  else some (decide ((512 : Int) < (a1.length : Int)))
noncomputable def F_item_Check (m : Fu) (p : (List Int) × (List Int) × Int × Int × Int) : Option (Int) :=
  let a0 := p.1
  let a1 := p.2.1
  let a3 := p.2.2.2.1
  (F_item_Check.s24 m a0 a1).bind fun x7 =>
  bif x7 then some (3 : Int) else
  (F_item_moment m a3).bind fun x8 =>
  bif !x8 then
    some (2 : Int)
  else some (0 : Int)
def F_item_Check.ann : List (Nat × Ann) := [(24, .jnt [(.normal, ⟨[(3, false, [.dat .bool])], [], [], [], 48⟩)])]
def F_item_Check.sig : Sig := ⟨[.val true [.str, .str, .int .u32, .int .i64, .int .u64]], [(false, [.dat (.int .i64)])]⟩
noncomputable def F_item_Check.S : Summ := ⟨8, F_item_Check.sig, F_item_Check⟩
noncomputable def F_item_Check.G : List Summ := [F_item_moment.S]
theorem F_item_Check.eq : absF Try.prog F_item_Check.G F_item_Check.ann F_item_Check.sig Try.f8 = F_item_Check := by kernel_rfl
theorem F_item_Check.sound : Sound Try.prog F_item_Check.S := absF_sound (fn := Try.f8) (Γ := F_item_Check.G) (all_cons F_item_moment.sound all_nil) mix (by kernel_rfl) (by kernel_rfl) (fun m p => congrFun (congrFun F_item_Check.eq m) p)
/-! ### cloakroom/item.Size -/
noncomputable def F_item_Size (m : Fu) (p : (List Int) × (List Int) × Int × Int × Int) : Option (Int × Int) :=
  let a0 := p.1
  let a1 := p.2.1
  let a2 := p.2.2.1
  let a3 := p.2.2.2.1
  let a4 := p.2.2.2.2
  (F_item_Check m (a0, a1, a2, a3, a4)).bind fun x1 =>
  bif x1 != (0 : Int) then
    some ((0 : Int), x1)
  else some ((IntKind.i64.wrap ((IntKind.i64.wrap ((8 : Int) + (a0.length : Int))) + (a1.length : Int))), (0 : Int))
def F_item_Size.ann : List (Nat × Ann) := []
def F_item_Size.sig : Sig := ⟨[.val true [.str, .str, .int .u32, .int .i64, .int .u64]], [(false, [.dat (.int .i64)]), (false, [.dat (.int .i64)])]⟩
noncomputable def F_item_Size.S : Summ := ⟨4, F_item_Size.sig, F_item_Size⟩
noncomputable def F_item_Size.G : List Summ := [F_item_Check.S]
theorem F_item_Size.eq : absF Try.prog F_item_Size.G F_item_Size.ann F_item_Size.sig Try.f4 = F_item_Size := by kernel_rfl
theorem F_item_Size.sound : Sound Try.prog F_item_Size.S := absF_sound (fn := Try.f4) (Γ := F_item_Size.G) (all_cons F_item_Check.sound all_nil) mix (by kernel_rfl) (by kernel_rfl) (fun m p => congrFun (congrFun F_item_Size.eq m) p)
/-! ### cloakroom/cloakroomref09.Moment -/
noncomputable def F_ref09_Moment (m : Fu) (p : Int) : Option (Bool) :=
  let a0 := p
  bif decide ((0 : Int) ≤ a0) then
    some (decide (a0 ≤ (1099511627776 : Int)))
  else some false
def F_ref09_Moment.ann : List (Nat × Ann) := []
def F_ref09_Moment.sig : Sig := ⟨[.val false [.int .i64]], [(false, [.dat .bool])]⟩
noncomputable def F_ref09_Moment.S : Summ := ⟨14, F_ref09_Moment.sig, F_ref09_Moment⟩
noncomputable def F_ref09_Moment.G : List Summ := []
theorem F_ref09_Moment.eq : absF Try.prog F_ref09_Moment.G F_ref09_Moment.ann F_ref09_Moment.sig Try.f14 = F_ref09_Moment := by kernel_rfl
theorem F_ref09_Moment.sound : Sound Try.prog F_ref09_Moment.S := absF_sound (fn := Try.f14) (Γ := F_ref09_Moment.G) all_nil mix (by kernel_rfl) (by kernel_rfl) (fun m p => congrFun (congrFun F_ref09_Moment.eq m) p)
/-! ### cloakroom/cloakroomref09.Check -/
noncomputable def F_ref09_Check (m : Fu) (p : (List Int) × (List Int) × Int × Int × Int) : Option (Int) :=
  let a0 := p.1
  let a1 := p.2.1
  let a3 := p.2.2.2.1
  bif decide ((a0.length : Int) < (1 : Int)) then some (3 : Int) else
  bif decide ((32 : Int) < (a0.length : Int)) then some (3 : Int) else
  bif decide ((512 : Int) < (a1.length : Int)) then some (3 : Int) else
  (F_ref09_Moment m a3).bind fun x7 =>
  bif !x7 then
    some (2 : Int)
  else some (0 : Int)
def F_ref09_Check.ann : List (Nat × Ann) := []
def F_ref09_Check.sig : Sig := ⟨[.val true [.str, .str, .int .u32, .int .i64, .int .u64]], [(false, [.dat (.int .i64)])]⟩
noncomputable def F_ref09_Check.S : Summ := ⟨9, F_ref09_Check.sig, F_ref09_Check⟩
noncomputable def F_ref09_Check.G : List Summ := [F_ref09_Moment.S]
theorem F_ref09_Check.eq : absF Try.prog F_ref09_Check.G F_ref09_Check.ann F_ref09_Check.sig Try.f9 = F_ref09_Check := by kernel_rfl
theorem F_ref09_Check.sound : Sound Try.prog F_ref09_Check.S := absF_sound (fn := Try.f9) (Γ := F_ref09_Check.G) (all_cons F_ref09_Moment.sound all_nil) mix (by kernel_rfl) (by kernel_rfl) (fun m p => congrFun (congrFun F_ref09_Check.eq m) p)
/-! ### cloakroom/cloakroomref09.Bytes -/
noncomputable def F_ref09_Bytes (m : Fu) (p : (List Int) × (List Int) × Int × Int × Int) : Option (Int) :=
  let a0 := p.1
  let a1 := p.2.1
  some (IntKind.i64.wrap ((IntKind.i64.wrap ((8 : Int) + (a0.length : Int))) + (a1.length : Int)))
def F_ref09_Bytes.ann : List (Nat × Ann) := []
def F_ref09_Bytes.sig : Sig := ⟨[.val true [.str, .str, .int .u32, .int .i64, .int .u64]], [(false, [.dat (.int .i64)])]⟩
noncomputable def F_ref09_Bytes.S : Summ := ⟨12, F_ref09_Bytes.sig, F_ref09_Bytes⟩
noncomputable def F_ref09_Bytes.G : List Summ := []
theorem F_ref09_Bytes.eq : absF Try.prog F_ref09_Bytes.G F_ref09_Bytes.ann F_ref09_Bytes.sig Try.f12 = F_ref09_Bytes := by kernel_rfl
theorem F_ref09_Bytes.sound : Sound Try.prog F_ref09_Bytes.S := absF_sound (fn := Try.f12) (Γ := F_ref09_Bytes.G) all_nil mix (by kernel_rfl) (by kernel_rfl) (fun m p => congrFun (congrFun F_ref09_Bytes.eq m) p)
/-! ### cloakroom/cloakroomref09.Size -/
noncomputable def F_ref09_Size (m : Fu) (p : (List Int) × (List Int) × Int × Int × Int) : Option (Int × Int) :=
  let a0 := p.1
  let a1 := p.2.1
  let a2 := p.2.2.1
  let a3 := p.2.2.2.1
  let a4 := p.2.2.2.2
  (F_ref09_Check m (a0, a1, a2, a3, a4)).bind fun x1 =>
  bif x1 != (0 : Int) then some ((0 : Int), x1) else
  (F_ref09_Bytes m (a0, a1, a2, a3, a4)).bind fun x3 =>
  some (x3, (0 : Int))
def F_ref09_Size.ann : List (Nat × Ann) := []
def F_ref09_Size.sig : Sig := ⟨[.val true [.str, .str, .int .u32, .int .i64, .int .u64]], [(false, [.dat (.int .i64)]), (false, [.dat (.int .i64)])]⟩
noncomputable def F_ref09_Size.S : Summ := ⟨5, F_ref09_Size.sig, F_ref09_Size⟩
noncomputable def F_ref09_Size.G : List Summ := [F_ref09_Check.S, F_ref09_Bytes.S]
theorem F_ref09_Size.eq : absF Try.prog F_ref09_Size.G F_ref09_Size.ann F_ref09_Size.sig Try.f5 = F_ref09_Size := by kernel_rfl
theorem F_ref09_Size.sound : Sound Try.prog F_ref09_Size.S := absF_sound (fn := Try.f5) (Γ := F_ref09_Size.G) (all_cons F_ref09_Check.sound (all_cons F_ref09_Bytes.sound all_nil)) mix (by kernel_rfl) (by kernel_rfl) (fun m p => congrFun (congrFun F_ref09_Size.eq m) p)
/-! ### cloakroom/item.Until -/
noncomputable def F_item_Until.s24 (m : Fu) (a0 : Int) (a1 : Int) : Option (Bool) :=
  (F_item_moment m a0).bind fun x1 =>
  let x2 := !x1
  bif x2 then some x2 else
  (F_item_moment m a1).bind fun x3 =>
  some (!x3)
noncomputable def F_item_Until.s102 (m : Fu) (a0 : Int) (a1 : Int) : Option (Bool) :=
  let x6 := a1 == (0 : Int)
  bif x6 then
    some x6
  else some (decide ((1099511627776 : Int) < (IntKind.i64.wrap (a0 + a1))))
noncomputable def F_item_Until (m : Fu) (p : Int × Int) : Option (Int × Int) :=
  let a0 := p.1
  let a1 := p.2
  (F_item_Until.s24 m a0 a1).bind fun x5 =>
  bif x5 then some ((0 : Int), (2 : Int)) else
  (F_item_Until.s102 m a0 a1).bind fun x9 =>
  bif x9 then
    some ((0 : Int), (0 : Int))
  else some ((IntKind.i64.wrap (a0 + a1)), (0 : Int))
def F_item_Until.ann : List (Nat × Ann) := [(24, .jnt [(.normal, ⟨[(6, false, [.dat .bool])], [], [], [], 64⟩)]),
  (102, .jnt [(.normal, ⟨[(13, false, [.dat .bool])], [], [], [], 64⟩)])]
def F_item_Until.sig : Sig := ⟨[.val false [.int .i64], .val false [.int .i64]], [(false, [.dat (.int .i64)]), (false, [.dat (.int .i64)])]⟩
noncomputable def F_item_Until.S : Summ := ⟨6, F_item_Until.sig, F_item_Until⟩
noncomputable def F_item_Until.G : List Summ := [F_item_moment.S]
theorem F_item_Until.eq : absF Try.prog F_item_Until.G F_item_Until.ann F_item_Until.sig Try.f6 = F_item_Until := by kernel_rfl
theorem F_item_Until.sound : Sound Try.prog F_item_Until.S := absF_sound (fn := Try.f6) (Γ := F_item_Until.G) (all_cons F_item_moment.sound all_nil) mix (by kernel_rfl) (by kernel_rfl) (fun m p => congrFun (congrFun F_item_Until.eq m) p)
/-! ### cloakroom/cloakroomref09.After -/
noncomputable def F_ref09_After (m : Fu) (p : Int × Int) : Option (Int) :=
  let a0 := p.1
  let a1 := p.2
  bif a1 == (0 : Int) then some (0 : Int) else
  bif decide ((1099511627776 : Int) < (IntKind.i64.wrap (a0 + a1))) then
    some (0 : Int)
  else some (IntKind.i64.wrap (a0 + a1))
def F_ref09_After.ann : List (Nat × Ann) := []
def F_ref09_After.sig : Sig := ⟨[.val false [.int .i64], .val false [.int .i64]], [(false, [.dat (.int .i64)])]⟩
noncomputable def F_ref09_After.S : Summ := ⟨15, F_ref09_After.sig, F_ref09_After⟩
noncomputable def F_ref09_After.G : List Summ := []
theorem F_ref09_After.eq : absF Try.prog F_ref09_After.G F_ref09_After.ann F_ref09_After.sig Try.f15 = F_ref09_After := by kernel_rfl
theorem F_ref09_After.sound : Sound Try.prog F_ref09_After.S := absF_sound (fn := Try.f15) (Γ := F_ref09_After.G) all_nil mix (by kernel_rfl) (by kernel_rfl) (fun m p => congrFun (congrFun F_ref09_After.eq m) p)
/-! ### cloakroom/cloakroomref09.Until -/
noncomputable def F_ref09_Until (m : Fu) (p : Int × Int) : Option (Int × Int) :=
  let a0 := p.1
  let a1 := p.2
  (F_ref09_Moment m a0).bind fun x1 =>
  bif !x1 then some ((0 : Int), (2 : Int)) else
  (F_ref09_Moment m a1).bind fun x3 =>
  bif !x3 then some ((0 : Int), (2 : Int)) else
  (F_ref09_After m (a0, a1)).bind fun x5 =>
  some (x5, (0 : Int))
def F_ref09_Until.ann : List (Nat × Ann) := []
def F_ref09_Until.sig : Sig := ⟨[.val false [.int .i64], .val false [.int .i64]], [(false, [.dat (.int .i64)]), (false, [.dat (.int .i64)])]⟩
noncomputable def F_ref09_Until.S : Summ := ⟨7, F_ref09_Until.sig, F_ref09_Until⟩
noncomputable def F_ref09_Until.G : List Summ := [F_ref09_Moment.S, F_ref09_After.S]
theorem F_ref09_Until.eq : absF Try.prog F_ref09_Until.G F_ref09_Until.ann F_ref09_Until.sig Try.f7 = F_ref09_Until := by kernel_rfl
theorem F_ref09_Until.sound : Sound Try.prog F_ref09_Until.S := absF_sound (fn := Try.f7) (Γ := F_ref09_Until.G) (all_cons F_ref09_Moment.sound (all_cons F_ref09_After.sound all_nil)) mix (by kernel_rfl) (by kernel_rfl) (fun m p => congrFun (congrFun F_ref09_Until.eq m) p)
/-! ### cloakroom/item.Due -/
noncomputable def F_item_Due (m : Fu) (p : (List Int) × (List Int) × Int × Int × Int × Int) : Option (Bool) :=
  let a3 := p.2.2.2.1
  let a5 := p.2.2.2.2.2
  bif a3 != (0 : Int) then
    some (decide (a3 ≤ a5))
  else some false
def F_item_Due.ann : List (Nat × Ann) := []
def F_item_Due.sig : Sig := ⟨[.val true [.str, .str, .int .u32, .int .i64, .int .u64], .val false [.int .i64]], [(false, [.dat .bool])]⟩
noncomputable def F_item_Due.S : Summ := ⟨10, F_item_Due.sig, F_item_Due⟩
noncomputable def F_item_Due.G : List Summ := []
theorem F_item_Due.eq : absF Try.prog F_item_Due.G F_item_Due.ann F_item_Due.sig Try.f10 = F_item_Due := by kernel_rfl
theorem F_item_Due.sound : Sound Try.prog F_item_Due.S := absF_sound (fn := Try.f10) (Γ := F_item_Due.G) all_nil mix (by kernel_rfl) (by kernel_rfl) (fun m p => congrFun (congrFun F_item_Due.eq m) p)
/-! ### cloakroom/cloakroomref09.Due -/
noncomputable def F_ref09_Due (m : Fu) (p : (List Int) × (List Int) × Int × Int × Int × Int) : Option (Bool) :=
  let a3 := p.2.2.2.1
  let a5 := p.2.2.2.2.2
  bif a3 != (0 : Int) then
    some (decide (a3 ≤ a5))
  else some false
def F_ref09_Due.ann : List (Nat × Ann) := []
def F_ref09_Due.sig : Sig := ⟨[.val true [.str, .str, .int .u32, .int .i64, .int .u64], .val false [.int .i64]], [(false, [.dat .bool])]⟩
noncomputable def F_ref09_Due.S : Summ := ⟨11, F_ref09_Due.sig, F_ref09_Due⟩
noncomputable def F_ref09_Due.G : List Summ := []
theorem F_ref09_Due.eq : absF Try.prog F_ref09_Due.G F_ref09_Due.ann F_ref09_Due.sig Try.f11 = F_ref09_Due := by kernel_rfl
theorem F_ref09_Due.sound : Sound Try.prog F_ref09_Due.S := absF_sound (fn := Try.f11) (Γ := F_ref09_Due.G) all_nil mix (by kernel_rfl) (by kernel_rfl) (fun m p => congrFun (congrFun F_ref09_Due.eq m) p)
/-! ### cloakroom/cloakroomlaw09.ItemTells -/
noncomputable def F_law09_ItemTells (m : Fu) (p : (List Int) × (List Int) × Int × Int × Int × Int × Int) : Option (Bool) :=
  let a0 := p.1
  let a1 := p.2.1
  let a2 := p.2.2.1
  let a3 := p.2.2.2.1
  let a4 := p.2.2.2.2.1
  let a5 := p.2.2.2.2.2.1
  let a6 := p.2.2.2.2.2.2
  (F_item_Size m (a0, a1, a2, a3, a4)).bind fun x1 =>
  (F_ref09_Size m (a0, a1, a2, a3, a4)).bind fun x2 =>
  (F_item_Until m (a5, a6)).bind fun x3 =>
  (F_ref09_Until m (a5, a6)).bind fun x4 =>
  (F_item_Check m (a0, a1, a2, a3, a4)).bind fun x5 =>
  (F_ref09_Check m (a0, a1, a2, a3, a4)).bind fun x6 =>
  bif x5 == x6 then
    bif x1.1 == x2.1 then
      bif x1.2 == x2.2 then
        bif x3.1 == x4.1 then
          bif x3.2 == x4.2 then
            (F_item_Due m (a0, a1, a2, a3, a4, a5)).bind fun x12 =>
            (F_ref09_Due m (a0, a1, a2, a3, a4, a5)).bind fun x13 =>
            some (x12 == x13)
          else some false
        else some false
      else some false
    else some false
  else some false
def F_law09_ItemTells.ann : List (Nat × Ann) := []
def F_law09_ItemTells.sig : Sig := ⟨[.val true [.str, .str, .int .u32, .int .i64, .int .u64], .val false [.int .i64], .val false [.int .i64]], [(false, [.dat .bool])]⟩
noncomputable def F_law09_ItemTells.S : Summ := ⟨3, F_law09_ItemTells.sig, F_law09_ItemTells⟩
noncomputable def F_law09_ItemTells.G : List Summ := [F_item_Size.S, F_ref09_Size.S, F_item_Until.S, F_ref09_Until.S, F_item_Check.S, F_ref09_Check.S, F_item_Due.S, F_ref09_Due.S]
theorem F_law09_ItemTells.eq : absF Try.prog F_law09_ItemTells.G F_law09_ItemTells.ann F_law09_ItemTells.sig Try.f3 = F_law09_ItemTells := by kernel_rfl
theorem F_law09_ItemTells.sound : Sound Try.prog F_law09_ItemTells.S := absF_sound (fn := Try.f3) (Γ := F_law09_ItemTells.G) (all_cons F_item_Size.sound (all_cons F_ref09_Size.sound (all_cons F_item_Until.sound (all_cons F_ref09_Until.sound (all_cons F_item_Check.sound (all_cons F_ref09_Check.sound (all_cons F_item_Due.sound (all_cons F_ref09_Due.sound all_nil)))))))) mix (by kernel_rfl) (by kernel_rfl) (fun m p => congrFun (congrFun F_law09_ItemTells.eq m) p)
end Go.Proofs.Ytekpgceagamjiaa
