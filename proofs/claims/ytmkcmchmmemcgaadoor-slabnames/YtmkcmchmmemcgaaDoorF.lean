/- The pure functions that the program's functions compute, and that they compute them. Printed by a program of this session (gen.py). -/
import Derived.Test.YtmkcmchmmemcgaaDoorProg
import Derived.Test.YtmkcmchmmemcgaaDoorA3
import Derived.WalkKit
import Derived.Tactics
import Derived.Tactics2
import Derived.StillTactics
import Derived.Laws.Pointers
import Derived.RegionTactic
import Derived.LoopTactic
import Derived.ChangeAlike
import Derived.Laws.Bits64b
namespace Go.Proofs.YtmkcmchmmemcgaaDoor
open Go.Abs Go.RowKit
set_option maxRecDepth 100000
theorem mix : Tryd.prog.follows .mixedOrders = true := by kernel_rfl
/-! ### cloakroom/slab.New -/
noncomputable def F_slab_New (_ : Fu) (p : Int) : Option ((List (Int × Int × Int)) × Int) :=
  let a0 := p
  bif decide (a0 < (1 : Int)) then some (([] : List (Int × Int × Int)), (2 : Int)) else
  bif decide ((16 : Int) < a0) then some (([] : List (Int × Int × Int)), (2 : Int)) else
  bif ((decide ((0 : Int) ≤ a0)) && (decide (a0 ≤ a0))) && (decide (a0 ≤ (4294967296 : Int))) then
    some ((List.replicate a0.toNat (0, (0, 0))), (0 : Int))
  else none
def F_slab_New.ann : List (Nat × Ann) := []
def F_slab_New.sig : Sig := ⟨[.val false [.int .i64]], [(true, [.own (.pr (.int .i64) (.pr (.int .i64) (.int .u16))) 0 .wr]), (false, [.dat (.int .i64)])]⟩
noncomputable def F_slab_New.S : Summ := ⟨9, F_slab_New.sig, F_slab_New⟩
noncomputable def F_slab_New.G : List Summ := []
theorem F_slab_New.eq : absF Tryd.prog F_slab_New.G F_slab_New.ann F_slab_New.sig Tryd.f9 = F_slab_New := by kernel_rfl
theorem F_slab_New.sound : Sound Tryd.prog F_slab_New.S := absF_sound (fn := Tryd.f9) (Γ := F_slab_New.G) all_nil mix (by kernel_rfl) (by kernel_rfl) (fun m p => congrFun (congrFun F_slab_New.eq m) p)
/-! ### cloakroom/slab.tenanted -/
noncomputable def F_slab_tenanted (_ : Fu) (p : Int) : Option (Bool) :=
  let a0 := p
  bif decide ((0 : Int) ≤ a0) then
    some (decide (a0 < (4 : Int)))
  else some false
def F_slab_tenanted.ann : List (Nat × Ann) := []
def F_slab_tenanted.sig : Sig := ⟨[.val false [.int .i64]], [(false, [.dat .bool])]⟩
noncomputable def F_slab_tenanted.S : Summ := ⟨28, F_slab_tenanted.sig, F_slab_tenanted⟩
noncomputable def F_slab_tenanted.G : List Summ := []
theorem F_slab_tenanted.eq : absF Tryd.prog F_slab_tenanted.G F_slab_tenanted.ann F_slab_tenanted.sig Tryd.f28 = F_slab_tenanted := by kernel_rfl
theorem F_slab_tenanted.sound : Sound Tryd.prog F_slab_tenanted.S := absF_sound (fn := Tryd.f28) (Γ := F_slab_tenanted.G) all_nil mix (by kernel_rfl) (by kernel_rfl) (fun m p => congrFun (congrFun F_slab_tenanted.eq m) p)
/-! ### cloakroom/slab.classed -/
noncomputable def F_slab_classed (_ : Fu) (p : Int) : Option (Bool) :=
  let a0 := p
  bif decide ((0 : Int) ≤ a0) then
    some (decide (a0 < (5 : Int)))
  else some false
def F_slab_classed.ann : List (Nat × Ann) := []
def F_slab_classed.sig : Sig := ⟨[.val false [.int .i64]], [(false, [.dat .bool])]⟩
noncomputable def F_slab_classed.S : Summ := ⟨29, F_slab_classed.sig, F_slab_classed⟩
noncomputable def F_slab_classed.G : List Summ := []
theorem F_slab_classed.eq : absF Tryd.prog F_slab_classed.G F_slab_classed.ann F_slab_classed.sig Tryd.f29 = F_slab_classed := by kernel_rfl
theorem F_slab_classed.sound : Sound Tryd.prog F_slab_classed.S := absF_sound (fn := Tryd.f29) (Γ := F_slab_classed.G) all_nil mix (by kernel_rfl) (by kernel_rfl) (fun m p => congrFun (congrFun F_slab_classed.eq m) p)
/-! ### cloakroom/slab.size -/
noncomputable def F_slab_size (_ : Fu) (p : Int) : Option (Int) :=
  let a0 := p
  bif decide (a0 < (0 : Int)) then
    none
  else some (shlOp .i64 (16 : Int) a0)
def F_slab_size.ann : List (Nat × Ann) := []
def F_slab_size.sig : Sig := ⟨[.val false [.int .i64]], [(false, [.dat (.int .i64)])]⟩
noncomputable def F_slab_size.S : Summ := ⟨44, F_slab_size.sig, F_slab_size⟩
noncomputable def F_slab_size.G : List Summ := []
theorem F_slab_size.eq : absF Tryd.prog F_slab_size.G F_slab_size.ann F_slab_size.sig Tryd.f44 = F_slab_size := by kernel_rfl
theorem F_slab_size.sound : Sound Tryd.prog F_slab_size.S := absF_sound (fn := Tryd.f44) (Γ := F_slab_size.G) all_nil mix (by kernel_rfl) (by kernel_rfl) (fun m p => congrFun (congrFun F_slab_size.eq m) p)
/-! ### cloakroom/slab.chunks -/
noncomputable def F_slab_chunks (m : Fu) (p : Int) : Option (Int) :=
  let a0 := p
  (F_slab_size m a0).bind fun x1 =>
  bif x1 == 0 then
    none
  else some (IntKind.i64.wrap ((256 : Int).tdiv x1))
def F_slab_chunks.ann : List (Nat × Ann) := []
def F_slab_chunks.sig : Sig := ⟨[.val false [.int .i64]], [(false, [.dat (.int .i64)])]⟩
noncomputable def F_slab_chunks.S : Summ := ⟨45, F_slab_chunks.sig, F_slab_chunks⟩
noncomputable def F_slab_chunks.G : List Summ := [F_slab_size.S]
theorem F_slab_chunks.eq : absF Tryd.prog F_slab_chunks.G F_slab_chunks.ann F_slab_chunks.sig Tryd.f45 = F_slab_chunks := by kernel_rfl
theorem F_slab_chunks.sound : Sound Tryd.prog F_slab_chunks.S := absF_sound (fn := Tryd.f45) (Γ := F_slab_chunks.G) (all_cons F_slab_size.sound all_nil) mix (by kernel_rfl) (by kernel_rfl) (fun m p => congrFun (congrFun F_slab_chunks.eq m) p)
/-! ### cloakroom/slab.full -/
noncomputable def F_slab_full (m : Fu) (p : Int) : Option (Int) :=
  let a0 := p
  (F_slab_chunks m a0).bind fun x1 =>
  bif decide (x1 < (0 : Int)) then
    none
  else some (IntKind.u16.wrap ((shlOp .u16 (1 : Int) x1) - (1 : Int)))
def F_slab_full.ann : List (Nat × Ann) := []
def F_slab_full.sig : Sig := ⟨[.val false [.int .i64]], [(false, [.dat (.int .u16)])]⟩
noncomputable def F_slab_full.S : Summ := ⟨31, F_slab_full.sig, F_slab_full⟩
noncomputable def F_slab_full.G : List Summ := [F_slab_chunks.S]
theorem F_slab_full.eq : absF Tryd.prog F_slab_full.G F_slab_full.ann F_slab_full.sig Tryd.f31 = F_slab_full := by kernel_rfl
theorem F_slab_full.sound : Sound Tryd.prog F_slab_full.S := absF_sound (fn := Tryd.f31) (Γ := F_slab_full.G) (all_cons F_slab_chunks.sound all_nil) mix (by kernel_rfl) (by kernel_rfl) (fun m p => congrFun (congrFun F_slab_full.eq m) p)
/-! ### cloakroom/slab.may -/
noncomputable def F_slab_may (m : Fu) (p : Int × Int × Int) : Option (Bool) :=
  let a0 := p.1
  let a1 := p.2.1
  let a2 := p.2.2
  bif a2 == (0 : Int) then some ((a0 == (0 : Int)) && ((a1 == (0 : Int)) && ((a2 == (0 : Int)) && true))) else
  (F_slab_tenanted m a0).bind fun x3 =>
  bif x3 then
    (F_slab_classed m a1).bind fun x4 =>
    bif x4 then
      (F_slab_full m a1).bind fun x5 =>
      some ((bitsOp .andNot .u16 a2 x5) == (0 : Int))
    else some false
  else some false
def F_slab_may.ann : List (Nat × Ann) := []
def F_slab_may.sig : Sig := ⟨[.val true [.int .i64, .int .i64, .int .u16]], [(false, [.dat .bool])]⟩
noncomputable def F_slab_may.S : Summ := ⟨36, F_slab_may.sig, F_slab_may⟩
noncomputable def F_slab_may.G : List Summ := [F_slab_tenanted.S, F_slab_classed.S, F_slab_full.S]
theorem F_slab_may.eq : absF Tryd.prog F_slab_may.G F_slab_may.ann F_slab_may.sig Tryd.f36 = F_slab_may := by kernel_rfl
theorem F_slab_may.sound : Sound Tryd.prog F_slab_may.S := absF_sound (fn := Tryd.f36) (Γ := F_slab_may.G) (all_cons F_slab_tenanted.sound (all_cons F_slab_classed.sound (all_cons F_slab_full.sound all_nil))) mix (by kernel_rfl) (by kernel_rfl) (fun m p => congrFun (congrFun F_slab_may.eq m) p)
/-! ### cloakroom/slab.Check$1 -/
noncomputable def F_slab_Check_c1 (m : Fu) (p : Int × Int × Int) : Option (Bool) :=
  let a0 := p.1
  let a1 := p.2.1
  let a2 := p.2.2
  (F_slab_may m (a0, a1, a2)).bind fun x1 =>
  some (!x1)
def F_slab_Check_c1.ann : List (Nat × Ann) := []
def F_slab_Check_c1.sig : Sig := ⟨[.val true [.int .i64, .int .i64, .int .u16]], [(false, [.dat .bool])]⟩
noncomputable def F_slab_Check_c1.S : Summ := ⟨35, F_slab_Check_c1.sig, F_slab_Check_c1⟩
noncomputable def F_slab_Check_c1.G : List Summ := [F_slab_may.S]
theorem F_slab_Check_c1.eq : absF Tryd.prog F_slab_Check_c1.G F_slab_Check_c1.ann F_slab_Check_c1.sig Tryd.f35 = F_slab_Check_c1 := by kernel_rfl
theorem F_slab_Check_c1.sound : Sound Tryd.prog F_slab_Check_c1.S := absF_sound (fn := Tryd.f35) (Γ := F_slab_Check_c1.G) (all_cons F_slab_may.sound all_nil) mix (by kernel_rfl) (by kernel_rfl) (fun m p => congrFun (congrFun F_slab_Check_c1.eq m) p)
/-! ### slices.IndexFunc[[]cloakroom/api.Page,cloakroom/api.Page] -/
noncomputable def F_slices_IndexFunc_Page.l26 (m : Fu) (a0 : List (Int × Int × Int)) (x1 : Int) (x2 : Int) : Option (Step Int (Int ⊕ Unit)) :=
  bif decide (x2 < x1) then
    bif (decide ((0 : Int) ≤ x2)) && (decide (x2 < (a0.length : Int))) then
      (F_slab_Check_c1 m (a0.getD x2.toNat (0, (0, 0)))).bind fun x5 =>
      bif x5 then
        some (.fin (Sum.inl x2))
      else some (.next (IntKind.i64.wrap (x2 + (1 : Int))))
    else none
  else some (.fin (Sum.inr ()))
noncomputable def F_slices_IndexFunc_Page (m : Fu) (p : List (Int × Int × Int)) : Option (Int) :=
  let a0 := p
  (iter m (F_slices_IndexFunc_Page.l26 m a0 (a0.length : Int)) (0 : Int)).bind fun x7 =>
  match x7 with
  | .inl x8 =>
    some x8
  | .inr _ =>
    some (-1 : Int)
def F_slices_IndexFunc_Page.ann : List (Nat × Ann) := [(26, .loop ⟨[(8, false, [.dat (.int .i64)])], [], [], [], 96⟩ [(.ret, ⟨[(4, false, [.dat (.int .i64)])], [], [], [], 96⟩), (.exit 0, ⟨[], [], [], [], 96⟩)])]
def F_slices_IndexFunc_Page.sig : Sig := ⟨[.val false [.sl (.pr (.int .i64) (.pr (.int .i64) (.int .u16)))], .fn 35 []], [(false, [.dat (.int .i64)])]⟩
noncomputable def F_slices_IndexFunc_Page.S : Summ := ⟨46, F_slices_IndexFunc_Page.sig, F_slices_IndexFunc_Page⟩
noncomputable def F_slices_IndexFunc_Page.G : List Summ := [F_slab_Check_c1.S]
theorem F_slices_IndexFunc_Page.eq : absF Tryd.prog F_slices_IndexFunc_Page.G F_slices_IndexFunc_Page.ann F_slices_IndexFunc_Page.sig Tryd.f46 = F_slices_IndexFunc_Page := by kernel_rfl
theorem F_slices_IndexFunc_Page.sound : Sound Tryd.prog F_slices_IndexFunc_Page.S := absF_sound (fn := Tryd.f46) (Γ := F_slices_IndexFunc_Page.G) (all_cons F_slab_Check_c1.sound all_nil) mix (by kernel_rfl) (by kernel_rfl) (fun m p => congrFun (congrFun F_slices_IndexFunc_Page.eq m) p)
/-! ### slices.ContainsFunc[[]cloakroom/api.Page,cloakroom/api.Page] -/
noncomputable def F_slices_ContainsFunc_Page (m : Fu) (p : List (Int × Int × Int)) : Option (Bool) :=
  let a0 := p
  (F_slices_IndexFunc_Page m a0).bind fun x1 =>
  some (decide ((0 : Int) ≤ x1))
def F_slices_ContainsFunc_Page.ann : List (Nat × Ann) := []
def F_slices_ContainsFunc_Page.sig : Sig := ⟨[.val false [.sl (.pr (.int .i64) (.pr (.int .i64) (.int .u16)))], .fn 35 []], [(false, [.dat .bool])]⟩
noncomputable def F_slices_ContainsFunc_Page.S : Summ := ⟨34, F_slices_ContainsFunc_Page.sig, F_slices_ContainsFunc_Page⟩
noncomputable def F_slices_ContainsFunc_Page.G : List Summ := [F_slices_IndexFunc_Page.S]
theorem F_slices_ContainsFunc_Page.eq : absF Tryd.prog F_slices_ContainsFunc_Page.G F_slices_ContainsFunc_Page.ann F_slices_ContainsFunc_Page.sig Tryd.f34 = F_slices_ContainsFunc_Page := by kernel_rfl
theorem F_slices_ContainsFunc_Page.sound : Sound Tryd.prog F_slices_ContainsFunc_Page.S := absF_sound (fn := Tryd.f34) (Γ := F_slices_ContainsFunc_Page.G) (all_cons F_slices_IndexFunc_Page.sound all_nil) mix (by kernel_rfl) (by kernel_rfl) (fun m p => congrFun (congrFun F_slices_ContainsFunc_Page.eq m) p)
/-! ### cloakroom/slab.Check -/
noncomputable def F_slab_Check (m : Fu) (p : List (Int × Int × Int)) : Option (Int) :=
  let a0 := p
  let x1 := (a0.length : Int)
  bif decide (x1 < (1 : Int)) then some (8 : Int) else
  bif decide ((16 : Int) < x1) then some (8 : Int) else
  (F_slices_ContainsFunc_Page m a0).bind fun x4 =>
  bif x4 then
    some (8 : Int)
  else some (0 : Int)
def F_slab_Check.ann : List (Nat × Ann) := []
def F_slab_Check.sig : Sig := ⟨[.val true [.sl (.pr (.int .i64) (.pr (.int .i64) (.int .u16)))]], [(false, [.dat (.int .i64)])]⟩
noncomputable def F_slab_Check.S : Summ := ⟨11, F_slab_Check.sig, F_slab_Check⟩
noncomputable def F_slab_Check.G : List Summ := [F_slices_ContainsFunc_Page.S]
theorem F_slab_Check.eq : absF Tryd.prog F_slab_Check.G F_slab_Check.ann F_slab_Check.sig Tryd.f11 = F_slab_Check := by kernel_rfl
theorem F_slab_Check.sound : Sound Tryd.prog F_slab_Check.S := absF_sound (fn := Tryd.f11) (Γ := F_slab_Check.G) (all_cons F_slices_ContainsFunc_Page.sound all_nil) mix (by kernel_rfl) (by kernel_rfl) (fun m p => congrFun (congrFun F_slab_Check.eq m) p)
/-! ### cloakroom/slab.owned -/
noncomputable def F_slab_owned.s7474 (_ : Fu) (a1 : Int) (x4 : Int × Int × Int) : Option (Bool) :=
  bif x4.2.2 != (0 : Int) then
    some (x4.1 == a1)
  else some false
noncomputable def F_slab_owned.l58 (m : Fu) (a0 : List (Int × Int × Int)) (a1 : Int) (x1 : Int) (x2 : Int × Int × Int) : Option (Step (Int × Int × Int) ((Int × Int))) :=
  bif decide (x2.2.2 < x1) then
    bif (decide ((0 : Int) ≤ x2.2.2)) && (decide (x2.2.2 < (a0.length : Int))) then
      (F_slab_owned.s7474 m a1 (a0.getD x2.2.2.toNat (0, (0, 0)))).bind fun x7 =>
      bif x7 then
        some (.next ((IntKind.i64.wrap (x2.1 + (1 : Int))), x2.2.2, (IntKind.i64.wrap (x2.2.2 + (1 : Int)))))
      else some (.next (x2.1, x2.2.1, (IntKind.i64.wrap (x2.2.2 + (1 : Int)))))
    else none
  else some (.fin (x2.1, x2.2.1))
noncomputable def F_slab_owned (m : Fu) (p : (List (Int × Int × Int)) × Int) : Option (Int × Int) :=
  let a0 := p.1
  let a1 := p.2
  (iter m (F_slab_owned.l58 m a0 a1 (a0.length : Int)) ((0 : Int), (-1 : Int), (0 : Int))).bind fun x11 =>
  some x11
def F_slab_owned.ann : List (Nat × Ann) := [(58, .loop ⟨[(4, false, [.dat (.int .i64)]), (5, false, [.dat (.int .i64)]), (11, false, [.dat (.int .i64)])], [], [], [], 160⟩ [(.exit 0, ⟨[(4, false, [.dat (.int .i64)]), (5, false, [.dat (.int .i64)])], [], [], [], 160⟩)]),
  (7474, .jnt [(.normal, ⟨[(24, false, [.dat .bool])], [], [], [], 272⟩)])]
def F_slab_owned.sig : Sig := ⟨[.val true [.sl (.pr (.int .i64) (.pr (.int .i64) (.int .u16)))], .val false [.int .i64]], [(false, [.dat (.int .i64)]), (false, [.dat (.int .i64)])]⟩
noncomputable def F_slab_owned.S : Summ := ⟨30, F_slab_owned.sig, F_slab_owned⟩
noncomputable def F_slab_owned.G : List Summ := []
theorem F_slab_owned.eq : absF Tryd.prog F_slab_owned.G F_slab_owned.ann F_slab_owned.sig Tryd.f30 = F_slab_owned := by kernel_rfl
theorem F_slab_owned.sound : Sound Tryd.prog F_slab_owned.S := absF_sound (fn := Tryd.f30) (Γ := F_slab_owned.G) all_nil mix (by kernel_rfl) (by kernel_rfl) (fun m p => congrFun (congrFun F_slab_owned.eq m) p)
/-! ### math/bits.TrailingZeros16 -/
noncomputable def F_mathbits_TrailingZeros16 (m : Fu) (p : Int) : Option (Int) := tzF m p
def F_mathbits_TrailingZeros16.sig : Sig := ⟨[.val false [.int .u16]], [(false, [.dat (.int .i64)])]⟩
noncomputable def F_mathbits_TrailingZeros16.S : Summ := ⟨32, F_mathbits_TrailingZeros16.sig, F_mathbits_TrailingZeros16⟩
theorem F_mathbits_TrailingZeros16.zero (w : World) : Calls Tryd.prog 32 #[.int .u16 0] w fun e w' => e = .returned (.int .i64 16) ∧ w' = w := by
  go_enter Tryd.func32, Tryd.ntmps32
  go_wp2
  go_ret
  exact ⟨rfl, rfl⟩
set_option maxHeartbeats 1000000 in
theorem F_mathbits_TrailingZeros16.core (x : Int) (k idx : Nat) (w : World) (hx0 : (x == 0) = false)
    (key : bits BinOp.and IntKind.u16 x (IntKind.u16.wrap (-x)) % 4294967296 * 125613361 % 4294967296 / 134217728 = (idx : Int))
    (hi : idx < 32) (hk : k < 32) (hcell : w.cell? ⟨0, idx, none⟩ = some (.int .u8 k)) :
    Calls Tryd.prog 32 #[.int .u16 x] w fun e w' => e = .returned (.int .i64 k) ∧ w' = w := by
  go_enter Tryd.func32, Tryd.ntmps32
  go_wp2_with (simp only [key])
  go_ret
  exact ⟨rfl, rfl⟩
theorem F_mathbits_TrailingZeros16.sound : Sound Tryd.prog F_mathbits_TrailingZeros16.S := sound_tz (fn := Tryd.f32) (by kernel_rfl) (by kernel_rfl) (by kernel_rfl) (g := 0) (by kernel_rfl) F_mathbits_TrailingZeros16.zero F_mathbits_TrailingZeros16.core
/-! ### slices.Clone[[]cloakroom/api.Page,cloakroom/api.Page] -/
noncomputable def F_slices_Clone_Page (_ : Fu) (p : List (Int × Int × Int)) : Option (List (Int × Int × Int)) :=
  let a0 := p
  match a0 with
  | [] => same2
   (
    some ([] : List (Int × Int × Int)))
   (
    bif Nat.ble (0 + a0.length) 4294967296 then
      some (([] : List (Int × Int × Int)) ++ a0)
    else none)
  | _ :: _ =>
    bif Nat.ble (0 + a0.length) 4294967296 then
      some (([] : List (Int × Int × Int)) ++ a0)
    else none
def F_slices_Clone_Page.ann : List (Nat × Ann) := []
def F_slices_Clone_Page.sig : Sig := ⟨[.val false [.sl (.pr (.int .i64) (.pr (.int .i64) (.int .u16)))]], [(false, [.own (.pr (.int .i64) (.pr (.int .i64) (.int .u16))) 0 .wr])]⟩
noncomputable def F_slices_Clone_Page.S : Summ := ⟨33, F_slices_Clone_Page.sig, F_slices_Clone_Page⟩
noncomputable def F_slices_Clone_Page.G : List Summ := []
theorem F_slices_Clone_Page.eq : absF Tryd.prog F_slices_Clone_Page.G F_slices_Clone_Page.ann F_slices_Clone_Page.sig Tryd.f33 = F_slices_Clone_Page := by kernel_rfl
theorem F_slices_Clone_Page.sound : Sound Tryd.prog F_slices_Clone_Page.S := absF_sound (fn := Tryd.f33) (Γ := F_slices_Clone_Page.G) all_nil mix (by kernel_rfl) (by kernel_rfl) (fun m p => congrFun (congrFun F_slices_Clone_Page.eq m) p)
noncomputable def C_slices_Clone_Page (m : Fu) (p : List (Int × Int × Int)) : Option (List (Int × Int × Int)) := bif Nat.ble p.length 4294967296 then some p else none
theorem C_slices_Clone_Page.is : F_slices_Clone_Page = C_slices_Clone_Page := by
  funext m p
  have h0 : Nat.ble 0 4294967296 = true := rfl
  cases p <;> simp [F_slices_Clone_Page, C_slices_Clone_Page, same2_self, h0]
noncomputable def C_slices_Clone_Page.S : Summ := ⟨33, F_slices_Clone_Page.sig, C_slices_Clone_Page⟩
theorem C_slices_Clone_Page.sound : Sound Tryd.prog C_slices_Clone_Page.S := by
  have h := F_slices_Clone_Page.sound
  unfold F_slices_Clone_Page.S at h
  rw [C_slices_Clone_Page.is] at h
  exact h
/-! ### cloakroom/slab.Take -/
noncomputable def F_slab_Take.s52 (m : Fu) (a1 : Int) (a2 : Int) (a3 : Int) : Option (Bool) :=
  (F_slab_tenanted m a1).bind fun x3 =>
  bif !x3 then some true else
  (F_slab_classed m a2).bind fun x5 =>
  bif !x5 then some true else
  bif decide (a3 < (0 : Int)) then
    some true
  else some (decide ((16 : Int) < a3))
noncomputable def F_slab_Take.l1786 (m : Fu) (a0 : List (Int × Int × Int)) (a1 : Int) (a2 : Int) (a3 : Int) (x10 : Int × Int) (x11 : Int) (x12 : Int × Int) : Option (Step (Int × Int) Int) :=
  bif decide (x12.2 < x11) then
    bif (decide ((0 : Int) ≤ x12.2)) && (decide (x12.2 < (a0.length : Int))) then
      let x14 := a0.getD x12.2.toNat (0, (0, 0))
      bif x14.2.2 == (0 : Int) then
        bif decide (x12.1 < (0 : Int)) then
          bif decide (x10.1 < a3) then
            some (.next (x12.2, (IntKind.i64.wrap (x12.2 + (1 : Int)))))
          else some (.next (x12.1, (IntKind.i64.wrap (x12.2 + (1 : Int)))))
        else some (.next (x12.1, (IntKind.i64.wrap (x12.2 + (1 : Int)))))
      else
        bif x14.1 == a1 then
          bif x14.2.1 == a2 then
            (F_slab_full m a2).bind fun x23 =>
            bif x14.2.2 != x23 then
              some (.fin x12.2)
            else some (.next (x12.1, (IntKind.i64.wrap (x12.2 + (1 : Int)))))
          else some (.next (x12.1, (IntKind.i64.wrap (x12.2 + (1 : Int)))))
        else some (.next (x12.1, (IntKind.i64.wrap (x12.2 + (1 : Int)))))
    else none
  else some (.fin x12.1)
noncomputable def F_slab_Take (m : Fu) (p : (List (Int × Int × Int)) × Int × Int × Int) : Option ((List (Int × Int × Int)) × Int × Int × Int) :=
  let a0 := p.1
  let a1 := p.2.1
  let a2 := p.2.2.1
  let a3 := p.2.2.2
  (F_slab_Check m a0).bind fun x1 =>
  bif x1 != (0 : Int) then some (([] : List (Int × Int × Int)), (0 : Int), (0 : Int), x1) else
  (F_slab_Take.s52 m a1 a2 a3).bind fun x9 =>
  bif x9 then some (([] : List (Int × Int × Int)), (0 : Int), (0 : Int), (2 : Int)) else
  (F_slab_owned m (a0, a1)).bind fun x10 =>
  (iter m (F_slab_Take.l1786 m a0 a1 a2 a3 x10 (a0.length : Int)) ((-1 : Int), (0 : Int))).bind fun x28 =>
  bif decide (x28 < (0 : Int)) then some (([] : List (Int × Int × Int)), (0 : Int), (0 : Int), (9 : Int)) else
  bif (decide ((0 : Int) ≤ x28)) && (decide (x28 < (a0.length : Int))) then
    let x30 := a0.getD x28.toNat (0, (0, 0))
    (F_mathbits_TrailingZeros16 m (bitsOp .xor .u16 (65535 : Int) x30.2.2)).bind fun x32 =>
    (C_slices_Clone_Page m a0).bind fun x33 =>
    bif decide (x32 < (0 : Int)) then none else
    bif (decide ((0 : Int) ≤ x28)) && (decide (x28 < (x33.length : Int))) then
      bif Nat.blt x28.toNat x33.length then
        some ((x33.set x28.toNat (a1, (a2, (bitsOp .or .u16 x30.2.2 (shlOp .u16 (1 : Int) x32))))), x28, x32, (0 : Int))
      else none
    else none
  else none
def F_slab_Take.ann : List (Nat × Ann) := [(52, .jnt [(.normal, ⟨[(39, false, [.dat .bool])], [], [], [], 224⟩)]),
  (1786, .loop ⟨[(9, false, [.dat (.int .i64)]), (50, false, [.dat (.int .i64)])], [], [], [], 432⟩ [(.exit 0, ⟨[(9, false, [.dat (.int .i64)])], [], [], [], 432⟩)])]
def F_slab_Take.sig : Sig := ⟨[.val true [.sl (.pr (.int .i64) (.pr (.int .i64) (.int .u16)))], .val false [.int .i64], .val false [.int .i64], .val false [.int .i64]], [(true, [.own (.pr (.int .i64) (.pr (.int .i64) (.int .u16))) 0 .wr]), (false, [.dat (.int .i64)]), (false, [.dat (.int .i64)]), (false, [.dat (.int .i64)])]⟩
noncomputable def F_slab_Take.S : Summ := ⟨10, F_slab_Take.sig, F_slab_Take⟩
noncomputable def F_slab_Take.G : List Summ := [F_slab_Check.S, F_slab_tenanted.S, F_slab_classed.S, F_slab_owned.S, F_slab_full.S, F_mathbits_TrailingZeros16.S, C_slices_Clone_Page.S]
theorem F_slab_Take.eq : absF Tryd.prog F_slab_Take.G F_slab_Take.ann F_slab_Take.sig Tryd.f10 = F_slab_Take := by kernel_rfl
theorem F_slab_Take.sound : Sound Tryd.prog F_slab_Take.S := absF_sound (fn := Tryd.f10) (Γ := F_slab_Take.G) (all_cons F_slab_Check.sound (all_cons F_slab_tenanted.sound (all_cons F_slab_classed.sound (all_cons F_slab_owned.sound (all_cons F_slab_full.sound (all_cons F_mathbits_TrailingZeros16.sound (all_cons C_slices_Clone_Page.sound all_nil))))))) mix (by kernel_rfl) (by kernel_rfl) (fun m p => congrFun (congrFun F_slab_Take.eq m) p)
/-! ### cloakroom/cloakroomlaw05.alive -/
noncomputable def F_law05_alive (m : Fu) (_ : Unit) : Option (Bool) :=
  (F_slab_New m (2 : Int)).bind fun x1 =>
  (F_slab_Take m (x1.1, (2 : Int), (3 : Int), (2 : Int))).bind fun x2 =>
  (F_slab_Take m (x2.1, (2 : Int), (3 : Int), (2 : Int))).bind fun x3 =>
  bif x1.2 == (0 : Int) then
    bif x2.2.2.2 == (0 : Int) then
      bif x3.2.2.2 == (0 : Int) then
        bif x2.2.1 == (0 : Int) then
          bif x2.2.2.1 == (0 : Int) then
            bif x3.2.1 == (0 : Int) then
              bif x3.2.2.1 == (1 : Int) then
                bif (x3.1.length : Int) == (2 : Int) then
                  bif decide ((0 : Int) < (x3.1.length : Int)) then
                    bif Nat.blt 0 x3.1.length then
                      let x13 := x3.1.getD 0 (0, (0, 0))
                      some ((x13.1 == (2 : Int)) && ((x13.2.1 == (3 : Int)) && ((x13.2.2 == (3 : Int)) && true)))
                    else none
                  else none
                else some false
              else some false
            else some false
          else some false
        else some false
      else some false
    else some false
  else some false
def F_law05_alive.ann : List (Nat × Ann) := []
def F_law05_alive.sig : Sig := ⟨[], [(false, [.dat .bool])]⟩
noncomputable def F_law05_alive.S : Summ := ⟨8, F_law05_alive.sig, F_law05_alive⟩
noncomputable def F_law05_alive.G : List Summ := [F_slab_New.S, F_slab_Take.S]
theorem F_law05_alive.eq : absF Tryd.prog F_law05_alive.G F_law05_alive.ann F_law05_alive.sig Tryd.f8 = F_law05_alive := by kernel_rfl
theorem F_law05_alive.sound : Sound Tryd.prog F_law05_alive.S := absF_sound (fn := Tryd.f8) (Γ := F_law05_alive.G) (all_cons F_slab_New.sound (all_cons F_slab_Take.sound all_nil)) mix (by kernel_rfl) (by kernel_rfl) (fun m p => congrFun (congrFun F_law05_alive.eq m) p)
/-! ### math/bits.Len64 -/
noncomputable def F_mathbits_Len64.s6 (_ : Fu) (a0 : Int) : Option ((Int × Int)) :=
  bif decide ((4294967296 : Int) ≤ a0) then
    some ((shrOp .u64 a0 (32 : Int)), (32 : Int))
  else some (a0, (0 : Int))
noncomputable def F_mathbits_Len64.s14 (_ : Fu) (x3 : (Int × Int)) : Option ((Int × Int)) :=
  bif decide ((65536 : Int) ≤ x3.1) then
    some ((shrOp .u64 x3.1 (16 : Int)), (IntKind.i64.wrap (x3.2 + (16 : Int))))
  else some x3
noncomputable def F_mathbits_Len64.s30 (_ : Fu) (x7 : (Int × Int)) : Option ((Int × Int)) :=
  bif decide ((256 : Int) ≤ x7.1) then
    some ((shrOp .u64 x7.1 (8 : Int)), (IntKind.i64.wrap (x7.2 + (8 : Int))))
  else some x7
noncomputable def F_mathbits_Len64 (m : Fu) (p : Int) : Option (Int) :=
  let a0 := p
  (F_mathbits_Len64.s6 m a0).bind fun x3 =>
  (F_mathbits_Len64.s14 m x3).bind fun x7 =>
  (F_mathbits_Len64.s30 m x7).bind fun x11 =>
  let x12 := IntKind.u8.wrap x11.1
  bif (decide ((0 : Int) ≤ x12)) && (decide (x12 < (256 : Int))) then
    some (IntKind.i64.wrap (x11.2 + (IntKind.i64.wrap (([0, 1, 2, 2, 3, 3, 3, 3, 4, 4, 4, 4, 4, 4, 4, 4, 5, 5, 5, 5, 5, 5, 5, 5, 5, 5, 5, 5, 5, 5, 5, 5, 6, 6, 6, 6, 6, 6, 6, 6, 6, 6, 6, 6, 6, 6, 6, 6, 6, 6, 6, 6, 6, 6, 6, 6, 6, 6, 6, 6, 6, 6, 6, 6, 7, 7, 7, 7, 7, 7, 7, 7, 7, 7, 7, 7, 7, 7, 7, 7, 7, 7, 7, 7, 7, 7, 7, 7, 7, 7, 7, 7, 7, 7, 7, 7, 7, 7, 7, 7, 7, 7, 7, 7, 7, 7, 7, 7, 7, 7, 7, 7, 7, 7, 7, 7, 7, 7, 7, 7, 7, 7, 7, 7, 7, 7, 7, 7, 8, 8, 8, 8, 8, 8, 8, 8, 8, 8, 8, 8, 8, 8, 8, 8, 8, 8, 8, 8, 8, 8, 8, 8, 8, 8, 8, 8, 8, 8, 8, 8, 8, 8, 8, 8, 8, 8, 8, 8, 8, 8, 8, 8, 8, 8, 8, 8, 8, 8, 8, 8, 8, 8, 8, 8, 8, 8, 8, 8, 8, 8, 8, 8, 8, 8, 8, 8, 8, 8, 8, 8, 8, 8, 8, 8, 8, 8, 8, 8, 8, 8, 8, 8, 8, 8, 8, 8, 8, 8, 8, 8, 8, 8, 8, 8, 8, 8, 8, 8, 8, 8, 8, 8, 8, 8, 8, 8, 8, 8, 8, 8, 8, 8, 8, 8, 8, 8, 8, 8, 8, 8, 8, 8, 8, 8, 8, 8] : List Int).getD x12.toNat 0))))
  else none
def F_mathbits_Len64.ann : List (Nat × Ann) := [(6, .jnt [(.normal, ⟨[(0, false, [.dat (.int .u64)]), (2, false, [.dat (.int .i64)])], [], [], [], 32⟩)]),
  (14, .jnt [(.normal, ⟨[(0, false, [.dat (.int .u64)]), (2, false, [.dat (.int .i64)])], [], [], [], 32⟩)]),
  (30, .jnt [(.normal, ⟨[(0, false, [.dat (.int .u64)]), (2, false, [.dat (.int .i64)])], [], [], [], 32⟩)])]
def F_mathbits_Len64.sig : Sig := ⟨[.val false [.int .u64]], [(false, [.dat (.int .i64)])]⟩
noncomputable def F_mathbits_Len64.S : Summ := ⟨49, F_mathbits_Len64.sig, F_mathbits_Len64⟩
noncomputable def F_mathbits_Len64.G : List Summ := []
theorem F_mathbits_Len64.eq : absF Tryd.prog F_mathbits_Len64.G F_mathbits_Len64.ann F_mathbits_Len64.sig Tryd.f49 = F_mathbits_Len64 := by kernel_rfl
theorem F_mathbits_Len64.sound : Sound Tryd.prog F_mathbits_Len64.S := absF_sound (fn := Tryd.f49) (Γ := F_mathbits_Len64.G) all_nil mix (by kernel_rfl) (by kernel_rfl) (fun m p => congrFun (congrFun F_mathbits_Len64.eq m) p)
/-! ### math/bits.Len -/
noncomputable def F_mathbits_Len (m : Fu) (p : Int) : Option (Int) :=
  let a0 := p
  (F_mathbits_Len64 m a0).bind fun x1 =>
  some x1
def F_mathbits_Len.ann : List (Nat × Ann) := []
def F_mathbits_Len.sig : Sig := ⟨[.val false [.int .u64]], [(false, [.dat (.int .i64)])]⟩
noncomputable def F_mathbits_Len.S : Summ := ⟨43, F_mathbits_Len.sig, F_mathbits_Len⟩
noncomputable def F_mathbits_Len.G : List Summ := [F_mathbits_Len64.S]
theorem F_mathbits_Len.eq : absF Tryd.prog F_mathbits_Len.G F_mathbits_Len.ann F_mathbits_Len.sig Tryd.f43 = F_mathbits_Len := by kernel_rfl
theorem F_mathbits_Len.sound : Sound Tryd.prog F_mathbits_Len.S := absF_sound (fn := Tryd.f43) (Γ := F_mathbits_Len.G) (all_cons F_mathbits_Len64.sound all_nil) mix (by kernel_rfl) (by kernel_rfl) (fun m p => congrFun (congrFun F_mathbits_Len.eq m) p)
/-! ### cloakroom/slab.Class -/
noncomputable def F_slab_Class (m : Fu) (p : Int) : Option (Int × Int) :=
  let a0 := p
  bif decide (a0 < (1 : Int)) then some ((0 : Int), (2 : Int)) else
  bif decide ((256 : Int) < a0) then some ((0 : Int), (2 : Int)) else
  (F_mathbits_Len m (IntKind.u64.wrap ((IntKind.u64.wrap (IntKind.i64.wrap (a0 - (1 : Int)))).tdiv (16 : Int)))).bind fun x6 =>
  some (x6, (0 : Int))
def F_slab_Class.ann : List (Nat × Ann) := []
def F_slab_Class.sig : Sig := ⟨[.val false [.int .i64]], [(false, [.dat (.int .i64)]), (false, [.dat (.int .i64)])]⟩
noncomputable def F_slab_Class.S : Summ := ⟨25, F_slab_Class.sig, F_slab_Class⟩
noncomputable def F_slab_Class.G : List Summ := [F_mathbits_Len.S]
theorem F_slab_Class.eq : absF Tryd.prog F_slab_Class.G F_slab_Class.ann F_slab_Class.sig Tryd.f25 = F_slab_Class := by kernel_rfl
theorem F_slab_Class.sound : Sound Tryd.prog F_slab_Class.S := absF_sound (fn := Tryd.f25) (Γ := F_slab_Class.G) (all_cons F_mathbits_Len.sound all_nil) mix (by kernel_rfl) (by kernel_rfl) (fun m p => congrFun (congrFun F_slab_Class.eq m) p)
/-! ### cloakroom/slab.Size -/
noncomputable def F_slab_Size (m : Fu) (p : Int) : Option (Int × Int) :=
  let a0 := p
  (F_slab_classed m a0).bind fun x1 =>
  bif !x1 then some ((0 : Int), (2 : Int)) else
  (F_slab_size m a0).bind fun x3 =>
  some (x3, (0 : Int))
def F_slab_Size.ann : List (Nat × Ann) := []
def F_slab_Size.sig : Sig := ⟨[.val false [.int .i64]], [(false, [.dat (.int .i64)]), (false, [.dat (.int .i64)])]⟩
noncomputable def F_slab_Size.S : Summ := ⟨26, F_slab_Size.sig, F_slab_Size⟩
noncomputable def F_slab_Size.G : List Summ := [F_slab_classed.S, F_slab_size.S]
theorem F_slab_Size.eq : absF Tryd.prog F_slab_Size.G F_slab_Size.ann F_slab_Size.sig Tryd.f26 = F_slab_Size := by kernel_rfl
theorem F_slab_Size.sound : Sound Tryd.prog F_slab_Size.S := absF_sound (fn := Tryd.f26) (Γ := F_slab_Size.G) (all_cons F_slab_classed.sound (all_cons F_slab_size.sound all_nil)) mix (by kernel_rfl) (by kernel_rfl) (fun m p => congrFun (congrFun F_slab_Size.eq m) p)
/-! ### cloakroom/slab.Chunks -/
noncomputable def F_slab_Chunks (m : Fu) (p : Int) : Option (Int × Int) :=
  let a0 := p
  (F_slab_classed m a0).bind fun x1 =>
  bif !x1 then some ((0 : Int), (2 : Int)) else
  (F_slab_chunks m a0).bind fun x3 =>
  some (x3, (0 : Int))
def F_slab_Chunks.ann : List (Nat × Ann) := []
def F_slab_Chunks.sig : Sig := ⟨[.val false [.int .i64]], [(false, [.dat (.int .i64)]), (false, [.dat (.int .i64)])]⟩
noncomputable def F_slab_Chunks.S : Summ := ⟨27, F_slab_Chunks.sig, F_slab_Chunks⟩
noncomputable def F_slab_Chunks.G : List Summ := [F_slab_classed.S, F_slab_chunks.S]
theorem F_slab_Chunks.eq : absF Tryd.prog F_slab_Chunks.G F_slab_Chunks.ann F_slab_Chunks.sig Tryd.f27 = F_slab_Chunks := by kernel_rfl
theorem F_slab_Chunks.sound : Sound Tryd.prog F_slab_Chunks.S := absF_sound (fn := Tryd.f27) (Γ := F_slab_Chunks.G) (all_cons F_slab_classed.sound (all_cons F_slab_chunks.sound all_nil)) mix (by kernel_rfl) (by kernel_rfl) (fun m p => congrFun (congrFun F_slab_Chunks.eq m) p)
/-! ### cloakroom/slab.Free -/
noncomputable def F_slab_Free.s30 (_ : Fu) (a1 : Int) (a2 : Int) (x12 : List (Int × Int × Int)) : Option ((List (Int × Int × Int))) :=
  bif (decide ((0 : Int) ≤ a1)) && (decide (a1 < (x12.length : Int))) then
    bif Nat.blt a1.toNat x12.length then
      bif decide (a2 < (0 : Int)) then none else
      bif (((x12.getD a1.toNat (0, (0, 0))).2).2) == (shlOp .u16 (1 : Int) a2) then
        bif Nat.blt a1.toNat x12.length then
          some (x12.set a1.toNat ((0 : Int), ((0 : Int), (0 : Int))))
        else none
      else
        bif Nat.blt a1.toNat x12.length then
          bif decide (a2 < (0 : Int)) then none else
          bif Nat.blt a1.toNat x12.length then
            some (x12.set a1.toNat (((x12.getD a1.toNat (0, (0, 0))).1), ((((x12.getD a1.toNat (0, (0, 0))).2).1), (bitsOp .andNot .u16 (((x12.getD a1.toNat (0, (0, 0))).2).2) (shlOp .u16 (1 : Int) a2)))))
          else none
        else none
    else none
  else none
noncomputable def F_slab_Free (m : Fu) (p : (List (Int × Int × Int)) × Int × Int) : Option ((List (Int × Int × Int)) × Int) :=
  let a0 := p.1
  let a1 := p.2.1
  let a2 := p.2.2
  (F_slab_Check m a0).bind fun x1 =>
  bif x1 != (0 : Int) then some (([] : List (Int × Int × Int)), x1) else
  bif decide (a1 < (0 : Int)) then some (([] : List (Int × Int × Int)), (2 : Int)) else
  bif decide ((a0.length : Int) ≤ a1) then some (([] : List (Int × Int × Int)), (2 : Int)) else
  bif decide (a2 < (0 : Int)) then some (([] : List (Int × Int × Int)), (6 : Int)) else
  bif decide ((15 : Int) < a2) then some (([] : List (Int × Int × Int)), (6 : Int)) else
  bif (decide ((0 : Int) ≤ a1)) && (decide (a1 < (a0.length : Int))) then
    bif decide (a2 < (0 : Int)) then none else
    bif (bitsOp .and .u16 (shrOp .u16 (((a0.getD a1.toNat (0, (0, 0))).2).2) a2) (1 : Int)) == (0 : Int) then some (([] : List (Int × Int × Int)), (6 : Int)) else
    (C_slices_Clone_Page m a0).bind fun x12 =>
    (F_slab_Free.s30 m a1 a2 x12).bind fun x21 =>
    some (x21, (0 : Int))
  else none
def F_slab_Free.ann : List (Nat × Ann) := [(30, .jnt [(.normal, ⟨[], [], [(688, .pr (.int .i64) (.pr (.int .i64) (.int .u16)), .wr)], [], 752⟩)])]
def F_slab_Free.sig : Sig := ⟨[.val true [.sl (.pr (.int .i64) (.pr (.int .i64) (.int .u16)))], .val false [.int .i64], .val false [.int .i64]], [(true, [.own (.pr (.int .i64) (.pr (.int .i64) (.int .u16))) 0 .wr]), (false, [.dat (.int .i64)])]⟩
noncomputable def F_slab_Free.S : Summ := ⟨14, F_slab_Free.sig, F_slab_Free⟩
noncomputable def F_slab_Free.G : List Summ := [F_slab_Check.S, C_slices_Clone_Page.S]
theorem F_slab_Free.eq : absF Tryd.prog F_slab_Free.G F_slab_Free.ann F_slab_Free.sig Tryd.f14 = F_slab_Free := by kernel_rfl
theorem F_slab_Free.sound : Sound Tryd.prog F_slab_Free.S := absF_sound (fn := Tryd.f14) (Γ := F_slab_Free.G) (all_cons F_slab_Check.sound (all_cons C_slices_Clone_Page.sound all_nil)) mix (by kernel_rfl) (by kernel_rfl) (fun m p => congrFun (congrFun F_slab_Free.eq m) p)
/-! ### cloakroom/slab.asked -/
noncomputable def F_slab_asked (m : Fu) (p : (List (Int × Int × Int)) × Int) : Option (Int) :=
  let a0 := p.1
  let a1 := p.2
  (F_slab_Check m a0).bind fun x1 =>
  bif x1 != (0 : Int) then some x1 else
  (F_slab_tenanted m a1).bind fun x3 =>
  bif !x3 then
    some (2 : Int)
  else some (0 : Int)
def F_slab_asked.ann : List (Nat × Ann) := []
def F_slab_asked.sig : Sig := ⟨[.val true [.sl (.pr (.int .i64) (.pr (.int .i64) (.int .u16)))], .val false [.int .i64]], [(false, [.dat (.int .i64)])]⟩
noncomputable def F_slab_asked.S : Summ := ⟨37, F_slab_asked.sig, F_slab_asked⟩
noncomputable def F_slab_asked.G : List Summ := [F_slab_Check.S, F_slab_tenanted.S]
theorem F_slab_asked.eq : absF Tryd.prog F_slab_asked.G F_slab_asked.ann F_slab_asked.sig Tryd.f37 = F_slab_asked := by kernel_rfl
theorem F_slab_asked.sound : Sound Tryd.prog F_slab_asked.S := absF_sound (fn := Tryd.f37) (Γ := F_slab_asked.G) (all_cons F_slab_Check.sound (all_cons F_slab_tenanted.sound all_nil)) mix (by kernel_rfl) (by kernel_rfl) (fun m p => congrFun (congrFun F_slab_asked.eq m) p)
/-! ### cloakroom/slab.Owned -/
noncomputable def F_slab_Owned (m : Fu) (p : (List (Int × Int × Int)) × Int) : Option (Int × Int) :=
  let a0 := p.1
  let a1 := p.2
  (F_slab_asked m (a0, a1)).bind fun x1 =>
  bif x1 != (0 : Int) then some ((0 : Int), x1) else
  (F_slab_owned m (a0, a1)).bind fun x3 =>
  some (x3.1, (0 : Int))
def F_slab_Owned.ann : List (Nat × Ann) := []
def F_slab_Owned.sig : Sig := ⟨[.val true [.sl (.pr (.int .i64) (.pr (.int .i64) (.int .u16)))], .val false [.int .i64]], [(false, [.dat (.int .i64)]), (false, [.dat (.int .i64)])]⟩
noncomputable def F_slab_Owned.S : Summ := ⟨13, F_slab_Owned.sig, F_slab_Owned⟩
noncomputable def F_slab_Owned.G : List Summ := [F_slab_asked.S, F_slab_owned.S]
theorem F_slab_Owned.eq : absF Tryd.prog F_slab_Owned.G F_slab_Owned.ann F_slab_Owned.sig Tryd.f13 = F_slab_Owned := by kernel_rfl
theorem F_slab_Owned.sound : Sound Tryd.prog F_slab_Owned.S := absF_sound (fn := Tryd.f13) (Γ := F_slab_Owned.G) (all_cons F_slab_asked.sound (all_cons F_slab_owned.sound all_nil)) mix (by kernel_rfl) (by kernel_rfl) (fun m p => congrFun (congrFun F_slab_Owned.eq m) p)
/-! ### cloakroom/slab.Last -/
noncomputable def F_slab_Last (m : Fu) (p : (List (Int × Int × Int)) × Int) : Option (Int × Int) :=
  let a0 := p.1
  let a1 := p.2
  (F_slab_asked m (a0, a1)).bind fun x1 =>
  bif x1 != (0 : Int) then some ((0 : Int), x1) else
  (F_slab_owned m (a0, a1)).bind fun x3 =>
  some (x3.2, (0 : Int))
def F_slab_Last.ann : List (Nat × Ann) := []
def F_slab_Last.sig : Sig := ⟨[.val true [.sl (.pr (.int .i64) (.pr (.int .i64) (.int .u16)))], .val false [.int .i64]], [(false, [.dat (.int .i64)]), (false, [.dat (.int .i64)])]⟩
noncomputable def F_slab_Last.S : Summ := ⟨21, F_slab_Last.sig, F_slab_Last⟩
noncomputable def F_slab_Last.G : List Summ := [F_slab_asked.S, F_slab_owned.S]
theorem F_slab_Last.eq : absF Tryd.prog F_slab_Last.G F_slab_Last.ann F_slab_Last.sig Tryd.f21 = F_slab_Last := by kernel_rfl
theorem F_slab_Last.sound : Sound Tryd.prog F_slab_Last.S := absF_sound (fn := Tryd.f21) (Γ := F_slab_Last.G) (all_cons F_slab_asked.sound (all_cons F_slab_owned.sound all_nil)) mix (by kernel_rfl) (by kernel_rfl) (fun m p => congrFun (congrFun F_slab_Last.eq m) p)
/-! ### cloakroom/cloakroomref05.Same -/
noncomputable def F_ref05_Same.l58 (_ : Fu) (a0 : List (Int × Int × Int)) (a1 : List (Int × Int × Int)) (x4 : Int) : Option (Step Int (Bool ⊕ Unit)) :=
  bif decide (x4 < (a0.length : Int)) then
    bif (decide ((0 : Int) ≤ x4)) && (decide (x4 < (a0.length : Int))) then
      let x7 := a0.getD x4.toNat (0, (0, 0))
      bif (decide ((0 : Int) ≤ x4)) && (decide (x4 < (a1.length : Int))) then
        let x8 := a1.getD x4.toNat (0, (0, 0))
        bif !((x7.1 == x8.1) && ((x7.2.1 == x8.2.1) && ((x7.2.2 == x8.2.2) && true))) then
          some (.fin (Sum.inl false))
        else some (.next (IntKind.i64.wrap (x4 + (1 : Int))))
      else none
    else none
  else some (.fin (Sum.inr ()))
noncomputable def F_ref05_Same (m : Fu) (p : (List (Int × Int × Int)) × (List (Int × Int × Int))) : Option (Bool) :=
  let a0 := p.1
  let a1 := p.2
  bif (a0.length : Int) != (a1.length : Int) then some false else
  (iter m (F_ref05_Same.l58 m a0 a1) (0 : Int)).bind fun x11 =>
  match x11 with
  | .inl x12 =>
    some x12
  | .inr _ =>
    some true
def F_ref05_Same.ann : List (Nat × Ann) := [(58, .loop ⟨[(5, false, [.dat (.int .i64)])], [], [], [], 208⟩ [(.ret, ⟨[(4, false, [.dat .bool])], [], [], [], 208⟩), (.exit 0, ⟨[], [], [], [], 208⟩)])]
def F_ref05_Same.sig : Sig := ⟨[.val true [.sl (.pr (.int .i64) (.pr (.int .i64) (.int .u16)))], .val true [.sl (.pr (.int .i64) (.pr (.int .i64) (.int .u16)))]], [(false, [.dat .bool])]⟩
noncomputable def F_ref05_Same.S : Summ := ⟨15, F_ref05_Same.sig, F_ref05_Same⟩
noncomputable def F_ref05_Same.G : List Summ := []
theorem F_ref05_Same.eq : absF Tryd.prog F_ref05_Same.G F_ref05_Same.ann F_ref05_Same.sig Tryd.f15 = F_ref05_Same := by kernel_rfl
theorem F_ref05_Same.sound : Sound Tryd.prog F_ref05_Same.S := absF_sound (fn := Tryd.f15) (Γ := F_ref05_Same.G) all_nil mix (by kernel_rfl) (by kernel_rfl) (fun m p => congrFun (congrFun F_ref05_Same.eq m) p)
/-! ### cloakroom/cloakroomlaw05.SlabNames -/
noncomputable def F_law05_SlabNames.l250 (m : Fu) (x2 : Bool × Int) : Option (Step (Bool × Int) Bool) :=
  bif decide (x2.2 < (6 : Int)) then
    bif x2.2 == (0 : Int) then
      (F_slab_Class m (1 : Int)).bind fun x134 =>
      bif x2.1 then
        bif x2.2 == (0 : Int) then
          bif x134.1 == (0 : Int) then
            some (.next ((x134.2 == (0 : Int)), (IntKind.i64.wrap (x2.2 + (1 : Int)))))
          else some (.next (false, (IntKind.i64.wrap (x2.2 + (1 : Int)))))
        else
          bif x2.2 == (1 : Int) then
            bif x134.1 == (0 : Int) then
              some (.next ((x134.2 == (0 : Int)), (IntKind.i64.wrap (x2.2 + (1 : Int)))))
            else some (.next (false, (IntKind.i64.wrap (x2.2 + (1 : Int)))))
          else
            bif x2.2 == (2 : Int) then
              bif x134.1 == (1 : Int) then
                some (.next ((x134.2 == (0 : Int)), (IntKind.i64.wrap (x2.2 + (1 : Int)))))
              else some (.next (false, (IntKind.i64.wrap (x2.2 + (1 : Int)))))
            else
              bif x2.2 == (3 : Int) then
                bif x134.1 == (4 : Int) then
                  some (.next ((x134.2 == (0 : Int)), (IntKind.i64.wrap (x2.2 + (1 : Int)))))
                else some (.next (false, (IntKind.i64.wrap (x2.2 + (1 : Int)))))
              else
                bif x2.2 == (4 : Int) then
                  bif x134.1 == (4 : Int) then
                    some (.next ((x134.2 == (0 : Int)), (IntKind.i64.wrap (x2.2 + (1 : Int)))))
                  else some (.next (false, (IntKind.i64.wrap (x2.2 + (1 : Int)))))
                else
                  bif x2.2 == (5 : Int) then
                    bif x134.1 == (3 : Int) then
                      some (.next ((x134.2 == (0 : Int)), (IntKind.i64.wrap (x2.2 + (1 : Int)))))
                    else some (.next (false, (IntKind.i64.wrap (x2.2 + (1 : Int)))))
                  else none
      else some (.next (false, (IntKind.i64.wrap (x2.2 + (1 : Int)))))
    else
      bif x2.2 == (1 : Int) then
        (F_slab_Class m (16 : Int)).bind fun x108 =>
        bif x2.1 then
          bif x2.2 == (0 : Int) then
            bif x108.1 == (0 : Int) then
              some (.next ((x108.2 == (0 : Int)), (IntKind.i64.wrap (x2.2 + (1 : Int)))))
            else some (.next (false, (IntKind.i64.wrap (x2.2 + (1 : Int)))))
          else
            bif x2.2 == (1 : Int) then
              bif x108.1 == (0 : Int) then
                some (.next ((x108.2 == (0 : Int)), (IntKind.i64.wrap (x2.2 + (1 : Int)))))
              else some (.next (false, (IntKind.i64.wrap (x2.2 + (1 : Int)))))
            else
              bif x2.2 == (2 : Int) then
                bif x108.1 == (1 : Int) then
                  some (.next ((x108.2 == (0 : Int)), (IntKind.i64.wrap (x2.2 + (1 : Int)))))
                else some (.next (false, (IntKind.i64.wrap (x2.2 + (1 : Int)))))
              else
                bif x2.2 == (3 : Int) then
                  bif x108.1 == (4 : Int) then
                    some (.next ((x108.2 == (0 : Int)), (IntKind.i64.wrap (x2.2 + (1 : Int)))))
                  else some (.next (false, (IntKind.i64.wrap (x2.2 + (1 : Int)))))
                else
                  bif x2.2 == (4 : Int) then
                    bif x108.1 == (4 : Int) then
                      some (.next ((x108.2 == (0 : Int)), (IntKind.i64.wrap (x2.2 + (1 : Int)))))
                    else some (.next (false, (IntKind.i64.wrap (x2.2 + (1 : Int)))))
                  else
                    bif x2.2 == (5 : Int) then
                      bif x108.1 == (3 : Int) then
                        some (.next ((x108.2 == (0 : Int)), (IntKind.i64.wrap (x2.2 + (1 : Int)))))
                      else some (.next (false, (IntKind.i64.wrap (x2.2 + (1 : Int)))))
                    else none
        else some (.next (false, (IntKind.i64.wrap (x2.2 + (1 : Int)))))
      else
        bif x2.2 == (2 : Int) then
          (F_slab_Class m (17 : Int)).bind fun x82 =>
          bif x2.1 then
            bif x2.2 == (0 : Int) then
              bif x82.1 == (0 : Int) then
                some (.next ((x82.2 == (0 : Int)), (IntKind.i64.wrap (x2.2 + (1 : Int)))))
              else some (.next (false, (IntKind.i64.wrap (x2.2 + (1 : Int)))))
            else
              bif x2.2 == (1 : Int) then
                bif x82.1 == (0 : Int) then
                  some (.next ((x82.2 == (0 : Int)), (IntKind.i64.wrap (x2.2 + (1 : Int)))))
                else some (.next (false, (IntKind.i64.wrap (x2.2 + (1 : Int)))))
              else
                bif x2.2 == (2 : Int) then
                  bif x82.1 == (1 : Int) then
                    some (.next ((x82.2 == (0 : Int)), (IntKind.i64.wrap (x2.2 + (1 : Int)))))
                  else some (.next (false, (IntKind.i64.wrap (x2.2 + (1 : Int)))))
                else
                  bif x2.2 == (3 : Int) then
                    bif x82.1 == (4 : Int) then
                      some (.next ((x82.2 == (0 : Int)), (IntKind.i64.wrap (x2.2 + (1 : Int)))))
                    else some (.next (false, (IntKind.i64.wrap (x2.2 + (1 : Int)))))
                  else
                    bif x2.2 == (4 : Int) then
                      bif x82.1 == (4 : Int) then
                        some (.next ((x82.2 == (0 : Int)), (IntKind.i64.wrap (x2.2 + (1 : Int)))))
                      else some (.next (false, (IntKind.i64.wrap (x2.2 + (1 : Int)))))
                    else
                      bif x2.2 == (5 : Int) then
                        bif x82.1 == (3 : Int) then
                          some (.next ((x82.2 == (0 : Int)), (IntKind.i64.wrap (x2.2 + (1 : Int)))))
                        else some (.next (false, (IntKind.i64.wrap (x2.2 + (1 : Int)))))
                      else none
          else some (.next (false, (IntKind.i64.wrap (x2.2 + (1 : Int)))))
        else
          bif x2.2 == (3 : Int) then
            (F_slab_Class m (255 : Int)).bind fun x56 =>
            bif x2.1 then
              bif x2.2 == (0 : Int) then
                bif x56.1 == (0 : Int) then
                  some (.next ((x56.2 == (0 : Int)), (IntKind.i64.wrap (x2.2 + (1 : Int)))))
                else some (.next (false, (IntKind.i64.wrap (x2.2 + (1 : Int)))))
              else
                bif x2.2 == (1 : Int) then
                  bif x56.1 == (0 : Int) then
                    some (.next ((x56.2 == (0 : Int)), (IntKind.i64.wrap (x2.2 + (1 : Int)))))
                  else some (.next (false, (IntKind.i64.wrap (x2.2 + (1 : Int)))))
                else
                  bif x2.2 == (2 : Int) then
                    bif x56.1 == (1 : Int) then
                      some (.next ((x56.2 == (0 : Int)), (IntKind.i64.wrap (x2.2 + (1 : Int)))))
                    else some (.next (false, (IntKind.i64.wrap (x2.2 + (1 : Int)))))
                  else
                    bif x2.2 == (3 : Int) then
                      bif x56.1 == (4 : Int) then
                        some (.next ((x56.2 == (0 : Int)), (IntKind.i64.wrap (x2.2 + (1 : Int)))))
                      else some (.next (false, (IntKind.i64.wrap (x2.2 + (1 : Int)))))
                    else
                      bif x2.2 == (4 : Int) then
                        bif x56.1 == (4 : Int) then
                          some (.next ((x56.2 == (0 : Int)), (IntKind.i64.wrap (x2.2 + (1 : Int)))))
                        else some (.next (false, (IntKind.i64.wrap (x2.2 + (1 : Int)))))
                      else
                        bif x2.2 == (5 : Int) then
                          bif x56.1 == (3 : Int) then
                            some (.next ((x56.2 == (0 : Int)), (IntKind.i64.wrap (x2.2 + (1 : Int)))))
                          else some (.next (false, (IntKind.i64.wrap (x2.2 + (1 : Int)))))
                        else none
            else some (.next (false, (IntKind.i64.wrap (x2.2 + (1 : Int)))))
          else
            bif x2.2 == (4 : Int) then
              (F_slab_Class m (256 : Int)).bind fun x30 =>
              bif x2.1 then
                bif x2.2 == (0 : Int) then
                  bif x30.1 == (0 : Int) then
                    some (.next ((x30.2 == (0 : Int)), (IntKind.i64.wrap (x2.2 + (1 : Int)))))
                  else some (.next (false, (IntKind.i64.wrap (x2.2 + (1 : Int)))))
                else
                  bif x2.2 == (1 : Int) then
                    bif x30.1 == (0 : Int) then
                      some (.next ((x30.2 == (0 : Int)), (IntKind.i64.wrap (x2.2 + (1 : Int)))))
                    else some (.next (false, (IntKind.i64.wrap (x2.2 + (1 : Int)))))
                  else
                    bif x2.2 == (2 : Int) then
                      bif x30.1 == (1 : Int) then
                        some (.next ((x30.2 == (0 : Int)), (IntKind.i64.wrap (x2.2 + (1 : Int)))))
                      else some (.next (false, (IntKind.i64.wrap (x2.2 + (1 : Int)))))
                    else
                      bif x2.2 == (3 : Int) then
                        bif x30.1 == (4 : Int) then
                          some (.next ((x30.2 == (0 : Int)), (IntKind.i64.wrap (x2.2 + (1 : Int)))))
                        else some (.next (false, (IntKind.i64.wrap (x2.2 + (1 : Int)))))
                      else
                        bif x2.2 == (4 : Int) then
                          bif x30.1 == (4 : Int) then
                            some (.next ((x30.2 == (0 : Int)), (IntKind.i64.wrap (x2.2 + (1 : Int)))))
                          else some (.next (false, (IntKind.i64.wrap (x2.2 + (1 : Int)))))
                        else
                          bif x2.2 == (5 : Int) then
                            bif x30.1 == (3 : Int) then
                              some (.next ((x30.2 == (0 : Int)), (IntKind.i64.wrap (x2.2 + (1 : Int)))))
                            else some (.next (false, (IntKind.i64.wrap (x2.2 + (1 : Int)))))
                          else none
              else some (.next (false, (IntKind.i64.wrap (x2.2 + (1 : Int)))))
            else
              bif x2.2 == (5 : Int) then
                (F_slab_Class m (100 : Int)).bind fun x4 =>
                bif x2.1 then
                  bif x2.2 == (0 : Int) then
                    bif x4.1 == (0 : Int) then
                      some (.next ((x4.2 == (0 : Int)), (IntKind.i64.wrap (x2.2 + (1 : Int)))))
                    else some (.next (false, (IntKind.i64.wrap (x2.2 + (1 : Int)))))
                  else
                    bif x2.2 == (1 : Int) then
                      bif x4.1 == (0 : Int) then
                        some (.next ((x4.2 == (0 : Int)), (IntKind.i64.wrap (x2.2 + (1 : Int)))))
                      else some (.next (false, (IntKind.i64.wrap (x2.2 + (1 : Int)))))
                    else
                      bif x2.2 == (2 : Int) then
                        bif x4.1 == (1 : Int) then
                          some (.next ((x4.2 == (0 : Int)), (IntKind.i64.wrap (x2.2 + (1 : Int)))))
                        else some (.next (false, (IntKind.i64.wrap (x2.2 + (1 : Int)))))
                      else
                        bif x2.2 == (3 : Int) then
                          bif x4.1 == (4 : Int) then
                            some (.next ((x4.2 == (0 : Int)), (IntKind.i64.wrap (x2.2 + (1 : Int)))))
                          else some (.next (false, (IntKind.i64.wrap (x2.2 + (1 : Int)))))
                        else
                          bif x2.2 == (4 : Int) then
                            bif x4.1 == (4 : Int) then
                              some (.next ((x4.2 == (0 : Int)), (IntKind.i64.wrap (x2.2 + (1 : Int)))))
                            else some (.next (false, (IntKind.i64.wrap (x2.2 + (1 : Int)))))
                          else
                            bif x2.2 == (5 : Int) then
                              bif x4.1 == (3 : Int) then
                                some (.next ((x4.2 == (0 : Int)), (IntKind.i64.wrap (x2.2 + (1 : Int)))))
                              else some (.next (false, (IntKind.i64.wrap (x2.2 + (1 : Int)))))
                            else none
                else some (.next (false, (IntKind.i64.wrap (x2.2 + (1 : Int)))))
              else none
  else some (.fin x2.1)
noncomputable def F_law05_SlabNames (m : Fu) (_ : Unit) : Option (Bool) :=
  (F_law05_alive m ()).bind fun x1 =>
  (iter m (F_law05_SlabNames.l250 m) (x1, (0 : Int))).bind fun x160 =>
  (F_slab_Class m (257 : Int)).bind fun x161 =>
  (F_slab_Size m (4 : Int)).bind fun x162 =>
  (F_slab_Chunks m (0 : Int)).bind fun x163 =>
  (F_slab_New m (2 : Int)).bind fun x164 =>
  (F_slab_Take m (x164.1, (1 : Int), (4 : Int), (1 : Int))).bind fun x165 =>
  (F_slab_Take m (x165.1, (1 : Int), (4 : Int), (1 : Int))).bind fun x166 =>
  (F_slab_Take m (x165.1, (2 : Int), (3 : Int), (2 : Int))).bind fun x167 =>
  (F_slab_Take m (x167.1, (2 : Int), (3 : Int), (2 : Int))).bind fun x168 =>
  (F_slab_Take m (x168.1, (2 : Int), (3 : Int), (1 : Int))).bind fun x169 =>
  bif !x160 then some false else
  bif x165.2.2.2 != (0 : Int) then some false else
  bif x167.2.2.2 != (0 : Int) then some false else
  bif x168.2.2.2 != (0 : Int) then some false else
  (F_slab_Free m (x165.1, (0 : Int), (0 : Int))).bind fun x174 =>
  (F_slab_Owned m (x174.1, (1 : Int))).bind fun x175 =>
  (F_slab_Last m (x167.1, (2 : Int))).bind fun x176 =>
  (F_slab_Free m (x164.1, (0 : Int), (0 : Int))).bind fun x177 =>
  bif x161.2 == (2 : Int) then
    bif x162.1 == (256 : Int) then
      bif x162.2 == (0 : Int) then
        bif x163.1 == (16 : Int) then
          bif x163.2 == (0 : Int) then
            bif x165.2.1 == (0 : Int) then
              bif x165.2.2.1 == (0 : Int) then
                bif x166.2.2.2 == (9 : Int) then
                  bif x167.2.1 == (1 : Int) then
                    bif x167.2.2.1 == (0 : Int) then
                      bif x168.2.2.1 == (1 : Int) then
                        bif x169.2.2.2 == (9 : Int) then
                          bif x174.2 == (0 : Int) then
                            (F_ref05_Same m (x174.1, x164.1)).bind fun x191 =>
                            bif x191 then
                              bif x175.1 == (0 : Int) then
                                bif x175.2 == (0 : Int) then
                                  bif x176.1 == (1 : Int) then
                                    bif x176.2 == (0 : Int) then
                                      bif x177.2 == (6 : Int) then
                                        (F_slab_Check m ([] : List (Int × Int × Int))).bind fun x197 =>
                                        some (x197 == (8 : Int))
                                      else some false
                                    else some false
                                  else some false
                                else some false
                              else some false
                            else some false
                          else some false
                        else some false
                      else some false
                    else some false
                  else some false
                else some false
              else some false
            else some false
          else some false
        else some false
      else some false
    else some false
  else some false
def F_law05_SlabNames.ann : List (Nat × Ann) := [(250, .loop ⟨[(3, false, [.dat .bool]), (4, false, [.dat (.int .i64)])], [], [], [], 160⟩ [(.exit 0, ⟨[(3, false, [.dat .bool])], [], [], [], 160⟩)])]
def F_law05_SlabNames.sig : Sig := ⟨[], [(false, [.dat .bool])]⟩
noncomputable def F_law05_SlabNames.S : Summ := ⟨7, F_law05_SlabNames.sig, F_law05_SlabNames⟩
noncomputable def F_law05_SlabNames.G : List Summ := [F_law05_alive.S, F_slab_Class.S, F_slab_Size.S, F_slab_Chunks.S, F_slab_New.S, F_slab_Take.S, F_slab_Free.S, F_slab_Owned.S, F_slab_Last.S, F_ref05_Same.S, F_slab_Check.S]
theorem F_law05_SlabNames.eq : absF Tryd.prog F_law05_SlabNames.G F_law05_SlabNames.ann F_law05_SlabNames.sig Tryd.f7 = F_law05_SlabNames := by kernel_rfl
theorem F_law05_SlabNames.sound : Sound Tryd.prog F_law05_SlabNames.S := absF_sound (fn := Tryd.f7) (Γ := F_law05_SlabNames.G) (all_cons F_law05_alive.sound (all_cons F_slab_Class.sound (all_cons F_slab_Size.sound (all_cons F_slab_Chunks.sound (all_cons F_slab_New.sound (all_cons F_slab_Take.sound (all_cons F_slab_Free.sound (all_cons F_slab_Owned.sound (all_cons F_slab_Last.sound (all_cons F_ref05_Same.sound (all_cons F_slab_Check.sound all_nil))))))))))) mix (by kernel_rfl) (by kernel_rfl) (fun m p => congrFun (congrFun F_law05_SlabNames.eq m) p)
end Go.Proofs.YtmkcmchmmemcgaaDoor
