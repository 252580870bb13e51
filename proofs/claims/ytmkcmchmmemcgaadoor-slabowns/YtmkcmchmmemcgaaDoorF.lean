/- The pure functions that the program's functions compute, and that they compute them. Printed by a program of this session (gen.py). -/
import Derived.Test.YtmkcmchmmemcgaaDoorProg
import Derived.Test.YtmkcmchmmemcgaaDoorA3
import Derived.WalkKit
import Derived.Tactics
import Derived.Tactics2
import Derived.StillTactics
import Derived.Laws.Pointers
import Derived.RegionTactic
import Derived.LoopTactic
import Derived.ChangeAlike
import Derived.Laws.Bits64b
namespace Go.Proofs.YtmkcmchmmemcgaaDoor
open Go.Abs Go.RowKit
set_option maxRecDepth 100000
theorem mix : Tryd.prog.follows .mixedOrders = true := by kernel_rfl
/-! ### cloakroom/slab.New -/
noncomputable def F_slab_New (m : Fu) (p : Int) : Option ((List (Int × Int × Int)) × Int) :=
  let a0 := p
  bif decide (a0 < (1 : Int)) then some (([] : List (Int × Int × Int)), (2 : Int)) else
  bif decide ((16 : Int) < a0) then some (([] : List (Int × Int × Int)), (2 : Int)) else
  bif ((decide ((0 : Int) ≤ a0)) && (decide (a0 ≤ a0))) && (decide (a0 ≤ (4294967296 : Int))) then
    some ((List.replicate a0.toNat (0, (0, 0))), (0 : Int))
  else none
def F_slab_New.ann : List (Nat × Ann) := []
def F_slab_New.sig : Sig := ⟨[.val false [.int .i64]], [(true, [.own (.pr (.int .i64) (.pr (.int .i64) (.int .u16))) 0 .wr]), (false, [.dat (.int .i64)])]⟩
noncomputable def F_slab_New.S : Summ := ⟨9, F_slab_New.sig, F_slab_New⟩
noncomputable def F_slab_New.G : List Summ := []
theorem F_slab_New.eq : absF Tryd.prog F_slab_New.G F_slab_New.ann F_slab_New.sig Tryd.f9 = F_slab_New := by kernel_rfl
theorem F_slab_New.sound : Sound Tryd.prog F_slab_New.S := absF_sound (fn := Tryd.f9) (Γ := F_slab_New.G) all_nil mix (by kernel_rfl) (by kernel_rfl) (fun m p => congrFun (congrFun F_slab_New.eq m) p)
/-! ### cloakroom/slab.tenanted -/
noncomputable def F_slab_tenanted (m : Fu) (p : Int) : Option (Bool) :=
  let a0 := p
  bif decide ((0 : Int) ≤ a0) then
    some (decide (a0 < (4 : Int)))
  else some false
def F_slab_tenanted.ann : List (Nat × Ann) := []
def F_slab_tenanted.sig : Sig := ⟨[.val false [.int .i64]], [(false, [.dat .bool])]⟩
noncomputable def F_slab_tenanted.S : Summ := ⟨28, F_slab_tenanted.sig, F_slab_tenanted⟩
noncomputable def F_slab_tenanted.G : List Summ := []
theorem F_slab_tenanted.eq : absF Tryd.prog F_slab_tenanted.G F_slab_tenanted.ann F_slab_tenanted.sig Tryd.f28 = F_slab_tenanted := by kernel_rfl
theorem F_slab_tenanted.sound : Sound Tryd.prog F_slab_tenanted.S := absF_sound (fn := Tryd.f28) (Γ := F_slab_tenanted.G) all_nil mix (by kernel_rfl) (by kernel_rfl) (fun m p => congrFun (congrFun F_slab_tenanted.eq m) p)
/-! ### cloakroom/slab.classed -/
noncomputable def F_slab_classed (m : Fu) (p : Int) : Option (Bool) :=
  let a0 := p
  bif decide ((0 : Int) ≤ a0) then
    some (decide (a0 < (5 : Int)))
  else some false
def F_slab_classed.ann : List (Nat × Ann) := []
def F_slab_classed.sig : Sig := ⟨[.val false [.int .i64]], [(false, [.dat .bool])]⟩
noncomputable def F_slab_classed.S : Summ := ⟨29, F_slab_classed.sig, F_slab_classed⟩
noncomputable def F_slab_classed.G : List Summ := []
theorem F_slab_classed.eq : absF Tryd.prog F_slab_classed.G F_slab_classed.ann F_slab_classed.sig Tryd.f29 = F_slab_classed := by kernel_rfl
theorem F_slab_classed.sound : Sound Tryd.prog F_slab_classed.S := absF_sound (fn := Tryd.f29) (Γ := F_slab_classed.G) all_nil mix (by kernel_rfl) (by kernel_rfl) (fun m p => congrFun (congrFun F_slab_classed.eq m) p)
/-! ### cloakroom/slab.size -/
noncomputable def F_slab_size (m : Fu) (p : Int) : Option (Int) :=
  let a0 := p
  bif decide (a0 < (0 : Int)) then
    none
  else some (shlOp .i64 (16 : Int) a0)
def F_slab_size.ann : List (Nat × Ann) := []
def F_slab_size.sig : Sig := ⟨[.val false [.int .i64]], [(false, [.dat (.int .i64)])]⟩
noncomputable def F_slab_size.S : Summ := ⟨44, F_slab_size.sig, F_slab_size⟩
noncomputable def F_slab_size.G : List Summ := []
theorem F_slab_size.eq : absF Tryd.prog F_slab_size.G F_slab_size.ann F_slab_size.sig Tryd.f44 = F_slab_size := by kernel_rfl
theorem F_slab_size.sound : Sound Tryd.prog F_slab_size.S := absF_sound (fn := Tryd.f44) (Γ := F_slab_size.G) all_nil mix (by kernel_rfl) (by kernel_rfl) (fun m p => congrFun (congrFun F_slab_size.eq m) p)
/-! ### cloakroom/slab.chunks -/
noncomputable def F_slab_chunks (m : Fu) (p : Int) : Option (Int) :=
  let a0 := p
  (F_slab_size m a0).bind fun x1 =>
  bif x1 == 0 then
    none
  else some (IntKind.i64.wrap ((256 : Int).tdiv x1))
def F_slab_chunks.ann : List (Nat × Ann) := []
def F_slab_chunks.sig : Sig := ⟨[.val false [.int .i64]], [(false, [.dat (.int .i64)])]⟩
noncomputable def F_slab_chunks.S : Summ := ⟨45, F_slab_chunks.sig, F_slab_chunks⟩
noncomputable def F_slab_chunks.G : List Summ := [F_slab_size.S]
theorem F_slab_chunks.eq : absF Tryd.prog F_slab_chunks.G F_slab_chunks.ann F_slab_chunks.sig Tryd.f45 = F_slab_chunks := by kernel_rfl
theorem F_slab_chunks.sound : Sound Tryd.prog F_slab_chunks.S := absF_sound (fn := Tryd.f45) (Γ := F_slab_chunks.G) (all_cons F_slab_size.sound all_nil) mix (by kernel_rfl) (by kernel_rfl) (fun m p => congrFun (congrFun F_slab_chunks.eq m) p)
/-! ### cloakroom/slab.full -/
noncomputable def F_slab_full (m : Fu) (p : Int) : Option (Int) :=
  let a0 := p
  (F_slab_chunks m a0).bind fun x1 =>
  bif decide (x1 < (0 : Int)) then
    none
  else some (IntKind.u16.wrap ((shlOp .u16 (1 : Int) x1) - (1 : Int)))
def F_slab_full.ann : List (Nat × Ann) := []
def F_slab_full.sig : Sig := ⟨[.val false [.int .i64]], [(false, [.dat (.int .u16)])]⟩
noncomputable def F_slab_full.S : Summ := ⟨31, F_slab_full.sig, F_slab_full⟩
noncomputable def F_slab_full.G : List Summ := [F_slab_chunks.S]
theorem F_slab_full.eq : absF Tryd.prog F_slab_full.G F_slab_full.ann F_slab_full.sig Tryd.f31 = F_slab_full := by kernel_rfl
theorem F_slab_full.sound : Sound Tryd.prog F_slab_full.S := absF_sound (fn := Tryd.f31) (Γ := F_slab_full.G) (all_cons F_slab_chunks.sound all_nil) mix (by kernel_rfl) (by kernel_rfl) (fun m p => congrFun (congrFun F_slab_full.eq m) p)
/-! ### cloakroom/slab.may -/
noncomputable def F_slab_may (m : Fu) (p : Int × Int × Int) : Option (Bool) :=
  let a0 := p.1
  let a1 := p.2.1
  let a2 := p.2.2
  bif a2 == (0 : Int) then some ((a0 == (0 : Int)) && ((a1 == (0 : Int)) && ((a2 == (0 : Int)) && true))) else
  (F_slab_tenanted m a0).bind fun x3 =>
  bif x3 then
    (F_slab_classed m a1).bind fun x4 =>
    bif x4 then
      (F_slab_full m a1).bind fun x5 =>
      some ((bitsOp .andNot .u16 a2 x5) == (0 : Int))
    else some false
  else some false
def F_slab_may.ann : List (Nat × Ann) := []
def F_slab_may.sig : Sig := ⟨[.val true [.int .i64, .int .i64, .int .u16]], [(false, [.dat .bool])]⟩
noncomputable def F_slab_may.S : Summ := ⟨36, F_slab_may.sig, F_slab_may⟩
noncomputable def F_slab_may.G : List Summ := [F_slab_tenanted.S, F_slab_classed.S, F_slab_full.S]
theorem F_slab_may.eq : absF Tryd.prog F_slab_may.G F_slab_may.ann F_slab_may.sig Tryd.f36 = F_slab_may := by kernel_rfl
theorem F_slab_may.sound : Sound Tryd.prog F_slab_may.S := absF_sound (fn := Tryd.f36) (Γ := F_slab_may.G) (all_cons F_slab_tenanted.sound (all_cons F_slab_classed.sound (all_cons F_slab_full.sound all_nil))) mix (by kernel_rfl) (by kernel_rfl) (fun m p => congrFun (congrFun F_slab_may.eq m) p)
/-! ### cloakroom/slab.Check$1 -/
noncomputable def F_slab_Check_c1 (m : Fu) (p : Int × Int × Int) : Option (Bool) :=
  let a0 := p.1
  let a1 := p.2.1
  let a2 := p.2.2
  (F_slab_may m (a0, a1, a2)).bind fun x1 =>
  some (!x1)
def F_slab_Check_c1.ann : List (Nat × Ann) := []
def F_slab_Check_c1.sig : Sig := ⟨[.val true [.int .i64, .int .i64, .int .u16]], [(false, [.dat .bool])]⟩
noncomputable def F_slab_Check_c1.S : Summ := ⟨35, F_slab_Check_c1.sig, F_slab_Check_c1⟩
noncomputable def F_slab_Check_c1.G : List Summ := [F_slab_may.S]
theorem F_slab_Check_c1.eq : absF Tryd.prog F_slab_Check_c1.G F_slab_Check_c1.ann F_slab_Check_c1.sig Tryd.f35 = F_slab_Check_c1 := by kernel_rfl
theorem F_slab_Check_c1.sound : Sound Tryd.prog F_slab_Check_c1.S := absF_sound (fn := Tryd.f35) (Γ := F_slab_Check_c1.G) (all_cons F_slab_may.sound all_nil) mix (by kernel_rfl) (by kernel_rfl) (fun m p => congrFun (congrFun F_slab_Check_c1.eq m) p)
/-! ### slices.IndexFunc[[]cloakroom/api.Page,cloakroom/api.Page] -/
noncomputable def F_slices_IndexFunc_Page.l26 (m : Fu) (a0 : List (Int × Int × Int)) (x1 : Int) (x2 : Int) : Option (Step Int (Int ⊕ Unit)) :=
  bif decide (x2 < x1) then
    bif (decide ((0 : Int) ≤ x2)) && (decide (x2 < (a0.length : Int))) then
      let x4 := a0.getD x2.toNat (0, (0, 0))
      (F_slab_Check_c1 m (x4.1, x4.2.1, x4.2.2)).bind fun x5 =>
      bif x5 then
        some (.fin (Sum.inl x2))
      else some (.next (IntKind.i64.wrap (x2 + (1 : Int))))
    else none
  else some (.fin (Sum.inr ()))
noncomputable def F_slices_IndexFunc_Page (m : Fu) (p : List (Int × Int × Int)) : Option (Int) :=
  let a0 := p
  (iter m (F_slices_IndexFunc_Page.l26 m a0 (a0.length : Int)) (0 : Int)).bind fun x7 =>
  match x7 with
  | .inl x8 =>
    some x8
  | .inr x9 =>
    some (-1 : Int)
def F_slices_IndexFunc_Page.ann : List (Nat × Ann) := [(26, .loop ⟨[(8, false, [.dat (.int .i64)])], [], [], [], 96⟩ [(.ret, ⟨[(4, false, [.dat (.int .i64)])], [], [], [], 96⟩), (.exit 0, ⟨[], [], [], [], 96⟩)])]
def F_slices_IndexFunc_Page.sig : Sig := ⟨[.val false [.sl (.pr (.int .i64) (.pr (.int .i64) (.int .u16)))], .fn 35 []], [(false, [.dat (.int .i64)])]⟩
noncomputable def F_slices_IndexFunc_Page.S : Summ := ⟨46, F_slices_IndexFunc_Page.sig, F_slices_IndexFunc_Page⟩
noncomputable def F_slices_IndexFunc_Page.G : List Summ := [F_slab_Check_c1.S]
theorem F_slices_IndexFunc_Page.eq : absF Tryd.prog F_slices_IndexFunc_Page.G F_slices_IndexFunc_Page.ann F_slices_IndexFunc_Page.sig Tryd.f46 = F_slices_IndexFunc_Page := by kernel_rfl
theorem F_slices_IndexFunc_Page.sound : Sound Tryd.prog F_slices_IndexFunc_Page.S := absF_sound (fn := Tryd.f46) (Γ := F_slices_IndexFunc_Page.G) (all_cons F_slab_Check_c1.sound all_nil) mix (by kernel_rfl) (by kernel_rfl) (fun m p => congrFun (congrFun F_slices_IndexFunc_Page.eq m) p)
/-! ### slices.ContainsFunc[[]cloakroom/api.Page,cloakroom/api.Page] -/
noncomputable def F_slices_ContainsFunc_Page (m : Fu) (p : List (Int × Int × Int)) : Option (Bool) :=
  let a0 := p
  (F_slices_IndexFunc_Page m a0).bind fun x1 =>
  some (decide ((0 : Int) ≤ x1))
def F_slices_ContainsFunc_Page.ann : List (Nat × Ann) := []
def F_slices_ContainsFunc_Page.sig : Sig := ⟨[.val false [.sl (.pr (.int .i64) (.pr (.int .i64) (.int .u16)))], .fn 35 []], [(false, [.dat .bool])]⟩
noncomputable def F_slices_ContainsFunc_Page.S : Summ := ⟨34, F_slices_ContainsFunc_Page.sig, F_slices_ContainsFunc_Page⟩
noncomputable def F_slices_ContainsFunc_Page.G : List Summ := [F_slices_IndexFunc_Page.S]
theorem F_slices_ContainsFunc_Page.eq : absF Tryd.prog F_slices_ContainsFunc_Page.G F_slices_ContainsFunc_Page.ann F_slices_ContainsFunc_Page.sig Tryd.f34 = F_slices_ContainsFunc_Page := by kernel_rfl
theorem F_slices_ContainsFunc_Page.sound : Sound Tryd.prog F_slices_ContainsFunc_Page.S := absF_sound (fn := Tryd.f34) (Γ := F_slices_ContainsFunc_Page.G) (all_cons F_slices_IndexFunc_Page.sound all_nil) mix (by kernel_rfl) (by kernel_rfl) (fun m p => congrFun (congrFun F_slices_ContainsFunc_Page.eq m) p)
/-! ### cloakroom/slab.Check -/
noncomputable def F_slab_Check (m : Fu) (p : List (Int × Int × Int)) : Option (Int) :=
  let a0 := p
  let x1 := (a0.length : Int)
  bif decide (x1 < (1 : Int)) then some (8 : Int) else
  bif decide ((16 : Int) < x1) then some (8 : Int) else
  (F_slices_ContainsFunc_Page m a0).bind fun x4 =>
  bif x4 then
    some (8 : Int)
  else some (0 : Int)
def F_slab_Check.ann : List (Nat × Ann) := []
def F_slab_Check.sig : Sig := ⟨[.val true [.sl (.pr (.int .i64) (.pr (.int .i64) (.int .u16)))]], [(false, [.dat (.int .i64)])]⟩
noncomputable def F_slab_Check.S : Summ := ⟨11, F_slab_Check.sig, F_slab_Check⟩
noncomputable def F_slab_Check.G : List Summ := [F_slices_ContainsFunc_Page.S]
theorem F_slab_Check.eq : absF Tryd.prog F_slab_Check.G F_slab_Check.ann F_slab_Check.sig Tryd.f11 = F_slab_Check := by kernel_rfl
theorem F_slab_Check.sound : Sound Tryd.prog F_slab_Check.S := absF_sound (fn := Tryd.f11) (Γ := F_slab_Check.G) (all_cons F_slices_ContainsFunc_Page.sound all_nil) mix (by kernel_rfl) (by kernel_rfl) (fun m p => congrFun (congrFun F_slab_Check.eq m) p)
/-! ### cloakroom/slab.owned -/
noncomputable def F_slab_owned.s7474 (m : Fu) (a1 : Int) (x4 : Int × Int × Int) : Option (Bool) :=
  bif x4.2.2 != (0 : Int) then
    some (x4.1 == a1)
  else some false
noncomputable def F_slab_owned.l58 (m : Fu) (a0 : List (Int × Int × Int)) (a1 : Int) (x1 : Int) (x2 : Int × Int × Int) : Option (Step (Int × Int × Int) ((Int × Int))) :=
  bif decide (x2.2.2 < x1) then
    bif (decide ((0 : Int) ≤ x2.2.2)) && (decide (x2.2.2 < (a0.length : Int))) then
      (F_slab_owned.s7474 m a1 (a0.getD x2.2.2.toNat (0, (0, 0)))).bind fun x7 =>
      bif x7 then
        some (.next ((IntKind.i64.wrap (x2.1 + (1 : Int))), x2.2.2, (IntKind.i64.wrap (x2.2.2 + (1 : Int)))))
      else some (.next (x2.1, x2.2.1, (IntKind.i64.wrap (x2.2.2 + (1 : Int)))))
    else none
  else some (.fin (x2.1, x2.2.1))
noncomputable def F_slab_owned (m : Fu) (p : (List (Int × Int × Int)) × Int) : Option (Int × Int) :=
  let a0 := p.1
  let a1 := p.2
  (iter m (F_slab_owned.l58 m a0 a1 (a0.length : Int)) ((0 : Int), (-1 : Int), (0 : Int))).bind fun x11 =>
  some (x11.1, x11.2)
def F_slab_owned.ann : List (Nat × Ann) := [(58, .loop ⟨[(4, false, [.dat (.int .i64)]), (5, false, [.dat (.int .i64)]), (11, false, [.dat (.int .i64)])], [], [], [], 160⟩ [(.exit 0, ⟨[(4, false, [.dat (.int .i64)]), (5, false, [.dat (.int .i64)])], [], [], [], 160⟩)]),
  (7474, .jnt [(.normal, ⟨[(24, false, [.dat .bool])], [], [], [], 272⟩)])]
def F_slab_owned.sig : Sig := ⟨[.val true [.sl (.pr (.int .i64) (.pr (.int .i64) (.int .u16)))], .val false [.int .i64]], [(false, [.dat (.int .i64)]), (false, [.dat (.int .i64)])]⟩
noncomputable def F_slab_owned.S : Summ := ⟨30, F_slab_owned.sig, F_slab_owned⟩
noncomputable def F_slab_owned.G : List Summ := []
theorem F_slab_owned.eq : absF Tryd.prog F_slab_owned.G F_slab_owned.ann F_slab_owned.sig Tryd.f30 = F_slab_owned := by kernel_rfl
theorem F_slab_owned.sound : Sound Tryd.prog F_slab_owned.S := absF_sound (fn := Tryd.f30) (Γ := F_slab_owned.G) all_nil mix (by kernel_rfl) (by kernel_rfl) (fun m p => congrFun (congrFun F_slab_owned.eq m) p)
/-! ### math/bits.TrailingZeros16 -/
noncomputable def F_mathbits_TrailingZeros16 (m : Fu) (p : Int) : Option (Int) := tzF m p
def F_mathbits_TrailingZeros16.sig : Sig := ⟨[.val false [.int .u16]], [(false, [.dat (.int .i64)])]⟩
noncomputable def F_mathbits_TrailingZeros16.S : Summ := ⟨32, F_mathbits_TrailingZeros16.sig, F_mathbits_TrailingZeros16⟩
theorem F_mathbits_TrailingZeros16.zero (w : World) : Calls Tryd.prog 32 #[.int .u16 0] w fun e w' => e = .returned (.int .i64 16) ∧ w' = w := by
  go_enter Tryd.func32, Tryd.ntmps32
  go_wp2
  go_ret
  exact ⟨rfl, rfl⟩
set_option maxHeartbeats 1000000 in
theorem F_mathbits_TrailingZeros16.core (x : Int) (k idx : Nat) (w : World) (hx0 : (x == 0) = false)
    (key : bits BinOp.and IntKind.u16 x (IntKind.u16.wrap (-x)) % 4294967296 * 125613361 % 4294967296 / 134217728 = (idx : Int))
    (hi : idx < 32) (hk : k < 32) (hcell : w.cell? ⟨0, idx, none⟩ = some (.int .u8 k)) :
    Calls Tryd.prog 32 #[.int .u16 x] w fun e w' => e = .returned (.int .i64 k) ∧ w' = w := by
  go_enter Tryd.func32, Tryd.ntmps32
  go_wp2_with (simp only [key])
  go_ret
  exact ⟨rfl, rfl⟩
theorem F_mathbits_TrailingZeros16.sound : Sound Tryd.prog F_mathbits_TrailingZeros16.S := sound_tz (fn := Tryd.f32) (by kernel_rfl) (by kernel_rfl) (by kernel_rfl) (g := 0) (by kernel_rfl) F_mathbits_TrailingZeros16.zero F_mathbits_TrailingZeros16.core
/-! ### slices.Clone[[]cloakroom/api.Page,cloakroom/api.Page] -/
noncomputable def F_slices_Clone_Page (m : Fu) (p : List (Int × Int × Int)) : Option (List (Int × Int × Int)) :=
  let a0 := p
  match a0 with
  | [] => same2
   (
    some ([] : List (Int × Int × Int)))
   (
    bif Nat.ble (0 + a0.length) 4294967296 then
      some (([] : List (Int × Int × Int)) ++ a0)
    else none)
  | _ :: _ =>
    bif Nat.ble (0 + a0.length) 4294967296 then
      some (([] : List (Int × Int × Int)) ++ a0)
    else none
def F_slices_Clone_Page.ann : List (Nat × Ann) := []
def F_slices_Clone_Page.sig : Sig := ⟨[.val false [.sl (.pr (.int .i64) (.pr (.int .i64) (.int .u16)))]], [(false, [.own (.pr (.int .i64) (.pr (.int .i64) (.int .u16))) 0 .wr])]⟩
noncomputable def F_slices_Clone_Page.S : Summ := ⟨33, F_slices_Clone_Page.sig, F_slices_Clone_Page⟩
noncomputable def F_slices_Clone_Page.G : List Summ := []
theorem F_slices_Clone_Page.eq : absF Tryd.prog F_slices_Clone_Page.G F_slices_Clone_Page.ann F_slices_Clone_Page.sig Tryd.f33 = F_slices_Clone_Page := by kernel_rfl
theorem F_slices_Clone_Page.sound : Sound Tryd.prog F_slices_Clone_Page.S := absF_sound (fn := Tryd.f33) (Γ := F_slices_Clone_Page.G) all_nil mix (by kernel_rfl) (by kernel_rfl) (fun m p => congrFun (congrFun F_slices_Clone_Page.eq m) p)
noncomputable def C_slices_Clone_Page (m : Fu) (p : List (Int × Int × Int)) : Option (List (Int × Int × Int)) := bif Nat.ble p.length 4294967296 then some p else none
theorem C_slices_Clone_Page.is : F_slices_Clone_Page = C_slices_Clone_Page := by
  funext m p
  have h0 : Nat.ble 0 4294967296 = true := rfl
  cases p <;> simp [F_slices_Clone_Page, C_slices_Clone_Page, same2_self, h0]
noncomputable def C_slices_Clone_Page.S : Summ := ⟨33, F_slices_Clone_Page.sig, C_slices_Clone_Page⟩
theorem C_slices_Clone_Page.sound : Sound Tryd.prog C_slices_Clone_Page.S := by
  have h := F_slices_Clone_Page.sound
  unfold F_slices_Clone_Page.S at h
  rw [C_slices_Clone_Page.is] at h
  exact h
/-! ### cloakroom/slab.Take -/
noncomputable def F_slab_Take.s52 (m : Fu) (a1 : Int) (a2 : Int) (a3 : Int) : Option (Bool) :=
  (F_slab_tenanted m a1).bind fun x3 =>
  bif !x3 then some true else
  (F_slab_classed m a2).bind fun x5 =>
  bif !x5 then some true else
  bif decide (a3 < (0 : Int)) then
    some true
  else some (decide ((16 : Int) < a3))
noncomputable def F_slab_Take.l1786 (m : Fu) (a0 : List (Int × Int × Int)) (a1 : Int) (a2 : Int) (a3 : Int) (x10 : Int × Int) (x11 : Int) (x12 : Int × Int) : Option (Step (Int × Int) Int) :=
  bif decide (x12.2 < x11) then
    bif (decide ((0 : Int) ≤ x12.2)) && (decide (x12.2 < (a0.length : Int))) then
      let x14 := a0.getD x12.2.toNat (0, (0, 0))
      bif x14.2.2 == (0 : Int) then
        bif decide (x12.1 < (0 : Int)) then
          bif decide (x10.1 < a3) then
            some (.next (x12.2, (IntKind.i64.wrap (x12.2 + (1 : Int)))))
          else some (.next (x12.1, (IntKind.i64.wrap (x12.2 + (1 : Int)))))
        else some (.next (x12.1, (IntKind.i64.wrap (x12.2 + (1 : Int)))))
      else
        bif x14.1 == a1 then
          bif x14.2.1 == a2 then
            (F_slab_full m a2).bind fun x23 =>
            bif x14.2.2 != x23 then
              some (.fin x12.2)
            else some (.next (x12.1, (IntKind.i64.wrap (x12.2 + (1 : Int)))))
          else some (.next (x12.1, (IntKind.i64.wrap (x12.2 + (1 : Int)))))
        else some (.next (x12.1, (IntKind.i64.wrap (x12.2 + (1 : Int)))))
    else none
  else some (.fin x12.1)
noncomputable def F_slab_Take (m : Fu) (p : (List (Int × Int × Int)) × Int × Int × Int) : Option ((List (Int × Int × Int)) × Int × Int × Int) :=
  let a0 := p.1
  let a1 := p.2.1
  let a2 := p.2.2.1
  let a3 := p.2.2.2
  (F_slab_Check m a0).bind fun x1 =>
  bif x1 != (0 : Int) then some (([] : List (Int × Int × Int)), (0 : Int), (0 : Int), x1) else
  (F_slab_Take.s52 m a1 a2 a3).bind fun x9 =>
  bif x9 then some (([] : List (Int × Int × Int)), (0 : Int), (0 : Int), (2 : Int)) else
  (F_slab_owned m (a0, a1)).bind fun x10 =>
  (iter m (F_slab_Take.l1786 m a0 a1 a2 a3 x10 (a0.length : Int)) ((-1 : Int), (0 : Int))).bind fun x28 =>
  bif decide (x28 < (0 : Int)) then some (([] : List (Int × Int × Int)), (0 : Int), (0 : Int), (9 : Int)) else
  bif (decide ((0 : Int) ≤ x28)) && (decide (x28 < (a0.length : Int))) then
    let x30 := a0.getD x28.toNat (0, (0, 0))
    (F_mathbits_TrailingZeros16 m (bitsOp .xor .u16 (65535 : Int) x30.2.2)).bind fun x32 =>
    (C_slices_Clone_Page m a0).bind fun x33 =>
    bif decide (x32 < (0 : Int)) then none else
    bif (decide ((0 : Int) ≤ x28)) && (decide (x28 < (x33.length : Int))) then
      bif Nat.blt x28.toNat x33.length then
        some ((x33.set x28.toNat (a1, (a2, (bitsOp .or .u16 x30.2.2 (shlOp .u16 (1 : Int) x32))))), x28, x32, (0 : Int))
      else none
    else none
  else none
def F_slab_Take.ann : List (Nat × Ann) := [(52, .jnt [(.normal, ⟨[(39, false, [.dat .bool])], [], [], [], 224⟩)]),
  (1786, .loop ⟨[(9, false, [.dat (.int .i64)]), (50, false, [.dat (.int .i64)])], [], [], [], 432⟩ [(.exit 0, ⟨[(9, false, [.dat (.int .i64)])], [], [], [], 432⟩)])]
def F_slab_Take.sig : Sig := ⟨[.val true [.sl (.pr (.int .i64) (.pr (.int .i64) (.int .u16)))], .val false [.int .i64], .val false [.int .i64], .val false [.int .i64]], [(true, [.own (.pr (.int .i64) (.pr (.int .i64) (.int .u16))) 0 .wr]), (false, [.dat (.int .i64)]), (false, [.dat (.int .i64)]), (false, [.dat (.int .i64)])]⟩
noncomputable def F_slab_Take.S : Summ := ⟨10, F_slab_Take.sig, F_slab_Take⟩
noncomputable def F_slab_Take.G : List Summ := [F_slab_Check.S, F_slab_tenanted.S, F_slab_classed.S, F_slab_owned.S, F_slab_full.S, F_mathbits_TrailingZeros16.S, C_slices_Clone_Page.S]
theorem F_slab_Take.eq : absF Tryd.prog F_slab_Take.G F_slab_Take.ann F_slab_Take.sig Tryd.f10 = F_slab_Take := by kernel_rfl
theorem F_slab_Take.sound : Sound Tryd.prog F_slab_Take.S := absF_sound (fn := Tryd.f10) (Γ := F_slab_Take.G) (all_cons F_slab_Check.sound (all_cons F_slab_tenanted.sound (all_cons F_slab_classed.sound (all_cons F_slab_owned.sound (all_cons F_slab_full.sound (all_cons F_mathbits_TrailingZeros16.sound (all_cons C_slices_Clone_Page.sound all_nil))))))) mix (by kernel_rfl) (by kernel_rfl) (fun m p => congrFun (congrFun F_slab_Take.eq m) p)
/-! ### cloakroom/cloakroomlaw05.alive -/
noncomputable def F_law05_alive (m : Fu) (p : Unit) : Option (Bool) :=
  (F_slab_New m (2 : Int)).bind fun x1 =>
  (F_slab_Take m (x1.1, (2 : Int), (3 : Int), (2 : Int))).bind fun x2 =>
  (F_slab_Take m (x2.1, (2 : Int), (3 : Int), (2 : Int))).bind fun x3 =>
  bif x1.2 == (0 : Int) then
    bif x2.2.2.2 == (0 : Int) then
      bif x3.2.2.2 == (0 : Int) then
        bif x2.2.1 == (0 : Int) then
          bif x2.2.2.1 == (0 : Int) then
            bif x3.2.1 == (0 : Int) then
              bif x3.2.2.1 == (1 : Int) then
                bif (x3.1.length : Int) == (2 : Int) then
                  bif decide ((0 : Int) < (x3.1.length : Int)) then
                    bif Nat.blt 0 x3.1.length then
                      let x13 := x3.1.getD 0 (0, (0, 0))
                      some ((x13.1 == (2 : Int)) && ((x13.2.1 == (3 : Int)) && ((x13.2.2 == (3 : Int)) && true)))
                    else none
                  else none
                else some false
              else some false
            else some false
          else some false
        else some false
      else some false
    else some false
  else some false
def F_law05_alive.ann : List (Nat × Ann) := []
def F_law05_alive.sig : Sig := ⟨[], [(false, [.dat .bool])]⟩
noncomputable def F_law05_alive.S : Summ := ⟨8, F_law05_alive.sig, F_law05_alive⟩
noncomputable def F_law05_alive.G : List Summ := [F_slab_New.S, F_slab_Take.S]
theorem F_law05_alive.eq : absF Tryd.prog F_law05_alive.G F_law05_alive.ann F_law05_alive.sig Tryd.f8 = F_law05_alive := by kernel_rfl
theorem F_law05_alive.sound : Sound Tryd.prog F_law05_alive.S := absF_sound (fn := Tryd.f8) (Γ := F_law05_alive.G) (all_cons F_slab_New.sound (all_cons F_slab_Take.sound all_nil)) mix (by kernel_rfl) (by kernel_rfl) (fun m p => congrFun (congrFun F_law05_alive.eq m) p)
/-! ### cloakroom/cloakroomlaw05.SlabFills -/
noncomputable def F_law05_SlabFills.l1018 (m : Fu) (a0 : Int) (a1 : Int) (a2 : Int) (a3 : Int) (x1 : Bool) (x12 : Int) (x13 : Int × (List (Int × Int × Int))) : Option (Step (Int × (List (Int × Int × Int))) (Bool ⊕ Unit)) :=
  bif decide (x13.1 ≤ (IntKind.i64.wrap ((mnI a3 a0) * x12))) then
    (F_slab_Take m (x13.2, a1, a2, a3)).bind fun x17 =>
    bif x13.1 == (IntKind.i64.wrap ((mnI a3 a0) * x12)) then
      bif x1 then
        some (.fin (Sum.inl (x17.2.2.2 == (9 : Int))))
      else some (.fin (Sum.inl false))
    else
      bif x17.2.2.2 != (0 : Int) then some (.fin (Sum.inl false)) else
      bif x12 == 0 then none else
      bif x17.2.1 != (IntKind.i64.wrap (x13.1.tdiv x12)) then some (.fin (Sum.inl false)) else
      bif x12 == 0 then none else
      bif x17.2.2.1 != (x13.1.tmod x12) then
        some (.fin (Sum.inl false))
      else some (.next ((IntKind.i64.wrap (x13.1 + (1 : Int))), x17.1))
  else some (.fin (Sum.inr ()))
noncomputable def F_law05_SlabFills (m : Fu) (p : Int × Int × Int × Int) : Option (Bool) :=
  let a0 := p.1
  let a1 := p.2.1
  let a2 := p.2.2.1
  let a3 := p.2.2.2
  (F_law05_alive m ()).bind fun x1 =>
  bif !x1 then some false else
  (F_slab_New m a0).bind fun x3 =>
  bif x3.2 != (0 : Int) then some x1 else
  bif decide (a2 < (0 : Int)) then some x1 else
  bif decide ((4 : Int) < a2) then some x1 else
  bif decide (a1 < (0 : Int)) then some x1 else
  bif decide ((3 : Int) < a1) then some x1 else
  bif decide (a3 < (0 : Int)) then some x1 else
  bif decide ((16 : Int) < a3) then some x1 else
  let x11 := IntKind.u64.wrap a2
  bif decide (x11 < (0 : Int)) then none else
  (iter m (F_law05_SlabFills.l1018 m a0 a1 a2 a3 x1 (shrOp .i64 (16 : Int) x11)) ((0 : Int), x3.1)).bind fun x28 =>
  match x28 with
  | .inl x29 =>
    some x29
  | .inr x30 =>
    some false
def F_law05_SlabFills.ann : List (Nat × Ann) := [(1018, .loop ⟨[(13, false, [.dat (.int .i64)])], [(224, [.own (.pr (.int .i64) (.pr (.int .i64) (.int .u16))) 768 .wr])], [], [160], 769⟩ [(.ret, ⟨[(8, false, [.dat .bool])], [], [], [160, 224], 768⟩), (.exit 0, ⟨[], [], [], [160, 224], 768⟩)])]
def F_law05_SlabFills.sig : Sig := ⟨[.val false [.int .i64], .val false [.int .i64], .val false [.int .i64], .val false [.int .i64]], [(false, [.dat .bool])]⟩
noncomputable def F_law05_SlabFills.S : Summ := ⟨3, F_law05_SlabFills.sig, F_law05_SlabFills⟩
noncomputable def F_law05_SlabFills.G : List Summ := [F_law05_alive.S, F_slab_New.S, F_slab_Take.S]
theorem F_law05_SlabFills.eq : absF Tryd.prog F_law05_SlabFills.G F_law05_SlabFills.ann F_law05_SlabFills.sig Tryd.f3 = F_law05_SlabFills := by kernel_rfl
theorem F_law05_SlabFills.sound : Sound Tryd.prog F_law05_SlabFills.S := absF_sound (fn := Tryd.f3) (Γ := F_law05_SlabFills.G) (all_cons F_law05_alive.sound (all_cons F_slab_New.sound (all_cons F_slab_Take.sound all_nil))) mix (by kernel_rfl) (by kernel_rfl) (fun m p => congrFun (congrFun F_law05_SlabFills.eq m) p)
/-! ### cloakroom/cloakroomlaw05.used -/
noncomputable def F_law05_used.l58 (m : Fu) (a2 : Int) (x1 : Int × Int) : Option (Step (Int × Int) Int) :=
  bif decide (x1.2 < (16 : Int)) then
    let x3 := IntKind.u64.wrap x1.2
    bif decide (x3 < (0 : Int)) then
      none
    else some (.next ((IntKind.i64.wrap (x1.1 + (IntKind.i64.wrap ((shrOp .u16 a2 x3).tmod (2 : Int))))), (IntKind.i64.wrap (x1.2 + (1 : Int)))))
  else some (.fin x1.1)
noncomputable def F_law05_used (m : Fu) (p : Int × Int × Int) : Option (Int) :=
  let a2 := p.2.2
  (iter m (F_law05_used.l58 m a2) ((0 : Int), (0 : Int))).bind fun x9 =>
  some x9
def F_law05_used.ann : List (Nat × Ann) := [(58, .loop ⟨[(3, false, [.dat (.int .i64)]), (4, false, [.dat (.int .i64)])], [], [], [], 80⟩ [(.exit 0, ⟨[(3, false, [.dat (.int .i64)])], [], [], [], 80⟩)])]
def F_law05_used.sig : Sig := ⟨[.val true [.int .i64, .int .i64, .int .u16]], [(false, [.dat (.int .i64)])]⟩
noncomputable def F_law05_used.S : Summ := ⟨12, F_law05_used.sig, F_law05_used⟩
noncomputable def F_law05_used.G : List Summ := []
theorem F_law05_used.eq : absF Tryd.prog F_law05_used.G F_law05_used.ann F_law05_used.sig Tryd.f12 = F_law05_used := by kernel_rfl
theorem F_law05_used.sound : Sound Tryd.prog F_law05_used.S := absF_sound (fn := Tryd.f12) (Γ := F_law05_used.G) all_nil mix (by kernel_rfl) (by kernel_rfl) (fun m p => congrFun (congrFun F_law05_used.eq m) p)
/-! ### cloakroom/slab.asked -/
noncomputable def F_slab_asked (m : Fu) (p : (List (Int × Int × Int)) × Int) : Option (Int) :=
  let a0 := p.1
  let a1 := p.2
  (F_slab_Check m a0).bind fun x1 =>
  bif x1 != (0 : Int) then some x1 else
  (F_slab_tenanted m a1).bind fun x3 =>
  bif !x3 then
    some (2 : Int)
  else some (0 : Int)
def F_slab_asked.ann : List (Nat × Ann) := []
def F_slab_asked.sig : Sig := ⟨[.val true [.sl (.pr (.int .i64) (.pr (.int .i64) (.int .u16)))], .val false [.int .i64]], [(false, [.dat (.int .i64)])]⟩
noncomputable def F_slab_asked.S : Summ := ⟨37, F_slab_asked.sig, F_slab_asked⟩
noncomputable def F_slab_asked.G : List Summ := [F_slab_Check.S, F_slab_tenanted.S]
theorem F_slab_asked.eq : absF Tryd.prog F_slab_asked.G F_slab_asked.ann F_slab_asked.sig Tryd.f37 = F_slab_asked := by kernel_rfl
theorem F_slab_asked.sound : Sound Tryd.prog F_slab_asked.S := absF_sound (fn := Tryd.f37) (Γ := F_slab_asked.G) (all_cons F_slab_Check.sound (all_cons F_slab_tenanted.sound all_nil)) mix (by kernel_rfl) (by kernel_rfl) (fun m p => congrFun (congrFun F_slab_asked.eq m) p)
/-! ### cloakroom/slab.Owned -/
noncomputable def F_slab_Owned (m : Fu) (p : (List (Int × Int × Int)) × Int) : Option (Int × Int) :=
  let a0 := p.1
  let a1 := p.2
  (F_slab_asked m (a0, a1)).bind fun x1 =>
  bif x1 != (0 : Int) then some ((0 : Int), x1) else
  (F_slab_owned m (a0, a1)).bind fun x3 =>
  some (x3.1, (0 : Int))
def F_slab_Owned.ann : List (Nat × Ann) := []
def F_slab_Owned.sig : Sig := ⟨[.val true [.sl (.pr (.int .i64) (.pr (.int .i64) (.int .u16)))], .val false [.int .i64]], [(false, [.dat (.int .i64)]), (false, [.dat (.int .i64)])]⟩
noncomputable def F_slab_Owned.S : Summ := ⟨13, F_slab_Owned.sig, F_slab_Owned⟩
noncomputable def F_slab_Owned.G : List Summ := [F_slab_asked.S, F_slab_owned.S]
theorem F_slab_Owned.eq : absF Tryd.prog F_slab_Owned.G F_slab_Owned.ann F_slab_Owned.sig Tryd.f13 = F_slab_Owned := by kernel_rfl
theorem F_slab_Owned.sound : Sound Tryd.prog F_slab_Owned.S := absF_sound (fn := Tryd.f13) (Γ := F_slab_Owned.G) (all_cons F_slab_asked.sound (all_cons F_slab_owned.sound all_nil)) mix (by kernel_rfl) (by kernel_rfl) (fun m p => congrFun (congrFun F_slab_Owned.eq m) p)
/-! ### cloakroom/cloakroomlaw05.SlabOwns -/
noncomputable def F_law05_SlabOwns.l1018 (m : Fu) (a0 : List (Int × Int × Int)) (a1 : Int) (a2 : Int) (x8 : Int × Bool × Int × Int) : Option (Step (Int × Bool × Int × Int) ((Int × Bool × Int))) :=
  bif decide (x8.2.2.2 < (a0.length : Int)) then
    bif (decide ((0 : Int) ≤ x8.2.2.2)) && (decide (x8.2.2.2 < (a0.length : Int))) then
      let x11 := a0.getD x8.2.2.2.toNat (0, (0, 0))
      bif x11.2.2 == (0 : Int) then some (.next ((IntKind.i64.wrap (x8.1 + (1 : Int))), x8.2.1, x8.2.2.1, (IntKind.i64.wrap (x8.2.2.2 + (1 : Int))))) else
      bif x11.1 == a1 then
        let x16 := IntKind.i64.wrap (x8.2.2.1 + (1 : Int))
        bif x8.2.1 then some (.next (x8.1, true, x16, (IntKind.i64.wrap (x8.2.2.2 + (1 : Int))))) else
        bif x11.2.1 == a2 then
          (F_law05_used m (x11.1, x11.2.1, x11.2.2)).bind fun x19 =>
          let x22 := IntKind.u64.wrap (mnI (mxI a2 (0 : Int)) (4 : Int))
          bif decide (x22 < (0 : Int)) then
            none
          else some (.next (x8.1, (decide (x19 < (shrOp .i64 (16 : Int) x22))), x16, (IntKind.i64.wrap (x8.2.2.2 + (1 : Int)))))
        else some (.next (x8.1, false, x16, (IntKind.i64.wrap (x8.2.2.2 + (1 : Int)))))
      else some (.next (x8.1, x8.2.1, x8.2.2.1, (IntKind.i64.wrap (x8.2.2.2 + (1 : Int)))))
    else none
  else some (.fin (x8.1, x8.2.1, x8.2.2.1))
noncomputable def F_law05_SlabOwns.s2046 (m : Fu) (a0 : List (Int × Int × Int)) (a3 : Int) (x7 : (List (Int × Int × Int)) × Int × Int × Int) (x28 : (Int × Bool × Int)) : Option (Bool ⊕ Unit) :=
  (F_slab_Check m x7.1).bind fun x37 =>
  bif x37 != (0 : Int) then some (Sum.inl false) else
  bif (x7.1.length : Int) != (a0.length : Int) then some (Sum.inl false) else
  bif decide (x7.2.1 < (0 : Int)) then some (Sum.inl false) else
  bif decide ((a0.length : Int) ≤ x7.2.1) then some (Sum.inl false) else
  bif decide (x7.2.2.1 < (0 : Int)) then some (Sum.inl false) else
  bif decide ((15 : Int) < x7.2.2.1) then some (Sum.inl false) else
  bif !x28.2.1 then
    bif decide (a3 ≤ x28.2.2) then some (Sum.inl false) else
    bif x28.1 == (0 : Int) then
      some (Sum.inl false)
    else some (Sum.inr ())
  else some (Sum.inr ())
noncomputable def F_law05_SlabOwns.l16378 (m : Fu) (a0 : List (Int × Int × Int)) (x7 : (List (Int × Int × Int)) × Int × Int × Int) (x53 : Int) : Option (Step Int (Bool ⊕ Unit)) :=
  bif decide (x53 < (a0.length : Int)) then
    bif x53 != x7.2.1 then
      bif (decide ((0 : Int) ≤ x53)) && (decide (x53 < (x7.1.length : Int))) then
        bif Nat.blt x53.toNat x7.1.length then
          let x57 := x7.1.getD x53.toNat (0, (0, 0))
          bif (decide ((0 : Int) ≤ x53)) && (decide (x53 < (a0.length : Int))) then
            let x58 := a0.getD x53.toNat (0, (0, 0))
            bif !((x57.1 == x58.1) && ((x57.2.1 == x58.2.1) && ((x57.2.2 == x58.2.2) && true))) then
              some (.fin (Sum.inl false))
            else some (.next (IntKind.i64.wrap (x53 + (1 : Int))))
          else none
        else none
      else none
    else some (.next (IntKind.i64.wrap (x53 + (1 : Int))))
  else some (.fin (Sum.inr ()))
noncomputable def F_law05_SlabOwns (m : Fu) (p : (List (Int × Int × Int)) × Int × Int × Int) : Option (Bool) :=
  let a0 := p.1
  let a1 := p.2.1
  let a2 := p.2.2.1
  let a3 := p.2.2.2
  (F_law05_alive m ()).bind fun x1 =>
  bif !x1 then some false else
  bif decide ((100 : Int) < (a0.length : Int)) then some x1 else
  (F_slab_Check m a0).bind fun x5 =>
  bif x5 != (0 : Int) then some x1 else
  (F_slab_Take m (a0, a1, a2, a3)).bind fun x7 =>
  (iter m (F_law05_SlabOwns.l1018 m a0 a1 a2) ((0 : Int), false, (0 : Int), (0 : Int))).bind fun x28 =>
  bif x7.2.2.2 == (9 : Int) then
    bif x1 then
      bif !x28.2.1 then
        bif decide (a3 ≤ x28.2.2) then
          some true
        else some (x28.1 == (0 : Int))
      else some false
    else some false
  else
    bif x7.2.2.2 != (0 : Int) then
      bif x1 then
        bif x7.2.2.2 == (2 : Int) then
          some ((x7.1.length : Int) == (0 : Int))
        else some false
      else some false
    else
      (F_law05_SlabOwns.s2046 m a0 a3 x7 x28).bind fun x50 =>
      match x50 with
      | .inl x51 =>
        some x51
      | .inr x52 =>
        (iter m (F_law05_SlabOwns.l16378 m a0 x7) (0 : Int)).bind fun x62 =>
        match x62 with
        | .inl x63 =>
          some x63
        | .inr x64 =>
          bif (decide ((0 : Int) ≤ x7.2.1)) && (decide (x7.2.1 < (a0.length : Int))) then
            let x65 := a0.getD x7.2.1.toNat (0, (0, 0))
            bif (decide ((0 : Int) ≤ x7.2.1)) && (decide (x7.2.1 < (x7.1.length : Int))) then
              bif Nat.blt x7.2.1.toNat x7.1.length then
                let x66 := x7.1.getD x7.2.1.toNat (0, (0, 0))
                (F_slab_Owned m (x7.1, a1)).bind fun x67 =>
                bif x1 then
                  bif x66.1 == a1 then
                    bif x66.2.1 == a2 then
                      let x70 := IntKind.u64.wrap x7.2.2.1
                      bif decide (x70 < (0 : Int)) then none else
                      bif ((shrOp .u16 x65.2.2 x70).tmod (2 : Int)) == (0 : Int) then
                        let x74 := IntKind.u64.wrap x7.2.2.1
                        bif decide (x74 < (0 : Int)) then none else
                        bif x66.2.2 == (bitsOp .or .u16 x65.2.2 (shlOp .u16 (1 : Int) x74)) then
                          bif x65.2.2 == (0 : Int) then
                            bif x67.2 == (0 : Int) then
                              bif decide (x67.1 ≤ a3) then some true else
                              bif decide (a3 < x28.2.2) then
                                some (x67.1 == x28.2.2)
                              else some false
                            else some false
                          else
                            bif x65.1 == a1 then
                              bif x65.2.1 == a2 then
                                bif x67.2 == (0 : Int) then
                                  bif decide (x67.1 ≤ a3) then some true else
                                  bif decide (a3 < x28.2.2) then
                                    some (x67.1 == x28.2.2)
                                  else some false
                                else some false
                              else some false
                            else some false
                        else some false
                      else some false
                    else some false
                  else some false
                else some false
              else none
            else none
          else none
def F_law05_SlabOwns.ann : List (Nat × Ann) := [(1018, .loop ⟨[(14, false, [.dat (.int .i64)]), (15, false, [.dat .bool]), (16, false, [.dat (.int .i64)]), (17, false, [.dat (.int .i64)])], [], [], [], 608⟩ [(.exit 0, ⟨[(14, false, [.dat (.int .i64)]), (15, false, [.dat .bool]), (16, false, [.dat (.int .i64)])], [], [], [], 608⟩)]),
  (2046, .jnt [(.ret, ⟨[(8, false, [.dat .bool])], [], [], [], 672⟩), (.normal, ⟨[], [], [], [], 672⟩)]),
  (16378, .loop ⟨[(19, false, [.dat (.int .i64)])], [], [], [], 688⟩ [(.ret, ⟨[(8, false, [.dat .bool])], [], [], [], 688⟩), (.exit 2, ⟨[], [], [], [], 688⟩)])]
def F_law05_SlabOwns.sig : Sig := ⟨[.val true [.sl (.pr (.int .i64) (.pr (.int .i64) (.int .u16)))], .val false [.int .i64], .val false [.int .i64], .val false [.int .i64]], [(false, [.dat .bool])]⟩
noncomputable def F_law05_SlabOwns.S : Summ := ⟨4, F_law05_SlabOwns.sig, F_law05_SlabOwns⟩
noncomputable def F_law05_SlabOwns.G : List Summ := [F_law05_alive.S, F_slab_Check.S, F_slab_Take.S, F_law05_used.S, F_slab_Owned.S]
theorem F_law05_SlabOwns.eq : absF Tryd.prog F_law05_SlabOwns.G F_law05_SlabOwns.ann F_law05_SlabOwns.sig Tryd.f4 = F_law05_SlabOwns := by kernel_rfl
theorem F_law05_SlabOwns.sound : Sound Tryd.prog F_law05_SlabOwns.S := absF_sound (fn := Tryd.f4) (Γ := F_law05_SlabOwns.G) (all_cons F_law05_alive.sound (all_cons F_slab_Check.sound (all_cons F_slab_Take.sound (all_cons F_law05_used.sound (all_cons F_slab_Owned.sound all_nil))))) mix (by kernel_rfl) (by kernel_rfl) (fun m p => congrFun (congrFun F_law05_SlabOwns.eq m) p)
/-! ### cloakroom/slab.Free -/
noncomputable def F_slab_Free.s30 (m : Fu) (a1 : Int) (a2 : Int) (x12 : List (Int × Int × Int)) : Option ((List (Int × Int × Int))) :=
  bif (decide ((0 : Int) ≤ a1)) && (decide (a1 < (x12.length : Int))) then
    bif Nat.blt a1.toNat x12.length then
      bif decide (a2 < (0 : Int)) then none else
      bif (((x12.getD a1.toNat (0, (0, 0))).2).2) == (shlOp .u16 (1 : Int) a2) then
        bif Nat.blt a1.toNat x12.length then
          some (x12.set a1.toNat ((0 : Int), ((0 : Int), (0 : Int))))
        else none
      else
        bif Nat.blt a1.toNat x12.length then
          bif decide (a2 < (0 : Int)) then none else
          bif Nat.blt a1.toNat x12.length then
            some (x12.set a1.toNat (((x12.getD a1.toNat (0, (0, 0))).1), ((((x12.getD a1.toNat (0, (0, 0))).2).1), (bitsOp .andNot .u16 (((x12.getD a1.toNat (0, (0, 0))).2).2) (shlOp .u16 (1 : Int) a2)))))
          else none
        else none
    else none
  else none
noncomputable def F_slab_Free (m : Fu) (p : (List (Int × Int × Int)) × Int × Int) : Option ((List (Int × Int × Int)) × Int) :=
  let a0 := p.1
  let a1 := p.2.1
  let a2 := p.2.2
  (F_slab_Check m a0).bind fun x1 =>
  bif x1 != (0 : Int) then some (([] : List (Int × Int × Int)), x1) else
  bif decide (a1 < (0 : Int)) then some (([] : List (Int × Int × Int)), (2 : Int)) else
  bif decide ((a0.length : Int) ≤ a1) then some (([] : List (Int × Int × Int)), (2 : Int)) else
  bif decide (a2 < (0 : Int)) then some (([] : List (Int × Int × Int)), (6 : Int)) else
  bif decide ((15 : Int) < a2) then some (([] : List (Int × Int × Int)), (6 : Int)) else
  bif (decide ((0 : Int) ≤ a1)) && (decide (a1 < (a0.length : Int))) then
    bif decide (a2 < (0 : Int)) then none else
    bif (bitsOp .and .u16 (shrOp .u16 (((a0.getD a1.toNat (0, (0, 0))).2).2) a2) (1 : Int)) == (0 : Int) then some (([] : List (Int × Int × Int)), (6 : Int)) else
    (C_slices_Clone_Page m a0).bind fun x12 =>
    (F_slab_Free.s30 m a1 a2 x12).bind fun x21 =>
    some (x21, (0 : Int))
  else none
def F_slab_Free.ann : List (Nat × Ann) := [(30, .jnt [(.normal, ⟨[], [], [(688, .pr (.int .i64) (.pr (.int .i64) (.int .u16)), .wr)], [], 752⟩)])]
def F_slab_Free.sig : Sig := ⟨[.val true [.sl (.pr (.int .i64) (.pr (.int .i64) (.int .u16)))], .val false [.int .i64], .val false [.int .i64]], [(true, [.own (.pr (.int .i64) (.pr (.int .i64) (.int .u16))) 0 .wr]), (false, [.dat (.int .i64)])]⟩
noncomputable def F_slab_Free.S : Summ := ⟨14, F_slab_Free.sig, F_slab_Free⟩
noncomputable def F_slab_Free.G : List Summ := [F_slab_Check.S, C_slices_Clone_Page.S]
theorem F_slab_Free.eq : absF Tryd.prog F_slab_Free.G F_slab_Free.ann F_slab_Free.sig Tryd.f14 = F_slab_Free := by kernel_rfl
theorem F_slab_Free.sound : Sound Tryd.prog F_slab_Free.S := absF_sound (fn := Tryd.f14) (Γ := F_slab_Free.G) (all_cons F_slab_Check.sound (all_cons C_slices_Clone_Page.sound all_nil)) mix (by kernel_rfl) (by kernel_rfl) (fun m p => congrFun (congrFun F_slab_Free.eq m) p)
/-! ### cloakroom/cloakroomref05.Same -/
noncomputable def F_ref05_Same.l58 (m : Fu) (a0 : List (Int × Int × Int)) (a1 : List (Int × Int × Int)) (x4 : Int) : Option (Step Int (Bool ⊕ Unit)) :=
  bif decide (x4 < (a0.length : Int)) then
    bif (decide ((0 : Int) ≤ x4)) && (decide (x4 < (a0.length : Int))) then
      let x7 := a0.getD x4.toNat (0, (0, 0))
      bif (decide ((0 : Int) ≤ x4)) && (decide (x4 < (a1.length : Int))) then
        let x8 := a1.getD x4.toNat (0, (0, 0))
        bif !((x7.1 == x8.1) && ((x7.2.1 == x8.2.1) && ((x7.2.2 == x8.2.2) && true))) then
          some (.fin (Sum.inl false))
        else some (.next (IntKind.i64.wrap (x4 + (1 : Int))))
      else none
    else none
  else some (.fin (Sum.inr ()))
noncomputable def F_ref05_Same (m : Fu) (p : (List (Int × Int × Int)) × (List (Int × Int × Int))) : Option (Bool) :=
  let a0 := p.1
  let a1 := p.2
  bif (a0.length : Int) != (a1.length : Int) then some false else
  (iter m (F_ref05_Same.l58 m a0 a1) (0 : Int)).bind fun x11 =>
  match x11 with
  | .inl x12 =>
    some x12
  | .inr x13 =>
    some true
def F_ref05_Same.ann : List (Nat × Ann) := [(58, .loop ⟨[(5, false, [.dat (.int .i64)])], [], [], [], 208⟩ [(.ret, ⟨[(4, false, [.dat .bool])], [], [], [], 208⟩), (.exit 0, ⟨[], [], [], [], 208⟩)])]
def F_ref05_Same.sig : Sig := ⟨[.val true [.sl (.pr (.int .i64) (.pr (.int .i64) (.int .u16)))], .val true [.sl (.pr (.int .i64) (.pr (.int .i64) (.int .u16)))]], [(false, [.dat .bool])]⟩
noncomputable def F_ref05_Same.S : Summ := ⟨15, F_ref05_Same.sig, F_ref05_Same⟩
noncomputable def F_ref05_Same.G : List Summ := []
theorem F_ref05_Same.eq : absF Tryd.prog F_ref05_Same.G F_ref05_Same.ann F_ref05_Same.sig Tryd.f15 = F_ref05_Same := by kernel_rfl
theorem F_ref05_Same.sound : Sound Tryd.prog F_ref05_Same.S := absF_sound (fn := Tryd.f15) (Γ := F_ref05_Same.G) all_nil mix (by kernel_rfl) (by kernel_rfl) (fun m p => congrFun (congrFun F_ref05_Same.eq m) p)
/-! ### cloakroom/cloakroomlaw05.SlabBack -/
noncomputable def F_law05_SlabBack.s126 (m : Fu) (a0 : List (Int × Int × Int)) (x7 : (List (Int × Int × Int)) × Int × Int × Int) : Option (Bool ⊕ Unit) :=
  bif x7.2.2.2 == (0 : Int) then
    (F_slab_Free m (x7.1, x7.2.1, x7.2.2.1)).bind fun x9 =>
    bif x9.2 != (0 : Int) then some (Sum.inl false) else
    (F_ref05_Same m (x9.1, a0)).bind fun x11 =>
    bif !x11 then
      some (Sum.inl false)
    else some (Sum.inr ())
  else some (Sum.inr ())
noncomputable def F_law05_SlabBack.l8186 (m : Fu) (a0 : List (Int × Int × Int)) (a4 : Int) (x16 : (List (Int × Int × Int)) × Int) (x34 : Int) : Option (Step Int (Bool ⊕ Unit)) :=
  bif decide (x34 < (a0.length : Int)) then
    bif x34 != a4 then
      bif (decide ((0 : Int) ≤ x34)) && (decide (x34 < (x16.1.length : Int))) then
        bif Nat.blt x34.toNat x16.1.length then
          let x38 := x16.1.getD x34.toNat (0, (0, 0))
          bif (decide ((0 : Int) ≤ x34)) && (decide (x34 < (a0.length : Int))) then
            let x39 := a0.getD x34.toNat (0, (0, 0))
            bif !((x38.1 == x39.1) && ((x38.2.1 == x39.2.1) && ((x38.2.2 == x39.2.2) && true))) then
              some (.fin (Sum.inl false))
            else some (.next (IntKind.i64.wrap (x34 + (1 : Int))))
          else none
        else none
      else none
    else some (.next (IntKind.i64.wrap (x34 + (1 : Int))))
  else some (.fin (Sum.inr ()))
noncomputable def F_law05_SlabBack (m : Fu) (p : (List (Int × Int × Int)) × Int × Int × Int × Int × Int) : Option (Bool) :=
  let a0 := p.1
  let a1 := p.2.1
  let a2 := p.2.2.1
  let a3 := p.2.2.2.1
  let a4 := p.2.2.2.2.1
  let a5 := p.2.2.2.2.2
  (F_law05_alive m ()).bind fun x1 =>
  bif !x1 then some false else
  bif decide ((100 : Int) < (a0.length : Int)) then some x1 else
  (F_slab_Check m a0).bind fun x5 =>
  bif x5 != (0 : Int) then some x1 else
  (F_slab_Take m (a0, a1, a2, a3)).bind fun x7 =>
  (F_law05_SlabBack.s126 m a0 x7).bind fun x13 =>
  match x13 with
  | .inl x14 =>
    some x14
  | .inr x15 =>
    (F_slab_Free m (a0, a4, a5)).bind fun x16 =>
    bif x16.2 != (0 : Int) then
      bif x1 then
        some ((x16.1.length : Int) == (0 : Int))
      else some false
    else
      (F_slab_Check m x16.1).bind fun x20 =>
      bif x20 != (0 : Int) then some false else
      bif decide (a4 < (0 : Int)) then some false else
      bif decide ((a0.length : Int) ≤ a4) then some false else
      bif (x16.1.length : Int) != (a0.length : Int) then some false else
      bif (decide ((0 : Int) ≤ a4)) && (decide (a4 < (x16.1.length : Int))) then
        bif Nat.blt a4.toNat x16.1.length then
          let x28 := x16.1.getD a4.toNat (0, (0, 0))
          (F_law05_used m (x28.1, x28.2.1, x28.2.2)).bind fun x29 =>
          bif (decide ((0 : Int) ≤ a4)) && (decide (a4 < (a0.length : Int))) then
            let x30 := a0.getD a4.toNat (0, (0, 0))
            (F_law05_used m (x30.1, x30.2.1, x30.2.2)).bind fun x31 =>
            bif x29 != (IntKind.i64.wrap (x31 - (1 : Int))) then some false else
            (iter m (F_law05_SlabBack.l8186 m a0 a4 x16) (0 : Int)).bind fun x43 =>
            match x43 with
            | .inl x44 =>
              some x44
            | .inr x45 =>
              bif x1 then
                bif (decide ((0 : Int) ≤ a4)) && (decide (a4 < (x16.1.length : Int))) then
                  bif Nat.blt a4.toNat x16.1.length then
                    let x46 := x16.1.getD a4.toNat (0, (0, 0))
                    (F_law05_used m (x46.1, x46.2.1, x46.2.2)).bind fun x47 =>
                    bif decide ((0 : Int) < x47) then some true else
                    bif (decide ((0 : Int) ≤ a4)) && (decide (a4 < (x16.1.length : Int))) then
                      bif Nat.blt a4.toNat x16.1.length then
                        let x49 := x16.1.getD a4.toNat (0, (0, 0))
                        some ((x49.1 == (0 : Int)) && ((x49.2.1 == (0 : Int)) && ((x49.2.2 == (0 : Int)) && true)))
                      else none
                    else none
                  else none
                else none
              else some false
          else none
        else none
      else none
def F_law05_SlabBack.ann : List (Nat × Ann) := [(126, .jnt [(.ret, ⟨[(12, false, [.dat .bool])], [], [], [400], 576⟩), (.normal, ⟨[], [], [], [400], 576⟩)]),
  (8186, .loop ⟨[(22, false, [.dat (.int .i64)])], [], [], [], 1408⟩ [(.ret, ⟨[(12, false, [.dat .bool])], [], [], [], 1408⟩), (.exit 0, ⟨[], [], [], [], 1408⟩)])]
def F_law05_SlabBack.sig : Sig := ⟨[.val true [.sl (.pr (.int .i64) (.pr (.int .i64) (.int .u16)))], .val false [.int .i64], .val false [.int .i64], .val false [.int .i64], .val false [.int .i64], .val false [.int .i64]], [(false, [.dat .bool])]⟩
noncomputable def F_law05_SlabBack.S : Summ := ⟨5, F_law05_SlabBack.sig, F_law05_SlabBack⟩
noncomputable def F_law05_SlabBack.G : List Summ := [F_law05_alive.S, F_slab_Check.S, F_slab_Take.S, F_slab_Free.S, F_ref05_Same.S, F_law05_used.S]
theorem F_law05_SlabBack.eq : absF Tryd.prog F_law05_SlabBack.G F_law05_SlabBack.ann F_law05_SlabBack.sig Tryd.f5 = F_law05_SlabBack := by kernel_rfl
theorem F_law05_SlabBack.sound : Sound Tryd.prog F_law05_SlabBack.S := absF_sound (fn := Tryd.f5) (Γ := F_law05_SlabBack.G) (all_cons F_law05_alive.sound (all_cons F_slab_Check.sound (all_cons F_slab_Take.sound (all_cons F_slab_Free.sound (all_cons F_ref05_Same.sound (all_cons F_law05_used.sound all_nil)))))) mix (by kernel_rfl) (by kernel_rfl) (fun m p => congrFun (congrFun F_law05_SlabBack.eq m) p)
/-! ### cloakroom/cloakroomref05.Twin -/
noncomputable def F_ref05_Twin (m : Fu) (p : List (Int × Int × Int)) : Option (List (Int × Int × Int)) :=
  let a0 := p
  bif Nat.ble a0.length 4294967296 then
    some a0
  else none
def F_ref05_Twin.ann : List (Nat × Ann) := []
def F_ref05_Twin.sig : Sig := ⟨[.val true [.sl (.pr (.int .i64) (.pr (.int .i64) (.int .u16)))]], [(true, [.own (.pr (.int .i64) (.pr (.int .i64) (.int .u16))) 0 .wr])]⟩
noncomputable def F_ref05_Twin.S : Summ := ⟨16, F_ref05_Twin.sig, F_ref05_Twin⟩
noncomputable def F_ref05_Twin.G : List Summ := []
theorem F_ref05_Twin.eq : absF Tryd.prog F_ref05_Twin.G F_ref05_Twin.ann F_ref05_Twin.sig Tryd.f16 = F_ref05_Twin := by kernel_rfl
theorem F_ref05_Twin.sound : Sound Tryd.prog F_ref05_Twin.S := absF_sound (fn := Tryd.f16) (Γ := F_ref05_Twin.G) all_nil mix (by kernel_rfl) (by kernel_rfl) (fun m p => congrFun (congrFun F_ref05_Twin.eq m) p)
/-! ### cloakroom/cloakroomref05.New -/
noncomputable def F_ref05_New (m : Fu) (p : Int) : Option ((List (Int × Int × Int)) × Int) :=
  let a0 := p
  bif decide (a0 < (1 : Int)) then some (([] : List (Int × Int × Int)), (2 : Int)) else
  bif decide ((16 : Int) < a0) then some (([] : List (Int × Int × Int)), (2 : Int)) else
  bif ((decide ((0 : Int) ≤ a0)) && (decide (a0 ≤ a0))) && (decide (a0 ≤ (4294967296 : Int))) then
    some ((List.replicate a0.toNat (0, (0, 0))), (0 : Int))
  else none
def F_ref05_New.ann : List (Nat × Ann) := []
def F_ref05_New.sig : Sig := ⟨[.val false [.int .i64]], [(true, [.own (.pr (.int .i64) (.pr (.int .i64) (.int .u16))) 0 .wr]), (false, [.dat (.int .i64)])]⟩
noncomputable def F_ref05_New.S : Summ := ⟨17, F_ref05_New.sig, F_ref05_New⟩
noncomputable def F_ref05_New.G : List Summ := []
theorem F_ref05_New.eq : absF Tryd.prog F_ref05_New.G F_ref05_New.ann F_ref05_New.sig Tryd.f17 = F_ref05_New := by kernel_rfl
theorem F_ref05_New.sound : Sound Tryd.prog F_ref05_New.S := absF_sound (fn := Tryd.f17) (Γ := F_ref05_New.G) all_nil mix (by kernel_rfl) (by kernel_rfl) (fun m p => congrFun (congrFun F_ref05_New.eq m) p)
/-! ### cloakroom/cloakroomref05.IsTenant -/
noncomputable def F_ref05_IsTenant (m : Fu) (p : Int) : Option (Bool) :=
  let a0 := p
  bif decide ((0 : Int) ≤ a0) then
    some (decide (a0 < (4 : Int)))
  else some false
def F_ref05_IsTenant.ann : List (Nat × Ann) := []
def F_ref05_IsTenant.sig : Sig := ⟨[.val false [.int .i64]], [(false, [.dat .bool])]⟩
noncomputable def F_ref05_IsTenant.S : Summ := ⟨22, F_ref05_IsTenant.sig, F_ref05_IsTenant⟩
noncomputable def F_ref05_IsTenant.G : List Summ := []
theorem F_ref05_IsTenant.eq : absF Tryd.prog F_ref05_IsTenant.G F_ref05_IsTenant.ann F_ref05_IsTenant.sig Tryd.f22 = F_ref05_IsTenant := by kernel_rfl
theorem F_ref05_IsTenant.sound : Sound Tryd.prog F_ref05_IsTenant.S := absF_sound (fn := Tryd.f22) (Γ := F_ref05_IsTenant.G) all_nil mix (by kernel_rfl) (by kernel_rfl) (fun m p => congrFun (congrFun F_ref05_IsTenant.eq m) p)
/-! ### cloakroom/cloakroomref05.IsClass -/
noncomputable def F_ref05_IsClass (m : Fu) (p : Int) : Option (Bool) :=
  let a0 := p
  bif decide ((0 : Int) ≤ a0) then
    some (decide (a0 < (5 : Int)))
  else some false
def F_ref05_IsClass.ann : List (Nat × Ann) := []
def F_ref05_IsClass.sig : Sig := ⟨[.val false [.int .i64]], [(false, [.dat .bool])]⟩
noncomputable def F_ref05_IsClass.S : Summ := ⟨38, F_ref05_IsClass.sig, F_ref05_IsClass⟩
noncomputable def F_ref05_IsClass.G : List Summ := []
theorem F_ref05_IsClass.eq : absF Tryd.prog F_ref05_IsClass.G F_ref05_IsClass.ann F_ref05_IsClass.sig Tryd.f38 = F_ref05_IsClass := by kernel_rfl
theorem F_ref05_IsClass.sound : Sound Tryd.prog F_ref05_IsClass.S := absF_sound (fn := Tryd.f38) (Γ := F_ref05_IsClass.G) all_nil mix (by kernel_rfl) (by kernel_rfl) (fun m p => congrFun (congrFun F_ref05_IsClass.eq m) p)
/-! ### cloakroom/cloakroomref05.Size -/
noncomputable def F_ref05_Size (m : Fu) (p : Int) : Option (Int) :=
  let a0 := p
  let x1 := IntKind.u64.wrap a0
  bif decide (x1 < (0 : Int)) then
    none
  else some (IntKind.i64.wrap ((16 : Int) * (shlOp .i64 (1 : Int) x1)))
def F_ref05_Size.ann : List (Nat × Ann) := []
def F_ref05_Size.sig : Sig := ⟨[.val false [.int .i64]], [(false, [.dat (.int .i64)])]⟩
noncomputable def F_ref05_Size.S : Summ := ⟨47, F_ref05_Size.sig, F_ref05_Size⟩
noncomputable def F_ref05_Size.G : List Summ := []
theorem F_ref05_Size.eq : absF Tryd.prog F_ref05_Size.G F_ref05_Size.ann F_ref05_Size.sig Tryd.f47 = F_ref05_Size := by kernel_rfl
theorem F_ref05_Size.sound : Sound Tryd.prog F_ref05_Size.S := absF_sound (fn := Tryd.f47) (Γ := F_ref05_Size.G) all_nil mix (by kernel_rfl) (by kernel_rfl) (fun m p => congrFun (congrFun F_ref05_Size.eq m) p)
/-! ### cloakroom/cloakroomref05.Chunks -/
noncomputable def F_ref05_Chunks (m : Fu) (p : Int) : Option (Int) :=
  let a0 := p
  (F_ref05_Size m a0).bind fun x1 =>
  bif x1 == 0 then
    none
  else some (IntKind.i64.wrap ((256 : Int).tdiv x1))
def F_ref05_Chunks.ann : List (Nat × Ann) := []
def F_ref05_Chunks.sig : Sig := ⟨[.val false [.int .i64]], [(false, [.dat (.int .i64)])]⟩
noncomputable def F_ref05_Chunks.S : Summ := ⟨41, F_ref05_Chunks.sig, F_ref05_Chunks⟩
noncomputable def F_ref05_Chunks.G : List Summ := [F_ref05_Size.S]
theorem F_ref05_Chunks.eq : absF Tryd.prog F_ref05_Chunks.G F_ref05_Chunks.ann F_ref05_Chunks.sig Tryd.f41 = F_ref05_Chunks := by kernel_rfl
theorem F_ref05_Chunks.sound : Sound Tryd.prog F_ref05_Chunks.S := absF_sound (fn := Tryd.f41) (Γ := F_ref05_Chunks.G) (all_cons F_ref05_Size.sound all_nil) mix (by kernel_rfl) (by kernel_rfl) (fun m p => congrFun (congrFun F_ref05_Chunks.eq m) p)
/-! ### cloakroom/cloakroomref05.Has -/
noncomputable def F_ref05_Has (m : Fu) (p : Int × Int × Int × Int) : Option (Bool) :=
  let a2 := p.2.2.1
  let a3 := p.2.2.2
  bif decide ((0 : Int) ≤ a3) then
    bif decide (a3 < (16 : Int)) then
      let x3 := IntKind.u64.wrap a3
      bif decide (x3 < (0 : Int)) then
        none
      else some (((shrOp .u16 a2 x3).tmod (2 : Int)) == (1 : Int))
    else some false
  else some false
def F_ref05_Has.ann : List (Nat × Ann) := []
def F_ref05_Has.sig : Sig := ⟨[.val true [.int .i64, .int .i64, .int .u16], .val false [.int .i64]], [(false, [.dat .bool])]⟩
noncomputable def F_ref05_Has.S : Summ := ⟨40, F_ref05_Has.sig, F_ref05_Has⟩
noncomputable def F_ref05_Has.G : List Summ := []
theorem F_ref05_Has.eq : absF Tryd.prog F_ref05_Has.G F_ref05_Has.ann F_ref05_Has.sig Tryd.f40 = F_ref05_Has := by kernel_rfl
theorem F_ref05_Has.sound : Sound Tryd.prog F_ref05_Has.S := absF_sound (fn := Tryd.f40) (Γ := F_ref05_Has.G) all_nil mix (by kernel_rfl) (by kernel_rfl) (fun m p => congrFun (congrFun F_ref05_Has.eq m) p)
/-! ### cloakroom/cloakroomref05.Check -/
noncomputable def F_ref05_Check.l29854 (m : Fu) (x8 : Int × Int × Int) (x18 : Int) : Option (Step Int (Int ⊕ Unit)) :=
  bif decide (x18 < (16 : Int)) then
    (F_ref05_Has m (x8.1, x8.2.1, x8.2.2, x18)).bind fun x20 =>
    bif x20 then
      some (.fin (Sum.inl (8 : Int)))
    else some (.next (IntKind.i64.wrap (x18 + (1 : Int))))
  else some (.fin (Sum.inr ()))
noncomputable def F_ref05_Check.l58 (m : Fu) (a0 : List (Int × Int × Int)) (x5 : Int) : Option (Step Int (Int ⊕ Unit)) :=
  bif decide (x5 < (a0.length : Int)) then
    bif (decide ((0 : Int) ≤ x5)) && (decide (x5 < (a0.length : Int))) then
      let x8 := a0.getD x5.toNat (0, (0, 0))
      bif x8.2.2 == (0 : Int) then
        bif x8.1 != (0 : Int) then some (.fin (Sum.inl (8 : Int))) else
        bif x8.2.1 != (0 : Int) then
          some (.fin (Sum.inl (8 : Int)))
        else some (.next (IntKind.i64.wrap (x5 + (1 : Int))))
      else
        (F_ref05_IsTenant m x8.1).bind fun x13 =>
        bif !x13 then some (.fin (Sum.inl (8 : Int))) else
        (F_ref05_IsClass m x8.2.1).bind fun x15 =>
        bif !x15 then some (.fin (Sum.inl (8 : Int))) else
        (F_ref05_Chunks m x8.2.1).bind fun x17 =>
        (iter m (F_ref05_Check.l29854 m x8) x17).bind fun x22 =>
        match x22 with
        | .inl x23 =>
          some (.fin (Sum.inl x23))
        | .inr x24 =>
          some (.next (IntKind.i64.wrap (x5 + (1 : Int))))
    else none
  else some (.fin (Sum.inr ()))
noncomputable def F_ref05_Check (m : Fu) (p : List (Int × Int × Int)) : Option (Int) :=
  let a0 := p
  bif decide ((a0.length : Int) < (1 : Int)) then some (8 : Int) else
  bif decide ((16 : Int) < (a0.length : Int)) then some (8 : Int) else
  (iter m (F_ref05_Check.l58 m a0) (0 : Int)).bind fun x26 =>
  match x26 with
  | .inl x27 =>
    some x27
  | .inr x28 =>
    some (0 : Int)
def F_ref05_Check.ann : List (Nat × Ann) := [(58, .loop ⟨[(3, false, [.dat (.int .i64)])], [], [], [], 224⟩ [(.ret, ⟨[(2, false, [.dat (.int .i64)])], [], [], [], 224⟩), (.exit 0, ⟨[], [], [], [], 224⟩)]),
  (29854, .loop ⟨[(5, false, [.dat (.int .i64)])], [], [], [], 688⟩ [(.ret, ⟨[(2, false, [.dat (.int .i64)])], [], [], [], 688⟩), (.exit 2, ⟨[], [], [], [], 688⟩)])]
def F_ref05_Check.sig : Sig := ⟨[.val true [.sl (.pr (.int .i64) (.pr (.int .i64) (.int .u16)))]], [(false, [.dat (.int .i64)])]⟩
noncomputable def F_ref05_Check.S : Summ := ⟨20, F_ref05_Check.sig, F_ref05_Check⟩
noncomputable def F_ref05_Check.G : List Summ := [F_ref05_IsTenant.S, F_ref05_IsClass.S, F_ref05_Chunks.S, F_ref05_Has.S]
theorem F_ref05_Check.eq : absF Tryd.prog F_ref05_Check.G F_ref05_Check.ann F_ref05_Check.sig Tryd.f20 = F_ref05_Check := by kernel_rfl
theorem F_ref05_Check.sound : Sound Tryd.prog F_ref05_Check.S := absF_sound (fn := Tryd.f20) (Γ := F_ref05_Check.G) (all_cons F_ref05_IsTenant.sound (all_cons F_ref05_IsClass.sound (all_cons F_ref05_Chunks.sound (all_cons F_ref05_Has.sound all_nil)))) mix (by kernel_rfl) (by kernel_rfl) (fun m p => congrFun (congrFun F_ref05_Check.eq m) p)
/-! ### cloakroom/cloakroomref05.IsFree -/
noncomputable def F_ref05_IsFree (m : Fu) (p : Int × Int × Int) : Option (Bool) :=
  let a2 := p.2.2
  some (a2 == (0 : Int))
def F_ref05_IsFree.ann : List (Nat × Ann) := []
def F_ref05_IsFree.sig : Sig := ⟨[.val true [.int .i64, .int .i64, .int .u16]], [(false, [.dat .bool])]⟩
noncomputable def F_ref05_IsFree.S : Summ := ⟨42, F_ref05_IsFree.sig, F_ref05_IsFree⟩
noncomputable def F_ref05_IsFree.G : List Summ := []
theorem F_ref05_IsFree.eq : absF Tryd.prog F_ref05_IsFree.G F_ref05_IsFree.ann F_ref05_IsFree.sig Tryd.f42 = F_ref05_IsFree := by kernel_rfl
theorem F_ref05_IsFree.sound : Sound Tryd.prog F_ref05_IsFree.S := absF_sound (fn := Tryd.f42) (Γ := F_ref05_IsFree.G) all_nil mix (by kernel_rfl) (by kernel_rfl) (fun m p => congrFun (congrFun F_ref05_IsFree.eq m) p)
/-! ### cloakroom/cloakroomref05.Owned -/
noncomputable def F_ref05_Owned.l58 (m : Fu) (a0 : List (Int × Int × Int)) (a1 : Int) (x1 : Int × Int) : Option (Step (Int × Int) Int) :=
  bif decide (x1.2 < (a0.length : Int)) then
    bif (decide ((0 : Int) ≤ x1.2)) && (decide (x1.2 < (a0.length : Int))) then
      let x4 := a0.getD x1.2.toNat (0, (0, 0))
      (F_ref05_IsFree m (x4.1, x4.2.1, x4.2.2)).bind fun x5 =>
      bif !x5 then
        bif (decide ((0 : Int) ≤ x1.2)) && (decide (x1.2 < (a0.length : Int))) then
          bif ((a0.getD x1.2.toNat (0, (0, 0))).1) == a1 then
            some (.next ((IntKind.i64.wrap (x1.1 + (1 : Int))), (IntKind.i64.wrap (x1.2 + (1 : Int)))))
          else some (.next (x1.1, (IntKind.i64.wrap (x1.2 + (1 : Int)))))
        else none
      else some (.next (x1.1, (IntKind.i64.wrap (x1.2 + (1 : Int)))))
    else none
  else some (.fin x1.1)
noncomputable def F_ref05_Owned (m : Fu) (p : (List (Int × Int × Int)) × Int) : Option (Int) :=
  let a0 := p.1
  let a1 := p.2
  (iter m (F_ref05_Owned.l58 m a0 a1) ((0 : Int), (0 : Int))).bind fun x13 =>
  some x13
def F_ref05_Owned.ann : List (Nat × Ann) := [(58, .loop ⟨[(5, false, [.dat (.int .i64)]), (6, false, [.dat (.int .i64)])], [], [], [], 96⟩ [(.exit 0, ⟨[(5, false, [.dat (.int .i64)])], [], [], [], 96⟩)])]
def F_ref05_Owned.sig : Sig := ⟨[.val true [.sl (.pr (.int .i64) (.pr (.int .i64) (.int .u16)))], .val false [.int .i64]], [(false, [.dat (.int .i64)])]⟩
noncomputable def F_ref05_Owned.S : Summ := ⟨23, F_ref05_Owned.sig, F_ref05_Owned⟩
noncomputable def F_ref05_Owned.G : List Summ := [F_ref05_IsFree.S]
theorem F_ref05_Owned.eq : absF Tryd.prog F_ref05_Owned.G F_ref05_Owned.ann F_ref05_Owned.sig Tryd.f23 = F_ref05_Owned := by kernel_rfl
theorem F_ref05_Owned.sound : Sound Tryd.prog F_ref05_Owned.S := absF_sound (fn := Tryd.f23) (Γ := F_ref05_Owned.G) (all_cons F_ref05_IsFree.sound all_nil) mix (by kernel_rfl) (by kernel_rfl) (fun m p => congrFun (congrFun F_ref05_Owned.eq m) p)
/-! ### cloakroom/cloakroomref05.place -/
noncomputable def F_ref05_place.s1682 (m : Fu) (a1 : Int) (a2 : Int) (x4 : Int × Int × Int) : Option (Unit ⊕ Unit) :=
  (F_ref05_IsFree m (x4.1, x4.2.1, x4.2.2)).bind fun x5 =>
  bif x5 then some (Sum.inl ()) else
  bif x4.1 != a1 then some (Sum.inl ()) else
  bif x4.2.1 != a2 then
    some (Sum.inl ())
  else some (Sum.inr ())
noncomputable def F_ref05_place.l6734 (m : Fu) (a2 : Int) (x1 : Int) (x4 : Int × Int × Int) (x12 : Int) : Option (Step Int ((Int × Int × Bool) ⊕ Unit)) :=
  (F_ref05_Chunks m a2).bind fun x13 =>
  bif decide (x12 < x13) then
    (F_ref05_Has m (x4.1, x4.2.1, x4.2.2, x12)).bind fun x15 =>
    bif !x15 then
      some (.fin (Sum.inl (x1, x12, true)))
    else some (.next (IntKind.i64.wrap (x12 + (1 : Int))))
  else some (.fin (Sum.inr ()))
noncomputable def F_ref05_place.l26 (m : Fu) (a0 : List (Int × Int × Int)) (a1 : Int) (a2 : Int) (x1 : Int) : Option (Step Int ((Int × Int × Bool) ⊕ Unit)) :=
  bif decide (x1 < (a0.length : Int)) then
    bif (decide ((0 : Int) ≤ x1)) && (decide (x1 < (a0.length : Int))) then
      let x4 := a0.getD x1.toNat (0, (0, 0))
      (F_ref05_place.s1682 m a1 a2 x4).bind fun x8 =>
      match x8 with
      | .inl x9 =>
        some (.next (IntKind.i64.wrap (x1 + (1 : Int))))
      | .inr x11 =>
        (iter m (F_ref05_place.l6734 m a2 x1 x4) (0 : Int)).bind fun x18 =>
        match x18 with
        | .inl x19 =>
          some (.fin (Sum.inl (x19.1, x19.2.1, x19.2.2)))
        | .inr x20 =>
          some (.next (IntKind.i64.wrap (x1 + (1 : Int))))
    else none
  else some (.fin (Sum.inr ()))
noncomputable def F_ref05_place.s232 (m : Fu) (a0 : List (Int × Int × Int)) (a1 : Int) (a3 : Int) (x25 : Int) : Option (Unit ⊕ Unit) :=
  bif decide (x25 < (a0.length : Int)) then
    (F_ref05_Owned m (a0, a1)).bind fun x28 =>
    bif decide (x28 < a3) then
      some (Sum.inl ())
    else some (Sum.inr ())
  else some (Sum.inr ())
noncomputable def F_ref05_place.l58 (m : Fu) (a0 : List (Int × Int × Int)) (a1 : Int) (a3 : Int) (x25 : Int) : Option (Step Int ((Int × Int × Bool) ⊕ Unit)) :=
  (F_ref05_place.s232 m a0 a1 a3 x25).bind fun x30 =>
  match x30 with
  | .inl x31 =>
    bif (decide ((0 : Int) ≤ x25)) && (decide (x25 < (a0.length : Int))) then
      let x32 := a0.getD x25.toNat (0, (0, 0))
      (F_ref05_IsFree m (x32.1, x32.2.1, x32.2.2)).bind fun x33 =>
      bif x33 then
        some (.fin (Sum.inl (x25, (0 : Int), true)))
      else some (.next (IntKind.i64.wrap (x25 + (1 : Int))))
    else none
  | .inr x35 =>
    some (.fin (Sum.inr ()))
noncomputable def F_ref05_place (m : Fu) (p : (List (Int × Int × Int)) × Int × Int × Int) : Option (Int × Int × Bool) :=
  let a0 := p.1
  let a1 := p.2.1
  let a2 := p.2.2.1
  let a3 := p.2.2.2
  (iter m (F_ref05_place.l26 m a0 a1 a2) (0 : Int)).bind fun x22 =>
  match x22 with
  | .inl x23 =>
    some (x23.1, x23.2.1, x23.2.2)
  | .inr x24 =>
    (iter m (F_ref05_place.l58 m a0 a1 a3) (0 : Int)).bind fun x36 =>
    match x36 with
    | .inl x37 =>
      some (x37.1, x37.2.1, x37.2.2)
    | .inr x38 =>
      some ((0 : Int), (0 : Int), false)
def F_ref05_place.ann : List (Nat × Ann) := [(26, .loop ⟨[(11, false, [.dat (.int .i64)])], [], [], [], 144⟩ [(.ret, ⟨[(8, false, [.dat (.int .i64)]), (9, false, [.dat (.int .i64)]), (10, false, [.dat .bool])], [], [], [], 144⟩), (.exit 0, ⟨[], [], [], [], 144⟩)]),
  (58, .loop ⟨[(14, false, [.dat (.int .i64)])], [], [], [], 160⟩ [(.ret, ⟨[(8, false, [.dat (.int .i64)]), (9, false, [.dat (.int .i64)]), (10, false, [.dat .bool])], [], [], [], 160⟩), (.exit 4, ⟨[], [], [], [], 160⟩)]),
  (232, .jnt [(.normal, ⟨[], [], [], [], 160⟩), (.exit 4, ⟨[], [], [], [], 160⟩)]),
  (1682, .jnt [(.exit 1, ⟨[], [], [], [], 336⟩), (.normal, ⟨[], [], [], [], 336⟩)]),
  (6734, .loop ⟨[(13, false, [.dat (.int .i64)])], [], [], [], 352⟩ [(.ret, ⟨[(8, false, [.dat (.int .i64)]), (9, false, [.dat (.int .i64)]), (10, false, [.dat .bool])], [], [], [], 352⟩), (.exit 2, ⟨[], [], [], [], 352⟩)])]
def F_ref05_place.sig : Sig := ⟨[.val true [.sl (.pr (.int .i64) (.pr (.int .i64) (.int .u16)))], .val false [.int .i64], .val false [.int .i64], .val false [.int .i64]], [(false, [.dat (.int .i64)]), (false, [.dat (.int .i64)]), (false, [.dat .bool])]⟩
noncomputable def F_ref05_place.S : Summ := ⟨39, F_ref05_place.sig, F_ref05_place⟩
noncomputable def F_ref05_place.G : List Summ := [F_ref05_IsFree.S, F_ref05_Chunks.S, F_ref05_Has.S, F_ref05_Owned.S]
theorem F_ref05_place.eq : absF Tryd.prog F_ref05_place.G F_ref05_place.ann F_ref05_place.sig Tryd.f39 = F_ref05_place := by kernel_rfl
theorem F_ref05_place.sound : Sound Tryd.prog F_ref05_place.S := absF_sound (fn := Tryd.f39) (Γ := F_ref05_place.G) (all_cons F_ref05_IsFree.sound (all_cons F_ref05_Chunks.sound (all_cons F_ref05_Has.sound (all_cons F_ref05_Owned.sound all_nil)))) mix (by kernel_rfl) (by kernel_rfl) (fun m p => congrFun (congrFun F_ref05_place.eq m) p)
/-! ### cloakroom/cloakroomref05.Take -/
noncomputable def F_ref05_Take.s60 (m : Fu) (a1 : Int) (a2 : Int) (a3 : Int) : Option (Bool) :=
  (F_ref05_IsTenant m a1).bind fun x3 =>
  bif !x3 then some true else
  (F_ref05_IsClass m a2).bind fun x5 =>
  bif !x5 then some true else
  bif decide (a3 < (0 : Int)) then
    some true
  else some (decide ((16 : Int) < a3))
noncomputable def F_ref05_Take (m : Fu) (p : (List (Int × Int × Int)) × Int × Int × Int) : Option ((List (Int × Int × Int)) × Int × Int × Int) :=
  let a0 := p.1
  let a1 := p.2.1
  let a2 := p.2.2.1
  let a3 := p.2.2.2
  (F_ref05_Check m a0).bind fun x1 =>
  bif x1 != (0 : Int) then some (([] : List (Int × Int × Int)), (0 : Int), (0 : Int), x1) else
  (F_ref05_Take.s60 m a1 a2 a3).bind fun x9 =>
  bif x9 then some (([] : List (Int × Int × Int)), (0 : Int), (0 : Int), (2 : Int)) else
  (F_ref05_place m (a0, a1, a2, a3)).bind fun x10 =>
  bif !x10.2.2 then some (([] : List (Int × Int × Int)), (0 : Int), (0 : Int), (9 : Int)) else
  (F_ref05_Twin m a0).bind fun x12 =>
  bif (decide ((0 : Int) ≤ x10.1)) && (decide (x10.1 < (a0.length : Int))) then
    let x14 := IntKind.u64.wrap x10.2.1
    bif decide (x14 < (0 : Int)) then none else
    bif (decide ((0 : Int) ≤ x10.1)) && (decide (x10.1 < (x12.length : Int))) then
      bif Nat.blt x10.1.toNat x12.length then
        some ((x12.set x10.1.toNat (a1, (a2, (IntKind.u16.wrap ((((a0.getD x10.1.toNat (0, (0, 0))).2).2) + (shlOp .u16 (1 : Int) x14)))))), x10.1, x10.2.1, (0 : Int))
      else none
    else none
  else none
def F_ref05_Take.ann : List (Nat × Ann) := [(60, .jnt [(.normal, ⟨[(38, false, [.dat .bool])], [], [], [], 224⟩)])]
def F_ref05_Take.sig : Sig := ⟨[.val true [.sl (.pr (.int .i64) (.pr (.int .i64) (.int .u16)))], .val false [.int .i64], .val false [.int .i64], .val false [.int .i64]], [(true, [.own (.pr (.int .i64) (.pr (.int .i64) (.int .u16))) 0 .wr]), (false, [.dat (.int .i64)]), (false, [.dat (.int .i64)]), (false, [.dat (.int .i64)])]⟩
noncomputable def F_ref05_Take.S : Summ := ⟨18, F_ref05_Take.sig, F_ref05_Take⟩
noncomputable def F_ref05_Take.G : List Summ := [F_ref05_Check.S, F_ref05_IsTenant.S, F_ref05_IsClass.S, F_ref05_place.S, F_ref05_Twin.S]
theorem F_ref05_Take.eq : absF Tryd.prog F_ref05_Take.G F_ref05_Take.ann F_ref05_Take.sig Tryd.f18 = F_ref05_Take := by kernel_rfl
theorem F_ref05_Take.sound : Sound Tryd.prog F_ref05_Take.S := absF_sound (fn := Tryd.f18) (Γ := F_ref05_Take.G) (all_cons F_ref05_Check.sound (all_cons F_ref05_IsTenant.sound (all_cons F_ref05_IsClass.sound (all_cons F_ref05_place.sound (all_cons F_ref05_Twin.sound all_nil))))) mix (by kernel_rfl) (by kernel_rfl) (fun m p => congrFun (congrFun F_ref05_Take.eq m) p)
/-! ### cloakroom/cloakroomref05.Free -/
noncomputable def F_ref05_Free.s510 (m : Fu) (a1 : Int) (x14 : List (Int × Int × Int)) : Option ((List (Int × Int × Int))) :=
  bif (decide ((0 : Int) ≤ a1)) && (decide (a1 < (x14.length : Int))) then
    bif Nat.blt a1.toNat x14.length then
      bif (((x14.getD a1.toNat (0, (0, 0))).2).2) == (0 : Int) then
        bif (decide ((0 : Int) ≤ a1)) && (decide (a1 < (x14.length : Int))) then
          bif Nat.blt a1.toNat x14.length then
            some (x14.set a1.toNat ((0 : Int), ((0 : Int), (0 : Int))))
          else none
        else none
      else some x14
    else none
  else none
noncomputable def F_ref05_Free (m : Fu) (p : (List (Int × Int × Int)) × Int × Int) : Option ((List (Int × Int × Int)) × Int) :=
  let a0 := p.1
  let a1 := p.2.1
  let a2 := p.2.2
  (F_ref05_Check m a0).bind fun x1 =>
  bif x1 != (0 : Int) then some (([] : List (Int × Int × Int)), x1) else
  bif decide (a1 < (0 : Int)) then some (([] : List (Int × Int × Int)), (2 : Int)) else
  bif decide ((a0.length : Int) ≤ a1) then some (([] : List (Int × Int × Int)), (2 : Int)) else
  bif (decide ((0 : Int) ≤ a1)) && (decide (a1 < (a0.length : Int))) then
    let x6 := a0.getD a1.toNat (0, (0, 0))
    (F_ref05_Has m (x6.1, x6.2.1, x6.2.2, a2)).bind fun x7 =>
    bif !x7 then some (([] : List (Int × Int × Int)), (6 : Int)) else
    (F_ref05_Twin m a0).bind fun x9 =>
    bif (decide ((0 : Int) ≤ a1)) && (decide (a1 < (x9.length : Int))) then
      bif Nat.blt a1.toNat x9.length then
        let x11 := IntKind.u64.wrap a2
        bif decide (x11 < (0 : Int)) then none else
        bif (decide ((0 : Int) ≤ a1)) && (decide (a1 < (x9.length : Int))) then
          bif Nat.blt a1.toNat x9.length then
            (F_ref05_Free.s510 m a1 (x9.set a1.toNat (((x9.getD a1.toNat (0, (0, 0))).1), ((((x9.getD a1.toNat (0, (0, 0))).2).1), (IntKind.u16.wrap ((((x9.getD a1.toNat (0, (0, 0))).2).2) - (shlOp .u16 (1 : Int) x11))))))).bind fun x18 =>
            some (x18, (0 : Int))
          else none
        else none
      else none
    else none
  else none
def F_ref05_Free.ann : List (Nat × Ann) := [(510, .jnt [(.normal, ⟨[], [], [(464, .pr (.int .i64) (.pr (.int .i64) (.int .u16)), .wr)], [], 768⟩)])]
def F_ref05_Free.sig : Sig := ⟨[.val true [.sl (.pr (.int .i64) (.pr (.int .i64) (.int .u16)))], .val false [.int .i64], .val false [.int .i64]], [(true, [.own (.pr (.int .i64) (.pr (.int .i64) (.int .u16))) 0 .wr]), (false, [.dat (.int .i64)])]⟩
noncomputable def F_ref05_Free.S : Summ := ⟨19, F_ref05_Free.sig, F_ref05_Free⟩
noncomputable def F_ref05_Free.G : List Summ := [F_ref05_Check.S, F_ref05_Has.S, F_ref05_Twin.S]
theorem F_ref05_Free.eq : absF Tryd.prog F_ref05_Free.G F_ref05_Free.ann F_ref05_Free.sig Tryd.f19 = F_ref05_Free := by kernel_rfl
theorem F_ref05_Free.sound : Sound Tryd.prog F_ref05_Free.S := absF_sound (fn := Tryd.f19) (Γ := F_ref05_Free.G) (all_cons F_ref05_Check.sound (all_cons F_ref05_Has.sound (all_cons F_ref05_Twin.sound all_nil))) mix (by kernel_rfl) (by kernel_rfl) (fun m p => congrFun (congrFun F_ref05_Free.eq m) p)
/-! ### cloakroom/slab.Last -/
noncomputable def F_slab_Last (m : Fu) (p : (List (Int × Int × Int)) × Int) : Option (Int × Int) :=
  let a0 := p.1
  let a1 := p.2
  (F_slab_asked m (a0, a1)).bind fun x1 =>
  bif x1 != (0 : Int) then some ((0 : Int), x1) else
  (F_slab_owned m (a0, a1)).bind fun x3 =>
  some (x3.2, (0 : Int))
def F_slab_Last.ann : List (Nat × Ann) := []
def F_slab_Last.sig : Sig := ⟨[.val true [.sl (.pr (.int .i64) (.pr (.int .i64) (.int .u16)))], .val false [.int .i64]], [(false, [.dat (.int .i64)]), (false, [.dat (.int .i64)])]⟩
noncomputable def F_slab_Last.S : Summ := ⟨21, F_slab_Last.sig, F_slab_Last⟩
noncomputable def F_slab_Last.G : List Summ := [F_slab_asked.S, F_slab_owned.S]
theorem F_slab_Last.eq : absF Tryd.prog F_slab_Last.G F_slab_Last.ann F_slab_Last.sig Tryd.f21 = F_slab_Last := by kernel_rfl
theorem F_slab_Last.sound : Sound Tryd.prog F_slab_Last.S := absF_sound (fn := Tryd.f21) (Γ := F_slab_Last.G) (all_cons F_slab_asked.sound (all_cons F_slab_owned.sound all_nil)) mix (by kernel_rfl) (by kernel_rfl) (fun m p => congrFun (congrFun F_slab_Last.eq m) p)
/-! ### cloakroom/cloakroomref05.Last -/
noncomputable def F_ref05_Last.l58 (m : Fu) (a0 : List (Int × Int × Int)) (a1 : Int) (x1 : Int × Int) : Option (Step (Int × Int) Int) :=
  bif decide (x1.2 < (a0.length : Int)) then
    bif (decide ((0 : Int) ≤ x1.2)) && (decide (x1.2 < (a0.length : Int))) then
      let x4 := a0.getD x1.2.toNat (0, (0, 0))
      (F_ref05_IsFree m (x4.1, x4.2.1, x4.2.2)).bind fun x5 =>
      bif !x5 then
        bif (decide ((0 : Int) ≤ x1.2)) && (decide (x1.2 < (a0.length : Int))) then
          bif ((a0.getD x1.2.toNat (0, (0, 0))).1) == a1 then
            some (.next (x1.2, (IntKind.i64.wrap (x1.2 + (1 : Int)))))
          else some (.next (x1.1, (IntKind.i64.wrap (x1.2 + (1 : Int)))))
        else none
      else some (.next (x1.1, (IntKind.i64.wrap (x1.2 + (1 : Int)))))
    else none
  else some (.fin x1.1)
noncomputable def F_ref05_Last (m : Fu) (p : (List (Int × Int × Int)) × Int) : Option (Int) :=
  let a0 := p.1
  let a1 := p.2
  (iter m (F_ref05_Last.l58 m a0 a1) ((-1 : Int), (0 : Int))).bind fun x12 =>
  some x12
def F_ref05_Last.ann : List (Nat × Ann) := [(58, .loop ⟨[(5, false, [.dat (.int .i64)]), (6, false, [.dat (.int .i64)])], [], [], [], 96⟩ [(.exit 0, ⟨[(5, false, [.dat (.int .i64)])], [], [], [], 96⟩)])]
def F_ref05_Last.sig : Sig := ⟨[.val true [.sl (.pr (.int .i64) (.pr (.int .i64) (.int .u16)))], .val false [.int .i64]], [(false, [.dat (.int .i64)])]⟩
noncomputable def F_ref05_Last.S : Summ := ⟨24, F_ref05_Last.sig, F_ref05_Last⟩
noncomputable def F_ref05_Last.G : List Summ := [F_ref05_IsFree.S]
theorem F_ref05_Last.eq : absF Tryd.prog F_ref05_Last.G F_ref05_Last.ann F_ref05_Last.sig Tryd.f24 = F_ref05_Last := by kernel_rfl
theorem F_ref05_Last.sound : Sound Tryd.prog F_ref05_Last.S := absF_sound (fn := Tryd.f24) (Γ := F_ref05_Last.G) (all_cons F_ref05_IsFree.sound all_nil) mix (by kernel_rfl) (by kernel_rfl) (fun m p => congrFun (congrFun F_ref05_Last.eq m) p)
/-! ### cloakroom/cloakroomlaw05.SlabTakes -/
noncomputable def F_law05_SlabTakes.s32766 (m : Fu) (a1 : Int) (x26 : Int) : Option (Int) :=
  bif x26 == (0 : Int) then
    (F_ref05_IsTenant m a1).bind fun x28 =>
    bif !x28 then
      some (2 : Int)
    else some x26
  else some x26
noncomputable def F_law05_SlabTakes.s65534 (m : Fu) (a0 : List (Int × Int × Int)) (a1 : Int) (x24 : Int × Int) (x25 : Int × Int) (x30 : Int) : Option (Bool ⊕ Unit) :=
  bif x24.2 != x30 then some (Sum.inl false) else
  bif x25.2 != x30 then some (Sum.inl false) else
  bif x30 == (0 : Int) then
    (F_ref05_Owned m (a0, a1)).bind fun x34 =>
    bif x24.1 != x34 then some (Sum.inl false) else
    (F_ref05_Last m (a0, a1)).bind fun x36 =>
    bif x25.1 != x36 then some (Sum.inl false) else
    bif x30 != (0 : Int) then
      bif x24.1 != (0 : Int) then some (Sum.inl false) else
      bif x25.1 != (0 : Int) then
        some (Sum.inl false)
      else some (Sum.inr ())
    else some (Sum.inr ())
  else
    bif x30 != (0 : Int) then
      bif x24.1 != (0 : Int) then some (Sum.inl false) else
      bif x25.1 != (0 : Int) then
        some (Sum.inl false)
      else some (Sum.inr ())
    else some (Sum.inr ())
noncomputable def F_law05_SlabTakes.l524282 (m : Fu) (x47 : Int × (List (Int × Int × Int))) : Option (Step (Int × (List (Int × Int × Int))) Unit) :=
  bif decide (x47.1 < (x47.2.length : Int)) then
    bif (decide ((0 : Int) ≤ x47.1)) && (decide (x47.1 < (x47.2.length : Int))) then
      bif Nat.blt x47.1.toNat x47.2.length then
        some (.next ((IntKind.i64.wrap (x47.1 + (1 : Int))), (x47.2.set x47.1.toNat (((x47.2.getD x47.1.toNat (0, (0, 0))).1), ((((x47.2.getD x47.1.toNat (0, (0, 0))).2).1), (77 : Int))))))
      else none
    else none
  else some (.fin ())
noncomputable def F_law05_SlabTakes.l1048570 (m : Fu) (x53 : Int × (List (Int × Int × Int))) : Option (Step (Int × (List (Int × Int × Int))) Unit) :=
  bif decide (x53.1 < (x53.2.length : Int)) then
    bif (decide ((0 : Int) ≤ x53.1)) && (decide (x53.1 < (x53.2.length : Int))) then
      bif Nat.blt x53.1.toNat x53.2.length then
        some (.next ((IntKind.i64.wrap (x53.1 + (1 : Int))), (x53.2.set x53.1.toNat (((x53.2.getD x53.1.toNat (0, (0, 0))).1), ((((x53.2.getD x53.1.toNat (0, (0, 0))).2).1), (77 : Int))))))
      else none
    else none
  else some (.fin ())
noncomputable def F_law05_SlabTakes (m : Fu) (p : (List (Int × Int × Int)) × Int × Int × Int × Int × Int) : Option (Bool) :=
  let a0 := p.1
  let a1 := p.2.1
  let a2 := p.2.2.1
  let a3 := p.2.2.2.1
  let a4 := p.2.2.2.2.1
  let a5 := p.2.2.2.2.2
  bif decide ((100 : Int) < (a0.length : Int)) then some true else
  (F_ref05_Twin m a0).bind fun x3 =>
  (F_slab_New m a3).bind fun x4 =>
  (F_ref05_New m a3).bind fun x5 =>
  (F_slab_Take m (x3, a1, a2, a3)).bind fun x6 =>
  (F_ref05_Take m (a0, a1, a2, a3)).bind fun x7 =>
  (F_slab_Free m (x3, a4, a5)).bind fun x8 =>
  (F_ref05_Free m (a0, a4, a5)).bind fun x9 =>
  (F_ref05_Same m (x4.1, x5.1)).bind fun x10 =>
  bif !x10 then some false else
  bif x4.2 != x5.2 then some false else
  (F_ref05_Same m (x6.1, x7.1)).bind fun x13 =>
  bif !x13 then some false else
  bif x6.2.1 != x7.2.1 then some false else
  bif x6.2.2.1 != x7.2.2.1 then some false else
  bif x6.2.2.2 != x7.2.2.2 then some false else
  (F_ref05_Same m (x8.1, x9.1)).bind fun x18 =>
  bif !x18 then some false else
  bif x8.2 != x9.2 then some false else
  (F_slab_Check m x3).bind fun x21 =>
  (F_ref05_Check m a0).bind fun x22 =>
  bif x21 != x22 then some false else
  (F_slab_Owned m (x3, a1)).bind fun x24 =>
  (F_slab_Last m (x3, a1)).bind fun x25 =>
  (F_ref05_Check m a0).bind fun x26 =>
  (F_law05_SlabTakes.s32766 m a1 x26).bind fun x30 =>
  (F_law05_SlabTakes.s65534 m a0 a1 x24 x25 x30).bind fun x44 =>
  match x44 with
  | .inl x45 =>
    some x45
  | .inr x46 =>
    (iter m (F_law05_SlabTakes.l524282 m) ((0 : Int), x6.1)).bind fun x52 =>
    (iter m (F_law05_SlabTakes.l1048570 m) ((0 : Int), x8.1)).bind fun x58 =>
    (F_ref05_Same m (x3, a0)).bind fun x59 =>
    some x59
def F_law05_SlabTakes.ann : List (Nat × Ann) := [(32766, .jnt [(.normal, ⟨[(34, false, [.dat (.int .i64)])], [], [], [], 2384⟩)]),
  (65534, .jnt [(.ret, ⟨[(12, false, [.dat .bool])], [], [], [], 2384⟩), (.normal, ⟨[], [], [], [], 2384⟩)]),
  (524282, .loop ⟨[(35, false, [.dat (.int .i64)])], [], [(576, .pr (.int .i64) (.pr (.int .i64) (.int .u16)), .wr)], [], 2400⟩ [(.exit 0, ⟨[], [], [], [576], 2400⟩)]),
  (1048570, .loop ⟨[(36, false, [.dat (.int .i64)])], [], [(1040, .pr (.int .i64) (.pr (.int .i64) (.int .u16)), .wr)], [], 2416⟩ [(.exit 2, ⟨[], [], [], [1040], 2416⟩)])]
def F_law05_SlabTakes.sig : Sig := ⟨[.val true [.sl (.pr (.int .i64) (.pr (.int .i64) (.int .u16)))], .val false [.int .i64], .val false [.int .i64], .val false [.int .i64], .val false [.int .i64], .val false [.int .i64]], [(false, [.dat .bool])]⟩
noncomputable def F_law05_SlabTakes.S : Summ := ⟨6, F_law05_SlabTakes.sig, F_law05_SlabTakes⟩
noncomputable def F_law05_SlabTakes.G : List Summ := [F_ref05_Twin.S, F_slab_New.S, F_ref05_New.S, F_slab_Take.S, F_ref05_Take.S, F_slab_Free.S, F_ref05_Free.S, F_ref05_Same.S, F_slab_Check.S, F_ref05_Check.S, F_slab_Owned.S, F_slab_Last.S, F_ref05_IsTenant.S, F_ref05_Owned.S, F_ref05_Last.S]
theorem F_law05_SlabTakes.eq : absF Tryd.prog F_law05_SlabTakes.G F_law05_SlabTakes.ann F_law05_SlabTakes.sig Tryd.f6 = F_law05_SlabTakes := by kernel_rfl
theorem F_law05_SlabTakes.sound : Sound Tryd.prog F_law05_SlabTakes.S := absF_sound (fn := Tryd.f6) (Γ := F_law05_SlabTakes.G) (all_cons F_ref05_Twin.sound (all_cons F_slab_New.sound (all_cons F_ref05_New.sound (all_cons F_slab_Take.sound (all_cons F_ref05_Take.sound (all_cons F_slab_Free.sound (all_cons F_ref05_Free.sound (all_cons F_ref05_Same.sound (all_cons F_slab_Check.sound (all_cons F_ref05_Check.sound (all_cons F_slab_Owned.sound (all_cons F_slab_Last.sound (all_cons F_ref05_IsTenant.sound (all_cons F_ref05_Owned.sound (all_cons F_ref05_Last.sound all_nil))))))))))))))) mix (by kernel_rfl) (by kernel_rfl) (fun m p => congrFun (congrFun F_law05_SlabTakes.eq m) p)
end Go.Proofs.YtmkcmchmmemcgaaDoor
