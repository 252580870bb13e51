/- The pure functions that the program's functions compute, and that they compute them. Printed by a program of this session (gen.py). -/
import Derived.Test.YtnnfjeofdcjfoaaDoorProg
import Derived.Test.YtnnfjeofdcjfoaaDoorA3
import Derived.WalkKit
import Derived.Tactics
import Derived.Tactics2
import Derived.StillTactics
import Derived.Laws.Pointers
import Derived.RegionTactic
import Derived.LoopTactic
import Derived.ChangeAlike
import Derived.Laws.Bits64b
namespace Go.Proofs.YtnnfjeofdcjfoaaDoor
open Go.Abs Go.RowKit
set_option maxRecDepth 100000
theorem mix : Tryd.prog.follows .mixedOrders = true := by kernel_rfl
/-! ### cloakroom/quota.may -/
noncomputable def F_quota_may.l58 (m : Fu) (a0 : Int) (a1 : List Int) (x1 : Int) (x2 : Int × Int) : Option (Step (Int × Int) (Bool ⊕ Int)) :=
  bif decide (x2.2 < x1) then
    bif (decide ((0 : Int) ≤ x2.2)) && (decide (x2.2 < (a1.length : Int))) then
      let x4 := a1.getD x2.2.toNat 0
      bif decide (x4 < (0 : Int)) then some (.fin (Sum.inl false)) else
      bif decide (a0 < x4) then
        some (.fin (Sum.inl false))
      else some (.next ((IntKind.i64.wrap (x2.1 + x4)), (IntKind.i64.wrap (x2.2 + (1 : Int)))))
    else none
  else some (.fin (Sum.inr x2.1))
noncomputable def F_quota_may (m : Fu) (p : Int × (List Int)) : Option (Bool) :=
  let a0 := p.1
  let a1 := p.2
  (iter m (F_quota_may.l58 m a0 a1 (a1.length : Int)) ((0 : Int), (0 : Int))).bind fun x9 =>
  match x9 with
  | .inl x10 =>
    some x10
  | .inr x11 =>
    bif decide ((0 : Int) < (a1.length : Int)) then
      bif decide ((a1.length : Int) ≤ (4 : Int)) then
        some (decide (x11 ≤ a0))
      else some false
    else some false
def F_quota_may.ann : List (Nat × Ann) := [(58, .loop ⟨[(5, false, [.dat (.int .i64)]), (10, false, [.dat (.int .i64)])], [], [], [], 112⟩ [(.ret, ⟨[(4, false, [.dat .bool])], [], [], [], 112⟩), (.exit 0, ⟨[(5, false, [.dat (.int .i64)])], [], [], [], 112⟩)])]
def F_quota_may.sig : Sig := ⟨[.val false [.int .i64], .val false [.sl (.int .i64)]], [(false, [.dat .bool])]⟩
noncomputable def F_quota_may.S : Summ := ⟨21, F_quota_may.sig, F_quota_may⟩
noncomputable def F_quota_may.G : List Summ := []
theorem F_quota_may.eq : absF Tryd.prog F_quota_may.G F_quota_may.ann F_quota_may.sig Tryd.f21 = F_quota_may := by kernel_rfl
theorem F_quota_may.sound : Sound Tryd.prog F_quota_may.S := absF_sound (fn := Tryd.f21) (Γ := F_quota_may.G) all_nil mix (by kernel_rfl) (by kernel_rfl) (fun m p => congrFun (congrFun F_quota_may.eq m) p)
/-! ### cloakroom/quota.Check -/
noncomputable def F_quota_Check (m : Fu) (p : Int × (List Int)) : Option (Int) :=
  let a0 := p.1
  let a1 := p.2
  bif decide (a0 < (1 : Int)) then some (2 : Int) else
  bif decide ((16 : Int) < a0) then some (2 : Int) else
  bif decide ((4 : Int) < (a1.length : Int)) then some (80 : Int) else
  (F_quota_may m (a0, a1)).bind fun x5 =>
  bif !x5 then
    some (80 : Int)
  else some (0 : Int)
def F_quota_Check.ann : List (Nat × Ann) := []
def F_quota_Check.sig : Sig := ⟨[.val false [.int .i64], .val false [.sl (.int .i64)]], [(false, [.dat (.int .i64)])]⟩
noncomputable def F_quota_Check.S : Summ := ⟨10, F_quota_Check.sig, F_quota_Check⟩
noncomputable def F_quota_Check.G : List Summ := [F_quota_may.S]
theorem F_quota_Check.eq : absF Tryd.prog F_quota_Check.G F_quota_Check.ann F_quota_Check.sig Tryd.f10 = F_quota_Check := by kernel_rfl
theorem F_quota_Check.sound : Sound Tryd.prog F_quota_Check.S := absF_sound (fn := Tryd.f10) (Γ := F_quota_Check.G) (all_cons F_quota_may.sound all_nil) mix (by kernel_rfl) (by kernel_rfl) (fun m p => congrFun (congrFun F_quota_Check.eq m) p)
/-! ### slices.Clone[[]int,int] -/
noncomputable def F_slices_Clone_int (m : Fu) (p : List Int) : Option (List Int) :=
  let a0 := p
  match a0 with
  | [] => same2
   (
    some ([] : List Int))
   (
    bif Nat.ble (0 + a0.length) 4294967296 then
      some (([] : List Int) ++ a0)
    else none)
  | _ :: _ =>
    bif Nat.ble (0 + a0.length) 4294967296 then
      some (([] : List Int) ++ a0)
    else none
def F_slices_Clone_int.ann : List (Nat × Ann) := []
def F_slices_Clone_int.sig : Sig := ⟨[.val false [.sl (.int .i64)]], [(false, [.own (.int .i64) 0 .wr])]⟩
noncomputable def F_slices_Clone_int.S : Summ := ⟨20, F_slices_Clone_int.sig, F_slices_Clone_int⟩
noncomputable def F_slices_Clone_int.G : List Summ := []
theorem F_slices_Clone_int.eq : absF Tryd.prog F_slices_Clone_int.G F_slices_Clone_int.ann F_slices_Clone_int.sig Tryd.f20 = F_slices_Clone_int := by kernel_rfl
theorem F_slices_Clone_int.sound : Sound Tryd.prog F_slices_Clone_int.S := absF_sound (fn := Tryd.f20) (Γ := F_slices_Clone_int.G) all_nil mix (by kernel_rfl) (by kernel_rfl) (fun m p => congrFun (congrFun F_slices_Clone_int.eq m) p)
noncomputable def C_slices_Clone_int (m : Fu) (p : List Int) : Option (List Int) := bif Nat.ble p.length 4294967296 then some p else none
theorem C_slices_Clone_int.is : F_slices_Clone_int = C_slices_Clone_int := by
  funext m p
  have h0 : Nat.ble 0 4294967296 = true := rfl
  cases p <;> simp [F_slices_Clone_int, C_slices_Clone_int, same2_self, h0]
noncomputable def C_slices_Clone_int.S : Summ := ⟨20, F_slices_Clone_int.sig, C_slices_Clone_int⟩
theorem C_slices_Clone_int.sound : Sound Tryd.prog C_slices_Clone_int.S := by
  have h := F_slices_Clone_int.sound
  unfold F_slices_Clone_int.S at h
  rw [C_slices_Clone_int.is] at h
  exact h
/-! ### cloakroom/quota.Set -/
noncomputable def F_quota_Set (m : Fu) (p : Int × (List Int) × Int × Int) : Option ((List Int) × Int) :=
  let a0 := p.1
  let a1 := p.2.1
  let a2 := p.2.2.1
  let a3 := p.2.2.2
  (F_quota_Check m (a0, a1)).bind fun x1 =>
  bif x1 != (0 : Int) then some (([] : List Int), x1) else
  bif decide (a2 < (0 : Int)) then some (([] : List Int), (2 : Int)) else
  bif decide ((a1.length : Int) ≤ a2) then some (([] : List Int), (2 : Int)) else
  bif decide (a3 < (0 : Int)) then some (([] : List Int), (2 : Int)) else
  bif decide ((16 : Int) < a3) then some (([] : List Int), (2 : Int)) else
  (C_slices_Clone_int m a1).bind fun x8 =>
  bif (decide ((0 : Int) ≤ a2)) && (decide (a2 < (x8.length : Int))) then
    bif Nat.blt a2.toNat x8.length then
      let x9 := x8.set a2.toNat a3
      (F_quota_may m (a0, x9)).bind fun x10 =>
      bif !x10 then
        some (([] : List Int), (80 : Int))
      else some (x9, (0 : Int))
    else none
  else none
def F_quota_Set.ann : List (Nat × Ann) := []
def F_quota_Set.sig : Sig := ⟨[.val false [.int .i64], .val false [.sl (.int .i64)], .val false [.int .i64], .val false [.int .i64]], [(false, [.own (.int .i64) 0 .wr]), (false, [.dat (.int .i64)])]⟩
noncomputable def F_quota_Set.S : Summ := ⟨8, F_quota_Set.sig, F_quota_Set⟩
noncomputable def F_quota_Set.G : List Summ := [F_quota_Check.S, C_slices_Clone_int.S, F_quota_may.S]
theorem F_quota_Set.eq : absF Tryd.prog F_quota_Set.G F_quota_Set.ann F_quota_Set.sig Tryd.f8 = F_quota_Set := by kernel_rfl
theorem F_quota_Set.sound : Sound Tryd.prog F_quota_Set.S := absF_sound (fn := Tryd.f8) (Γ := F_quota_Set.G) (all_cons F_quota_Check.sound (all_cons C_slices_Clone_int.sound (all_cons F_quota_may.sound all_nil))) mix (by kernel_rfl) (by kernel_rfl) (fun m p => congrFun (congrFun F_quota_Set.eq m) p)
/-! ### cloakroom/cloakroomlaw08.same -/
noncomputable def F_law08_same.l58 (m : Fu) (a0 : List Int) (a1 : List Int) (x4 : Int) : Option (Step Int (Bool ⊕ Unit)) :=
  bif decide (x4 < (a0.length : Int)) then
    bif (decide ((0 : Int) ≤ x4)) && (decide (x4 < (a0.length : Int))) then
      bif (decide ((0 : Int) ≤ x4)) && (decide (x4 < (a1.length : Int))) then
        bif (a0.getD x4.toNat 0) != (a1.getD x4.toNat 0) then
          some (.fin (Sum.inl false))
        else some (.next (IntKind.i64.wrap (x4 + (1 : Int))))
      else none
    else none
  else some (.fin (Sum.inr ()))
noncomputable def F_law08_same (m : Fu) (p : (List Int) × (List Int)) : Option (Bool) :=
  let a0 := p.1
  let a1 := p.2
  bif (a0.length : Int) != (a1.length : Int) then some false else
  (iter m (F_law08_same.l58 m a0 a1) (0 : Int)).bind fun x11 =>
  match x11 with
  | .inl x12 =>
    some x12
  | .inr x13 =>
    some true
def F_law08_same.ann : List (Nat × Ann) := [(58, .loop ⟨[(5, false, [.dat (.int .i64)])], [], [], [], 144⟩ [(.ret, ⟨[(4, false, [.dat .bool])], [], [], [], 144⟩), (.exit 0, ⟨[], [], [], [], 144⟩)])]
def F_law08_same.sig : Sig := ⟨[.val false [.sl (.int .i64)], .val false [.sl (.int .i64)]], [(false, [.dat .bool])]⟩
noncomputable def F_law08_same.S : Summ := ⟨9, F_law08_same.sig, F_law08_same⟩
noncomputable def F_law08_same.G : List Summ := []
theorem F_law08_same.eq : absF Tryd.prog F_law08_same.G F_law08_same.ann F_law08_same.sig Tryd.f9 = F_law08_same := by kernel_rfl
theorem F_law08_same.sound : Sound Tryd.prog F_law08_same.S := absF_sound (fn := Tryd.f9) (Γ := F_law08_same.G) all_nil mix (by kernel_rfl) (by kernel_rfl) (fun m p => congrFun (congrFun F_law08_same.eq m) p)
/-! ### cloakroom/cloakroomlaw08.alive -/
noncomputable def F_law08_alive (m : Fu) (p : Unit) : Option (Bool) :=
  (F_quota_Set m ((4 : Int), ([2, 1] : List Int), (1 : Int), (2 : Int))).bind fun x1 =>
  bif x1.2 == (0 : Int) then
    (F_law08_same m (x1.1, ([2, 2] : List Int))).bind fun x3 =>
    bif x3 then
      (F_quota_Check m ((4 : Int), ([3, 2] : List Int))).bind fun x4 =>
      some (x4 == (80 : Int))
    else some false
  else some false
def F_law08_alive.ann : List (Nat × Ann) := []
def F_law08_alive.sig : Sig := ⟨[], [(false, [.dat .bool])]⟩
noncomputable def F_law08_alive.S : Summ := ⟨4, F_law08_alive.sig, F_law08_alive⟩
noncomputable def F_law08_alive.G : List Summ := [F_quota_Set.S, F_law08_same.S, F_quota_Check.S]
theorem F_law08_alive.eq : absF Tryd.prog F_law08_alive.G F_law08_alive.ann F_law08_alive.sig Tryd.f4 = F_law08_alive := by kernel_rfl
theorem F_law08_alive.sound : Sound Tryd.prog F_law08_alive.S := absF_sound (fn := Tryd.f4) (Γ := F_law08_alive.G) (all_cons F_quota_Set.sound (all_cons F_law08_same.sound (all_cons F_quota_Check.sound all_nil))) mix (by kernel_rfl) (by kernel_rfl) (fun m p => congrFun (congrFun F_law08_alive.eq m) p)
/-! ### cloakroom/slab.tenanted -/
noncomputable def F_slab_tenanted (m : Fu) (p : Int) : Option (Bool) :=
  let a0 := p
  bif decide ((0 : Int) ≤ a0) then
    some (decide (a0 < (4 : Int)))
  else some false
def F_slab_tenanted.ann : List (Nat × Ann) := []
def F_slab_tenanted.sig : Sig := ⟨[.val false [.int .i64]], [(false, [.dat .bool])]⟩
noncomputable def F_slab_tenanted.S : Summ := ⟨15, F_slab_tenanted.sig, F_slab_tenanted⟩
noncomputable def F_slab_tenanted.G : List Summ := []
theorem F_slab_tenanted.eq : absF Tryd.prog F_slab_tenanted.G F_slab_tenanted.ann F_slab_tenanted.sig Tryd.f15 = F_slab_tenanted := by kernel_rfl
theorem F_slab_tenanted.sound : Sound Tryd.prog F_slab_tenanted.S := absF_sound (fn := Tryd.f15) (Γ := F_slab_tenanted.G) all_nil mix (by kernel_rfl) (by kernel_rfl) (fun m p => congrFun (congrFun F_slab_tenanted.eq m) p)
/-! ### cloakroom/slab.classed -/
noncomputable def F_slab_classed (m : Fu) (p : Int) : Option (Bool) :=
  let a0 := p
  bif decide ((0 : Int) ≤ a0) then
    some (decide (a0 < (5 : Int)))
  else some false
def F_slab_classed.ann : List (Nat × Ann) := []
def F_slab_classed.sig : Sig := ⟨[.val false [.int .i64]], [(false, [.dat .bool])]⟩
noncomputable def F_slab_classed.S : Summ := ⟨16, F_slab_classed.sig, F_slab_classed⟩
noncomputable def F_slab_classed.G : List Summ := []
theorem F_slab_classed.eq : absF Tryd.prog F_slab_classed.G F_slab_classed.ann F_slab_classed.sig Tryd.f16 = F_slab_classed := by kernel_rfl
theorem F_slab_classed.sound : Sound Tryd.prog F_slab_classed.S := absF_sound (fn := Tryd.f16) (Γ := F_slab_classed.G) all_nil mix (by kernel_rfl) (by kernel_rfl) (fun m p => congrFun (congrFun F_slab_classed.eq m) p)
/-! ### cloakroom/slab.size -/
noncomputable def F_slab_size (m : Fu) (p : Int) : Option (Int) :=
  let a0 := p
  bif decide (a0 < (0 : Int)) then
    none
  else some (shlOp .i64 (16 : Int) a0)
def F_slab_size.ann : List (Nat × Ann) := []
def F_slab_size.sig : Sig := ⟨[.val false [.int .i64]], [(false, [.dat (.int .i64)])]⟩
noncomputable def F_slab_size.S : Summ := ⟨27, F_slab_size.sig, F_slab_size⟩
noncomputable def F_slab_size.G : List Summ := []
theorem F_slab_size.eq : absF Tryd.prog F_slab_size.G F_slab_size.ann F_slab_size.sig Tryd.f27 = F_slab_size := by kernel_rfl
theorem F_slab_size.sound : Sound Tryd.prog F_slab_size.S := absF_sound (fn := Tryd.f27) (Γ := F_slab_size.G) all_nil mix (by kernel_rfl) (by kernel_rfl) (fun m p => congrFun (congrFun F_slab_size.eq m) p)
/-! ### cloakroom/slab.chunks -/
noncomputable def F_slab_chunks (m : Fu) (p : Int) : Option (Int) :=
  let a0 := p
  (F_slab_size m a0).bind fun x1 =>
  bif x1 == 0 then
    none
  else some (IntKind.i64.wrap ((256 : Int).tdiv x1))
def F_slab_chunks.ann : List (Nat × Ann) := []
def F_slab_chunks.sig : Sig := ⟨[.val false [.int .i64]], [(false, [.dat (.int .i64)])]⟩
noncomputable def F_slab_chunks.S : Summ := ⟨25, F_slab_chunks.sig, F_slab_chunks⟩
noncomputable def F_slab_chunks.G : List Summ := [F_slab_size.S]
theorem F_slab_chunks.eq : absF Tryd.prog F_slab_chunks.G F_slab_chunks.ann F_slab_chunks.sig Tryd.f25 = F_slab_chunks := by kernel_rfl
theorem F_slab_chunks.sound : Sound Tryd.prog F_slab_chunks.S := absF_sound (fn := Tryd.f25) (Γ := F_slab_chunks.G) (all_cons F_slab_size.sound all_nil) mix (by kernel_rfl) (by kernel_rfl) (fun m p => congrFun (congrFun F_slab_chunks.eq m) p)
/-! ### cloakroom/slab.full -/
noncomputable def F_slab_full (m : Fu) (p : Int) : Option (Int) :=
  let a0 := p
  (F_slab_chunks m a0).bind fun x1 =>
  bif decide (x1 < (0 : Int)) then
    none
  else some (IntKind.u16.wrap ((shlOp .u16 (1 : Int) x1) - (1 : Int)))
def F_slab_full.ann : List (Nat × Ann) := []
def F_slab_full.sig : Sig := ⟨[.val false [.int .i64]], [(false, [.dat (.int .u16)])]⟩
noncomputable def F_slab_full.S : Summ := ⟨17, F_slab_full.sig, F_slab_full⟩
noncomputable def F_slab_full.G : List Summ := [F_slab_chunks.S]
theorem F_slab_full.eq : absF Tryd.prog F_slab_full.G F_slab_full.ann F_slab_full.sig Tryd.f17 = F_slab_full := by kernel_rfl
theorem F_slab_full.sound : Sound Tryd.prog F_slab_full.S := absF_sound (fn := Tryd.f17) (Γ := F_slab_full.G) (all_cons F_slab_chunks.sound all_nil) mix (by kernel_rfl) (by kernel_rfl) (fun m p => congrFun (congrFun F_slab_full.eq m) p)
/-! ### cloakroom/slab.may -/
noncomputable def F_slab_may (m : Fu) (p : Int × Int × Int) : Option (Bool) :=
  let a0 := p.1
  let a1 := p.2.1
  let a2 := p.2.2
  bif a2 == (0 : Int) then some ((a0 == (0 : Int)) && ((a1 == (0 : Int)) && ((a2 == (0 : Int)) && true))) else
  (F_slab_tenanted m a0).bind fun x3 =>
  bif x3 then
    (F_slab_classed m a1).bind fun x4 =>
    bif x4 then
      (F_slab_full m a1).bind fun x5 =>
      some ((bitsOp .andNot .u16 a2 x5) == (0 : Int))
    else some false
  else some false
def F_slab_may.ann : List (Nat × Ann) := []
def F_slab_may.sig : Sig := ⟨[.val true [.int .i64, .int .i64, .int .u16]], [(false, [.dat .bool])]⟩
noncomputable def F_slab_may.S : Summ := ⟨24, F_slab_may.sig, F_slab_may⟩
noncomputable def F_slab_may.G : List Summ := [F_slab_tenanted.S, F_slab_classed.S, F_slab_full.S]
theorem F_slab_may.eq : absF Tryd.prog F_slab_may.G F_slab_may.ann F_slab_may.sig Tryd.f24 = F_slab_may := by kernel_rfl
theorem F_slab_may.sound : Sound Tryd.prog F_slab_may.S := absF_sound (fn := Tryd.f24) (Γ := F_slab_may.G) (all_cons F_slab_tenanted.sound (all_cons F_slab_classed.sound (all_cons F_slab_full.sound all_nil))) mix (by kernel_rfl) (by kernel_rfl) (fun m p => congrFun (congrFun F_slab_may.eq m) p)
/-! ### cloakroom/slab.Check$1 -/
noncomputable def F_slab_Check_c1 (m : Fu) (p : Int × Int × Int) : Option (Bool) :=
  let a0 := p.1
  let a1 := p.2.1
  let a2 := p.2.2
  (F_slab_may m (a0, a1, a2)).bind fun x1 =>
  some (!x1)
def F_slab_Check_c1.ann : List (Nat × Ann) := []
def F_slab_Check_c1.sig : Sig := ⟨[.val true [.int .i64, .int .i64, .int .u16]], [(false, [.dat .bool])]⟩
noncomputable def F_slab_Check_c1.S : Summ := ⟨23, F_slab_Check_c1.sig, F_slab_Check_c1⟩
noncomputable def F_slab_Check_c1.G : List Summ := [F_slab_may.S]
theorem F_slab_Check_c1.eq : absF Tryd.prog F_slab_Check_c1.G F_slab_Check_c1.ann F_slab_Check_c1.sig Tryd.f23 = F_slab_Check_c1 := by kernel_rfl
theorem F_slab_Check_c1.sound : Sound Tryd.prog F_slab_Check_c1.S := absF_sound (fn := Tryd.f23) (Γ := F_slab_Check_c1.G) (all_cons F_slab_may.sound all_nil) mix (by kernel_rfl) (by kernel_rfl) (fun m p => congrFun (congrFun F_slab_Check_c1.eq m) p)
/-! ### slices.IndexFunc[[]cloakroom/api.Page,cloakroom/api.Page] -/
noncomputable def F_slices_IndexFunc_Page.l26 (m : Fu) (a0 : List (Int × Int × Int)) (x1 : Int) (x2 : Int) : Option (Step Int (Int ⊕ Unit)) :=
  bif decide (x2 < x1) then
    bif (decide ((0 : Int) ≤ x2)) && (decide (x2 < (a0.length : Int))) then
      let x4 := a0.getD x2.toNat (0, (0, 0))
      (F_slab_Check_c1 m (x4.1, x4.2.1, x4.2.2)).bind fun x5 =>
      bif x5 then
        some (.fin (Sum.inl x2))
      else some (.next (IntKind.i64.wrap (x2 + (1 : Int))))
    else none
  else some (.fin (Sum.inr ()))
noncomputable def F_slices_IndexFunc_Page (m : Fu) (p : List (Int × Int × Int)) : Option (Int) :=
  let a0 := p
  (iter m (F_slices_IndexFunc_Page.l26 m a0 (a0.length : Int)) (0 : Int)).bind fun x7 =>
  match x7 with
  | .inl x8 =>
    some x8
  | .inr x9 =>
    some (-1 : Int)
def F_slices_IndexFunc_Page.ann : List (Nat × Ann) := [(26, .loop ⟨[(8, false, [.dat (.int .i64)])], [], [], [], 96⟩ [(.ret, ⟨[(4, false, [.dat (.int .i64)])], [], [], [], 96⟩), (.exit 0, ⟨[], [], [], [], 96⟩)])]
def F_slices_IndexFunc_Page.sig : Sig := ⟨[.val false [.sl (.pr (.int .i64) (.pr (.int .i64) (.int .u16)))], .fn 23 []], [(false, [.dat (.int .i64)])]⟩
noncomputable def F_slices_IndexFunc_Page.S : Summ := ⟨26, F_slices_IndexFunc_Page.sig, F_slices_IndexFunc_Page⟩
noncomputable def F_slices_IndexFunc_Page.G : List Summ := [F_slab_Check_c1.S]
theorem F_slices_IndexFunc_Page.eq : absF Tryd.prog F_slices_IndexFunc_Page.G F_slices_IndexFunc_Page.ann F_slices_IndexFunc_Page.sig Tryd.f26 = F_slices_IndexFunc_Page := by kernel_rfl
theorem F_slices_IndexFunc_Page.sound : Sound Tryd.prog F_slices_IndexFunc_Page.S := absF_sound (fn := Tryd.f26) (Γ := F_slices_IndexFunc_Page.G) (all_cons F_slab_Check_c1.sound all_nil) mix (by kernel_rfl) (by kernel_rfl) (fun m p => congrFun (congrFun F_slices_IndexFunc_Page.eq m) p)
/-! ### slices.ContainsFunc[[]cloakroom/api.Page,cloakroom/api.Page] -/
noncomputable def F_slices_ContainsFunc_Page (m : Fu) (p : List (Int × Int × Int)) : Option (Bool) :=
  let a0 := p
  (F_slices_IndexFunc_Page m a0).bind fun x1 =>
  some (decide ((0 : Int) ≤ x1))
def F_slices_ContainsFunc_Page.ann : List (Nat × Ann) := []
def F_slices_ContainsFunc_Page.sig : Sig := ⟨[.val false [.sl (.pr (.int .i64) (.pr (.int .i64) (.int .u16)))], .fn 23 []], [(false, [.dat .bool])]⟩
noncomputable def F_slices_ContainsFunc_Page.S : Summ := ⟨22, F_slices_ContainsFunc_Page.sig, F_slices_ContainsFunc_Page⟩
noncomputable def F_slices_ContainsFunc_Page.G : List Summ := [F_slices_IndexFunc_Page.S]
theorem F_slices_ContainsFunc_Page.eq : absF Tryd.prog F_slices_ContainsFunc_Page.G F_slices_ContainsFunc_Page.ann F_slices_ContainsFunc_Page.sig Tryd.f22 = F_slices_ContainsFunc_Page := by kernel_rfl
theorem F_slices_ContainsFunc_Page.sound : Sound Tryd.prog F_slices_ContainsFunc_Page.S := absF_sound (fn := Tryd.f22) (Γ := F_slices_ContainsFunc_Page.G) (all_cons F_slices_IndexFunc_Page.sound all_nil) mix (by kernel_rfl) (by kernel_rfl) (fun m p => congrFun (congrFun F_slices_ContainsFunc_Page.eq m) p)
/-! ### cloakroom/slab.Check -/
noncomputable def F_slab_Check (m : Fu) (p : List (Int × Int × Int)) : Option (Int) :=
  let a0 := p
  let x1 := (a0.length : Int)
  bif decide (x1 < (1 : Int)) then some (8 : Int) else
  bif decide ((16 : Int) < x1) then some (8 : Int) else
  (F_slices_ContainsFunc_Page m a0).bind fun x4 =>
  bif x4 then
    some (8 : Int)
  else some (0 : Int)
def F_slab_Check.ann : List (Nat × Ann) := []
def F_slab_Check.sig : Sig := ⟨[.val true [.sl (.pr (.int .i64) (.pr (.int .i64) (.int .u16)))]], [(false, [.dat (.int .i64)])]⟩
noncomputable def F_slab_Check.S : Summ := ⟨14, F_slab_Check.sig, F_slab_Check⟩
noncomputable def F_slab_Check.G : List Summ := [F_slices_ContainsFunc_Page.S]
theorem F_slab_Check.eq : absF Tryd.prog F_slab_Check.G F_slab_Check.ann F_slab_Check.sig Tryd.f14 = F_slab_Check := by kernel_rfl
theorem F_slab_Check.sound : Sound Tryd.prog F_slab_Check.S := absF_sound (fn := Tryd.f14) (Γ := F_slab_Check.G) (all_cons F_slices_ContainsFunc_Page.sound all_nil) mix (by kernel_rfl) (by kernel_rfl) (fun m p => congrFun (congrFun F_slab_Check.eq m) p)
/-! ### cloakroom/slab.asked -/
noncomputable def F_slab_asked (m : Fu) (p : (List (Int × Int × Int)) × Int) : Option (Int) :=
  let a0 := p.1
  let a1 := p.2
  (F_slab_Check m a0).bind fun x1 =>
  bif x1 != (0 : Int) then some x1 else
  (F_slab_tenanted m a1).bind fun x3 =>
  bif !x3 then
    some (2 : Int)
  else some (0 : Int)
def F_slab_asked.ann : List (Nat × Ann) := []
def F_slab_asked.sig : Sig := ⟨[.val true [.sl (.pr (.int .i64) (.pr (.int .i64) (.int .u16)))], .val false [.int .i64]], [(false, [.dat (.int .i64)])]⟩
noncomputable def F_slab_asked.S : Summ := ⟨11, F_slab_asked.sig, F_slab_asked⟩
noncomputable def F_slab_asked.G : List Summ := [F_slab_Check.S, F_slab_tenanted.S]
theorem F_slab_asked.eq : absF Tryd.prog F_slab_asked.G F_slab_asked.ann F_slab_asked.sig Tryd.f11 = F_slab_asked := by kernel_rfl
theorem F_slab_asked.sound : Sound Tryd.prog F_slab_asked.S := absF_sound (fn := Tryd.f11) (Γ := F_slab_asked.G) (all_cons F_slab_Check.sound (all_cons F_slab_tenanted.sound all_nil)) mix (by kernel_rfl) (by kernel_rfl) (fun m p => congrFun (congrFun F_slab_asked.eq m) p)
/-! ### cloakroom/slab.owned -/
noncomputable def F_slab_owned.s7474 (m : Fu) (a1 : Int) (x4 : Int × Int × Int) : Option (Bool) :=
  bif x4.2.2 != (0 : Int) then
    some (x4.1 == a1)
  else some false
noncomputable def F_slab_owned.l58 (m : Fu) (a0 : List (Int × Int × Int)) (a1 : Int) (x1 : Int) (x2 : Int × Int × Int) : Option (Step (Int × Int × Int) ((Int × Int))) :=
  bif decide (x2.2.2 < x1) then
    bif (decide ((0 : Int) ≤ x2.2.2)) && (decide (x2.2.2 < (a0.length : Int))) then
      (F_slab_owned.s7474 m a1 (a0.getD x2.2.2.toNat (0, (0, 0)))).bind fun x7 =>
      bif x7 then
        some (.next ((IntKind.i64.wrap (x2.1 + (1 : Int))), x2.2.2, (IntKind.i64.wrap (x2.2.2 + (1 : Int)))))
      else some (.next (x2.1, x2.2.1, (IntKind.i64.wrap (x2.2.2 + (1 : Int)))))
    else none
  else some (.fin (x2.1, x2.2.1))
noncomputable def F_slab_owned (m : Fu) (p : (List (Int × Int × Int)) × Int) : Option (Int × Int) :=
  let a0 := p.1
  let a1 := p.2
  (iter m (F_slab_owned.l58 m a0 a1 (a0.length : Int)) ((0 : Int), (-1 : Int), (0 : Int))).bind fun x11 =>
  some (x11.1, x11.2)
def F_slab_owned.ann : List (Nat × Ann) := [(58, .loop ⟨[(4, false, [.dat (.int .i64)]), (5, false, [.dat (.int .i64)]), (11, false, [.dat (.int .i64)])], [], [], [], 160⟩ [(.exit 0, ⟨[(4, false, [.dat (.int .i64)]), (5, false, [.dat (.int .i64)])], [], [], [], 160⟩)]),
  (7474, .jnt [(.normal, ⟨[(24, false, [.dat .bool])], [], [], [], 272⟩)])]
def F_slab_owned.sig : Sig := ⟨[.val true [.sl (.pr (.int .i64) (.pr (.int .i64) (.int .u16)))], .val false [.int .i64]], [(false, [.dat (.int .i64)]), (false, [.dat (.int .i64)])]⟩
noncomputable def F_slab_owned.S : Summ := ⟨12, F_slab_owned.sig, F_slab_owned⟩
noncomputable def F_slab_owned.G : List Summ := []
theorem F_slab_owned.eq : absF Tryd.prog F_slab_owned.G F_slab_owned.ann F_slab_owned.sig Tryd.f12 = F_slab_owned := by kernel_rfl
theorem F_slab_owned.sound : Sound Tryd.prog F_slab_owned.S := absF_sound (fn := Tryd.f12) (Γ := F_slab_owned.G) all_nil mix (by kernel_rfl) (by kernel_rfl) (fun m p => congrFun (congrFun F_slab_owned.eq m) p)
/-! ### cloakroom/slab.Owned -/
noncomputable def F_slab_Owned (m : Fu) (p : (List (Int × Int × Int)) × Int) : Option (Int × Int) :=
  let a0 := p.1
  let a1 := p.2
  (F_slab_asked m (a0, a1)).bind fun x1 =>
  bif x1 != (0 : Int) then some ((0 : Int), x1) else
  (F_slab_owned m (a0, a1)).bind fun x3 =>
  some (x3.1, (0 : Int))
def F_slab_Owned.ann : List (Nat × Ann) := []
def F_slab_Owned.sig : Sig := ⟨[.val true [.sl (.pr (.int .i64) (.pr (.int .i64) (.int .u16)))], .val false [.int .i64]], [(false, [.dat (.int .i64)]), (false, [.dat (.int .i64)])]⟩
noncomputable def F_slab_Owned.S : Summ := ⟨5, F_slab_Owned.sig, F_slab_Owned⟩
noncomputable def F_slab_Owned.G : List Summ := [F_slab_asked.S, F_slab_owned.S]
theorem F_slab_Owned.eq : absF Tryd.prog F_slab_Owned.G F_slab_Owned.ann F_slab_Owned.sig Tryd.f5 = F_slab_Owned := by kernel_rfl
theorem F_slab_Owned.sound : Sound Tryd.prog F_slab_Owned.S := absF_sound (fn := Tryd.f5) (Γ := F_slab_Owned.G) (all_cons F_slab_asked.sound (all_cons F_slab_owned.sound all_nil)) mix (by kernel_rfl) (by kernel_rfl) (fun m p => congrFun (congrFun F_slab_Owned.eq m) p)
/-! ### cloakroom/quota.more -/
noncomputable def F_quota_more (m : Fu) (p : (List (Int × Int × Int)) × (List Int) × Int) : Option (Int × Int) :=
  let a0 := p.1
  let a1 := p.2.1
  let a2 := p.2.2
  (F_slab_Check m a0).bind fun x1 =>
  bif x1 != (0 : Int) then some ((0 : Int), (8 : Int)) else
  (F_quota_Check m ((a0.length : Int), a1)).bind fun x4 =>
  bif x4 != (0 : Int) then some ((0 : Int), (80 : Int)) else
  bif decide (a2 < (0 : Int)) then some ((0 : Int), (2 : Int)) else
  bif decide ((a1.length : Int) ≤ a2) then some ((0 : Int), (2 : Int)) else
  (F_slab_Owned m (a0, a2)).bind fun x9 =>
  bif (decide ((0 : Int) ≤ a2)) && (decide (a2 < (a1.length : Int))) then
    some ((IntKind.i64.wrap (x9.1 - (a1.getD a2.toNat 0))), x9.2)
  else none
def F_quota_more.ann : List (Nat × Ann) := []
def F_quota_more.sig : Sig := ⟨[.val true [.sl (.pr (.int .i64) (.pr (.int .i64) (.int .u16)))], .val false [.sl (.int .i64)], .val false [.int .i64]], [(false, [.dat (.int .i64)]), (false, [.dat (.int .i64)])]⟩
noncomputable def F_quota_more.S : Summ := ⟨13, F_quota_more.sig, F_quota_more⟩
noncomputable def F_quota_more.G : List Summ := [F_slab_Check.S, F_quota_Check.S, F_slab_Owned.S]
theorem F_quota_more.eq : absF Tryd.prog F_quota_more.G F_quota_more.ann F_quota_more.sig Tryd.f13 = F_quota_more := by kernel_rfl
theorem F_quota_more.sound : Sound Tryd.prog F_quota_more.S := absF_sound (fn := Tryd.f13) (Γ := F_quota_more.G) (all_cons F_slab_Check.sound (all_cons F_quota_Check.sound (all_cons F_slab_Owned.sound all_nil))) mix (by kernel_rfl) (by kernel_rfl) (fun m p => congrFun (congrFun F_quota_more.eq m) p)
/-! ### cloakroom/quota.Room -/
noncomputable def F_quota_Room (m : Fu) (p : (List (Int × Int × Int)) × (List Int) × Int) : Option (Bool × Int) :=
  let a0 := p.1
  let a1 := p.2.1
  let a2 := p.2.2
  (F_quota_more m (a0, a1, a2)).bind fun x1 =>
  bif x1.2 == (0 : Int) then
    some ((decide (x1.1 < (0 : Int))), x1.2)
  else some (false, x1.2)
def F_quota_Room.ann : List (Nat × Ann) := []
def F_quota_Room.sig : Sig := ⟨[.val true [.sl (.pr (.int .i64) (.pr (.int .i64) (.int .u16)))], .val false [.sl (.int .i64)], .val false [.int .i64]], [(false, [.dat .bool]), (false, [.dat (.int .i64)])]⟩
noncomputable def F_quota_Room.S : Summ := ⟨6, F_quota_Room.sig, F_quota_Room⟩
noncomputable def F_quota_Room.G : List Summ := [F_quota_more.S]
theorem F_quota_Room.eq : absF Tryd.prog F_quota_Room.G F_quota_Room.ann F_quota_Room.sig Tryd.f6 = F_quota_Room := by kernel_rfl
theorem F_quota_Room.sound : Sound Tryd.prog F_quota_Room.S := absF_sound (fn := Tryd.f6) (Γ := F_quota_Room.G) (all_cons F_quota_more.sound all_nil) mix (by kernel_rfl) (by kernel_rfl) (fun m p => congrFun (congrFun F_quota_Room.eq m) p)
/-! ### math/bits.TrailingZeros16 -/
noncomputable def F_mathbits_TrailingZeros16 (m : Fu) (p : Int) : Option (Int) := tzF m p
def F_mathbits_TrailingZeros16.sig : Sig := ⟨[.val false [.int .u16]], [(false, [.dat (.int .i64)])]⟩
noncomputable def F_mathbits_TrailingZeros16.S : Summ := ⟨18, F_mathbits_TrailingZeros16.sig, F_mathbits_TrailingZeros16⟩
theorem F_mathbits_TrailingZeros16.zero (w : World) : Calls Tryd.prog 18 #[.int .u16 0] w fun e w' => e = .returned (.int .i64 16) ∧ w' = w := by
  go_enter Tryd.func18, Tryd.ntmps18
  go_wp2
  go_ret
  exact ⟨rfl, rfl⟩
set_option maxHeartbeats 1000000 in
theorem F_mathbits_TrailingZeros16.core (x : Int) (k idx : Nat) (w : World) (hx0 : (x == 0) = false)
    (key : bits BinOp.and IntKind.u16 x (IntKind.u16.wrap (-x)) % 4294967296 * 125613361 % 4294967296 / 134217728 = (idx : Int))
    (hi : idx < 32) (hk : k < 32) (hcell : w.cell? ⟨0, idx, none⟩ = some (.int .u8 k)) :
    Calls Tryd.prog 18 #[.int .u16 x] w fun e w' => e = .returned (.int .i64 k) ∧ w' = w := by
  go_enter Tryd.func18, Tryd.ntmps18
  go_wp2_with (simp only [key])
  go_ret
  exact ⟨rfl, rfl⟩
theorem F_mathbits_TrailingZeros16.sound : Sound Tryd.prog F_mathbits_TrailingZeros16.S := sound_tz (fn := Tryd.f18) (by kernel_rfl) (by kernel_rfl) (by kernel_rfl) (g := 0) (by kernel_rfl) F_mathbits_TrailingZeros16.zero F_mathbits_TrailingZeros16.core
/-! ### slices.Clone[[]cloakroom/api.Page,cloakroom/api.Page] -/
noncomputable def F_slices_Clone_Page (m : Fu) (p : List (Int × Int × Int)) : Option (List (Int × Int × Int)) :=
  let a0 := p
  match a0 with
  | [] => same2
   (
    some ([] : List (Int × Int × Int)))
   (
    bif Nat.ble (0 + a0.length) 4294967296 then
      some (([] : List (Int × Int × Int)) ++ a0)
    else none)
  | _ :: _ =>
    bif Nat.ble (0 + a0.length) 4294967296 then
      some (([] : List (Int × Int × Int)) ++ a0)
    else none
def F_slices_Clone_Page.ann : List (Nat × Ann) := []
def F_slices_Clone_Page.sig : Sig := ⟨[.val false [.sl (.pr (.int .i64) (.pr (.int .i64) (.int .u16)))]], [(false, [.own (.pr (.int .i64) (.pr (.int .i64) (.int .u16))) 0 .wr])]⟩
noncomputable def F_slices_Clone_Page.S : Summ := ⟨19, F_slices_Clone_Page.sig, F_slices_Clone_Page⟩
noncomputable def F_slices_Clone_Page.G : List Summ := []
theorem F_slices_Clone_Page.eq : absF Tryd.prog F_slices_Clone_Page.G F_slices_Clone_Page.ann F_slices_Clone_Page.sig Tryd.f19 = F_slices_Clone_Page := by kernel_rfl
theorem F_slices_Clone_Page.sound : Sound Tryd.prog F_slices_Clone_Page.S := absF_sound (fn := Tryd.f19) (Γ := F_slices_Clone_Page.G) all_nil mix (by kernel_rfl) (by kernel_rfl) (fun m p => congrFun (congrFun F_slices_Clone_Page.eq m) p)
noncomputable def C_slices_Clone_Page (m : Fu) (p : List (Int × Int × Int)) : Option (List (Int × Int × Int)) := bif Nat.ble p.length 4294967296 then some p else none
theorem C_slices_Clone_Page.is : F_slices_Clone_Page = C_slices_Clone_Page := by
  funext m p
  have h0 : Nat.ble 0 4294967296 = true := rfl
  cases p <;> simp [F_slices_Clone_Page, C_slices_Clone_Page, same2_self, h0]
noncomputable def C_slices_Clone_Page.S : Summ := ⟨19, F_slices_Clone_Page.sig, C_slices_Clone_Page⟩
theorem C_slices_Clone_Page.sound : Sound Tryd.prog C_slices_Clone_Page.S := by
  have h := F_slices_Clone_Page.sound
  unfold F_slices_Clone_Page.S at h
  rw [C_slices_Clone_Page.is] at h
  exact h
/-! ### cloakroom/slab.Take -/
noncomputable def F_slab_Take.s52 (m : Fu) (a1 : Int) (a2 : Int) (a3 : Int) : Option (Bool) :=
  (F_slab_tenanted m a1).bind fun x3 =>
  bif !x3 then some true else
  (F_slab_classed m a2).bind fun x5 =>
  bif !x5 then some true else
  bif decide (a3 < (0 : Int)) then
    some true
  else some (decide ((16 : Int) < a3))
noncomputable def F_slab_Take.l1786 (m : Fu) (a0 : List (Int × Int × Int)) (a1 : Int) (a2 : Int) (a3 : Int) (x10 : Int × Int) (x11 : Int) (x12 : Int × Int) : Option (Step (Int × Int) Int) :=
  bif decide (x12.2 < x11) then
    bif (decide ((0 : Int) ≤ x12.2)) && (decide (x12.2 < (a0.length : Int))) then
      let x14 := a0.getD x12.2.toNat (0, (0, 0))
      bif x14.2.2 == (0 : Int) then
        bif decide (x12.1 < (0 : Int)) then
          bif decide (x10.1 < a3) then
            some (.next (x12.2, (IntKind.i64.wrap (x12.2 + (1 : Int)))))
          else some (.next (x12.1, (IntKind.i64.wrap (x12.2 + (1 : Int)))))
        else some (.next (x12.1, (IntKind.i64.wrap (x12.2 + (1 : Int)))))
      else
        bif x14.1 == a1 then
          bif x14.2.1 == a2 then
            (F_slab_full m a2).bind fun x23 =>
            bif x14.2.2 != x23 then
              some (.fin x12.2)
            else some (.next (x12.1, (IntKind.i64.wrap (x12.2 + (1 : Int)))))
          else some (.next (x12.1, (IntKind.i64.wrap (x12.2 + (1 : Int)))))
        else some (.next (x12.1, (IntKind.i64.wrap (x12.2 + (1 : Int)))))
    else none
  else some (.fin x12.1)
noncomputable def F_slab_Take (m : Fu) (p : (List (Int × Int × Int)) × Int × Int × Int) : Option ((List (Int × Int × Int)) × Int × Int × Int) :=
  let a0 := p.1
  let a1 := p.2.1
  let a2 := p.2.2.1
  let a3 := p.2.2.2
  (F_slab_Check m a0).bind fun x1 =>
  bif x1 != (0 : Int) then some (([] : List (Int × Int × Int)), (0 : Int), (0 : Int), x1) else
  (F_slab_Take.s52 m a1 a2 a3).bind fun x9 =>
  bif x9 then some (([] : List (Int × Int × Int)), (0 : Int), (0 : Int), (2 : Int)) else
  (F_slab_owned m (a0, a1)).bind fun x10 =>
  (iter m (F_slab_Take.l1786 m a0 a1 a2 a3 x10 (a0.length : Int)) ((-1 : Int), (0 : Int))).bind fun x28 =>
  bif decide (x28 < (0 : Int)) then some (([] : List (Int × Int × Int)), (0 : Int), (0 : Int), (9 : Int)) else
  bif (decide ((0 : Int) ≤ x28)) && (decide (x28 < (a0.length : Int))) then
    let x30 := a0.getD x28.toNat (0, (0, 0))
    (F_mathbits_TrailingZeros16 m (bitsOp .xor .u16 (65535 : Int) x30.2.2)).bind fun x32 =>
    (C_slices_Clone_Page m a0).bind fun x33 =>
    bif decide (x32 < (0 : Int)) then none else
    bif (decide ((0 : Int) ≤ x28)) && (decide (x28 < (x33.length : Int))) then
      bif Nat.blt x28.toNat x33.length then
        some ((x33.set x28.toNat (a1, (a2, (bitsOp .or .u16 x30.2.2 (shlOp .u16 (1 : Int) x32))))), x28, x32, (0 : Int))
      else none
    else none
  else none
def F_slab_Take.ann : List (Nat × Ann) := [(52, .jnt [(.normal, ⟨[(39, false, [.dat .bool])], [], [], [], 224⟩)]),
  (1786, .loop ⟨[(9, false, [.dat (.int .i64)]), (50, false, [.dat (.int .i64)])], [], [], [], 432⟩ [(.exit 0, ⟨[(9, false, [.dat (.int .i64)])], [], [], [], 432⟩)])]
def F_slab_Take.sig : Sig := ⟨[.val true [.sl (.pr (.int .i64) (.pr (.int .i64) (.int .u16)))], .val false [.int .i64], .val false [.int .i64], .val false [.int .i64]], [(true, [.own (.pr (.int .i64) (.pr (.int .i64) (.int .u16))) 0 .wr]), (false, [.dat (.int .i64)]), (false, [.dat (.int .i64)]), (false, [.dat (.int .i64)])]⟩
noncomputable def F_slab_Take.S : Summ := ⟨7, F_slab_Take.sig, F_slab_Take⟩
noncomputable def F_slab_Take.G : List Summ := [F_slab_Check.S, F_slab_tenanted.S, F_slab_classed.S, F_slab_owned.S, F_slab_full.S, F_mathbits_TrailingZeros16.S, C_slices_Clone_Page.S]
theorem F_slab_Take.eq : absF Tryd.prog F_slab_Take.G F_slab_Take.ann F_slab_Take.sig Tryd.f7 = F_slab_Take := by kernel_rfl
theorem F_slab_Take.sound : Sound Tryd.prog F_slab_Take.S := absF_sound (fn := Tryd.f7) (Γ := F_slab_Take.G) (all_cons F_slab_Check.sound (all_cons F_slab_tenanted.sound (all_cons F_slab_classed.sound (all_cons F_slab_owned.sound (all_cons F_slab_full.sound (all_cons F_mathbits_TrailingZeros16.sound (all_cons C_slices_Clone_Page.sound all_nil))))))) mix (by kernel_rfl) (by kernel_rfl) (fun m p => congrFun (congrFun F_slab_Take.eq m) p)
/-! ### cloakroom/cloakroomlaw08.QuotaFree -/
noncomputable def F_law08_QuotaFree.l250 (m : Fu) (a0 : List (Int × Int × Int)) (a1 : List Int) (x1 : Bool) (x7 : Int) : Option (Step Int (Bool ⊕ Unit)) :=
  bif decide (x7 < (4 : Int)) then
    (F_slab_Owned m (a0, x7)).bind fun x9 =>
    bif x9.2 != (0 : Int) then some (.fin (Sum.inl x1)) else
    bif decide ((a1.length : Int) ≤ x7) then
      bif decide ((0 : Int) < x9.1) then some (.fin (Sum.inl x1)) else
      bif decide (x7 < (a1.length : Int)) then
        bif (decide ((0 : Int) ≤ x7)) && (decide (x7 < (a1.length : Int))) then
          bif decide ((a1.getD x7.toNat 0) < x9.1) then
            some (.fin (Sum.inl x1))
          else some (.next (IntKind.i64.wrap (x7 + (1 : Int))))
        else none
      else some (.next (IntKind.i64.wrap (x7 + (1 : Int))))
    else
      bif decide (x7 < (a1.length : Int)) then
        bif (decide ((0 : Int) ≤ x7)) && (decide (x7 < (a1.length : Int))) then
          bif decide ((a1.getD x7.toNat 0) < x9.1) then
            some (.fin (Sum.inl x1))
          else some (.next (IntKind.i64.wrap (x7 + (1 : Int))))
        else none
      else some (.next (IntKind.i64.wrap (x7 + (1 : Int))))
  else some (.fin (Sum.inr ()))
noncomputable def F_law08_QuotaFree.s508 (m : Fu) (x29 : Bool × Int) : Option (Bool) :=
  bif x29.2 != (0 : Int) then
    some true
  else some (!x29.1)
noncomputable def F_law08_QuotaFree.l8186 (m : Fu) (a0 : List (Int × Int × Int)) (x38 : Bool × Int) : Option (Step (Bool × Int) Bool) :=
  bif decide (x38.2 < (a0.length : Int)) then
    bif x38.1 then some (.next (true, (IntKind.i64.wrap (x38.2 + (1 : Int))))) else
    bif (decide ((0 : Int) ≤ x38.2)) && (decide (x38.2 < (a0.length : Int))) then
      some (.next (((((a0.getD x38.2.toNat (0, (0, 0))).2).2) == (0 : Int)), (IntKind.i64.wrap (x38.2 + (1 : Int)))))
    else none
  else some (.fin x38.1)
noncomputable def F_law08_QuotaFree (m : Fu) (p : (List (Int × Int × Int)) × (List Int) × Int × Int) : Option (Bool) :=
  let a0 := p.1
  let a1 := p.2.1
  let a2 := p.2.2.1
  let a3 := p.2.2.2
  (F_law08_alive m ()).bind fun x1 =>
  bif !x1 then some false else
  bif decide ((100 : Int) < (a0.length : Int)) then some x1 else
  bif decide ((100 : Int) < (a1.length : Int)) then some x1 else
  (iter m (F_law08_QuotaFree.l250 m a0 a1 x1) (0 : Int)).bind fun x26 =>
  match x26 with
  | .inl x27 =>
    some x27
  | .inr x28 =>
    (F_quota_Room m (a0, a1, a2)).bind fun x29 =>
    (F_law08_QuotaFree.s508 m x29).bind fun x32 =>
    bif x32 then
      bif x1 then
        bif x29.2 == (0 : Int) then
          some true
        else some (!x29.1)
      else some false
    else
      bif decide (a2 < (0 : Int)) then some false else
      bif decide ((a1.length : Int) ≤ a2) then some false else
      (iter m (F_law08_QuotaFree.l8186 m a0) (false, (0 : Int))).bind fun x45 =>
      bif (decide ((0 : Int) ≤ a2)) && (decide (a2 < (a1.length : Int))) then
        (F_slab_Take m (a0, a2, a3, (a1.getD a2.toNat 0))).bind fun x47 =>
        bif x1 then
          bif x45 then
            bif x47.2.2.2 == (0 : Int) then
              some true
            else some (x47.2.2.2 == (2 : Int))
          else some false
        else some false
      else none
def F_law08_QuotaFree.ann : List (Nat × Ann) := [(250, .loop ⟨[(10, false, [.dat (.int .i64)])], [], [], [], 320⟩ [(.ret, ⟨[(8, false, [.dat .bool])], [], [], [], 320⟩), (.exit 0, ⟨[], [], [], [], 320⟩)]),
  (508, .jnt [(.normal, ⟨[(83, false, [.dat .bool])], [], [], [], 464⟩)]),
  (8186, .loop ⟨[(15, false, [.dat .bool]), (16, false, [.dat (.int .i64)])], [], [], [], 624⟩ [(.exit 2, ⟨[(15, false, [.dat .bool])], [], [], [], 624⟩)])]
def F_law08_QuotaFree.sig : Sig := ⟨[.val true [.sl (.pr (.int .i64) (.pr (.int .i64) (.int .u16)))], .val false [.sl (.int .i64)], .val false [.int .i64], .val false [.int .i64]], [(false, [.dat .bool])]⟩
noncomputable def F_law08_QuotaFree.S : Summ := ⟨3, F_law08_QuotaFree.sig, F_law08_QuotaFree⟩
noncomputable def F_law08_QuotaFree.G : List Summ := [F_law08_alive.S, F_slab_Owned.S, F_quota_Room.S, F_slab_Take.S]
theorem F_law08_QuotaFree.eq : absF Tryd.prog F_law08_QuotaFree.G F_law08_QuotaFree.ann F_law08_QuotaFree.sig Tryd.f3 = F_law08_QuotaFree := by kernel_rfl
theorem F_law08_QuotaFree.sound : Sound Tryd.prog F_law08_QuotaFree.S := absF_sound (fn := Tryd.f3) (Γ := F_law08_QuotaFree.G) (all_cons F_law08_alive.sound (all_cons F_slab_Owned.sound (all_cons F_quota_Room.sound (all_cons F_slab_Take.sound all_nil)))) mix (by kernel_rfl) (by kernel_rfl) (fun m p => congrFun (congrFun F_law08_QuotaFree.eq m) p)
end Go.Proofs.YtnnfjeofdcjfoaaDoor
