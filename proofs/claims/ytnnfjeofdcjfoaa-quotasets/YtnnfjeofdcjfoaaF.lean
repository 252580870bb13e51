/- The pure functions that the program's functions compute, and that they compute them. Printed by a program of this session (gen.py). -/
import Derived.Test.YtnnfjeofdcjfoaaProg
import Derived.Test.YtnnfjeofdcjfoaaA2
namespace Go.Proofs.Ytnnfjeofdcjfoaa
open Go.Abs
set_option maxRecDepth 100000
theorem mix : Try.prog.follows .mixedOrders = true := by kernel_rfl
/-! ### cloakroom/quota.may -/
noncomputable def F_quota_may.l58 (m : Fu) (a0 : Int) (a1 : List Int) (x1 : Int) (x2 : Int × Int) : Option (Step (Int × Int) (Bool ⊕ Int)) :=
  bif decide (x2.2 < x1) then
    bif (decide ((0 : Int) ≤ x2.2)) && (decide (x2.2 < (a1.length : Int))) then
      let x4 := a1.getD x2.2.toNat 0
      bif decide (x4 < (0 : Int)) then some (.fin (Sum.inl false)) else
      bif decide (a0 < x4) then
        some (.fin (Sum.inl false))
      else some (.next ((IntKind.i64.wrap (x2.1 + x4)), (IntKind.i64.wrap (x2.2 + (1 : Int)))))
    else none
  else some (.fin (Sum.inr x2.1))
noncomputable def F_quota_may (m : Fu) (p : Int × (List Int)) : Option (Bool) :=
  let a0 := p.1
  let a1 := p.2
  (iter m (F_quota_may.l58 m a0 a1 (a1.length : Int)) ((0 : Int), (0 : Int))).bind fun x9 =>
  match x9 with
  | .inl x10 =>
    some x10
  | .inr x11 =>
    bif decide ((0 : Int) < (a1.length : Int)) then
      bif decide ((a1.length : Int) ≤ (4 : Int)) then
        some (decide (x11 ≤ a0))
      else some false
    else some false
def F_quota_may.ann : List (Nat × Ann) := [(58, .loop ⟨[(5, false, [.dat (.int .i64)]), (10, false, [.dat (.int .i64)])], [], [], [], 112⟩ [(.ret, ⟨[(4, false, [.dat .bool])], [], [], [], 112⟩), (.exit 0, ⟨[(5, false, [.dat (.int .i64)])], [], [], [], 112⟩)])]
def F_quota_may.sig : Sig := ⟨[.val false [.int .i64], .val false [.sl (.int .i64)]], [(false, [.dat .bool])]⟩
noncomputable def F_quota_may.S : Summ := ⟨25, F_quota_may.sig, F_quota_may⟩
noncomputable def F_quota_may.G : List Summ := []
theorem F_quota_may.eq : absF Try.prog F_quota_may.G F_quota_may.ann F_quota_may.sig Try.f25 = F_quota_may := by kernel_rfl
theorem F_quota_may.sound : Sound Try.prog F_quota_may.S := absF_sound (fn := Try.f25) (Γ := F_quota_may.G) all_nil mix (by kernel_rfl) (by kernel_rfl) (fun m p => congrFun (congrFun F_quota_may.eq m) p)
/-! ### cloakroom/quota.Check -/
noncomputable def F_quota_Check (m : Fu) (p : Int × (List Int)) : Option (Int) :=
  let a0 := p.1
  let a1 := p.2
  bif decide (a0 < (1 : Int)) then some (2 : Int) else
  bif decide ((16 : Int) < a0) then some (2 : Int) else
  bif decide ((4 : Int) < (a1.length : Int)) then some (80 : Int) else
  (F_quota_may m (a0, a1)).bind fun x5 =>
  bif !x5 then
    some (80 : Int)
  else some (0 : Int)
def F_quota_Check.ann : List (Nat × Ann) := []
def F_quota_Check.sig : Sig := ⟨[.val false [.int .i64], .val false [.sl (.int .i64)]], [(false, [.dat (.int .i64)])]⟩
noncomputable def F_quota_Check.S : Summ := ⟨9, F_quota_Check.sig, F_quota_Check⟩
noncomputable def F_quota_Check.G : List Summ := [F_quota_may.S]
theorem F_quota_Check.eq : absF Try.prog F_quota_Check.G F_quota_Check.ann F_quota_Check.sig Try.f9 = F_quota_Check := by kernel_rfl
theorem F_quota_Check.sound : Sound Try.prog F_quota_Check.S := absF_sound (fn := Try.f9) (Γ := F_quota_Check.G) (all_cons F_quota_may.sound all_nil) mix (by kernel_rfl) (by kernel_rfl) (fun m p => congrFun (congrFun F_quota_Check.eq m) p)
/-! ### slices.Clone[[]int,int] -/
noncomputable def F_slices_Clone_int (m : Fu) (p : List Int) : Option (List Int) :=
  let a0 := p
  match a0 with
  | [] => same2
   (
    some ([] : List Int))
   (
    bif Nat.ble (0 + a0.length) 4294967296 then
      some (([] : List Int) ++ a0)
    else none)
  | _ :: _ =>
    bif Nat.ble (0 + a0.length) 4294967296 then
      some (([] : List Int) ++ a0)
    else none
def F_slices_Clone_int.ann : List (Nat × Ann) := []
def F_slices_Clone_int.sig : Sig := ⟨[.val false [.sl (.int .i64)]], [(false, [.own (.int .i64) 0 true])]⟩
noncomputable def F_slices_Clone_int.S : Summ := ⟨24, F_slices_Clone_int.sig, F_slices_Clone_int⟩
noncomputable def F_slices_Clone_int.G : List Summ := []
theorem F_slices_Clone_int.eq : absF Try.prog F_slices_Clone_int.G F_slices_Clone_int.ann F_slices_Clone_int.sig Try.f24 = F_slices_Clone_int := by kernel_rfl
theorem F_slices_Clone_int.sound : Sound Try.prog F_slices_Clone_int.S := absF_sound (fn := Try.f24) (Γ := F_slices_Clone_int.G) all_nil mix (by kernel_rfl) (by kernel_rfl) (fun m p => congrFun (congrFun F_slices_Clone_int.eq m) p)
noncomputable def C_slices_Clone_int (m : Fu) (p : List Int) : Option (List Int) := bif Nat.ble p.length 4294967296 then some p else none
theorem C_slices_Clone_int.is : F_slices_Clone_int = C_slices_Clone_int := by
  funext m p
  have h0 : Nat.ble 0 4294967296 = true := rfl
  cases p <;> simp [F_slices_Clone_int, C_slices_Clone_int, same2_self, h0]
noncomputable def C_slices_Clone_int.S : Summ := ⟨24, F_slices_Clone_int.sig, C_slices_Clone_int⟩
theorem C_slices_Clone_int.sound : Sound Try.prog C_slices_Clone_int.S := by
  have h := F_slices_Clone_int.sound
  unfold F_slices_Clone_int.S at h
  rw [C_slices_Clone_int.is] at h
  exact h
/-! ### cloakroom/quota.Set -/
noncomputable def F_quota_Set (m : Fu) (p : Int × (List Int) × Int × Int) : Option ((List Int) × Int) :=
  let a0 := p.1
  let a1 := p.2.1
  let a2 := p.2.2.1
  let a3 := p.2.2.2
  (F_quota_Check m (a0, a1)).bind fun x1 =>
  bif x1 != (0 : Int) then some (([] : List Int), x1) else
  bif decide (a2 < (0 : Int)) then some (([] : List Int), (2 : Int)) else
  bif decide ((a1.length : Int) ≤ a2) then some (([] : List Int), (2 : Int)) else
  bif decide (a3 < (0 : Int)) then some (([] : List Int), (2 : Int)) else
  bif decide ((16 : Int) < a3) then some (([] : List Int), (2 : Int)) else
  (C_slices_Clone_int m a1).bind fun x8 =>
  bif (decide ((0 : Int) ≤ a2)) && (decide (a2 < (x8.length : Int))) then
    bif Nat.blt a2.toNat x8.length then
      let x9 := x8.set a2.toNat a3
      (F_quota_may m (a0, x9)).bind fun x10 =>
      bif !x10 then
        some (([] : List Int), (80 : Int))
      else some (x9, (0 : Int))
    else none
  else none
def F_quota_Set.ann : List (Nat × Ann) := []
def F_quota_Set.sig : Sig := ⟨[.val false [.int .i64], .val false [.sl (.int .i64)], .val false [.int .i64], .val false [.int .i64]], [(false, [.own (.int .i64) 0 true]), (false, [.dat (.int .i64)])]⟩
noncomputable def F_quota_Set.S : Summ := ⟨8, F_quota_Set.sig, F_quota_Set⟩
noncomputable def F_quota_Set.G : List Summ := [F_quota_Check.S, C_slices_Clone_int.S, F_quota_may.S]
theorem F_quota_Set.eq : absF Try.prog F_quota_Set.G F_quota_Set.ann F_quota_Set.sig Try.f8 = F_quota_Set := by kernel_rfl
theorem F_quota_Set.sound : Sound Try.prog F_quota_Set.S := absF_sound (fn := Try.f8) (Γ := F_quota_Set.G) (all_cons F_quota_Check.sound (all_cons C_slices_Clone_int.sound (all_cons F_quota_may.sound all_nil))) mix (by kernel_rfl) (by kernel_rfl) (fun m p => congrFun (congrFun F_quota_Set.eq m) p)
/-! ### cloakroom/cloakroomlaw08.same -/
noncomputable def F_law08_same.l58 (m : Fu) (a0 : List Int) (a1 : List Int) (x4 : Int) : Option (Step Int (Bool ⊕ Unit)) :=
  bif decide (x4 < (a0.length : Int)) then
    bif (decide ((0 : Int) ≤ x4)) && (decide (x4 < (a0.length : Int))) then
      bif (decide ((0 : Int) ≤ x4)) && (decide (x4 < (a1.length : Int))) then
        bif (a0.getD x4.toNat 0) != (a1.getD x4.toNat 0) then
          some (.fin (Sum.inl false))
        else some (.next (IntKind.i64.wrap (x4 + (1 : Int))))
      else none
    else none
  else some (.fin (Sum.inr ()))
noncomputable def F_law08_same (m : Fu) (p : (List Int) × (List Int)) : Option (Bool) :=
  let a0 := p.1
  let a1 := p.2
  bif (a0.length : Int) != (a1.length : Int) then some false else
  (iter m (F_law08_same.l58 m a0 a1) (0 : Int)).bind fun x11 =>
  match x11 with
  | .inl x12 =>
    some x12
  | .inr x13 =>
    some true
def F_law08_same.ann : List (Nat × Ann) := [(58, .loop ⟨[(5, false, [.dat (.int .i64)])], [], [], [], 144⟩ [(.ret, ⟨[(4, false, [.dat .bool])], [], [], [], 144⟩), (.exit 0, ⟨[], [], [], [], 144⟩)])]
def F_law08_same.sig : Sig := ⟨[.val false [.sl (.int .i64)], .val false [.sl (.int .i64)]], [(false, [.dat .bool])]⟩
noncomputable def F_law08_same.S : Summ := ⟨23, F_law08_same.sig, F_law08_same⟩
noncomputable def F_law08_same.G : List Summ := []
theorem F_law08_same.eq : absF Try.prog F_law08_same.G F_law08_same.ann F_law08_same.sig Try.f23 = F_law08_same := by kernel_rfl
theorem F_law08_same.sound : Sound Try.prog F_law08_same.S := absF_sound (fn := Try.f23) (Γ := F_law08_same.G) all_nil mix (by kernel_rfl) (by kernel_rfl) (fun m p => congrFun (congrFun F_law08_same.eq m) p)
/-! ### cloakroom/cloakroomlaw08.alive -/
noncomputable def F_law08_alive (m : Fu) (p : Unit) : Option (Bool) :=
  (F_quota_Set m ((4 : Int), ([2, 1] : List Int), (1 : Int), (2 : Int))).bind fun x1 =>
  bif x1.2 == (0 : Int) then
    (F_law08_same m (x1.1, ([2, 2] : List Int))).bind fun x3 =>
    bif x3 then
      (F_quota_Check m ((4 : Int), ([3, 2] : List Int))).bind fun x4 =>
      some (x4 == (80 : Int))
    else some false
  else some false
def F_law08_alive.ann : List (Nat × Ann) := []
def F_law08_alive.sig : Sig := ⟨[], [(false, [.dat .bool])]⟩
noncomputable def F_law08_alive.S : Summ := ⟨7, F_law08_alive.sig, F_law08_alive⟩
noncomputable def F_law08_alive.G : List Summ := [F_quota_Set.S, F_law08_same.S, F_quota_Check.S]
theorem F_law08_alive.eq : absF Try.prog F_law08_alive.G F_law08_alive.ann F_law08_alive.sig Try.f7 = F_law08_alive := by kernel_rfl
theorem F_law08_alive.sound : Sound Try.prog F_law08_alive.S := absF_sound (fn := Try.f7) (Γ := F_law08_alive.G) (all_cons F_quota_Set.sound (all_cons F_law08_same.sound (all_cons F_quota_Check.sound all_nil))) mix (by kernel_rfl) (by kernel_rfl) (fun m p => congrFun (congrFun F_law08_alive.eq m) p)
/-! ### cloakroom/quota.Sum -/
noncomputable def F_quota_Sum.l58 (m : Fu) (a0 : List Int) (x3 : Int) (x4 : Int × Int) : Option (Step (Int × Int) ((Int × Int) ⊕ Int)) :=
  bif decide (x4.2 < x3) then
    bif (decide ((0 : Int) ≤ x4.2)) && (decide (x4.2 < (a0.length : Int))) then
      let x6 := a0.getD x4.2.toNat 0
      bif decide (x6 < (0 : Int)) then some (.fin (Sum.inl ((0 : Int), (2 : Int)))) else
      bif decide ((16 : Int) < x6) then
        some (.fin (Sum.inl ((0 : Int), (2 : Int))))
      else some (.next ((IntKind.i64.wrap (x4.1 + x6)), (IntKind.i64.wrap (x4.2 + (1 : Int)))))
    else none
  else some (.fin (Sum.inr x4.1))
noncomputable def F_quota_Sum (m : Fu) (p : List Int) : Option (Int × Int) :=
  let a0 := p
  bif decide ((4 : Int) < (a0.length : Int)) then some ((0 : Int), (4 : Int)) else
  (iter m (F_quota_Sum.l58 m a0 (a0.length : Int)) ((0 : Int), (0 : Int))).bind fun x11 =>
  match x11 with
  | .inl x12 =>
    some (x12.1, x12.2)
  | .inr x13 =>
    some (x13, (0 : Int))
def F_quota_Sum.ann : List (Nat × Ann) := [(58, .loop ⟨[(2, false, [.dat (.int .i64)]), (11, false, [.dat (.int .i64)])], [], [], [], 144⟩ [(.ret, ⟨[(2, false, [.dat (.int .i64)]), (3, false, [.dat (.int .i64)])], [], [], [], 144⟩), (.exit 0, ⟨[(2, false, [.dat (.int .i64)])], [], [], [], 144⟩)])]
def F_quota_Sum.sig : Sig := ⟨[.val false [.sl (.int .i64)]], [(false, [.dat (.int .i64)]), (false, [.dat (.int .i64)])]⟩
noncomputable def F_quota_Sum.S : Summ := ⟨10, F_quota_Sum.sig, F_quota_Sum⟩
noncomputable def F_quota_Sum.G : List Summ := []
theorem F_quota_Sum.eq : absF Try.prog F_quota_Sum.G F_quota_Sum.ann F_quota_Sum.sig Try.f10 = F_quota_Sum := by kernel_rfl
theorem F_quota_Sum.sound : Sound Try.prog F_quota_Sum.S := absF_sound (fn := Try.f10) (Γ := F_quota_Sum.G) all_nil mix (by kernel_rfl) (by kernel_rfl) (fun m p => congrFun (congrFun F_quota_Sum.eq m) p)
/-! ### cloakroom/cloakroomlaw08.QuotaSets -/
noncomputable def F_law08_QuotaSets.l8106 (m : Fu) (a1 : List Int) (a2 : Int) (x5 : (List Int) × Int) (x17 : Int) : Option (Step Int (Bool ⊕ Unit)) :=
  bif decide (x17 < (a1.length : Int)) then
    bif x17 != a2 then
      bif (decide ((0 : Int) ≤ x17)) && (decide (x17 < (x5.1.length : Int))) then
        bif Nat.blt x17.toNat x5.1.length then
          bif (decide ((0 : Int) ≤ x17)) && (decide (x17 < (a1.length : Int))) then
            bif (x5.1.getD x17.toNat 0) != (a1.getD x17.toNat 0) then
              some (.fin (Sum.inl false))
            else some (.next (IntKind.i64.wrap (x17 + (1 : Int))))
          else none
        else none
      else none
    else some (.next (IntKind.i64.wrap (x17 + (1 : Int))))
  else some (.fin (Sum.inr ()))
noncomputable def F_law08_QuotaSets.s508 (m : Fu) (a0 : Int) (a1 : List Int) (a2 : Int) (a3 : Int) (x5 : (List Int) × Int) : Option (Bool) :=
  bif (x5.1.length : Int) != (0 : Int) then some true else
  (F_quota_Check m (a0, a1)).bind fun x34 =>
  bif x34 != (0 : Int) then some true else
  bif decide (a2 < (0 : Int)) then some true else
  bif decide ((a1.length : Int) ≤ a2) then some true else
  bif decide (a3 < (0 : Int)) then
    some true
  else some (decide ((16 : Int) < a3))
noncomputable def F_law08_QuotaSets.l4090 (m : Fu) (a1 : List Int) (a2 : Int) (x44 : Int × Int) : Option (Step (Int × Int) Int) :=
  bif decide (x44.2 < (a1.length : Int)) then
    bif x44.2 != a2 then
      bif (decide ((0 : Int) ≤ x44.2)) && (decide (x44.2 < (a1.length : Int))) then
        some (.next ((IntKind.i64.wrap (x44.1 + (a1.getD x44.2.toNat 0))), (IntKind.i64.wrap (x44.2 + (1 : Int)))))
      else none
    else some (.next (x44.1, (IntKind.i64.wrap (x44.2 + (1 : Int)))))
  else some (.fin x44.1)
noncomputable def F_law08_QuotaSets (m : Fu) (p : Int × (List Int) × Int × Int) : Option (Bool) :=
  let a0 := p.1
  let a1 := p.2.1
  let a2 := p.2.2.1
  let a3 := p.2.2.2
  (F_law08_alive m ()).bind fun x1 =>
  bif !x1 then some false else
  bif decide ((100 : Int) < (a1.length : Int)) then some x1 else
  (F_quota_Set m (a0, a1, a2, a3)).bind fun x5 =>
  bif x5.2 == (0 : Int) then
    bif (x5.1.length : Int) != (a1.length : Int) then some false else
    bif decide (a2 < (0 : Int)) then some false else
    bif decide ((a1.length : Int) ≤ a2) then some false else
    bif (decide ((0 : Int) ≤ a2)) && (decide (a2 < (x5.1.length : Int))) then
      bif Nat.blt a2.toNat x5.1.length then
        bif (x5.1.getD a2.toNat 0) != a3 then some false else
        (F_quota_Check m (a0, x5.1)).bind fun x15 =>
        bif x15 != (0 : Int) then some false else
        (iter m (F_law08_QuotaSets.l8106 m a1 a2 x5) (0 : Int)).bind fun x26 =>
        match x26 with
        | .inl x27 =>
          some x27
        | .inr x28 =>
          (F_quota_Sum m x5.1).bind fun x29 =>
          bif x1 then
            bif x29.2 == (0 : Int) then
              some (decide (x29.1 ≤ a0))
            else some false
          else some false
      else none
    else none
  else
    (F_law08_QuotaSets.s508 m a0 a1 a2 a3 x5).bind fun x41 =>
    bif x41 then
      bif x1 then
        some ((x5.1.length : Int) == (0 : Int))
      else some false
    else
      (iter m (F_law08_QuotaSets.l4090 m a1 a2) ((0 : Int), (0 : Int))).bind fun x52 =>
      bif x1 then
        bif x5.2 == (80 : Int) then
          some (decide (a0 < (IntKind.i64.wrap (x52 + a3))))
        else some false
      else some false
def F_law08_QuotaSets.ann : List (Nat × Ann) := [(508, .jnt [(.normal, ⟨[(124, false, [.dat .bool])], [], [], [], 384⟩)]),
  (4090, .loop ⟨[(15, false, [.dat (.int .i64)]), (16, false, [.dat (.int .i64)])], [], [], [], 416⟩ [(.exit 2, ⟨[(15, false, [.dat (.int .i64)])], [], [], [], 416⟩)]),
  (8106, .loop ⟨[(12, false, [.dat (.int .i64)])], [], [], [], 864⟩ [(.ret, ⟨[(8, false, [.dat .bool])], [], [], [], 864⟩), (.exit 0, ⟨[], [], [], [], 864⟩)])]
def F_law08_QuotaSets.sig : Sig := ⟨[.val false [.int .i64], .val false [.sl (.int .i64)], .val false [.int .i64], .val false [.int .i64]], [(false, [.dat .bool])]⟩
noncomputable def F_law08_QuotaSets.S : Summ := ⟨3, F_law08_QuotaSets.sig, F_law08_QuotaSets⟩
noncomputable def F_law08_QuotaSets.G : List Summ := [F_law08_alive.S, F_quota_Set.S, F_quota_Check.S, F_quota_Sum.S]
theorem F_law08_QuotaSets.eq : absF Try.prog F_law08_QuotaSets.G F_law08_QuotaSets.ann F_law08_QuotaSets.sig Try.f3 = F_law08_QuotaSets := by kernel_rfl
theorem F_law08_QuotaSets.sound : Sound Try.prog F_law08_QuotaSets.S := absF_sound (fn := Try.f3) (Γ := F_law08_QuotaSets.G) (all_cons F_law08_alive.sound (all_cons F_quota_Set.sound (all_cons F_quota_Check.sound (all_cons F_quota_Sum.sound all_nil)))) mix (by kernel_rfl) (by kernel_rfl) (fun m p => congrFun (congrFun F_law08_QuotaSets.eq m) p)
/-! ### cloakroom/slab.tenanted -/
noncomputable def F_slab_tenanted (m : Fu) (p : Int) : Option (Bool) :=
  let a0 := p
  bif decide ((0 : Int) ≤ a0) then
    some (decide (a0 < (4 : Int)))
  else some false
def F_slab_tenanted.ann : List (Nat × Ann) := []
def F_slab_tenanted.sig : Sig := ⟨[.val false [.int .i64]], [(false, [.dat .bool])]⟩
noncomputable def F_slab_tenanted.S : Summ := ⟨40, F_slab_tenanted.sig, F_slab_tenanted⟩
noncomputable def F_slab_tenanted.G : List Summ := []
theorem F_slab_tenanted.eq : absF Try.prog F_slab_tenanted.G F_slab_tenanted.ann F_slab_tenanted.sig Try.f40 = F_slab_tenanted := by kernel_rfl
theorem F_slab_tenanted.sound : Sound Try.prog F_slab_tenanted.S := absF_sound (fn := Try.f40) (Γ := F_slab_tenanted.G) all_nil mix (by kernel_rfl) (by kernel_rfl) (fun m p => congrFun (congrFun F_slab_tenanted.eq m) p)
/-! ### cloakroom/slab.classed -/
noncomputable def F_slab_classed (m : Fu) (p : Int) : Option (Bool) :=
  let a0 := p
  bif decide ((0 : Int) ≤ a0) then
    some (decide (a0 < (5 : Int)))
  else some false
def F_slab_classed.ann : List (Nat × Ann) := []
def F_slab_classed.sig : Sig := ⟨[.val false [.int .i64]], [(false, [.dat .bool])]⟩
noncomputable def F_slab_classed.S : Summ := ⟨45, F_slab_classed.sig, F_slab_classed⟩
noncomputable def F_slab_classed.G : List Summ := []
theorem F_slab_classed.eq : absF Try.prog F_slab_classed.G F_slab_classed.ann F_slab_classed.sig Try.f45 = F_slab_classed := by kernel_rfl
theorem F_slab_classed.sound : Sound Try.prog F_slab_classed.S := absF_sound (fn := Try.f45) (Γ := F_slab_classed.G) all_nil mix (by kernel_rfl) (by kernel_rfl) (fun m p => congrFun (congrFun F_slab_classed.eq m) p)
/-! ### cloakroom/slab.size -/
noncomputable def F_slab_size (m : Fu) (p : Int) : Option (Int) :=
  let a0 := p
  bif decide (a0 < (0 : Int)) then
    none
  else some (shlOp .i64 (16 : Int) a0)
def F_slab_size.ann : List (Nat × Ann) := []
def F_slab_size.sig : Sig := ⟨[.val false [.int .i64]], [(false, [.dat (.int .i64)])]⟩
noncomputable def F_slab_size.S : Summ := ⟨48, F_slab_size.sig, F_slab_size⟩
noncomputable def F_slab_size.G : List Summ := []
theorem F_slab_size.eq : absF Try.prog F_slab_size.G F_slab_size.ann F_slab_size.sig Try.f48 = F_slab_size := by kernel_rfl
theorem F_slab_size.sound : Sound Try.prog F_slab_size.S := absF_sound (fn := Try.f48) (Γ := F_slab_size.G) all_nil mix (by kernel_rfl) (by kernel_rfl) (fun m p => congrFun (congrFun F_slab_size.eq m) p)
/-! ### cloakroom/slab.chunks -/
noncomputable def F_slab_chunks (m : Fu) (p : Int) : Option (Int) :=
  let a0 := p
  (F_slab_size m a0).bind fun x1 =>
  bif x1 == 0 then
    none
  else some (IntKind.i64.wrap ((256 : Int).tdiv x1))
def F_slab_chunks.ann : List (Nat × Ann) := []
def F_slab_chunks.sig : Sig := ⟨[.val false [.int .i64]], [(false, [.dat (.int .i64)])]⟩
noncomputable def F_slab_chunks.S : Summ := ⟨47, F_slab_chunks.sig, F_slab_chunks⟩
noncomputable def F_slab_chunks.G : List Summ := [F_slab_size.S]
theorem F_slab_chunks.eq : absF Try.prog F_slab_chunks.G F_slab_chunks.ann F_slab_chunks.sig Try.f47 = F_slab_chunks := by kernel_rfl
theorem F_slab_chunks.sound : Sound Try.prog F_slab_chunks.S := absF_sound (fn := Try.f47) (Γ := F_slab_chunks.G) (all_cons F_slab_size.sound all_nil) mix (by kernel_rfl) (by kernel_rfl) (fun m p => congrFun (congrFun F_slab_chunks.eq m) p)
/-! ### cloakroom/slab.full -/
noncomputable def F_slab_full (m : Fu) (p : Int) : Option (Int) :=
  let a0 := p
  (F_slab_chunks m a0).bind fun x1 =>
  bif decide (x1 < (0 : Int)) then
    none
  else some (IntKind.u16.wrap ((shlOp .u16 (1 : Int) x1) - (1 : Int)))
def F_slab_full.ann : List (Nat × Ann) := []
def F_slab_full.sig : Sig := ⟨[.val false [.int .i64]], [(false, [.dat (.int .u16)])]⟩
noncomputable def F_slab_full.S : Summ := ⟨46, F_slab_full.sig, F_slab_full⟩
noncomputable def F_slab_full.G : List Summ := [F_slab_chunks.S]
theorem F_slab_full.eq : absF Try.prog F_slab_full.G F_slab_full.ann F_slab_full.sig Try.f46 = F_slab_full := by kernel_rfl
theorem F_slab_full.sound : Sound Try.prog F_slab_full.S := absF_sound (fn := Try.f46) (Γ := F_slab_full.G) (all_cons F_slab_chunks.sound all_nil) mix (by kernel_rfl) (by kernel_rfl) (fun m p => congrFun (congrFun F_slab_full.eq m) p)
/-! ### cloakroom/slab.may -/
noncomputable def F_slab_may (m : Fu) (p : Int × Int × Int) : Option (Bool) :=
  let a0 := p.1
  let a1 := p.2.1
  let a2 := p.2.2
  bif a2 == (0 : Int) then some ((a0 == (0 : Int)) && ((a1 == (0 : Int)) && ((a2 == (0 : Int)) && true))) else
  (F_slab_tenanted m a0).bind fun x3 =>
  bif x3 then
    (F_slab_classed m a1).bind fun x4 =>
    bif x4 then
      (F_slab_full m a1).bind fun x5 =>
      some ((bitsOp .andNot .u16 a2 x5) == (0 : Int))
    else some false
  else some false
def F_slab_may.ann : List (Nat × Ann) := []
def F_slab_may.sig : Sig := ⟨[.val true [.int .i64, .int .i64, .int .u16]], [(false, [.dat .bool])]⟩
noncomputable def F_slab_may.S : Summ := ⟨43, F_slab_may.sig, F_slab_may⟩
noncomputable def F_slab_may.G : List Summ := [F_slab_tenanted.S, F_slab_classed.S, F_slab_full.S]
theorem F_slab_may.eq : absF Try.prog F_slab_may.G F_slab_may.ann F_slab_may.sig Try.f43 = F_slab_may := by kernel_rfl
theorem F_slab_may.sound : Sound Try.prog F_slab_may.S := absF_sound (fn := Try.f43) (Γ := F_slab_may.G) (all_cons F_slab_tenanted.sound (all_cons F_slab_classed.sound (all_cons F_slab_full.sound all_nil))) mix (by kernel_rfl) (by kernel_rfl) (fun m p => congrFun (congrFun F_slab_may.eq m) p)
/-! ### cloakroom/slab.Check$1 -/
noncomputable def F_slab_Check_c1 (m : Fu) (p : Int × Int × Int) : Option (Bool) :=
  let a0 := p.1
  let a1 := p.2.1
  let a2 := p.2.2
  (F_slab_may m (a0, a1, a2)).bind fun x1 =>
  some (!x1)
def F_slab_Check_c1.ann : List (Nat × Ann) := []
def F_slab_Check_c1.sig : Sig := ⟨[.val true [.int .i64, .int .i64, .int .u16]], [(false, [.dat .bool])]⟩
noncomputable def F_slab_Check_c1.S : Summ := ⟨42, F_slab_Check_c1.sig, F_slab_Check_c1⟩
noncomputable def F_slab_Check_c1.G : List Summ := [F_slab_may.S]
theorem F_slab_Check_c1.eq : absF Try.prog F_slab_Check_c1.G F_slab_Check_c1.ann F_slab_Check_c1.sig Try.f42 = F_slab_Check_c1 := by kernel_rfl
theorem F_slab_Check_c1.sound : Sound Try.prog F_slab_Check_c1.S := absF_sound (fn := Try.f42) (Γ := F_slab_Check_c1.G) (all_cons F_slab_may.sound all_nil) mix (by kernel_rfl) (by kernel_rfl) (fun m p => congrFun (congrFun F_slab_Check_c1.eq m) p)
/-! ### slices.IndexFunc[[]cloakroom/api.Page,cloakroom/api.Page] -/
noncomputable def F_slices_IndexFunc_Page.l26 (m : Fu) (a0 : List (Int × Int × Int)) (x1 : Int) (x2 : Int) : Option (Step Int (Int ⊕ Unit)) :=
  bif decide (x2 < x1) then
    bif (decide ((0 : Int) ≤ x2)) && (decide (x2 < (a0.length : Int))) then
      let x4 := a0.getD x2.toNat (0, (0, 0))
      (F_slab_Check_c1 m (x4.1, x4.2.1, x4.2.2)).bind fun x5 =>
      bif x5 then
        some (.fin (Sum.inl x2))
      else some (.next (IntKind.i64.wrap (x2 + (1 : Int))))
    else none
  else some (.fin (Sum.inr ()))
noncomputable def F_slices_IndexFunc_Page (m : Fu) (p : List (Int × Int × Int)) : Option (Int) :=
  let a0 := p
  (iter m (F_slices_IndexFunc_Page.l26 m a0 (a0.length : Int)) (0 : Int)).bind fun x7 =>
  match x7 with
  | .inl x8 =>
    some x8
  | .inr x9 =>
    some (-1 : Int)
def F_slices_IndexFunc_Page.ann : List (Nat × Ann) := [(26, .loop ⟨[(8, false, [.dat (.int .i64)])], [], [], [], 96⟩ [(.ret, ⟨[(4, false, [.dat (.int .i64)])], [], [], [], 96⟩), (.exit 0, ⟨[], [], [], [], 96⟩)])]
def F_slices_IndexFunc_Page.sig : Sig := ⟨[.val false [.sl (.pr (.int .i64) (.pr (.int .i64) (.int .u16)))], .fn 42 []], [(false, [.dat (.int .i64)])]⟩
noncomputable def F_slices_IndexFunc_Page.S : Summ := ⟨44, F_slices_IndexFunc_Page.sig, F_slices_IndexFunc_Page⟩
noncomputable def F_slices_IndexFunc_Page.G : List Summ := [F_slab_Check_c1.S]
theorem F_slices_IndexFunc_Page.eq : absF Try.prog F_slices_IndexFunc_Page.G F_slices_IndexFunc_Page.ann F_slices_IndexFunc_Page.sig Try.f44 = F_slices_IndexFunc_Page := by kernel_rfl
theorem F_slices_IndexFunc_Page.sound : Sound Try.prog F_slices_IndexFunc_Page.S := absF_sound (fn := Try.f44) (Γ := F_slices_IndexFunc_Page.G) (all_cons F_slab_Check_c1.sound all_nil) mix (by kernel_rfl) (by kernel_rfl) (fun m p => congrFun (congrFun F_slices_IndexFunc_Page.eq m) p)
/-! ### slices.ContainsFunc[[]cloakroom/api.Page,cloakroom/api.Page] -/
noncomputable def F_slices_ContainsFunc_Page (m : Fu) (p : List (Int × Int × Int)) : Option (Bool) :=
  let a0 := p
  (F_slices_IndexFunc_Page m a0).bind fun x1 =>
  some (decide ((0 : Int) ≤ x1))
def F_slices_ContainsFunc_Page.ann : List (Nat × Ann) := []
def F_slices_ContainsFunc_Page.sig : Sig := ⟨[.val false [.sl (.pr (.int .i64) (.pr (.int .i64) (.int .u16)))], .fn 42 []], [(false, [.dat .bool])]⟩
noncomputable def F_slices_ContainsFunc_Page.S : Summ := ⟨41, F_slices_ContainsFunc_Page.sig, F_slices_ContainsFunc_Page⟩
noncomputable def F_slices_ContainsFunc_Page.G : List Summ := [F_slices_IndexFunc_Page.S]
theorem F_slices_ContainsFunc_Page.eq : absF Try.prog F_slices_ContainsFunc_Page.G F_slices_ContainsFunc_Page.ann F_slices_ContainsFunc_Page.sig Try.f41 = F_slices_ContainsFunc_Page := by kernel_rfl
theorem F_slices_ContainsFunc_Page.sound : Sound Try.prog F_slices_ContainsFunc_Page.S := absF_sound (fn := Try.f41) (Γ := F_slices_ContainsFunc_Page.G) (all_cons F_slices_IndexFunc_Page.sound all_nil) mix (by kernel_rfl) (by kernel_rfl) (fun m p => congrFun (congrFun F_slices_ContainsFunc_Page.eq m) p)
/-! ### cloakroom/slab.Check -/
noncomputable def F_slab_Check (m : Fu) (p : List (Int × Int × Int)) : Option (Int) :=
  let a0 := p
  let x1 := (a0.length : Int)
  bif decide (x1 < (1 : Int)) then some (8 : Int) else
  bif decide ((16 : Int) < x1) then some (8 : Int) else
  (F_slices_ContainsFunc_Page m a0).bind fun x4 =>
  bif x4 then
    some (8 : Int)
  else some (0 : Int)
def F_slab_Check.ann : List (Nat × Ann) := []
def F_slab_Check.sig : Sig := ⟨[.val true [.sl (.pr (.int .i64) (.pr (.int .i64) (.int .u16)))]], [(false, [.dat (.int .i64)])]⟩
noncomputable def F_slab_Check.S : Summ := ⟨36, F_slab_Check.sig, F_slab_Check⟩
noncomputable def F_slab_Check.G : List Summ := [F_slices_ContainsFunc_Page.S]
theorem F_slab_Check.eq : absF Try.prog F_slab_Check.G F_slab_Check.ann F_slab_Check.sig Try.f36 = F_slab_Check := by kernel_rfl
theorem F_slab_Check.sound : Sound Try.prog F_slab_Check.S := absF_sound (fn := Try.f36) (Γ := F_slab_Check.G) (all_cons F_slices_ContainsFunc_Page.sound all_nil) mix (by kernel_rfl) (by kernel_rfl) (fun m p => congrFun (congrFun F_slab_Check.eq m) p)
/-! ### cloakroom/slab.asked -/
noncomputable def F_slab_asked (m : Fu) (p : (List (Int × Int × Int)) × Int) : Option (Int) :=
  let a0 := p.1
  let a1 := p.2
  (F_slab_Check m a0).bind fun x1 =>
  bif x1 != (0 : Int) then some x1 else
  (F_slab_tenanted m a1).bind fun x3 =>
  bif !x3 then
    some (2 : Int)
  else some (0 : Int)
def F_slab_asked.ann : List (Nat × Ann) := []
def F_slab_asked.sig : Sig := ⟨[.val true [.sl (.pr (.int .i64) (.pr (.int .i64) (.int .u16)))], .val false [.int .i64]], [(false, [.dat (.int .i64)])]⟩
noncomputable def F_slab_asked.S : Summ := ⟨34, F_slab_asked.sig, F_slab_asked⟩
noncomputable def F_slab_asked.G : List Summ := [F_slab_Check.S, F_slab_tenanted.S]
theorem F_slab_asked.eq : absF Try.prog F_slab_asked.G F_slab_asked.ann F_slab_asked.sig Try.f34 = F_slab_asked := by kernel_rfl
theorem F_slab_asked.sound : Sound Try.prog F_slab_asked.S := absF_sound (fn := Try.f34) (Γ := F_slab_asked.G) (all_cons F_slab_Check.sound (all_cons F_slab_tenanted.sound all_nil)) mix (by kernel_rfl) (by kernel_rfl) (fun m p => congrFun (congrFun F_slab_asked.eq m) p)
/-! ### cloakroom/slab.owned -/
noncomputable def F_slab_owned.s7474 (m : Fu) (a1 : Int) (x4 : Int × Int × Int) : Option (Bool) :=
  bif x4.2.2 != (0 : Int) then
    some (x4.1 == a1)
  else some false
noncomputable def F_slab_owned.l58 (m : Fu) (a0 : List (Int × Int × Int)) (a1 : Int) (x1 : Int) (x2 : Int × Int × Int) : Option (Step (Int × Int × Int) ((Int × Int))) :=
  bif decide (x2.2.2 < x1) then
    bif (decide ((0 : Int) ≤ x2.2.2)) && (decide (x2.2.2 < (a0.length : Int))) then
      (F_slab_owned.s7474 m a1 (a0.getD x2.2.2.toNat (0, (0, 0)))).bind fun x7 =>
      bif x7 then
        some (.next ((IntKind.i64.wrap (x2.1 + (1 : Int))), x2.2.2, (IntKind.i64.wrap (x2.2.2 + (1 : Int)))))
      else some (.next (x2.1, x2.2.1, (IntKind.i64.wrap (x2.2.2 + (1 : Int)))))
    else none
  else some (.fin (x2.1, x2.2.1))
noncomputable def F_slab_owned (m : Fu) (p : (List (Int × Int × Int)) × Int) : Option (Int × Int) :=
  let a0 := p.1
  let a1 := p.2
  (iter m (F_slab_owned.l58 m a0 a1 (a0.length : Int)) ((0 : Int), (-1 : Int), (0 : Int))).bind fun x11 =>
  some (x11.1, x11.2)
def F_slab_owned.ann : List (Nat × Ann) := [(58, .loop ⟨[(4, false, [.dat (.int .i64)]), (5, false, [.dat (.int .i64)]), (11, false, [.dat (.int .i64)])], [], [], [], 160⟩ [(.exit 0, ⟨[(4, false, [.dat (.int .i64)]), (5, false, [.dat (.int .i64)])], [], [], [], 160⟩)]),
  (7474, .jnt [(.normal, ⟨[(24, false, [.dat .bool])], [], [], [], 272⟩)])]
def F_slab_owned.sig : Sig := ⟨[.val true [.sl (.pr (.int .i64) (.pr (.int .i64) (.int .u16)))], .val false [.int .i64]], [(false, [.dat (.int .i64)]), (false, [.dat (.int .i64)])]⟩
noncomputable def F_slab_owned.S : Summ := ⟨35, F_slab_owned.sig, F_slab_owned⟩
noncomputable def F_slab_owned.G : List Summ := []
theorem F_slab_owned.eq : absF Try.prog F_slab_owned.G F_slab_owned.ann F_slab_owned.sig Try.f35 = F_slab_owned := by kernel_rfl
theorem F_slab_owned.sound : Sound Try.prog F_slab_owned.S := absF_sound (fn := Try.f35) (Γ := F_slab_owned.G) all_nil mix (by kernel_rfl) (by kernel_rfl) (fun m p => congrFun (congrFun F_slab_owned.eq m) p)
/-! ### cloakroom/slab.Owned -/
noncomputable def F_slab_Owned (m : Fu) (p : (List (Int × Int × Int)) × Int) : Option (Int × Int) :=
  let a0 := p.1
  let a1 := p.2
  (F_slab_asked m (a0, a1)).bind fun x1 =>
  bif x1 != (0 : Int) then some ((0 : Int), x1) else
  (F_slab_owned m (a0, a1)).bind fun x3 =>
  some (x3.1, (0 : Int))
def F_slab_Owned.ann : List (Nat × Ann) := []
def F_slab_Owned.sig : Sig := ⟨[.val true [.sl (.pr (.int .i64) (.pr (.int .i64) (.int .u16)))], .val false [.int .i64]], [(false, [.dat (.int .i64)]), (false, [.dat (.int .i64)])]⟩
noncomputable def F_slab_Owned.S : Summ := ⟨22, F_slab_Owned.sig, F_slab_Owned⟩
noncomputable def F_slab_Owned.G : List Summ := [F_slab_asked.S, F_slab_owned.S]
theorem F_slab_Owned.eq : absF Try.prog F_slab_Owned.G F_slab_Owned.ann F_slab_Owned.sig Try.f22 = F_slab_Owned := by kernel_rfl
theorem F_slab_Owned.sound : Sound Try.prog F_slab_Owned.S := absF_sound (fn := Try.f22) (Γ := F_slab_Owned.G) (all_cons F_slab_asked.sound (all_cons F_slab_owned.sound all_nil)) mix (by kernel_rfl) (by kernel_rfl) (fun m p => congrFun (congrFun F_slab_Owned.eq m) p)
/-! ### cloakroom/quota.more -/
noncomputable def F_quota_more (m : Fu) (p : (List (Int × Int × Int)) × (List Int) × Int) : Option (Int × Int) :=
  let a0 := p.1
  let a1 := p.2.1
  let a2 := p.2.2
  (F_slab_Check m a0).bind fun x1 =>
  bif x1 != (0 : Int) then some ((0 : Int), (8 : Int)) else
  (F_quota_Check m ((a0.length : Int), a1)).bind fun x4 =>
  bif x4 != (0 : Int) then some ((0 : Int), (80 : Int)) else
  bif decide (a2 < (0 : Int)) then some ((0 : Int), (2 : Int)) else
  bif decide ((a1.length : Int) ≤ a2) then some ((0 : Int), (2 : Int)) else
  (F_slab_Owned m (a0, a2)).bind fun x9 =>
  bif (decide ((0 : Int) ≤ a2)) && (decide (a2 < (a1.length : Int))) then
    some ((IntKind.i64.wrap (x9.1 - (a1.getD a2.toNat 0))), x9.2)
  else none
def F_quota_more.ann : List (Nat × Ann) := []
def F_quota_more.sig : Sig := ⟨[.val true [.sl (.pr (.int .i64) (.pr (.int .i64) (.int .u16)))], .val false [.sl (.int .i64)], .val false [.int .i64]], [(false, [.dat (.int .i64)]), (false, [.dat (.int .i64)])]⟩
noncomputable def F_quota_more.S : Summ := ⟨26, F_quota_more.sig, F_quota_more⟩
noncomputable def F_quota_more.G : List Summ := [F_slab_Check.S, F_quota_Check.S, F_slab_Owned.S]
theorem F_quota_more.eq : absF Try.prog F_quota_more.G F_quota_more.ann F_quota_more.sig Try.f26 = F_quota_more := by kernel_rfl
theorem F_quota_more.sound : Sound Try.prog F_quota_more.S := absF_sound (fn := Try.f26) (Γ := F_quota_more.G) (all_cons F_slab_Check.sound (all_cons F_quota_Check.sound (all_cons F_slab_Owned.sound all_nil))) mix (by kernel_rfl) (by kernel_rfl) (fun m p => congrFun (congrFun F_quota_more.eq m) p)
/-! ### cloakroom/quota.Room -/
noncomputable def F_quota_Room (m : Fu) (p : (List (Int × Int × Int)) × (List Int) × Int) : Option (Bool × Int) :=
  let a0 := p.1
  let a1 := p.2.1
  let a2 := p.2.2
  (F_quota_more m (a0, a1, a2)).bind fun x1 =>
  bif x1.2 == (0 : Int) then
    some ((decide (x1.1 < (0 : Int))), x1.2)
  else some (false, x1.2)
def F_quota_Room.ann : List (Nat × Ann) := []
def F_quota_Room.sig : Sig := ⟨[.val true [.sl (.pr (.int .i64) (.pr (.int .i64) (.int .u16)))], .val false [.sl (.int .i64)], .val false [.int .i64]], [(false, [.dat .bool]), (false, [.dat (.int .i64)])]⟩
noncomputable def F_quota_Room.S : Summ := ⟨11, F_quota_Room.sig, F_quota_Room⟩
noncomputable def F_quota_Room.G : List Summ := [F_quota_more.S]
theorem F_quota_Room.eq : absF Try.prog F_quota_Room.G F_quota_Room.ann F_quota_Room.sig Try.f11 = F_quota_Room := by kernel_rfl
theorem F_quota_Room.sound : Sound Try.prog F_quota_Room.S := absF_sound (fn := Try.f11) (Γ := F_quota_Room.G) (all_cons F_quota_more.sound all_nil) mix (by kernel_rfl) (by kernel_rfl) (fun m p => congrFun (congrFun F_quota_Room.eq m) p)
/-! ### cloakroom/quota.Over -/
noncomputable def F_quota_Over (m : Fu) (p : (List (Int × Int × Int)) × (List Int) × Int) : Option (Int × Int) :=
  let a0 := p.1
  let a1 := p.2.1
  let a2 := p.2.2
  (F_quota_more m (a0, a1, a2)).bind fun x1 =>
  some ((mxI (0 : Int) x1.1), x1.2)
def F_quota_Over.ann : List (Nat × Ann) := []
def F_quota_Over.sig : Sig := ⟨[.val true [.sl (.pr (.int .i64) (.pr (.int .i64) (.int .u16)))], .val false [.sl (.int .i64)], .val false [.int .i64]], [(false, [.dat (.int .i64)]), (false, [.dat (.int .i64)])]⟩
noncomputable def F_quota_Over.S : Summ := ⟨12, F_quota_Over.sig, F_quota_Over⟩
noncomputable def F_quota_Over.G : List Summ := [F_quota_more.S]
theorem F_quota_Over.eq : absF Try.prog F_quota_Over.G F_quota_Over.ann F_quota_Over.sig Try.f12 = F_quota_Over := by kernel_rfl
theorem F_quota_Over.sound : Sound Try.prog F_quota_Over.S := absF_sound (fn := Try.f12) (Γ := F_quota_Over.G) (all_cons F_quota_more.sound all_nil) mix (by kernel_rfl) (by kernel_rfl) (fun m p => congrFun (congrFun F_quota_Over.eq m) p)
/-! ### cloakroom/cloakroomlaw08.QuotaNames -/
noncomputable def F_law08_QuotaNames.s4094 (m : Fu) : Option (Bool) :=
  (F_quota_Check m ((4 : Int), ([2, 2] : List Int))).bind fun x11 =>
  bif x11 == (0 : Int) then
    (F_quota_Check m ((4 : Int), ([] : List Int))).bind fun x13 =>
    bif x13 == (80 : Int) then
      (F_quota_Check m ((17 : Int), ([1] : List Int))).bind fun x15 =>
      some (x15 == (2 : Int))
    else some false
  else some false
noncomputable def F_law08_QuotaNames (m : Fu) (p : Unit) : Option (Bool) :=
  (F_quota_Set m ((4 : Int), ([2, 1] : List Int), (1 : Int), (3 : Int))).bind fun x1 =>
  (F_quota_Set m ((4 : Int), ([2, 1] : List Int), (2 : Int), (0 : Int))).bind fun x2 =>
  (F_quota_Sum m ([2, 1] : List Int)).bind fun x3 =>
  let x4 := [((0 : Int), ((0 : Int), (1 : Int))), ((0 : Int), ((0 : Int), (0 : Int))), ((0 : Int), ((0 : Int), (0 : Int))), ((0 : Int), ((0 : Int), (0 : Int)))]
  (F_quota_Room m (x4, ([1, 3] : List Int), (0 : Int))).bind fun x5 =>
  (F_quota_Over m (x4, ([1, 3] : List Int), (0 : Int))).bind fun x6 =>
  (F_quota_Room m (x4, ([1, 3] : List Int), (1 : Int))).bind fun x7 =>
  (F_quota_Over m (x4, ([0, 3] : List Int), (0 : Int))).bind fun x8 =>
  (F_quota_Sum m (List.replicate 5 0)).bind fun x10 =>
  (F_law08_QuotaNames.s4094 m).bind fun x17 =>
  (F_law08_alive m ()).bind fun x18 =>
  bif x18 then
    bif x17 then
      bif x1.2 == (80 : Int) then
        bif x2.2 == (2 : Int) then
          bif x3.1 == (3 : Int) then
            bif x3.2 == (0 : Int) then
              bif !x5.1 then
                bif x5.2 == (0 : Int) then
                  bif x6.1 == (0 : Int) then
                    bif x6.2 == (0 : Int) then
                      bif x7.1 then
                        bif x7.2 == (0 : Int) then
                          bif x8.1 == (1 : Int) then
                            bif x8.2 == (0 : Int) then
                              some (x10.2 == (4 : Int))
                            else some false
                          else some false
                        else some false
                      else some false
                    else some false
                  else some false
                else some false
              else some false
            else some false
          else some false
        else some false
      else some false
    else some false
  else some false
def F_law08_QuotaNames.ann : List (Nat × Ann) := [(4094, .jnt [(.normal, ⟨[(18, false, [.dat .bool])], [], [], [], 1104⟩)])]
def F_law08_QuotaNames.sig : Sig := ⟨[], [(false, [.dat .bool])]⟩
noncomputable def F_law08_QuotaNames.S : Summ := ⟨4, F_law08_QuotaNames.sig, F_law08_QuotaNames⟩
noncomputable def F_law08_QuotaNames.G : List Summ := [F_quota_Set.S, F_quota_Sum.S, F_quota_Room.S, F_quota_Over.S, F_quota_Check.S, F_law08_alive.S]
theorem F_law08_QuotaNames.eq : absF Try.prog F_law08_QuotaNames.G F_law08_QuotaNames.ann F_law08_QuotaNames.sig Try.f4 = F_law08_QuotaNames := by kernel_rfl
theorem F_law08_QuotaNames.sound : Sound Try.prog F_law08_QuotaNames.S := absF_sound (fn := Try.f4) (Γ := F_law08_QuotaNames.G) (all_cons F_quota_Set.sound (all_cons F_quota_Sum.sound (all_cons F_quota_Room.sound (all_cons F_quota_Over.sound (all_cons F_quota_Check.sound (all_cons F_law08_alive.sound all_nil)))))) mix (by kernel_rfl) (by kernel_rfl) (fun m p => congrFun (congrFun F_law08_QuotaNames.eq m) p)
/-! ### cloakroom/cloakroomref08.May -/
noncomputable def F_ref08_May.l122 (m : Fu) (a1 : List Int) (x5 : Int × Int) : Option (Step (Int × Int) (Bool ⊕ Unit)) :=
  bif decide (x5.2 < (a1.length : Int)) then
    bif (decide ((0 : Int) ≤ x5.2)) && (decide (x5.2 < (a1.length : Int))) then
      bif decide ((a1.getD x5.2.toNat 0) < (0 : Int)) then some (.fin (Sum.inl false)) else
      bif (decide ((0 : Int) ≤ x5.2)) && (decide (x5.2 < (a1.length : Int))) then
        bif decide (x5.1 < (a1.getD x5.2.toNat 0)) then some (.fin (Sum.inl false)) else
        bif (decide ((0 : Int) ≤ x5.2)) && (decide (x5.2 < (a1.length : Int))) then
          some (.next ((IntKind.i64.wrap (x5.1 - (a1.getD x5.2.toNat 0))), (IntKind.i64.wrap (x5.2 + (1 : Int)))))
        else none
      else none
    else none
  else some (.fin (Sum.inr ()))
noncomputable def F_ref08_May (m : Fu) (p : Int × (List Int)) : Option (Bool) :=
  let a0 := p.1
  let a1 := p.2
  bif decide ((a1.length : Int) < (1 : Int)) then some false else
  bif decide ((4 : Int) < (a1.length : Int)) then some false else
  (iter m (F_ref08_May.l122 m a1) (a0, (0 : Int))).bind fun x15 =>
  match x15 with
  | .inl x16 =>
    some x16
  | .inr x17 =>
    some true
def F_ref08_May.ann : List (Nat × Ann) := [(122, .loop ⟨[(5, false, [.dat (.int .i64)]), (6, false, [.dat (.int .i64)])], [], [], [], 224⟩ [(.ret, ⟨[(4, false, [.dat .bool])], [], [], [], 224⟩), (.exit 0, ⟨[], [], [], [], 224⟩)])]
def F_ref08_May.sig : Sig := ⟨[.val false [.int .i64], .val false [.sl (.int .i64)]], [(false, [.dat .bool])]⟩
noncomputable def F_ref08_May.S : Summ := ⟨27, F_ref08_May.sig, F_ref08_May⟩
noncomputable def F_ref08_May.G : List Summ := []
theorem F_ref08_May.eq : absF Try.prog F_ref08_May.G F_ref08_May.ann F_ref08_May.sig Try.f27 = F_ref08_May := by kernel_rfl
theorem F_ref08_May.sound : Sound Try.prog F_ref08_May.S := absF_sound (fn := Try.f27) (Γ := F_ref08_May.G) all_nil mix (by kernel_rfl) (by kernel_rfl) (fun m p => congrFun (congrFun F_ref08_May.eq m) p)
/-! ### cloakroom/cloakroomref08.Check -/
noncomputable def F_ref08_Check (m : Fu) (p : Int × (List Int)) : Option (Int) :=
  let a0 := p.1
  let a1 := p.2
  bif decide (a0 < (1 : Int)) then some (2 : Int) else
  bif decide ((16 : Int) < a0) then some (2 : Int) else
  (F_ref08_May m (a0, a1)).bind fun x3 =>
  bif !x3 then
    some (80 : Int)
  else some (0 : Int)
def F_ref08_Check.ann : List (Nat × Ann) := []
def F_ref08_Check.sig : Sig := ⟨[.val false [.int .i64], .val false [.sl (.int .i64)]], [(false, [.dat (.int .i64)])]⟩
noncomputable def F_ref08_Check.S : Summ := ⟨17, F_ref08_Check.sig, F_ref08_Check⟩
noncomputable def F_ref08_Check.G : List Summ := [F_ref08_May.S]
theorem F_ref08_Check.eq : absF Try.prog F_ref08_Check.G F_ref08_Check.ann F_ref08_Check.sig Try.f17 = F_ref08_Check := by kernel_rfl
theorem F_ref08_Check.sound : Sound Try.prog F_ref08_Check.S := absF_sound (fn := Try.f17) (Γ := F_ref08_Check.G) (all_cons F_ref08_May.sound all_nil) mix (by kernel_rfl) (by kernel_rfl) (fun m p => congrFun (congrFun F_ref08_Check.eq m) p)
/-! ### cloakroom/cloakroomref08.Set -/
noncomputable def F_ref08_Set.l506 (m : Fu) (a1 : List Int) (a2 : Int) (a3 : Int) (x8 : (List Int) × Int) : Option (Step ((List Int) × Int) ((List Int))) :=
  bif decide (x8.2 < (a1.length : Int)) then
    bif x8.2 == a2 then
      let x12 := [a3]
      bif Nat.ble (x8.1.length + x12.length) 4294967296 then
        some (.next ((x8.1 ++ x12), (IntKind.i64.wrap (x8.2 + (1 : Int)))))
      else none
    else
      bif (decide ((0 : Int) ≤ x8.2)) && (decide (x8.2 < (a1.length : Int))) then
        let x16 := [(a1.getD x8.2.toNat 0)]
        bif Nat.ble (x8.1.length + x16.length) 4294967296 then
          some (.next ((x8.1 ++ x16), (IntKind.i64.wrap (x8.2 + (1 : Int)))))
        else none
      else none
  else some (.fin x8.1)
noncomputable def F_ref08_Set (m : Fu) (p : Int × (List Int) × Int × Int) : Option ((List Int) × Int) :=
  let a0 := p.1
  let a1 := p.2.1
  let a2 := p.2.2.1
  let a3 := p.2.2.2
  (F_ref08_Check m (a0, a1)).bind fun x1 =>
  bif x1 != (0 : Int) then some (([] : List Int), x1) else
  bif decide (a2 < (0 : Int)) then some (([] : List Int), (2 : Int)) else
  bif decide ((a1.length : Int) ≤ a2) then some (([] : List Int), (2 : Int)) else
  bif decide (a3 < (0 : Int)) then some (([] : List Int), (2 : Int)) else
  bif decide ((16 : Int) < a3) then some (([] : List Int), (2 : Int)) else
  (iter m (F_ref08_Set.l506 m a1 a2 a3) (([] : List Int), (0 : Int))).bind fun x19 =>
  (F_ref08_May m (a0, x19)).bind fun x20 =>
  bif !x20 then
    some (([] : List Int), (80 : Int))
  else some (x19, (0 : Int))
def F_ref08_Set.ann : List (Nat × Ann) := [(506, .loop ⟨[(11, false, [.own (.int .i64) 480 true]), (12, false, [.dat (.int .i64)])], [], [], [], 481⟩ [(.exit 0, ⟨[(11, false, [.own (.int .i64) 480 true])], [], [], [], 481⟩)])]
def F_ref08_Set.sig : Sig := ⟨[.val false [.int .i64], .val false [.sl (.int .i64)], .val false [.int .i64], .val false [.int .i64]], [(false, [.own (.int .i64) 0 true]), (false, [.dat (.int .i64)])]⟩
noncomputable def F_ref08_Set.S : Summ := ⟨13, F_ref08_Set.sig, F_ref08_Set⟩
noncomputable def F_ref08_Set.G : List Summ := [F_ref08_Check.S, F_ref08_May.S]
theorem F_ref08_Set.eq : absF Try.prog F_ref08_Set.G F_ref08_Set.ann F_ref08_Set.sig Try.f13 = F_ref08_Set := by kernel_rfl
theorem F_ref08_Set.sound : Sound Try.prog F_ref08_Set.S := absF_sound (fn := Try.f13) (Γ := F_ref08_Set.G) (all_cons F_ref08_Check.sound (all_cons F_ref08_May.sound all_nil)) mix (by kernel_rfl) (by kernel_rfl) (fun m p => congrFun (congrFun F_ref08_Set.eq m) p)
/-! ### cloakroom/cloakroomref08.Sum -/
noncomputable def F_ref08_Sum.l122 (m : Fu) (a0 : List Int) (x3 : Int × Int) : Option (Step (Int × Int) ((Int × Int) ⊕ Int)) :=
  bif decide (x3.2 < (a0.length : Int)) then
    bif (decide ((0 : Int) ≤ x3.2)) && (decide (x3.2 < (a0.length : Int))) then
      bif decide ((a0.getD x3.2.toNat 0) < (0 : Int)) then some (.fin (Sum.inl ((0 : Int), (2 : Int)))) else
      bif (decide ((0 : Int) ≤ x3.2)) && (decide (x3.2 < (a0.length : Int))) then
        bif decide ((16 : Int) < (a0.getD x3.2.toNat 0)) then some (.fin (Sum.inl ((0 : Int), (2 : Int)))) else
        bif (decide ((0 : Int) ≤ x3.2)) && (decide (x3.2 < (a0.length : Int))) then
          some (.next ((IntKind.i64.wrap (x3.1 + (a0.getD x3.2.toNat 0))), (IntKind.i64.wrap (x3.2 + (1 : Int)))))
        else none
      else none
    else none
  else some (.fin (Sum.inr x3.1))
noncomputable def F_ref08_Sum (m : Fu) (p : List Int) : Option (Int × Int) :=
  let a0 := p
  bif decide ((4 : Int) < (a0.length : Int)) then some ((0 : Int), (4 : Int)) else
  (iter m (F_ref08_Sum.l122 m a0) ((0 : Int), (0 : Int))).bind fun x13 =>
  match x13 with
  | .inl x14 =>
    some (x14.1, x14.2)
  | .inr x15 =>
    some (x15, (0 : Int))
def F_ref08_Sum.ann : List (Nat × Ann) := [(122, .loop ⟨[(4, false, [.dat (.int .i64)]), (5, false, [.dat (.int .i64)])], [], [], [], 128⟩ [(.ret, ⟨[(2, false, [.dat (.int .i64)]), (3, false, [.dat (.int .i64)])], [], [], [], 128⟩), (.exit 0, ⟨[(4, false, [.dat (.int .i64)])], [], [], [], 128⟩)])]
def F_ref08_Sum.sig : Sig := ⟨[.val false [.sl (.int .i64)]], [(false, [.dat (.int .i64)]), (false, [.dat (.int .i64)])]⟩
noncomputable def F_ref08_Sum.S : Summ := ⟨14, F_ref08_Sum.sig, F_ref08_Sum⟩
noncomputable def F_ref08_Sum.G : List Summ := []
theorem F_ref08_Sum.eq : absF Try.prog F_ref08_Sum.G F_ref08_Sum.ann F_ref08_Sum.sig Try.f14 = F_ref08_Sum := by kernel_rfl
theorem F_ref08_Sum.sound : Sound Try.prog F_ref08_Sum.S := absF_sound (fn := Try.f14) (Γ := F_ref08_Sum.G) all_nil mix (by kernel_rfl) (by kernel_rfl) (fun m p => congrFun (congrFun F_ref08_Sum.eq m) p)
/-! ### cloakroom/cloakroomref05.IsTenant -/
noncomputable def F_ref05_IsTenant (m : Fu) (p : Int) : Option (Bool) :=
  let a0 := p
  bif decide ((0 : Int) ≤ a0) then
    some (decide (a0 < (4 : Int)))
  else some false
def F_ref05_IsTenant.ann : List (Nat × Ann) := []
def F_ref05_IsTenant.sig : Sig := ⟨[.val false [.int .i64]], [(false, [.dat .bool])]⟩
noncomputable def F_ref05_IsTenant.S : Summ := ⟨30, F_ref05_IsTenant.sig, F_ref05_IsTenant⟩
noncomputable def F_ref05_IsTenant.G : List Summ := []
theorem F_ref05_IsTenant.eq : absF Try.prog F_ref05_IsTenant.G F_ref05_IsTenant.ann F_ref05_IsTenant.sig Try.f30 = F_ref05_IsTenant := by kernel_rfl
theorem F_ref05_IsTenant.sound : Sound Try.prog F_ref05_IsTenant.S := absF_sound (fn := Try.f30) (Γ := F_ref05_IsTenant.G) all_nil mix (by kernel_rfl) (by kernel_rfl) (fun m p => congrFun (congrFun F_ref05_IsTenant.eq m) p)
/-! ### cloakroom/cloakroomref05.IsClass -/
noncomputable def F_ref05_IsClass (m : Fu) (p : Int) : Option (Bool) :=
  let a0 := p
  bif decide ((0 : Int) ≤ a0) then
    some (decide (a0 < (5 : Int)))
  else some false
def F_ref05_IsClass.ann : List (Nat × Ann) := []
def F_ref05_IsClass.sig : Sig := ⟨[.val false [.int .i64]], [(false, [.dat .bool])]⟩
noncomputable def F_ref05_IsClass.S : Summ := ⟨31, F_ref05_IsClass.sig, F_ref05_IsClass⟩
noncomputable def F_ref05_IsClass.G : List Summ := []
theorem F_ref05_IsClass.eq : absF Try.prog F_ref05_IsClass.G F_ref05_IsClass.ann F_ref05_IsClass.sig Try.f31 = F_ref05_IsClass := by kernel_rfl
theorem F_ref05_IsClass.sound : Sound Try.prog F_ref05_IsClass.S := absF_sound (fn := Try.f31) (Γ := F_ref05_IsClass.G) all_nil mix (by kernel_rfl) (by kernel_rfl) (fun m p => congrFun (congrFun F_ref05_IsClass.eq m) p)
/-! ### cloakroom/cloakroomref05.Size -/
noncomputable def F_ref05_Size (m : Fu) (p : Int) : Option (Int) :=
  let a0 := p
  let x1 := IntKind.u64.wrap a0
  bif decide (x1 < (0 : Int)) then
    none
  else some (IntKind.i64.wrap ((16 : Int) * (shlOp .i64 (1 : Int) x1)))
def F_ref05_Size.ann : List (Nat × Ann) := []
def F_ref05_Size.sig : Sig := ⟨[.val false [.int .i64]], [(false, [.dat (.int .i64)])]⟩
noncomputable def F_ref05_Size.S : Summ := ⟨39, F_ref05_Size.sig, F_ref05_Size⟩
noncomputable def F_ref05_Size.G : List Summ := []
theorem F_ref05_Size.eq : absF Try.prog F_ref05_Size.G F_ref05_Size.ann F_ref05_Size.sig Try.f39 = F_ref05_Size := by kernel_rfl
theorem F_ref05_Size.sound : Sound Try.prog F_ref05_Size.S := absF_sound (fn := Try.f39) (Γ := F_ref05_Size.G) all_nil mix (by kernel_rfl) (by kernel_rfl) (fun m p => congrFun (congrFun F_ref05_Size.eq m) p)
/-! ### cloakroom/cloakroomref05.Chunks -/
noncomputable def F_ref05_Chunks (m : Fu) (p : Int) : Option (Int) :=
  let a0 := p
  (F_ref05_Size m a0).bind fun x1 =>
  bif x1 == 0 then
    none
  else some (IntKind.i64.wrap ((256 : Int).tdiv x1))
def F_ref05_Chunks.ann : List (Nat × Ann) := []
def F_ref05_Chunks.sig : Sig := ⟨[.val false [.int .i64]], [(false, [.dat (.int .i64)])]⟩
noncomputable def F_ref05_Chunks.S : Summ := ⟨32, F_ref05_Chunks.sig, F_ref05_Chunks⟩
noncomputable def F_ref05_Chunks.G : List Summ := [F_ref05_Size.S]
theorem F_ref05_Chunks.eq : absF Try.prog F_ref05_Chunks.G F_ref05_Chunks.ann F_ref05_Chunks.sig Try.f32 = F_ref05_Chunks := by kernel_rfl
theorem F_ref05_Chunks.sound : Sound Try.prog F_ref05_Chunks.S := absF_sound (fn := Try.f32) (Γ := F_ref05_Chunks.G) (all_cons F_ref05_Size.sound all_nil) mix (by kernel_rfl) (by kernel_rfl) (fun m p => congrFun (congrFun F_ref05_Chunks.eq m) p)
/-! ### cloakroom/cloakroomref05.Has -/
noncomputable def F_ref05_Has (m : Fu) (p : Int × Int × Int × Int) : Option (Bool) :=
  let a2 := p.2.2.1
  let a3 := p.2.2.2
  bif decide ((0 : Int) ≤ a3) then
    bif decide (a3 < (16 : Int)) then
      let x3 := IntKind.u64.wrap a3
      bif decide (x3 < (0 : Int)) then
        none
      else some (((shrOp .u16 a2 x3).tmod (2 : Int)) == (1 : Int))
    else some false
  else some false
def F_ref05_Has.ann : List (Nat × Ann) := []
def F_ref05_Has.sig : Sig := ⟨[.val true [.int .i64, .int .i64, .int .u16], .val false [.int .i64]], [(false, [.dat .bool])]⟩
noncomputable def F_ref05_Has.S : Summ := ⟨33, F_ref05_Has.sig, F_ref05_Has⟩
noncomputable def F_ref05_Has.G : List Summ := []
theorem F_ref05_Has.eq : absF Try.prog F_ref05_Has.G F_ref05_Has.ann F_ref05_Has.sig Try.f33 = F_ref05_Has := by kernel_rfl
theorem F_ref05_Has.sound : Sound Try.prog F_ref05_Has.S := absF_sound (fn := Try.f33) (Γ := F_ref05_Has.G) all_nil mix (by kernel_rfl) (by kernel_rfl) (fun m p => congrFun (congrFun F_ref05_Has.eq m) p)
/-! ### cloakroom/cloakroomref05.Check -/
noncomputable def F_ref05_Check.l29854 (m : Fu) (x8 : Int × Int × Int) (x18 : Int) : Option (Step Int (Int ⊕ Unit)) :=
  bif decide (x18 < (16 : Int)) then
    (F_ref05_Has m (x8.1, x8.2.1, x8.2.2, x18)).bind fun x20 =>
    bif x20 then
      some (.fin (Sum.inl (8 : Int)))
    else some (.next (IntKind.i64.wrap (x18 + (1 : Int))))
  else some (.fin (Sum.inr ()))
noncomputable def F_ref05_Check.l58 (m : Fu) (a0 : List (Int × Int × Int)) (x5 : Int) : Option (Step Int (Int ⊕ Unit)) :=
  bif decide (x5 < (a0.length : Int)) then
    bif (decide ((0 : Int) ≤ x5)) && (decide (x5 < (a0.length : Int))) then
      let x8 := a0.getD x5.toNat (0, (0, 0))
      bif x8.2.2 == (0 : Int) then
        bif x8.1 != (0 : Int) then some (.fin (Sum.inl (8 : Int))) else
        bif x8.2.1 != (0 : Int) then
          some (.fin (Sum.inl (8 : Int)))
        else some (.next (IntKind.i64.wrap (x5 + (1 : Int))))
      else
        (F_ref05_IsTenant m x8.1).bind fun x13 =>
        bif !x13 then some (.fin (Sum.inl (8 : Int))) else
        (F_ref05_IsClass m x8.2.1).bind fun x15 =>
        bif !x15 then some (.fin (Sum.inl (8 : Int))) else
        (F_ref05_Chunks m x8.2.1).bind fun x17 =>
        (iter m (F_ref05_Check.l29854 m x8) x17).bind fun x22 =>
        match x22 with
        | .inl x23 =>
          some (.fin (Sum.inl x23))
        | .inr x24 =>
          some (.next (IntKind.i64.wrap (x5 + (1 : Int))))
    else none
  else some (.fin (Sum.inr ()))
noncomputable def F_ref05_Check (m : Fu) (p : List (Int × Int × Int)) : Option (Int) :=
  let a0 := p
  bif decide ((a0.length : Int) < (1 : Int)) then some (8 : Int) else
  bif decide ((16 : Int) < (a0.length : Int)) then some (8 : Int) else
  (iter m (F_ref05_Check.l58 m a0) (0 : Int)).bind fun x26 =>
  match x26 with
  | .inl x27 =>
    some x27
  | .inr x28 =>
    some (0 : Int)
def F_ref05_Check.ann : List (Nat × Ann) := [(58, .loop ⟨[(3, false, [.dat (.int .i64)])], [], [], [], 224⟩ [(.ret, ⟨[(2, false, [.dat (.int .i64)])], [], [], [], 224⟩), (.exit 0, ⟨[], [], [], [], 224⟩)]),
  (29854, .loop ⟨[(5, false, [.dat (.int .i64)])], [], [], [], 688⟩ [(.ret, ⟨[(2, false, [.dat (.int .i64)])], [], [], [], 688⟩), (.exit 2, ⟨[], [], [], [], 688⟩)])]
def F_ref05_Check.sig : Sig := ⟨[.val true [.sl (.pr (.int .i64) (.pr (.int .i64) (.int .u16)))]], [(false, [.dat (.int .i64)])]⟩
noncomputable def F_ref05_Check.S : Summ := ⟨19, F_ref05_Check.sig, F_ref05_Check⟩
noncomputable def F_ref05_Check.G : List Summ := [F_ref05_IsTenant.S, F_ref05_IsClass.S, F_ref05_Chunks.S, F_ref05_Has.S]
theorem F_ref05_Check.eq : absF Try.prog F_ref05_Check.G F_ref05_Check.ann F_ref05_Check.sig Try.f19 = F_ref05_Check := by kernel_rfl
theorem F_ref05_Check.sound : Sound Try.prog F_ref05_Check.S := absF_sound (fn := Try.f19) (Γ := F_ref05_Check.G) (all_cons F_ref05_IsTenant.sound (all_cons F_ref05_IsClass.sound (all_cons F_ref05_Chunks.sound (all_cons F_ref05_Has.sound all_nil)))) mix (by kernel_rfl) (by kernel_rfl) (fun m p => congrFun (congrFun F_ref05_Check.eq m) p)
/-! ### cloakroom/cloakroomref08.asked -/
noncomputable def F_ref08_asked (m : Fu) (p : (List (Int × Int × Int)) × (List Int) × Int) : Option (Int) :=
  let a0 := p.1
  let a1 := p.2.1
  let a2 := p.2.2
  (F_ref05_Check m a0).bind fun x1 =>
  bif x1 != (0 : Int) then some (8 : Int) else
  (F_ref08_May m ((a0.length : Int), a1)).bind fun x4 =>
  bif !x4 then some (80 : Int) else
  bif decide (a2 < (0 : Int)) then some (2 : Int) else
  bif decide ((a1.length : Int) ≤ a2) then
    some (2 : Int)
  else some (0 : Int)
def F_ref08_asked.ann : List (Nat × Ann) := []
def F_ref08_asked.sig : Sig := ⟨[.val true [.sl (.pr (.int .i64) (.pr (.int .i64) (.int .u16)))], .val false [.sl (.int .i64)], .val false [.int .i64]], [(false, [.dat (.int .i64)])]⟩
noncomputable def F_ref08_asked.S : Summ := ⟨28, F_ref08_asked.sig, F_ref08_asked⟩
noncomputable def F_ref08_asked.G : List Summ := [F_ref05_Check.S, F_ref08_May.S]
theorem F_ref08_asked.eq : absF Try.prog F_ref08_asked.G F_ref08_asked.ann F_ref08_asked.sig Try.f28 = F_ref08_asked := by kernel_rfl
theorem F_ref08_asked.sound : Sound Try.prog F_ref08_asked.S := absF_sound (fn := Try.f28) (Γ := F_ref08_asked.G) (all_cons F_ref05_Check.sound (all_cons F_ref08_May.sound all_nil)) mix (by kernel_rfl) (by kernel_rfl) (fun m p => congrFun (congrFun F_ref08_asked.eq m) p)
/-! ### cloakroom/cloakroomref05.IsFree -/
noncomputable def F_ref05_IsFree (m : Fu) (p : Int × Int × Int) : Option (Bool) :=
  let a2 := p.2.2
  some (a2 == (0 : Int))
def F_ref05_IsFree.ann : List (Nat × Ann) := []
def F_ref05_IsFree.sig : Sig := ⟨[.val true [.int .i64, .int .i64, .int .u16]], [(false, [.dat .bool])]⟩
noncomputable def F_ref05_IsFree.S : Summ := ⟨38, F_ref05_IsFree.sig, F_ref05_IsFree⟩
noncomputable def F_ref05_IsFree.G : List Summ := []
theorem F_ref05_IsFree.eq : absF Try.prog F_ref05_IsFree.G F_ref05_IsFree.ann F_ref05_IsFree.sig Try.f38 = F_ref05_IsFree := by kernel_rfl
theorem F_ref05_IsFree.sound : Sound Try.prog F_ref05_IsFree.S := absF_sound (fn := Try.f38) (Γ := F_ref05_IsFree.G) all_nil mix (by kernel_rfl) (by kernel_rfl) (fun m p => congrFun (congrFun F_ref05_IsFree.eq m) p)
/-! ### cloakroom/cloakroomref05.Owned -/
noncomputable def F_ref05_Owned.l58 (m : Fu) (a0 : List (Int × Int × Int)) (a1 : Int) (x1 : Int × Int) : Option (Step (Int × Int) Int) :=
  bif decide (x1.2 < (a0.length : Int)) then
    bif (decide ((0 : Int) ≤ x1.2)) && (decide (x1.2 < (a0.length : Int))) then
      let x4 := a0.getD x1.2.toNat (0, (0, 0))
      (F_ref05_IsFree m (x4.1, x4.2.1, x4.2.2)).bind fun x5 =>
      bif !x5 then
        bif (decide ((0 : Int) ≤ x1.2)) && (decide (x1.2 < (a0.length : Int))) then
          bif ((a0.getD x1.2.toNat (0, (0, 0))).1) == a1 then
            some (.next ((IntKind.i64.wrap (x1.1 + (1 : Int))), (IntKind.i64.wrap (x1.2 + (1 : Int)))))
          else some (.next (x1.1, (IntKind.i64.wrap (x1.2 + (1 : Int)))))
        else none
      else some (.next (x1.1, (IntKind.i64.wrap (x1.2 + (1 : Int)))))
    else none
  else some (.fin x1.1)
noncomputable def F_ref05_Owned (m : Fu) (p : (List (Int × Int × Int)) × Int) : Option (Int) :=
  let a0 := p.1
  let a1 := p.2
  (iter m (F_ref05_Owned.l58 m a0 a1) ((0 : Int), (0 : Int))).bind fun x13 =>
  some x13
def F_ref05_Owned.ann : List (Nat × Ann) := [(58, .loop ⟨[(5, false, [.dat (.int .i64)]), (6, false, [.dat (.int .i64)])], [], [], [], 96⟩ [(.exit 0, ⟨[(5, false, [.dat (.int .i64)])], [], [], [], 96⟩)])]
def F_ref05_Owned.sig : Sig := ⟨[.val true [.sl (.pr (.int .i64) (.pr (.int .i64) (.int .u16)))], .val false [.int .i64]], [(false, [.dat (.int .i64)])]⟩
noncomputable def F_ref05_Owned.S : Summ := ⟨29, F_ref05_Owned.sig, F_ref05_Owned⟩
noncomputable def F_ref05_Owned.G : List Summ := [F_ref05_IsFree.S]
theorem F_ref05_Owned.eq : absF Try.prog F_ref05_Owned.G F_ref05_Owned.ann F_ref05_Owned.sig Try.f29 = F_ref05_Owned := by kernel_rfl
theorem F_ref05_Owned.sound : Sound Try.prog F_ref05_Owned.S := absF_sound (fn := Try.f29) (Γ := F_ref05_Owned.G) (all_cons F_ref05_IsFree.sound all_nil) mix (by kernel_rfl) (by kernel_rfl) (fun m p => congrFun (congrFun F_ref05_Owned.eq m) p)
/-! ### cloakroom/cloakroomref08.Room -/
noncomputable def F_ref08_Room (m : Fu) (p : (List (Int × Int × Int)) × (List Int) × Int) : Option (Bool × Int) :=
  let a0 := p.1
  let a1 := p.2.1
  let a2 := p.2.2
  (F_ref08_asked m (a0, a1, a2)).bind fun x1 =>
  bif x1 != (0 : Int) then some (false, x1) else
  (F_ref05_Owned m (a0, a2)).bind fun x3 =>
  bif (decide ((0 : Int) ≤ a2)) && (decide (a2 < (a1.length : Int))) then
    some ((decide (x3 < (a1.getD a2.toNat 0))), (0 : Int))
  else none
def F_ref08_Room.ann : List (Nat × Ann) := []
def F_ref08_Room.sig : Sig := ⟨[.val true [.sl (.pr (.int .i64) (.pr (.int .i64) (.int .u16)))], .val false [.sl (.int .i64)], .val false [.int .i64]], [(false, [.dat .bool]), (false, [.dat (.int .i64)])]⟩
noncomputable def F_ref08_Room.S : Summ := ⟨15, F_ref08_Room.sig, F_ref08_Room⟩
noncomputable def F_ref08_Room.G : List Summ := [F_ref08_asked.S, F_ref05_Owned.S]
theorem F_ref08_Room.eq : absF Try.prog F_ref08_Room.G F_ref08_Room.ann F_ref08_Room.sig Try.f15 = F_ref08_Room := by kernel_rfl
theorem F_ref08_Room.sound : Sound Try.prog F_ref08_Room.S := absF_sound (fn := Try.f15) (Γ := F_ref08_Room.G) (all_cons F_ref08_asked.sound (all_cons F_ref05_Owned.sound all_nil)) mix (by kernel_rfl) (by kernel_rfl) (fun m p => congrFun (congrFun F_ref08_Room.eq m) p)
/-! ### cloakroom/cloakroomref08.Over -/
noncomputable def F_ref08_Over (m : Fu) (p : (List (Int × Int × Int)) × (List Int) × Int) : Option (Int × Int) :=
  let a0 := p.1
  let a1 := p.2.1
  let a2 := p.2.2
  (F_ref08_asked m (a0, a1, a2)).bind fun x1 =>
  bif x1 != (0 : Int) then some ((0 : Int), x1) else
  (F_ref05_Owned m (a0, a2)).bind fun x3 =>
  bif (decide ((0 : Int) ≤ a2)) && (decide (a2 < (a1.length : Int))) then
    some ((mxI (0 : Int) (IntKind.i64.wrap (x3 - (a1.getD a2.toNat 0)))), (0 : Int))
  else none
def F_ref08_Over.ann : List (Nat × Ann) := []
def F_ref08_Over.sig : Sig := ⟨[.val true [.sl (.pr (.int .i64) (.pr (.int .i64) (.int .u16)))], .val false [.sl (.int .i64)], .val false [.int .i64]], [(false, [.dat (.int .i64)]), (false, [.dat (.int .i64)])]⟩
noncomputable def F_ref08_Over.S : Summ := ⟨16, F_ref08_Over.sig, F_ref08_Over⟩
noncomputable def F_ref08_Over.G : List Summ := [F_ref08_asked.S, F_ref05_Owned.S]
theorem F_ref08_Over.eq : absF Try.prog F_ref08_Over.G F_ref08_Over.ann F_ref08_Over.sig Try.f16 = F_ref08_Over := by kernel_rfl
theorem F_ref08_Over.sound : Sound Try.prog F_ref08_Over.S := absF_sound (fn := Try.f16) (Γ := F_ref08_Over.G) (all_cons F_ref08_asked.sound (all_cons F_ref05_Owned.sound all_nil)) mix (by kernel_rfl) (by kernel_rfl) (fun m p => congrFun (congrFun F_ref08_Over.eq m) p)
/-! ### cloakroom/cloakroomref08.Same -/
noncomputable def F_ref08_Same.l58 (m : Fu) (a0 : List Int) (a1 : List Int) (x4 : Int) : Option (Step Int (Bool ⊕ Unit)) :=
  bif decide (x4 < (a0.length : Int)) then
    bif (decide ((0 : Int) ≤ x4)) && (decide (x4 < (a0.length : Int))) then
      bif (decide ((0 : Int) ≤ x4)) && (decide (x4 < (a1.length : Int))) then
        bif (a0.getD x4.toNat 0) != (a1.getD x4.toNat 0) then
          some (.fin (Sum.inl false))
        else some (.next (IntKind.i64.wrap (x4 + (1 : Int))))
      else none
    else none
  else some (.fin (Sum.inr ()))
noncomputable def F_ref08_Same (m : Fu) (p : (List Int) × (List Int)) : Option (Bool) :=
  let a0 := p.1
  let a1 := p.2
  bif (a0.length : Int) != (a1.length : Int) then some false else
  (iter m (F_ref08_Same.l58 m a0 a1) (0 : Int)).bind fun x11 =>
  match x11 with
  | .inl x12 =>
    some x12
  | .inr x13 =>
    some true
def F_ref08_Same.ann : List (Nat × Ann) := [(58, .loop ⟨[(5, false, [.dat (.int .i64)])], [], [], [], 144⟩ [(.ret, ⟨[(4, false, [.dat .bool])], [], [], [], 144⟩), (.exit 0, ⟨[], [], [], [], 144⟩)])]
def F_ref08_Same.sig : Sig := ⟨[.val false [.sl (.int .i64)], .val false [.sl (.int .i64)]], [(false, [.dat .bool])]⟩
noncomputable def F_ref08_Same.S : Summ := ⟨18, F_ref08_Same.sig, F_ref08_Same⟩
noncomputable def F_ref08_Same.G : List Summ := []
theorem F_ref08_Same.eq : absF Try.prog F_ref08_Same.G F_ref08_Same.ann F_ref08_Same.sig Try.f18 = F_ref08_Same := by kernel_rfl
theorem F_ref08_Same.sound : Sound Try.prog F_ref08_Same.S := absF_sound (fn := Try.f18) (Γ := F_ref08_Same.G) all_nil mix (by kernel_rfl) (by kernel_rfl) (fun m p => congrFun (congrFun F_ref08_Same.eq m) p)
/-! ### cloakroom/cloakroomlaw08.QuotaAsks -/
noncomputable def F_law08_QuotaAsks.l65530 (m : Fu) (x25 : Int × (List Int)) : Option (Step (Int × (List Int)) Unit) :=
  bif decide (x25.1 < (x25.2.length : Int)) then
    bif (decide ((0 : Int) ≤ x25.1)) && (decide (x25.1 < (x25.2.length : Int))) then
      bif Nat.blt x25.1.toNat x25.2.length then
        some (.next ((IntKind.i64.wrap (x25.1 + (1 : Int))), (x25.2.set x25.1.toNat (77 : Int))))
      else none
    else none
  else some (.fin ())
noncomputable def F_law08_QuotaAsks (m : Fu) (p : Int × (List Int) × (List (Int × Int × Int)) × Int × Int) : Option (Bool) :=
  let a0 := p.1
  let a1 := p.2.1
  let a2 := p.2.2.1
  let a3 := p.2.2.2.1
  let a4 := p.2.2.2.2
  bif decide ((100 : Int) < (a1.length : Int)) then some true else
  bif decide ((100 : Int) < (a2.length : Int)) then some true else
  bif Nat.ble a1.length 4294967296 then
    (F_quota_Set m (a0, a1, a3, a4)).bind fun x5 =>
    (F_ref08_Set m (a0, a1, a3, a4)).bind fun x6 =>
    (F_quota_Sum m a1).bind fun x7 =>
    (F_ref08_Sum m a1).bind fun x8 =>
    (F_quota_Room m (a2, a1, a3)).bind fun x9 =>
    (F_ref08_Room m (a2, a1, a3)).bind fun x10 =>
    (F_quota_Over m (a2, a1, a3)).bind fun x11 =>
    (F_ref08_Over m (a2, a1, a3)).bind fun x12 =>
    (F_quota_Check m (a0, a1)).bind fun x13 =>
    (F_ref08_Check m (a0, a1)).bind fun x14 =>
    bif x13 != x14 then some false else
    (F_ref08_Same m (x5.1, x6.1)).bind fun x16 =>
    bif !x16 then some false else
    bif x5.2 != x6.2 then some false else
    bif x7.1 != x8.1 then some false else
    bif x7.2 != x8.2 then some false else
    bif !(x9.1 == x10.1) then some false else
    bif x9.2 != x10.2 then some false else
    bif x11.1 != x12.1 then some false else
    bif x11.2 != x12.2 then some false else
    (iter m (F_law08_QuotaAsks.l65530 m) ((0 : Int), x5.1)).bind fun x30 =>
    (F_ref08_Same m (a1, a1)).bind fun x31 =>
    bif x31 then
      (F_ref05_Check m a2).bind fun x32 =>
      bif x32 == (0 : Int) then
        some true
      else some (x9.2 == (8 : Int))
    else some false
  else none
def F_law08_QuotaAsks.ann : List (Nat × Ann) := [(65530, .loop ⟨[(28, false, [.dat (.int .i64)])], [], [(368, .int .i64, true)], [], 2208⟩ [(.exit 0, ⟨[], [], [], [368], 2208⟩)])]
def F_law08_QuotaAsks.sig : Sig := ⟨[.val false [.int .i64], .val false [.sl (.int .i64)], .val true [.sl (.pr (.int .i64) (.pr (.int .i64) (.int .u16)))], .val false [.int .i64], .val false [.int .i64]], [(false, [.dat .bool])]⟩
noncomputable def F_law08_QuotaAsks.S : Summ := ⟨5, F_law08_QuotaAsks.sig, F_law08_QuotaAsks⟩
noncomputable def F_law08_QuotaAsks.G : List Summ := [F_quota_Set.S, F_ref08_Set.S, F_quota_Sum.S, F_ref08_Sum.S, F_quota_Room.S, F_ref08_Room.S, F_quota_Over.S, F_ref08_Over.S, F_quota_Check.S, F_ref08_Check.S, F_ref08_Same.S, F_ref05_Check.S]
theorem F_law08_QuotaAsks.eq : absF Try.prog F_law08_QuotaAsks.G F_law08_QuotaAsks.ann F_law08_QuotaAsks.sig Try.f5 = F_law08_QuotaAsks := by kernel_rfl
theorem F_law08_QuotaAsks.sound : Sound Try.prog F_law08_QuotaAsks.S := absF_sound (fn := Try.f5) (Γ := F_law08_QuotaAsks.G) (all_cons F_quota_Set.sound (all_cons F_ref08_Set.sound (all_cons F_quota_Sum.sound (all_cons F_ref08_Sum.sound (all_cons F_quota_Room.sound (all_cons F_ref08_Room.sound (all_cons F_quota_Over.sound (all_cons F_ref08_Over.sound (all_cons F_quota_Check.sound (all_cons F_ref08_Check.sound (all_cons F_ref08_Same.sound (all_cons F_ref05_Check.sound all_nil)))))))))))) mix (by kernel_rfl) (by kernel_rfl) (fun m p => congrFun (congrFun F_law08_QuotaAsks.eq m) p)
/-! ### cloakroom/slab.Last -/
noncomputable def F_slab_Last (m : Fu) (p : (List (Int × Int × Int)) × Int) : Option (Int × Int) :=
  let a0 := p.1
  let a1 := p.2
  (F_slab_asked m (a0, a1)).bind fun x1 =>
  bif x1 != (0 : Int) then some ((0 : Int), x1) else
  (F_slab_owned m (a0, a1)).bind fun x3 =>
  some (x3.2, (0 : Int))
def F_slab_Last.ann : List (Nat × Ann) := []
def F_slab_Last.sig : Sig := ⟨[.val true [.sl (.pr (.int .i64) (.pr (.int .i64) (.int .u16)))], .val false [.int .i64]], [(false, [.dat (.int .i64)]), (false, [.dat (.int .i64)])]⟩
noncomputable def F_slab_Last.S : Summ := ⟨20, F_slab_Last.sig, F_slab_Last⟩
noncomputable def F_slab_Last.G : List Summ := [F_slab_asked.S, F_slab_owned.S]
theorem F_slab_Last.eq : absF Try.prog F_slab_Last.G F_slab_Last.ann F_slab_Last.sig Try.f20 = F_slab_Last := by kernel_rfl
theorem F_slab_Last.sound : Sound Try.prog F_slab_Last.S := absF_sound (fn := Try.f20) (Γ := F_slab_Last.G) (all_cons F_slab_asked.sound (all_cons F_slab_owned.sound all_nil)) mix (by kernel_rfl) (by kernel_rfl) (fun m p => congrFun (congrFun F_slab_Last.eq m) p)
/-! ### slices.Clone[[]cloakroom/api.Page,cloakroom/api.Page] -/
noncomputable def F_slices_Clone_Page (m : Fu) (p : List (Int × Int × Int)) : Option (List (Int × Int × Int)) :=
  let a0 := p
  match a0 with
  | [] => same2
   (
    some ([] : List (Int × Int × Int)))
   (
    bif Nat.ble (0 + a0.length) 4294967296 then
      some (([] : List (Int × Int × Int)) ++ a0)
    else none)
  | _ :: _ =>
    bif Nat.ble (0 + a0.length) 4294967296 then
      some (([] : List (Int × Int × Int)) ++ a0)
    else none
def F_slices_Clone_Page.ann : List (Nat × Ann) := []
def F_slices_Clone_Page.sig : Sig := ⟨[.val false [.sl (.pr (.int .i64) (.pr (.int .i64) (.int .u16)))]], [(false, [.own (.pr (.int .i64) (.pr (.int .i64) (.int .u16))) 0 true])]⟩
noncomputable def F_slices_Clone_Page.S : Summ := ⟨37, F_slices_Clone_Page.sig, F_slices_Clone_Page⟩
noncomputable def F_slices_Clone_Page.G : List Summ := []
theorem F_slices_Clone_Page.eq : absF Try.prog F_slices_Clone_Page.G F_slices_Clone_Page.ann F_slices_Clone_Page.sig Try.f37 = F_slices_Clone_Page := by kernel_rfl
theorem F_slices_Clone_Page.sound : Sound Try.prog F_slices_Clone_Page.S := absF_sound (fn := Try.f37) (Γ := F_slices_Clone_Page.G) all_nil mix (by kernel_rfl) (by kernel_rfl) (fun m p => congrFun (congrFun F_slices_Clone_Page.eq m) p)
noncomputable def C_slices_Clone_Page (m : Fu) (p : List (Int × Int × Int)) : Option (List (Int × Int × Int)) := bif Nat.ble p.length 4294967296 then some p else none
theorem C_slices_Clone_Page.is : F_slices_Clone_Page = C_slices_Clone_Page := by
  funext m p
  have h0 : Nat.ble 0 4294967296 = true := rfl
  cases p <;> simp [F_slices_Clone_Page, C_slices_Clone_Page, same2_self, h0]
noncomputable def C_slices_Clone_Page.S : Summ := ⟨37, F_slices_Clone_Page.sig, C_slices_Clone_Page⟩
theorem C_slices_Clone_Page.sound : Sound Try.prog C_slices_Clone_Page.S := by
  have h := F_slices_Clone_Page.sound
  unfold F_slices_Clone_Page.S at h
  rw [C_slices_Clone_Page.is] at h
  exact h
/-! ### cloakroom/slab.Free -/
noncomputable def F_slab_Free.s30 (m : Fu) (a1 : Int) (a2 : Int) (x12 : List (Int × Int × Int)) : Option ((List (Int × Int × Int))) :=
  bif (decide ((0 : Int) ≤ a1)) && (decide (a1 < (x12.length : Int))) then
    bif Nat.blt a1.toNat x12.length then
      bif decide (a2 < (0 : Int)) then none else
      bif (((x12.getD a1.toNat (0, (0, 0))).2).2) == (shlOp .u16 (1 : Int) a2) then
        bif Nat.blt a1.toNat x12.length then
          some (x12.set a1.toNat ((0 : Int), ((0 : Int), (0 : Int))))
        else none
      else
        bif Nat.blt a1.toNat x12.length then
          bif decide (a2 < (0 : Int)) then none else
          bif Nat.blt a1.toNat x12.length then
            some (x12.set a1.toNat (((x12.getD a1.toNat (0, (0, 0))).1), ((((x12.getD a1.toNat (0, (0, 0))).2).1), (bitsOp .andNot .u16 (((x12.getD a1.toNat (0, (0, 0))).2).2) (shlOp .u16 (1 : Int) a2)))))
          else none
        else none
    else none
  else none
noncomputable def F_slab_Free (m : Fu) (p : (List (Int × Int × Int)) × Int × Int) : Option ((List (Int × Int × Int)) × Int) :=
  let a0 := p.1
  let a1 := p.2.1
  let a2 := p.2.2
  (F_slab_Check m a0).bind fun x1 =>
  bif x1 != (0 : Int) then some (([] : List (Int × Int × Int)), x1) else
  bif decide (a1 < (0 : Int)) then some (([] : List (Int × Int × Int)), (2 : Int)) else
  bif decide ((a0.length : Int) ≤ a1) then some (([] : List (Int × Int × Int)), (2 : Int)) else
  bif decide (a2 < (0 : Int)) then some (([] : List (Int × Int × Int)), (6 : Int)) else
  bif decide ((15 : Int) < a2) then some (([] : List (Int × Int × Int)), (6 : Int)) else
  bif (decide ((0 : Int) ≤ a1)) && (decide (a1 < (a0.length : Int))) then
    bif decide (a2 < (0 : Int)) then none else
    bif (bitsOp .and .u16 (shrOp .u16 (((a0.getD a1.toNat (0, (0, 0))).2).2) a2) (1 : Int)) == (0 : Int) then some (([] : List (Int × Int × Int)), (6 : Int)) else
    (C_slices_Clone_Page m a0).bind fun x12 =>
    (F_slab_Free.s30 m a1 a2 x12).bind fun x21 =>
    some (x21, (0 : Int))
  else none
def F_slab_Free.ann : List (Nat × Ann) := [(30, .jnt [(.normal, ⟨[], [], [(688, .pr (.int .i64) (.pr (.int .i64) (.int .u16)), true)], [], 752⟩)])]
def F_slab_Free.sig : Sig := ⟨[.val true [.sl (.pr (.int .i64) (.pr (.int .i64) (.int .u16)))], .val false [.int .i64], .val false [.int .i64]], [(true, [.own (.pr (.int .i64) (.pr (.int .i64) (.int .u16))) 0 true]), (false, [.dat (.int .i64)])]⟩
noncomputable def F_slab_Free.S : Summ := ⟨21, F_slab_Free.sig, F_slab_Free⟩
noncomputable def F_slab_Free.G : List Summ := [F_slab_Check.S, C_slices_Clone_Page.S]
theorem F_slab_Free.eq : absF Try.prog F_slab_Free.G F_slab_Free.ann F_slab_Free.sig Try.f21 = F_slab_Free := by kernel_rfl
theorem F_slab_Free.sound : Sound Try.prog F_slab_Free.S := absF_sound (fn := Try.f21) (Γ := F_slab_Free.G) (all_cons F_slab_Check.sound (all_cons C_slices_Clone_Page.sound all_nil)) mix (by kernel_rfl) (by kernel_rfl) (fun m p => congrFun (congrFun F_slab_Free.eq m) p)
/-! ### cloakroom/cloakroomlaw08.QuotaOver -/
noncomputable def F_law08_QuotaOver.s510 (m : Fu) (x7 : Int × Int) (x10 : Bool × Int) : Option (Bool ⊕ Unit) :=
  bif x10.2 != (0 : Int) then some (Sum.inl false) else
  bif decide (x7.1 < (0 : Int)) then some (Sum.inl false) else
  bif decide ((0 : Int) < x7.1) then
    bif x10.1 then
      some (Sum.inl false)
    else some (Sum.inr ())
  else some (Sum.inr ())
noncomputable def F_law08_QuotaOver.l1047118 (m : Fu) (x19 : Int × Int) (x24 : Int × (List (Int × Int × Int))) : Option (Step (Int × (List (Int × Int × Int))) ((List (Int × Int × Int)))) :=
  bif decide (x24.1 < (16 : Int)) then
    (F_slab_Free m (x24.2, x19.1, x24.1)).bind fun x26 =>
    bif x26.2 == (0 : Int) then
      some (.next ((IntKind.i64.wrap (x24.1 + (1 : Int))), x26.1))
    else some (.next ((IntKind.i64.wrap (x24.1 + (1 : Int))), x24.2))
  else some (.fin x24.2)
noncomputable def F_law08_QuotaOver.l4090 (m : Fu) (a2 : Int) (x7 : Int × Int) (x17 : Int × (List (Int × Int × Int))) : Option (Step (Int × (List (Int × Int × Int))) (Bool ⊕ (List (Int × Int × Int)))) :=
  bif decide (x17.1 < x7.1) then
    (F_slab_Last m (x17.2, a2)).bind fun x19 =>
    bif x19.2 != (0 : Int) then some (.fin (Sum.inl false)) else
    bif decide (x19.1 < (0 : Int)) then some (.fin (Sum.inl false)) else
    bif decide ((x17.2.length : Int) ≤ x19.1) then some (.fin (Sum.inl false)) else
    (iter m (F_law08_QuotaOver.l1047118 m x19) ((0 : Int), x17.2)).bind fun x30 =>
    some (.next ((IntKind.i64.wrap (x17.1 + (1 : Int))), x30))
  else some (.fin (Sum.inr x17.2))
noncomputable def F_law08_QuotaOver (m : Fu) (p : (List (Int × Int × Int)) × (List Int) × Int) : Option (Bool) :=
  let a0 := p.1
  let a1 := p.2.1
  let a2 := p.2.2
  (F_law08_alive m ()).bind fun x1 =>
  bif !x1 then some false else
  bif decide ((100 : Int) < (a0.length : Int)) then some x1 else
  bif decide ((100 : Int) < (a1.length : Int)) then some x1 else
  (F_quota_Over m (a0, a1, a2)).bind fun x7 =>
  bif x7.2 != (0 : Int) then
    bif x1 then
      some (x7.1 == (0 : Int))
    else some false
  else
    (F_quota_Room m (a0, a1, a2)).bind fun x10 =>
    (F_law08_QuotaOver.s510 m x7 x10).bind fun x14 =>
    match x14 with
    | .inl x15 =>
      some x15
    | .inr x16 =>
      (iter m (F_law08_QuotaOver.l4090 m a2 x7) ((0 : Int), a0)).bind fun x32 =>
      match x32 with
      | .inl x33 =>
        some x33
      | .inr x34 =>
        (F_slab_Owned m (x34, a2)).bind fun x35 =>
        (F_quota_Over m (x34, a1, a2)).bind fun x36 =>
        bif x1 then
          bif x35.2 == (0 : Int) then
            bif x36.2 == (0 : Int) then
              bif x36.1 == (0 : Int) then
                bif (decide ((0 : Int) ≤ a2)) && (decide (a2 < (a1.length : Int))) then
                  bif decide (x35.1 ≤ (a1.getD a2.toNat 0)) then
                    bif x7.1 == (0 : Int) then some true else
                    bif (decide ((0 : Int) ≤ a2)) && (decide (a2 < (a1.length : Int))) then
                      some (x35.1 == (a1.getD a2.toNat 0))
                    else none
                  else some false
                else none
              else some false
            else some false
          else some false
        else some false
def F_law08_QuotaOver.ann : List (Nat × Ann) := [(510, .jnt [(.ret, ⟨[(6, false, [.dat .bool])], [], [], [], 608⟩), (.normal, ⟨[], [], [], [], 608⟩)]),
  (4090, .loop ⟨[(12, false, [.dat (.int .i64)])], [(48, [.dat (.sl (.pr (.int .i64) (.pr (.int .i64) (.int .u16))))])], [], [], 624⟩ [(.ret, ⟨[(6, false, [.dat .bool])], [], [], [48], 624⟩), (.exit 0, ⟨[], [(48, [.dat (.sl (.pr (.int .i64) (.pr (.int .i64) (.int .u16))))])], [], [], 624⟩)]),
  (1047118, .loop ⟨[(15, false, [.dat (.int .i64)])], [(48, [.dat (.sl (.pr (.int .i64) (.pr (.int .i64) (.int .u16))))])], [], [], 1024⟩ [(.exit 2, ⟨[], [(48, [.dat (.sl (.pr (.int .i64) (.pr (.int .i64) (.int .u16))))])], [], [], 1024⟩)])]
def F_law08_QuotaOver.sig : Sig := ⟨[.val true [.sl (.pr (.int .i64) (.pr (.int .i64) (.int .u16)))], .val false [.sl (.int .i64)], .val false [.int .i64]], [(false, [.dat .bool])]⟩
noncomputable def F_law08_QuotaOver.S : Summ := ⟨6, F_law08_QuotaOver.sig, F_law08_QuotaOver⟩
noncomputable def F_law08_QuotaOver.G : List Summ := [F_law08_alive.S, F_quota_Over.S, F_quota_Room.S, F_slab_Last.S, F_slab_Free.S, F_slab_Owned.S]
theorem F_law08_QuotaOver.eq : absF Try.prog F_law08_QuotaOver.G F_law08_QuotaOver.ann F_law08_QuotaOver.sig Try.f6 = F_law08_QuotaOver := by kernel_rfl
theorem F_law08_QuotaOver.sound : Sound Try.prog F_law08_QuotaOver.S := absF_sound (fn := Try.f6) (Γ := F_law08_QuotaOver.G) (all_cons F_law08_alive.sound (all_cons F_quota_Over.sound (all_cons F_quota_Room.sound (all_cons F_slab_Last.sound (all_cons F_slab_Free.sound (all_cons F_slab_Owned.sound all_nil)))))) mix (by kernel_rfl) (by kernel_rfl) (fun m p => congrFun (congrFun F_law08_QuotaOver.eq m) p)
end Go.Proofs.Ytnnfjeofdcjfoaa
