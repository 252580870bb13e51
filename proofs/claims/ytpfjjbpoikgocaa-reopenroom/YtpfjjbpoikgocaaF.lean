/- The pure functions that the program's functions compute, and that they compute them. Printed by a program of this session (gen.py). -/
import Derived.Test.YtpfjjbpoikgocaaProg
import Derived.Test.YtpfjjbpoikgocaaA3
import Derived.WalkKit
import Derived.Tactics
import Derived.Tactics2
import Derived.StillTactics
import Derived.Laws.Pointers
import Derived.RegionTactic
import Derived.LoopTactic
import Derived.ChangeAlike
import Derived.Laws.Bits64b
namespace Go.Proofs.Ytpfjjbpoikgocaa
open Go.Abs Go.RowKit
set_option maxRecDepth 100000
theorem mix : Try.prog.follows .mixedOrders = true := by kernel_rfl
/-! ### cloakroom/image.in -/
noncomputable def F_image_in (_ : Fu) (p : Int × Int) : Option (Bool) :=
  let a0 := p.1
  let a1 := p.2
  bif decide ((0 : Int) ≤ a0) then
    some (decide (a0 ≤ a1))
  else some false
def F_image_in.ann : List (Nat × Ann) := []
def F_image_in.sig : Sig := ⟨[.val false [.int .i64], .val false [.int .i64]], [(false, [.dat .bool])]⟩
noncomputable def F_image_in.S : Summ := ⟨54, F_image_in.sig, F_image_in⟩
noncomputable def F_image_in.G : List Summ := []
theorem F_image_in.eq : absF Try.prog F_image_in.G F_image_in.ann F_image_in.sig Try.f54 = F_image_in := by kernel_rfl
theorem F_image_in.sound : Sound Try.prog F_image_in.S := absF_sound (fn := Try.f54) (Γ := F_image_in.G) all_nil mix (by kernel_rfl) (by kernel_rfl) (fun m p => congrFun (congrFun F_image_in.eq m) p)
/-! ### cloakroom/image.quotas$1 -/
noncomputable def F_image_quotas_c1 (m : Fu) (p : Int) : Option (Bool) :=
  let a0 := p
  (F_image_in m (a0, (16 : Int))).bind fun x1 =>
  some (!x1)
def F_image_quotas_c1.ann : List (Nat × Ann) := []
def F_image_quotas_c1.sig : Sig := ⟨[.val false [.int .i64]], [(false, [.dat .bool])]⟩
noncomputable def F_image_quotas_c1.S : Summ := ⟨69, F_image_quotas_c1.sig, F_image_quotas_c1⟩
noncomputable def F_image_quotas_c1.G : List Summ := [F_image_in.S]
theorem F_image_quotas_c1.eq : absF Try.prog F_image_quotas_c1.G F_image_quotas_c1.ann F_image_quotas_c1.sig Try.f69 = F_image_quotas_c1 := by kernel_rfl
theorem F_image_quotas_c1.sound : Sound Try.prog F_image_quotas_c1.S := absF_sound (fn := Try.f69) (Γ := F_image_quotas_c1.G) (all_cons F_image_in.sound all_nil) mix (by kernel_rfl) (by kernel_rfl) (fun m p => congrFun (congrFun F_image_quotas_c1.eq m) p)
/-! ### slices.IndexFunc[[]int,int] -/
noncomputable def F_slices_IndexFunc_int.l26 (m : Fu) (a0 : List Int) (x1 : Int) (x2 : Int) : Option (Step Int (Int ⊕ Unit)) :=
  bif decide (x2 < x1) then
    bif (decide ((0 : Int) ≤ x2)) && (decide (x2 < (a0.length : Int))) then
      (F_image_quotas_c1 m (a0.getD x2.toNat 0)).bind fun x5 =>
      bif x5 then
        some (.fin (Sum.inl x2))
      else some (.next (IntKind.i64.wrap (x2 + (1 : Int))))
    else none
  else some (.fin (Sum.inr ()))
noncomputable def F_slices_IndexFunc_int (m : Fu) (p : List Int) : Option (Int) :=
  let a0 := p
  (iter m (F_slices_IndexFunc_int.l26 m a0 (a0.length : Int)) (0 : Int)).bind fun x7 =>
  match x7 with
  | .inl x8 =>
    some x8
  | .inr _ =>
    some (-1 : Int)
def F_slices_IndexFunc_int.ann : List (Nat × Ann) := [(26, .loop ⟨[(8, false, [.dat (.int .i64)])], [], [], [], 96⟩ [(.ret, ⟨[(4, false, [.dat (.int .i64)])], [], [], [], 96⟩), (.exit 0, ⟨[], [], [], [], 96⟩)])]
def F_slices_IndexFunc_int.sig : Sig := ⟨[.val false [.sl (.int .i64)], .fn 69 []], [(false, [.dat (.int .i64)])]⟩
noncomputable def F_slices_IndexFunc_int.S : Summ := ⟨84, F_slices_IndexFunc_int.sig, F_slices_IndexFunc_int⟩
noncomputable def F_slices_IndexFunc_int.G : List Summ := [F_image_quotas_c1.S]
theorem F_slices_IndexFunc_int.eq : absF Try.prog F_slices_IndexFunc_int.G F_slices_IndexFunc_int.ann F_slices_IndexFunc_int.sig Try.f84 = F_slices_IndexFunc_int := by kernel_rfl
theorem F_slices_IndexFunc_int.sound : Sound Try.prog F_slices_IndexFunc_int.S := absF_sound (fn := Try.f84) (Γ := F_slices_IndexFunc_int.G) (all_cons F_image_quotas_c1.sound all_nil) mix (by kernel_rfl) (by kernel_rfl) (fun m p => congrFun (congrFun F_slices_IndexFunc_int.eq m) p)
/-! ### slices.ContainsFunc[[]int,int] -/
noncomputable def F_slices_ContainsFunc_int (m : Fu) (p : List Int) : Option (Bool) :=
  let a0 := p
  (F_slices_IndexFunc_int m a0).bind fun x1 =>
  some (decide ((0 : Int) ≤ x1))
def F_slices_ContainsFunc_int.ann : List (Nat × Ann) := []
def F_slices_ContainsFunc_int.sig : Sig := ⟨[.val false [.sl (.int .i64)], .fn 69 []], [(false, [.dat .bool])]⟩
noncomputable def F_slices_ContainsFunc_int.S : Summ := ⟨68, F_slices_ContainsFunc_int.sig, F_slices_ContainsFunc_int⟩
noncomputable def F_slices_ContainsFunc_int.G : List Summ := [F_slices_IndexFunc_int.S]
theorem F_slices_ContainsFunc_int.eq : absF Try.prog F_slices_ContainsFunc_int.G F_slices_ContainsFunc_int.ann F_slices_ContainsFunc_int.sig Try.f68 = F_slices_ContainsFunc_int := by kernel_rfl
theorem F_slices_ContainsFunc_int.sound : Sound Try.prog F_slices_ContainsFunc_int.S := absF_sound (fn := Try.f68) (Γ := F_slices_ContainsFunc_int.G) (all_cons F_slices_IndexFunc_int.sound all_nil) mix (by kernel_rfl) (by kernel_rfl) (fun m p => congrFun (congrFun F_slices_ContainsFunc_int.eq m) p)
/-! ### cloakroom/image.quotas -/
noncomputable def F_image_quotas (m : Fu) (p : List Int) : Option (Bool) :=
  let a0 := p
  bif decide ((0 : Int) < (a0.length : Int)) then
    bif decide ((a0.length : Int) ≤ (4 : Int)) then
      (F_slices_ContainsFunc_int m a0).bind fun x5 =>
      some (!x5)
    else some false
  else some false
def F_image_quotas.ann : List (Nat × Ann) := []
def F_image_quotas.sig : Sig := ⟨[.val false [.sl (.int .i64)]], [(false, [.dat .bool])]⟩
noncomputable def F_image_quotas.S : Summ := ⟨45, F_image_quotas.sig, F_image_quotas⟩
noncomputable def F_image_quotas.G : List Summ := [F_slices_ContainsFunc_int.S]
theorem F_image_quotas.eq : absF Try.prog F_image_quotas.G F_image_quotas.ann F_image_quotas.sig Try.f45 = F_image_quotas := by kernel_rfl
theorem F_image_quotas.sound : Sound Try.prog F_image_quotas.S := absF_sound (fn := Try.f45) (Γ := F_image_quotas.G) (all_cons F_slices_ContainsFunc_int.sound all_nil) mix (by kernel_rfl) (by kernel_rfl) (fun m p => congrFun (congrFun F_image_quotas.eq m) p)
/-! ### slices.Clone[[]int,int] -/
noncomputable def F_slices_Clone_int (_ : Fu) (p : List Int) : Option (List Int) :=
  let a0 := p
  match a0 with
  | [] => same2
   (
    some ([] : List Int))
   (
    bif Nat.ble (0 + a0.length) 4294967296 then
      some (([] : List Int) ++ a0)
    else none)
  | _ :: _ =>
    bif Nat.ble (0 + a0.length) 4294967296 then
      some (([] : List Int) ++ a0)
    else none
def F_slices_Clone_int.ann : List (Nat × Ann) := []
def F_slices_Clone_int.sig : Sig := ⟨[.val false [.sl (.int .i64)]], [(false, [.own (.int .i64) 0 .wr])]⟩
noncomputable def F_slices_Clone_int.S : Summ := ⟨46, F_slices_Clone_int.sig, F_slices_Clone_int⟩
noncomputable def F_slices_Clone_int.G : List Summ := []
theorem F_slices_Clone_int.eq : absF Try.prog F_slices_Clone_int.G F_slices_Clone_int.ann F_slices_Clone_int.sig Try.f46 = F_slices_Clone_int := by kernel_rfl
theorem F_slices_Clone_int.sound : Sound Try.prog F_slices_Clone_int.S := absF_sound (fn := Try.f46) (Γ := F_slices_Clone_int.G) all_nil mix (by kernel_rfl) (by kernel_rfl) (fun m p => congrFun (congrFun F_slices_Clone_int.eq m) p)
noncomputable def C_slices_Clone_int (m : Fu) (p : List Int) : Option (List Int) := bif Nat.ble p.length 4294967296 then some p else none
theorem C_slices_Clone_int.is : F_slices_Clone_int = C_slices_Clone_int := by
  funext m p
  have h0 : Nat.ble 0 4294967296 = true := rfl
  cases p <;> simp [F_slices_Clone_int, C_slices_Clone_int, same2_self, h0]
noncomputable def C_slices_Clone_int.S : Summ := ⟨46, F_slices_Clone_int.sig, C_slices_Clone_int⟩
theorem C_slices_Clone_int.sound : Sound Try.prog C_slices_Clone_int.S := by
  have h := F_slices_Clone_int.sound
  unfold F_slices_Clone_int.S at h
  rw [C_slices_Clone_int.is] at h
  exact h
/-! ### cloakroom/image.New -/
noncomputable def F_image_New (m : Fu) (p : List Int) : Option (Int × (List Int) × (List (Int × (List Int) × (List Int) × Int × Int × Int)) × Int × Int × Bool × Int) :=
  let a0 := p
  (F_image_quotas m a0).bind fun x1 =>
  bif !x1 then some ((0 : Int), ([] : List Int), ([] : List (Int × (List Int) × (List Int) × Int × Int × Int)), (0 : Int), (0 : Int), false, (2 : Int)) else
  (C_slices_Clone_int m a0).bind fun x3 =>
  some ((0 : Int), x3, ([] : List (Int × (List Int) × (List Int) × Int × Int × Int)), (0 : Int), (0 : Int), false, (0 : Int))
def F_image_New.ann : List (Nat × Ann) := []
def F_image_New.sig : Sig := ⟨[.val false [.sl (.int .i64)]], [(true, [.dat (.int .i64), .own (.int .i64) 0 .wr, .dat (.sl (.pr (.int .i64) (.pr .str (.pr .str (.pr (.int .u32) (.pr (.int .i64) (.int .u64))))))), .dat (.int .i64), .dat (.int .i64), .dat .bool]), (false, [.dat (.int .i64)])]⟩
noncomputable def F_image_New.S : Summ := ⟨23, F_image_New.sig, F_image_New⟩
noncomputable def F_image_New.G : List Summ := [F_image_quotas.S, C_slices_Clone_int.S]
theorem F_image_New.eq : absF Try.prog F_image_New.G F_image_New.ann F_image_New.sig Try.f23 = F_image_New := by kernel_rfl
theorem F_image_New.sound : Sound Try.prog F_image_New.S := absF_sound (fn := Try.f23) (Γ := F_image_New.G) (all_cons F_image_quotas.sound (all_cons C_slices_Clone_int.sound all_nil)) mix (by kernel_rfl) (by kernel_rfl) (fun m p => congrFun (congrFun F_image_New.eq m) p)
/-! ### cloakroom/disk.New -/
noncomputable def F_disk_New (_ : Fu) (p : Int) : Option ((List Int) × Int) :=
  let a0 := p
  bif decide (a0 < (1 : Int)) then some (([] : List Int), (20 : Int)) else
  bif decide ((4096 : Int) < a0) then some (([] : List Int), (20 : Int)) else
  let x3 := IntKind.i64.wrap (a0 * (64 : Int))
  bif ((decide ((0 : Int) ≤ x3)) && (decide (x3 ≤ x3))) && (decide (x3 ≤ (4294967296 : Int))) then
    some ((List.replicate x3.toNat 0), (0 : Int))
  else none
def F_disk_New.ann : List (Nat × Ann) := []
def F_disk_New.sig : Sig := ⟨[.val false [.int .i64]], [(true, [.own (.int .u8) 0 .wr]), (false, [.dat (.int .i64)])]⟩
noncomputable def F_disk_New.S : Summ := ⟨40, F_disk_New.sig, F_disk_New⟩
noncomputable def F_disk_New.G : List Summ := []
theorem F_disk_New.eq : absF Try.prog F_disk_New.G F_disk_New.ann F_disk_New.sig Try.f40 = F_disk_New := by kernel_rfl
theorem F_disk_New.sound : Sound Try.prog F_disk_New.S := absF_sound (fn := Try.f40) (Γ := F_disk_New.G) all_nil mix (by kernel_rfl) (by kernel_rfl) (fun m p => congrFun (congrFun F_disk_New.eq m) p)
/-! ### cloakroom/reopen.half -/
noncomputable def F_reopen_half (_ : Fu) (p : Int) : Option (Int) :=
  let a0 := p
  some (IntKind.i64.wrap ((IntKind.i64.wrap (a0 - (1 : Int))).tdiv (2 : Int)))
def F_reopen_half.ann : List (Nat × Ann) := []
def F_reopen_half.sig : Sig := ⟨[.val false [.int .i64]], [(false, [.dat (.int .i64)])]⟩
noncomputable def F_reopen_half.S : Summ := ⟨42, F_reopen_half.sig, F_reopen_half⟩
noncomputable def F_reopen_half.G : List Summ := []
theorem F_reopen_half.eq : absF Try.prog F_reopen_half.G F_reopen_half.ann F_reopen_half.sig Try.f42 = F_reopen_half := by kernel_rfl
theorem F_reopen_half.sound : Sound Try.prog F_reopen_half.S := absF_sound (fn := Try.f42) (Γ := F_reopen_half.G) all_nil mix (by kernel_rfl) (by kernel_rfl) (fun m p => congrFun (congrFun F_reopen_half.eq m) p)
/-! ### cloakroom/image.size -/
noncomputable def F_image_size (_ : Fu) (p : (List Int) × (List Int) × Int × Int × Int) : Option (Int) :=
  let a0 := p.1
  let a1 := p.2.1
  some (IntKind.i64.wrap ((IntKind.i64.wrap ((8 : Int) + (a0.length : Int))) + (a1.length : Int)))
def F_image_size.ann : List (Nat × Ann) := []
def F_image_size.sig : Sig := ⟨[.val true [.str, .str, .int .u32, .int .i64, .int .u64]], [(false, [.dat (.int .i64)])]⟩
noncomputable def F_image_size.S : Summ := ⟨76, F_image_size.sig, F_image_size⟩
noncomputable def F_image_size.G : List Summ := []
theorem F_image_size.eq : absF Try.prog F_image_size.G F_image_size.ann F_image_size.sig Try.f76 = F_image_size := by kernel_rfl
theorem F_image_size.sound : Sound Try.prog F_image_size.S := absF_sound (fn := Try.f76) (Γ := F_image_size.G) all_nil mix (by kernel_rfl) (by kernel_rfl) (fun m p => congrFun (congrFun F_image_size.eq m) p)
/-! ### cloakroom/image.may -/
noncomputable def F_image_may (m : Fu) (p : (List Int) × (List Int) × Int × Int × Int) : Option (Bool) :=
  let a0 := p.1
  let a1 := p.2.1
  let a2 := p.2.2.1
  let a3 := p.2.2.2.1
  let a4 := p.2.2.2.2
  bif !(a0 == ([] : List Int)) then
    bif decide ((a0.length : Int) ≤ (32 : Int)) then
      (F_image_size m (a0, a1, a2, a3, a4)).bind fun x4 =>
      bif decide (x4 ≤ (256 : Int)) then
        (F_image_in m (a3, (1099511627776 : Int))).bind fun x6 =>
        some x6
      else some false
    else some false
  else some false
def F_image_may.ann : List (Nat × Ann) := []
def F_image_may.sig : Sig := ⟨[.val true [.str, .str, .int .u32, .int .i64, .int .u64]], [(false, [.dat .bool])]⟩
noncomputable def F_image_may.S : Summ := ⟨55, F_image_may.sig, F_image_may⟩
noncomputable def F_image_may.G : List Summ := [F_image_size.S, F_image_in.S]
theorem F_image_may.eq : absF Try.prog F_image_may.G F_image_may.ann F_image_may.sig Try.f55 = F_image_may := by kernel_rfl
theorem F_image_may.sound : Sound Try.prog F_image_may.S := absF_sound (fn := Try.f55) (Γ := F_image_may.G) (all_cons F_image_size.sound (all_cons F_image_in.sound all_nil)) mix (by kernel_rfl) (by kernel_rfl) (fun m p => congrFun (congrFun F_image_may.eq m) p)
/-! ### cloakroom/image.due -/
noncomputable def F_image_due (_ : Fu) (p : (List Int) × (List Int) × Int × Int × Int × Int) : Option (Bool) :=
  let a3 := p.2.2.2.1
  let a5 := p.2.2.2.2.2
  bif a3 != (0 : Int) then
    some (decide (a3 ≤ a5))
  else some false
def F_image_due.ann : List (Nat × Ann) := []
def F_image_due.sig : Sig := ⟨[.val true [.str, .str, .int .u32, .int .i64, .int .u64], .val false [.int .i64]], [(false, [.dat .bool])]⟩
noncomputable def F_image_due.S : Summ := ⟨56, F_image_due.sig, F_image_due⟩
noncomputable def F_image_due.G : List Summ := []
theorem F_image_due.eq : absF Try.prog F_image_due.G F_image_due.ann F_image_due.sig Try.f56 = F_image_due := by kernel_rfl
theorem F_image_due.sound : Sound Try.prog F_image_due.S := absF_sound (fn := Try.f56) (Γ := F_image_due.G) all_nil mix (by kernel_rfl) (by kernel_rfl) (fun m p => congrFun (congrFun F_image_due.eq m) p)
/-! ### cloakroom/image.places -/
noncomputable def F_image_places.l58 (_ : Fu) (a0 : List (Int × (List Int) × (List Int) × Int × Int × Int)) (x1 : Int) (x2 : Int × (List ((Int × (List Int)) × Int))) : Option (Step (Int × (List ((Int × (List Int)) × Int))) ((List ((Int × (List Int)) × Int)))) :=
  bif decide (x2.1 < x1) then
    bif (decide ((0 : Int) ≤ x2.1)) && (decide (x2.1 < (a0.length : Int))) then
      let x4 := a0.getD x2.1.toNat (0, ([], ([], (0, (0, 0)))))
      bif Nat.blt x2.2.length 4294967296 then
        some (.next ((IntKind.i64.wrap (x2.1 + (1 : Int))), (mset (keyEq (.pr (.int .i64) .str)) x2.2 (x4.1, x4.2.1) x2.1)))
      else none
    else none
  else some (.fin x2.2)
noncomputable def F_image_places (m : Fu) (p : List (Int × (List Int) × (List Int) × Int × Int × Int)) : Option (List ((Int × (List Int)) × Int)) :=
  let a0 := p
  (iter m (F_image_places.l58 m a0 (a0.length : Int)) ((0 : Int), ([] : List ((Int × (List Int)) × Int)))).bind fun x7 =>
  some x7
def F_image_places.ann : List (Nat × Ann) := [(58, .loop ⟨[(9, false, [.dat (.int .i64)])], [], [(32, .pr (.pr (.int .i64) .str) (.int .i64), (.mp true false))], [], 112⟩ [(.exit 0, ⟨[], [], [(32, .pr (.pr (.int .i64) .str) (.int .i64), (.mp true false))], [], 112⟩)])]
def F_image_places.sig : Sig := ⟨[.val false [.sl (.pr (.int .i64) (.pr .str (.pr .str (.pr (.int .u32) (.pr (.int .i64) (.int .u64))))))]], [(false, [.own (.pr (.pr (.int .i64) .str) (.int .i64)) 0 (.mp true false)])]⟩
noncomputable def F_image_places.S : Summ := ⟨57, F_image_places.sig, F_image_places⟩
noncomputable def F_image_places.G : List Summ := []
theorem F_image_places.eq : absF Try.prog F_image_places.G F_image_places.ann F_image_places.sig Try.f57 = F_image_places := by kernel_rfl
theorem F_image_places.sound : Sound Try.prog F_image_places.S := absF_sound (fn := Try.f57) (Γ := F_image_places.G) all_nil mix (by kernel_rfl) (by kernel_rfl) (fun m p => congrFun (congrFun F_image_places.eq m) p)
/-! ### cloakroom/image.Check -/
noncomputable def F_image_Check.l58 (m : Fu) (a0 : Int) (a1 : List Int) (a2 : List (Int × (List Int) × (List Int) × Int × Int × Int)) (x11 : Int) (x12 : Int) : Option (Step Int (Int ⊕ Unit)) :=
  bif decide (x12 < x11) then
    bif (decide ((0 : Int) ≤ x12)) && (decide (x12 < (a2.length : Int))) then
      let x14 := a2.getD x12.toNat (0, ([], ([], (0, (0, 0)))))
      (F_image_in m (x14.1, (IntKind.i64.wrap ((a1.length : Int) - (1 : Int))))).bind fun x17 =>
      bif !x17 then some (.fin (Sum.inl (8 : Int))) else
      (F_image_may m x14.2).bind fun x19 =>
      bif !x19 then some (.fin (Sum.inl (8 : Int))) else
      (F_image_due m (x14.2.1, x14.2.2.1, x14.2.2.2.1, x14.2.2.2.2.1, x14.2.2.2.2.2, a0)).bind fun x21 =>
      bif x21 then
        some (.fin (Sum.inl (8 : Int)))
      else some (.next (IntKind.i64.wrap (x12 + (1 : Int))))
    else none
  else some (.fin (Sum.inr ()))
noncomputable def F_image_Check (m : Fu) (p : Int × (List Int) × (List (Int × (List Int) × (List Int) × Int × Int × Int)) × Int × Int × Bool) : Option (Int) :=
  let a0 := p.1
  let a1 := p.2.1
  let a2 := p.2.2.1
  let a3 := p.2.2.2.1
  let a4 := p.2.2.2.2.1
  (F_image_in m (a0, (1099511627776 : Int))).bind fun x1 =>
  bif !x1 then some (8 : Int) else
  (F_image_quotas m a1).bind fun x3 =>
  bif !x3 then some (8 : Int) else
  bif decide ((1024 : Int) < (a2.length : Int)) then some (8 : Int) else
  (F_image_in m (a3, (2147483647 : Int))).bind fun x7 =>
  bif !x7 then some (8 : Int) else
  (F_image_in m (a4, (2147483647 : Int))).bind fun x9 =>
  bif !x9 then some (8 : Int) else
  (iter m (F_image_Check.l58 m a0 a1 a2 (a2.length : Int)) (0 : Int)).bind fun x23 =>
  match x23 with
  | .inl x24 =>
    some x24
  | .inr _ =>
    (F_image_places m a2).bind fun x26 =>
    bif (x26.length : Int) != (a2.length : Int) then
      some (8 : Int)
    else some (0 : Int)
def F_image_Check.ann : List (Nat × Ann) := [(58, .loop ⟨[(36, false, [.dat (.int .i64)])], [], [], [], 560⟩ [(.ret, ⟨[(2, false, [.dat (.int .i64)])], [], [], [], 560⟩), (.exit 0, ⟨[], [], [], [], 560⟩)])]
def F_image_Check.sig : Sig := ⟨[.val true [.int .i64, .sl (.int .i64), .sl (.pr (.int .i64) (.pr .str (.pr .str (.pr (.int .u32) (.pr (.int .i64) (.int .u64)))))), .int .i64, .int .i64, .bool]], [(false, [.dat (.int .i64)])]⟩
noncomputable def F_image_Check.S : Summ := ⟨35, F_image_Check.sig, F_image_Check⟩
noncomputable def F_image_Check.G : List Summ := [F_image_in.S, F_image_quotas.S, F_image_may.S, F_image_due.S, F_image_places.S]
theorem F_image_Check.eq : absF Try.prog F_image_Check.G F_image_Check.ann F_image_Check.sig Try.f35 = F_image_Check := by kernel_rfl
theorem F_image_Check.sound : Sound Try.prog F_image_Check.S := absF_sound (fn := Try.f35) (Γ := F_image_Check.G) (all_cons F_image_in.sound (all_cons F_image_quotas.sound (all_cons F_image_may.sound (all_cons F_image_due.sound (all_cons F_image_places.sound all_nil))))) mix (by kernel_rfl) (by kernel_rfl) (fun m p => congrFun (congrFun F_image_Check.eq m) p)
/-! ### cloakroom/code.Small -/
noncomputable def F_code_Small.l28 (_ : Fu) (x1 : Int × (List Int)) : Option (Step (Int × (List Int)) ((Int × (List Int)))) :=
  bif decide ((127 : Int) < x1.1) then
    let x5 := [(bitsOp .or .u8 (IntKind.u8.wrap x1.1) (128 : Int))]
    bif Nat.ble (x1.2.length + x5.length) 140737488351232 then
      some (.next ((shrOp .u64 x1.1 (7 : Int)), (x1.2 ++ x5)))
    else none
  else some (.fin x1)
noncomputable def F_code_Small (m : Fu) (p : Int) : Option (List Int) :=
  let a0 := p
  (iter m (F_code_Small.l28 m) (a0, ([] : List Int))).bind fun x8 =>
  let x10 := [(IntKind.u8.wrap x8.1)]
  bif Nat.ble (x8.2.length + x10.length) 140737488351232 then
    some (x8.2 ++ x10)
  else none
def F_code_Small.ann : List (Nat × Ann) := [(28, .loop ⟨[(0, false, [.dat (.int .u64)]), (3, false, [.own (.int .u8) 48 .wr])], [], [], [], 49⟩ [(.exit 0, ⟨[(0, false, [.dat (.int .u64)]), (3, false, [.own (.int .u8) 48 .wr])], [], [], [], 49⟩)])]
def F_code_Small.sig : Sig := ⟨[.val false [.int .u64]], [(false, [.own (.int .u8) 0 .wr])]⟩
noncomputable def F_code_Small.S : Summ := ⟨80, F_code_Small.sig, F_code_Small⟩
noncomputable def F_code_Small.G : List Summ := []
theorem F_code_Small.eq : absF Try.prog F_code_Small.G F_code_Small.ann F_code_Small.sig Try.f80 = F_code_Small := by kernel_rfl
theorem F_code_Small.sound : Sound Try.prog F_code_Small.S := absF_sound (fn := Try.f80) (Γ := F_code_Small.G) all_nil mix (by kernel_rfl) (by kernel_rfl) (fun m p => congrFun (congrFun F_code_Small.eq m) p)
/-! ### cloakroom/image.nums -/
noncomputable def F_image_nums.l26 (m : Fu) (a1 : List Int) (x1 : Int) (x2 : (List Int) × Int) : Option (Step ((List Int) × Int) ((List Int))) :=
  bif decide (x2.2 < x1) then
    bif (decide ((0 : Int) ≤ x2.2)) && (decide (x2.2 < (a1.length : Int))) then
      (F_code_Small m (IntKind.u64.wrap (a1.getD x2.2.toNat 0))).bind fun x6 =>
      bif Nat.ble (x2.1.length + x6.length) 140737488351232 then
        some (.next ((x2.1 ++ x6), (IntKind.i64.wrap (x2.2 + (1 : Int)))))
      else none
    else none
  else some (.fin x2.1)
noncomputable def F_image_nums (m : Fu) (p : (List Int) × (List Int)) : Option (List Int) :=
  let a0 := p.1
  let a1 := p.2
  (iter m (F_image_nums.l26 m a1 (a1.length : Int)) (a0, (0 : Int))).bind fun x9 =>
  some x9
def F_image_nums.ann : List (Nat × Ann) := [(26, .loop ⟨[(0, false, [.own (.int .u8) 96 .fr]), (9, false, [.dat (.int .i64)])], [], [], [0], 97⟩ [(.exit 0, ⟨[(0, false, [.own (.int .u8) 96 .fr])], [], [], [0], 97⟩)])]
def F_image_nums.sig : Sig := ⟨[.own (.int .u8), .val false [.sl (.int .i64)]], [(false, [.own (.int .u8) 0 .fr])]⟩
noncomputable def F_image_nums.S : Summ := ⟨82, F_image_nums.sig, F_image_nums⟩
noncomputable def F_image_nums.G : List Summ := [F_code_Small.S]
theorem F_image_nums.eq : absF Try.prog F_image_nums.G F_image_nums.ann F_image_nums.sig Try.f82 = F_image_nums := by kernel_rfl
theorem F_image_nums.sound : Sound Try.prog F_image_nums.S := absF_sound (fn := Try.f82) (Γ := F_image_nums.G) (all_cons F_code_Small.sound all_nil) mix (by kernel_rfl) (by kernel_rfl) (fun m p => congrFun (congrFun F_image_nums.eq m) p)
/-! ### cloakroom/code.Text -/
noncomputable def F_code_Text (m : Fu) (p : List Int) : Option (List Int) :=
  let a0 := p
  (F_code_Small m (IntKind.u64.wrap (a0.length : Int))).bind fun x3 =>
  bif Nat.ble (x3.length + a0.length) 140737488351232 then
    some (x3 ++ a0)
  else none
def F_code_Text.ann : List (Nat × Ann) := []
def F_code_Text.sig : Sig := ⟨[.val false [.str]], [(false, [.own (.int .u8) 0 .wr])]⟩
noncomputable def F_code_Text.S : Summ := ⟨83, F_code_Text.sig, F_code_Text⟩
noncomputable def F_code_Text.G : List Summ := [F_code_Small.S]
theorem F_code_Text.eq : absF Try.prog F_code_Text.G F_code_Text.ann F_code_Text.sig Try.f83 = F_code_Text := by kernel_rfl
theorem F_code_Text.sound : Sound Try.prog F_code_Text.S := absF_sound (fn := Try.f83) (Γ := F_code_Text.G) (all_cons F_code_Small.sound all_nil) mix (by kernel_rfl) (by kernel_rfl) (fun m p => congrFun (congrFun F_code_Text.eq m) p)
/-! ### cloakroom/image.Write -/
noncomputable def F_image_Write.s30 (_ : Fu) (a5 : Bool) (x8 : List Int) : Option ((List Int)) :=
  bif a5 then
    bif Nat.ble (x8.length + 1) 140737488351232 then
      some (x8 ++ ([1] : List Int))
    else none
  else
    bif Nat.ble (x8.length + 1) 140737488351232 then
      some (x8 ++ ([0] : List Int))
    else none
noncomputable def F_image_Write.l506 (m : Fu) (a2 : List (Int × (List Int) × (List Int) × Int × Int × Int)) (x15 : Int) (x16 : (List Int) × Int) : Option (Step ((List Int) × Int) ((List Int))) :=
  bif decide (x16.2 < x15) then
    bif (decide ((0 : Int) ≤ x16.2)) && (decide (x16.2 < (a2.length : Int))) then
      let x18 := a2.getD x16.2.toNat (0, ([], ([], (0, (0, 0)))))
      (F_image_nums m (x16.1, ([x18.1]))).bind fun x20 =>
      (F_code_Text m x18.2.1).bind fun x21 =>
      bif Nat.ble (x20.length + x21.length) 140737488351232 then
        let x22 := x20 ++ x21
        (F_code_Text m x18.2.2.1).bind fun x23 =>
        bif Nat.ble (x22.length + x23.length) 140737488351232 then
          (F_image_nums m ((x22 ++ x23), ([(IntKind.i64.wrap x18.2.2.2.1), x18.2.2.2.2.1]))).bind fun x27 =>
          (F_code_Small m x18.2.2.2.2.2).bind fun x28 =>
          bif Nat.ble (x27.length + x28.length) 140737488351232 then
            some (.next ((x27 ++ x28), (IntKind.i64.wrap (x16.2 + (1 : Int)))))
          else none
        else none
      else none
    else none
  else some (.fin x16.1)
noncomputable def F_image_Write (m : Fu) (p : Int × (List Int) × (List (Int × (List Int) × (List Int) × Int × Int × Int)) × Int × Int × Bool) : Option ((List Int) × Int) :=
  let a0 := p.1
  let a1 := p.2.1
  let a2 := p.2.2.1
  let a3 := p.2.2.2.1
  let a4 := p.2.2.2.2.1
  let a5 := p.2.2.2.2.2
  (F_image_Check m (a0, a1, a2, a3, a4, a5)).bind fun x1 =>
  bif x1 != (0 : Int) then some (([] : List Int), x1) else
  (F_image_nums m (([] : List Int), ([a0, (a1.length : Int)]))).bind fun x5 =>
  (F_image_nums m (x5, a1)).bind fun x6 =>
  (F_image_nums m (x6, ([a3, a4]))).bind fun x8 =>
  (F_image_Write.s30 m a5 x8).bind fun x11 =>
  (F_image_nums m (x11, ([(a2.length : Int)]))).bind fun x14 =>
  (iter m (F_image_Write.l506 m a2 (a2.length : Int)) (x14, (0 : Int))).bind fun x31 =>
  bif decide ((65536 : Int) < (x31.length : Int)) then
    some (([] : List Int), (3 : Int))
  else some (x31, (0 : Int))
def F_image_Write.ann : List (Nat × Ann) := [(30, .jnt [(.normal, ⟨[(5, false, [.own (.int .u8) 416 .fr])], [], [], [384], 417⟩)]),
  (506, .loop ⟨[(5, false, [.own (.int .u8) 593 .fr]), (46, false, [.dat (.int .i64)])], [], [], [497], 594⟩ [(.exit 0, ⟨[(5, false, [.own (.int .u8) 593 .fr])], [], [], [497], 594⟩)])]
def F_image_Write.sig : Sig := ⟨[.val true [.int .i64, .sl (.int .i64), .sl (.pr (.int .i64) (.pr .str (.pr .str (.pr (.int .u32) (.pr (.int .i64) (.int .u64)))))), .int .i64, .int .i64, .bool]], [(false, [.own (.int .u8) 0 .fr]), (false, [.dat (.int .i64)])]⟩
noncomputable def F_image_Write.S : Summ := ⟨67, F_image_Write.sig, F_image_Write⟩
noncomputable def F_image_Write.G : List Summ := [F_image_Check.S, F_image_nums.S, F_code_Text.S, F_code_Small.S]
theorem F_image_Write.eq : absF Try.prog F_image_Write.G F_image_Write.ann F_image_Write.sig Try.f67 = F_image_Write := by kernel_rfl
theorem F_image_Write.sound : Sound Try.prog F_image_Write.S := absF_sound (fn := Try.f67) (Γ := F_image_Write.G) (all_cons F_image_Check.sound (all_cons F_image_nums.sound (all_cons F_code_Text.sound (all_cons F_code_Small.sound all_nil)))) mix (by kernel_rfl) (by kernel_rfl) (fun m p => congrFun (congrFun F_image_Write.eq m) p)
/-! ### cloakroom/journal.Frame -/
noncomputable def F_journal_Frame.i6s210 (_ : Fu) (x24 : Bool) : Option (Unit ⊕ Unit) :=
  bif x24 then
    some (Sum.inl ())
  else some (Sum.inr ())
noncomputable def F_journal_Frame.i6l26 (m : Fu) (x22 : Int) (x23 : (List Int) × Int) : Option (Step ((List Int) × Int) ((List Int))) :=
  (F_journal_Frame.i6s210 m (decide (x23.2 < (4 : Int)))).bind fun x25 =>
  match x25 with
  | .inl _ =>
    let x27 := IntKind.i64.wrap ((8 : Int) * x23.2)
    bif decide (x27 < (0 : Int)) then none else
    let x30 := [(IntKind.u8.wrap (shrOp .u32 x22 x27))]
    bif Nat.ble (x23.1.length + x30.length) 64 then
      some (.next ((x23.1 ++ x30), (IntKind.i64.wrap (x23.2 + (1 : Int)))))
    else none
  | .inr _ =>
    some (.fin x23.1)
noncomputable def F_journal_Frame.l2074234 (m : Fu) (x18 : List Int) (x19 : Int) (x20 : (List Int) × Int) : Option (Step ((List Int) × Int) ((List Int))) :=
  bif decide (x20.2 < x19) then
    bif (decide ((0 : Int) ≤ x20.2)) && (decide (x20.2 < (x18.length : Int))) then
      bif Nat.blt x20.2.toNat x18.length then
        (iter m (F_journal_Frame.i6l26 m (x18.getD x20.2.toNat 0)) (x20.1, (0 : Int))).bind fun x34 =>
        some (.next (x34, (IntKind.i64.wrap (x20.2 + (1 : Int)))))
      else none
    else none
  else some (.fin x20.1)
noncomputable def F_journal_Frame.i7s210 (_ : Fu) (x39 : Bool) : Option (Unit ⊕ Unit) :=
  bif x39 then
    some (Sum.inl ())
  else some (Sum.inr ())
noncomputable def F_journal_Frame.i7l26 (m : Fu) (x37 : Int) (x38 : (List Int) × Int) : Option (Step ((List Int) × Int) ((List Int))) :=
  (F_journal_Frame.i7s210 m (decide (x38.2 < (2 : Int)))).bind fun x40 =>
  match x40 with
  | .inl _ =>
    let x42 := IntKind.i64.wrap ((8 : Int) * x38.2)
    bif decide (x42 < (0 : Int)) then none else
    let x45 := [(IntKind.u8.wrap (shrOp .u32 x37 x42))]
    bif Nat.ble (x38.1.length + x45.length) 64 then
      some (.next ((x38.1 ++ x45), (IntKind.i64.wrap (x38.2 + (1 : Int)))))
    else none
  | .inr _ =>
    some (.fin x38.1)
noncomputable def F_journal_Frame.i8s210 (_ : Fu) (x52 : Bool) : Option (Unit ⊕ Unit) :=
  bif x52 then
    some (Sum.inl ())
  else some (Sum.inr ())
noncomputable def F_journal_Frame.i8l26 (m : Fu) (x50 : Int) (x51 : (List Int) × Int) : Option (Step ((List Int) × Int) ((List Int))) :=
  (F_journal_Frame.i8s210 m (decide (x51.2 < (2 : Int)))).bind fun x53 =>
  match x53 with
  | .inl _ =>
    let x55 := IntKind.i64.wrap ((8 : Int) * x51.2)
    bif decide (x55 < (0 : Int)) then none else
    let x58 := [(IntKind.u8.wrap (shrOp .u32 x50 x55))]
    bif Nat.ble (x51.1.length + x58.length) 64 then
      some (.next ((x51.1 ++ x58), (IntKind.i64.wrap (x51.2 + (1 : Int)))))
    else none
  | .inr _ =>
    some (.fin x51.1)
noncomputable def F_journal_Frame.l506 (m : Fu) (a0 : Int) (a1 : Int) (a2 : Int) (a3 : Int) (x9 : Int) (x11 : (List Int) × (List (List Int)) × Int) : Option (Step ((List Int) × (List (List Int)) × Int) ((List (List Int)))) :=
  bif decide (x11.2.2 < x9) then
    let x14 := mnI (x11.1.length : Int) (43 : Int)
    bif ((decide ((0 : Int) ≤ x14)) && (decide (x14 ≤ (x11.1.length : Int)))) && (decide ((x11.1.length : Int) ≤ (x11.1.length : Int))) then
      let x15 := (x11.1.take x14.toNat).drop 0
      let x16 := (x15.length : Int)
      bif (((decide ((0 : Int) ≤ x16)) && (decide (x16 ≤ (x11.1.length : Int)))) && (decide ((x11.1.length : Int) ≤ (x11.1.length : Int)))) && (decide ((x11.1.length : Int) ≤ (x11.1.length : Int))) then
        let x18 := [a0, a1, a2, a3]
        (iter m (F_journal_Frame.l2074234 m x18 (x18.length : Int)) (([] : List Int), (0 : Int))).bind fun x36 =>
        (iter m (F_journal_Frame.i7l26 m (IntKind.u32.wrap x11.2.2)) (x36, (0 : Int))).bind fun x49 =>
        (iter m (F_journal_Frame.i8l26 m (IntKind.u32.wrap x9)) (x49, (0 : Int))).bind fun x62 =>
        let x65 := [(IntKind.u8.wrap (x15.length : Int))]
        bif Nat.ble (x62.length + x65.length) 64 then
          let x66 := x62 ++ x65
          bif Nat.ble (x66.length + x15.length) 64 then
            let x67 := x66 ++ x15
            let x69 := [((x67 ++ List.replicate (64 - x67.length) 0).take 64)]
            bif Nat.ble (x11.2.1.length + x69.length) 4294967296 then
              some (.next (((x11.1.take ((x11.1.length : Int).toNat)).drop x16.toNat), (x11.2.1 ++ x69), (IntKind.i64.wrap (x11.2.2 + (1 : Int)))))
            else none
          else none
        else none
      else none
    else none
  else some (.fin x11.2.1)
noncomputable def F_journal_Frame (m : Fu) (p : Int × Int × Int × Int × (List Int)) : Option ((List (List Int)) × Int) :=
  let a0 := p.1
  let a1 := p.2.1
  let a2 := p.2.2.1
  let a3 := p.2.2.2.1
  let a4 := p.2.2.2.2
  bif a0 == (0 : Int) then some (([] : List (List Int)), (2 : Int)) else
  bif a1 == (0 : Int) then some (([] : List (List Int)), (2 : Int)) else
  bif decide ((65536 : Int) < (a4.length : Int)) then some (([] : List (List Int)), (3 : Int)) else
  let x9 := mxI (1 : Int) (IntKind.i64.wrap ((IntKind.i64.wrap ((IntKind.i64.wrap ((a4.length : Int) + (43 : Int))) - (1 : Int))).tdiv (43 : Int)))
  bif (decide ((0 : Int) ≤ x9)) && (decide (x9 ≤ (4294967296 : Int))) then
    (iter m (F_journal_Frame.l506 m a0 a1 a2 a3 x9) (a4, (List.replicate 0 []), (0 : Int))).bind fun x72 =>
    some (x72, (0 : Int))
  else none
def F_journal_Frame.ann : List (Nat × Ann) := [(506, .loop ⟨[(4, false, [.dat (.sl (.int .u8))]), (13, false, [.own (.sl (.int .u8)) 448 .wr]), (37, false, [.dat (.int .i64)])], [], [], [384], 449⟩ [(.exit 0, ⟨[(13, false, [.own (.sl (.int .u8)) 448 .wr])], [], [], [384], 449⟩)]),
  (1037118, .inl [(3, [(26, .loop ⟨[(0, false, [.own (.int .u8) 914 (.cp 64)]), (9, false, [.dat (.int .i64)])], [], [], [817], 915⟩ [(.exit 0, ⟨[(0, false, [.own (.int .u8) 914 (.cp 64)])], [], [], [817], 915⟩)]), (210, .jnt [(.normal, ⟨[], [], [], [], 931⟩), (.exit 0, ⟨[], [], [], [], 931⟩)])]), (6, [(26, .loop ⟨[(0, false, [.own (.int .u8) 1027 (.cp 64)]), (9, false, [.dat (.int .i64)])], [], [], [914], 1028⟩ [(.exit 0, ⟨[(0, false, [.own (.int .u8) 1027 (.cp 64)])], [], [], [914], 1028⟩)]), (210, .jnt [(.normal, ⟨[], [], [], [], 1044⟩), (.exit 0, ⟨[], [], [], [], 1044⟩)])])]),
  (2074234, .loop ⟨[(16, false, [.own (.int .u8) 817 (.cp 64)]), (56, false, [.dat (.int .i64)])], [], [], [673], 818⟩ [(.exit 2, ⟨[(16, false, [.own (.int .u8) 817 (.cp 64)])], [], [], [673], 818⟩)]),
  (132751001, .inl [(2, [(26, .loop ⟨[(0, false, [.own (.int .u8) 962 (.cp 64)]), (9, false, [.dat (.int .i64)])], [], [], [817], 963⟩ [(.exit 0, ⟨[(0, false, [.own (.int .u8) 962 (.cp 64)])], [], [], [817], 963⟩)]), (210, .jnt [(.normal, ⟨[], [], [], [], 979⟩), (.exit 0, ⟨[], [], [], [], 979⟩)])])])]
def F_journal_Frame.sig : Sig := ⟨[.val false [.int .u32], .val false [.int .u32], .val false [.int .u32], .val false [.int .u32], .val false [.sl (.int .u8)]], [(false, [.own (.sl (.int .u8)) 0 .wr]), (false, [.dat (.int .i64)])]⟩
noncomputable def F_journal_Frame.S : Summ := ⟨75, F_journal_Frame.sig, F_journal_Frame⟩
noncomputable def F_journal_Frame.G : List Summ := []
theorem F_journal_Frame.eq : absF Try.prog F_journal_Frame.G F_journal_Frame.ann F_journal_Frame.sig Try.f75 = F_journal_Frame := by kernel_rfl
theorem F_journal_Frame.sound : Sound Try.prog F_journal_Frame.S := absF_sound (fn := Try.f75) (Γ := F_journal_Frame.G) all_nil mix (by kernel_rfl) (by kernel_rfl) (fun m p => congrFun (congrFun F_journal_Frame.eq m) p)
/-! ### cloakroom/journal.Next -/
noncomputable def F_journal_Next (m : Fu) (p : (List (List Int)) × Int × Int × Int × Int × (List Int)) : Option ((List (List Int)) × Int) :=
  let a0 := p.1
  let a2 := p.2.2.1
  let a3 := p.2.2.2.1
  let a4 := p.2.2.2.2.1
  let a5 := p.2.2.2.2.2
  let x2 := IntKind.u32.wrap ((mxI a2 a3) + (1 : Int))
  bif a4 == (0 : Int) then some (([] : List (List Int)), (2 : Int)) else
  bif decide ((65536 : Int) < (a5.length : Int)) then some (([] : List (List Int)), (3 : Int)) else
  bif decide ((1048576 : Int) ≤ (a0.length : Int)) then some (([] : List (List Int)), (4 : Int)) else
  bif x2 == (0 : Int) then some (([] : List (List Int)), (9 : Int)) else
  (F_journal_Frame m (a4, (IntKind.u32.wrap (IntKind.i64.wrap ((a0.length : Int) + (1 : Int)))), x2, a2, a5)).bind fun x12 =>
  some x12
def F_journal_Next.ann : List (Nat × Ann) := []
def F_journal_Next.sig : Sig := ⟨[.val true [.sl (.sl (.int .u8)), .int .i64, .int .u32, .int .u32], .val false [.int .u32], .val false [.sl (.int .u8)]], [(false, [.own (.sl (.int .u8)) 0 .wr]), (false, [.dat (.int .i64)])]⟩
noncomputable def F_journal_Next.S : Summ := ⟨53, F_journal_Next.sig, F_journal_Next⟩
noncomputable def F_journal_Next.G : List Summ := [F_journal_Frame.S]
theorem F_journal_Next.eq : absF Try.prog F_journal_Next.G F_journal_Next.ann F_journal_Next.sig Try.f53 = F_journal_Next := by kernel_rfl
theorem F_journal_Next.sound : Sound Try.prog F_journal_Next.S := absF_sound (fn := Try.f53) (Γ := F_journal_Next.G) (all_cons F_journal_Frame.sound all_nil) mix (by kernel_rfl) (by kernel_rfl) (fun m p => congrFun (congrFun F_journal_Next.eq m) p)
/-! ### cloakroom/reopen.record -/
noncomputable def F_reopen_record (m : Fu) (p : Int × (List Int) × (List (Int × (List Int) × (List Int) × Int × Int × Int)) × Int × Int × Bool × Int × Int) : Option ((List (List Int)) × Int) :=
  let a0 := p.1
  let a1 := p.2.1
  let a2 := p.2.2.1
  let a3 := p.2.2.2.1
  let a4 := p.2.2.2.2.1
  let a5 := p.2.2.2.2.2.1
  let a6 := p.2.2.2.2.2.2.1
  let a7 := p.2.2.2.2.2.2.2
  (F_image_Write m (a0, a1, a2, a3, a4, a5)).bind fun x1 =>
  bif x1.2 != (0 : Int) then some (([] : List (List Int)), x1.2) else
  bif a6 == (0 : Int) then some (([] : List (List Int)), (9 : Int)) else
  (F_journal_Next m (([] : List (List Int)), (0 : Int), (0 : Int), (0 : Int), a6, x1.1)).bind fun x4 =>
  bif x4.2 == (0 : Int) then
    bif decide (a7 < (x4.1.length : Int)) then
      some (([] : List (List Int)), (9 : Int))
    else some x4
  else some x4
def F_reopen_record.ann : List (Nat × Ann) := []
def F_reopen_record.sig : Sig := ⟨[.val true [.int .i64, .sl (.int .i64), .sl (.pr (.int .i64) (.pr .str (.pr .str (.pr (.int .u32) (.pr (.int .i64) (.int .u64)))))), .int .i64, .int .i64, .bool], .val false [.int .u32], .val false [.int .i64]], [(false, [.own (.sl (.int .u8)) 0 .wr]), (false, [.dat (.int .i64)])]⟩
noncomputable def F_reopen_record.S : Summ := ⟨41, F_reopen_record.sig, F_reopen_record⟩
noncomputable def F_reopen_record.G : List Summ := [F_image_Write.S, F_journal_Next.S]
theorem F_reopen_record.eq : absF Try.prog F_reopen_record.G F_reopen_record.ann F_reopen_record.sig Try.f41 = F_reopen_record := by kernel_rfl
theorem F_reopen_record.sound : Sound Try.prog F_reopen_record.S := absF_sound (fn := Try.f41) (Γ := F_reopen_record.G) (all_cons F_image_Write.sound (all_cons F_journal_Next.sound all_nil)) mix (by kernel_rfl) (by kernel_rfl) (fun m p => congrFun (congrFun F_reopen_record.eq m) p)
/-! ### cloakroom/reopen.first -/
noncomputable def F_reopen_first.l58 (_ : Fu) (a0 : Int) (x2 : Int × (List Int)) : Option (Step (Int × (List Int)) ((List Int))) :=
  bif decide (x2.1 < (4 : Int)) then
    let x4 := IntKind.i64.wrap ((8 : Int) * x2.1)
    bif decide (x4 < (0 : Int)) then none else
    bif (decide ((0 : Int) ≤ x2.1)) && (decide (x2.1 < (x2.2.length : Int))) then
      bif Nat.blt x2.1.toNat x2.2.length then
        some (.next ((IntKind.i64.wrap (x2.1 + (1 : Int))), (x2.2.set x2.1.toNat (IntKind.u8.wrap (shrOp .u32 a0 x4)))))
      else none
    else none
  else some (.fin x2.2)
noncomputable def F_reopen_first (m : Fu) (p : Int × Int) : Option (Int × (List Int)) :=
  let a0 := p.1
  let a1 := p.2
  (iter m (F_reopen_first.l58 m a0) ((0 : Int), (List.replicate 64 0))).bind fun x9 =>
  bif decide ((4 : Int) < (x9.length : Int)) then
    bif Nat.blt 4 x9.length then
      some ((0 : Int), (x9.set 4 (IntKind.u8.wrap a1)))
    else none
  else none
def F_reopen_first.ann : List (Nat × Ann) := [(58, .loop ⟨[(8, false, [.dat (.int .i64)])], [], [(48, .int .u8, .wr)], [], 96⟩ [(.exit 0, ⟨[], [], [(48, .int .u8, .wr)], [], 96⟩)])]
def F_reopen_first.sig : Sig := ⟨[.val false [.int .u32], .val false [.int .i64]], [(true, [.dat (.int .i64), .own (.int .u8) 0 .wr])]⟩
noncomputable def F_reopen_first.S : Summ := ⟨44, F_reopen_first.sig, F_reopen_first⟩
noncomputable def F_reopen_first.G : List Summ := []
theorem F_reopen_first.eq : absF Try.prog F_reopen_first.G F_reopen_first.ann F_reopen_first.sig Try.f44 = F_reopen_first := by kernel_rfl
theorem F_reopen_first.sound : Sound Try.prog F_reopen_first.S := absF_sound (fn := Try.f44) (Γ := F_reopen_first.G) all_nil mix (by kernel_rfl) (by kernel_rfl) (fun m p => congrFun (congrFun F_reopen_first.eq m) p)
/-! ### cloakroom/reopen.puts -/
noncomputable def F_reopen_puts.l58 (_ : Fu) (a0 : List (List Int)) (a1 : Int) (x1 : Int) (x2 : (List (Int × (List Int))) × Int) : Option (Step ((List (Int × (List Int))) × Int) ((List (Int × (List Int))))) :=
  bif decide (x2.2 < x1) then
    bif (decide ((0 : Int) ≤ x2.2)) && (decide (x2.2 < (a0.length : Int))) then
      let x6 := [((IntKind.i64.wrap (a1 + x2.2)), (a0.getD x2.2.toNat []))]
      bif Nat.ble (x2.1.length + x6.length) 4294967296 then
        some (.next ((x2.1 ++ x6), (IntKind.i64.wrap (x2.2 + (1 : Int)))))
      else none
    else none
  else some (.fin x2.1)
noncomputable def F_reopen_puts (m : Fu) (p : (List (List Int)) × Int × (List (Int × (List Int)))) : Option (List (Int × (List Int))) :=
  let a0 := p.1
  let a1 := p.2.1
  let a2 := p.2.2
  (iter m (F_reopen_puts.l58 m a0 a1 (a0.length : Int)) (([] : List (Int × (List Int))), (0 : Int))).bind fun x9 =>
  bif Nat.ble (x9.length + a2.length) 4294967296 then
    some (x9 ++ a2)
  else none
def F_reopen_puts.ann : List (Nat × Ann) := [(58, .loop ⟨[(7, false, [.own (.pr (.int .i64) (.sl (.int .u8))) 128 .wr]), (12, false, [.dat (.int .i64)])], [], [], [], 129⟩ [(.exit 0, ⟨[(7, false, [.own (.pr (.int .i64) (.sl (.int .u8))) 128 .wr])], [], [], [], 129⟩)])]
def F_reopen_puts.sig : Sig := ⟨[.val false [.sl (.sl (.int .u8))], .val false [.int .i64], .val false [.sl (.pr (.int .i64) (.sl (.int .u8)))]], [(false, [.own (.pr (.int .i64) (.sl (.int .u8))) 0 .wr])]⟩
noncomputable def F_reopen_puts.S : Summ := ⟨43, F_reopen_puts.sig, F_reopen_puts⟩
noncomputable def F_reopen_puts.G : List Summ := []
theorem F_reopen_puts.eq : absF Try.prog F_reopen_puts.G F_reopen_puts.ann F_reopen_puts.sig Try.f43 = F_reopen_puts := by kernel_rfl
theorem F_reopen_puts.sound : Sound Try.prog F_reopen_puts.S := absF_sound (fn := Try.f43) (Γ := F_reopen_puts.G) all_nil mix (by kernel_rfl) (by kernel_rfl) (fun m p => congrFun (congrFun F_reopen_puts.eq m) p)
/-! ### cloakroom/disk.Check -/
noncomputable def F_disk_Check (_ : Fu) (p : List Int) : Option (Int) :=
  let a0 := p
  let x1 := (a0.length : Int)
  bif decide (x1 < (64 : Int)) then some (20 : Int) else
  bif decide ((262144 : Int) < x1) then some (20 : Int) else
  bif (x1.tmod (64 : Int)) != (0 : Int) then
    some (20 : Int)
  else some (0 : Int)
def F_disk_Check.ann : List (Nat × Ann) := []
def F_disk_Check.sig : Sig := ⟨[.val true [.sl (.int .u8)]], [(false, [.dat (.int .i64)])]⟩
noncomputable def F_disk_Check.S : Summ := ⟨28, F_disk_Check.sig, F_disk_Check⟩
noncomputable def F_disk_Check.G : List Summ := []
theorem F_disk_Check.eq : absF Try.prog F_disk_Check.G F_disk_Check.ann F_disk_Check.sig Try.f28 = F_disk_Check := by kernel_rfl
theorem F_disk_Check.sound : Sound Try.prog F_disk_Check.S := absF_sound (fn := Try.f28) (Γ := F_disk_Check.G) all_nil mix (by kernel_rfl) (by kernel_rfl) (fun m p => congrFun (congrFun F_disk_Check.eq m) p)
/-! ### cloakroom/disk.Many -/
noncomputable def F_disk_Many (m : Fu) (p : List Int) : Option (Int × Int) :=
  let a0 := p
  (F_disk_Check m a0).bind fun x1 =>
  bif x1 != (0 : Int) then
    some ((0 : Int), x1)
  else some ((IntKind.i64.wrap ((a0.length : Int).tdiv (64 : Int))), (0 : Int))
def F_disk_Many.ann : List (Nat × Ann) := []
def F_disk_Many.sig : Sig := ⟨[.val true [.sl (.int .u8)]], [(false, [.dat (.int .i64)]), (false, [.dat (.int .i64)])]⟩
noncomputable def F_disk_Many.S : Summ := ⟨47, F_disk_Many.sig, F_disk_Many⟩
noncomputable def F_disk_Many.G : List Summ := [F_disk_Check.S]
theorem F_disk_Many.eq : absF Try.prog F_disk_Many.G F_disk_Many.ann F_disk_Many.sig Try.f47 = F_disk_Many := by kernel_rfl
theorem F_disk_Many.sound : Sound Try.prog F_disk_Many.S := absF_sound (fn := Try.f47) (Γ := F_disk_Many.G) (all_cons F_disk_Check.sound all_nil) mix (by kernel_rfl) (by kernel_rfl) (fun m p => congrFun (congrFun F_disk_Many.eq m) p)
/-! ### cloakroom/disk.asked -/
noncomputable def F_disk_asked (m : Fu) (p : (List Int) × Int) : Option (Int) :=
  let a0 := p.1
  let a1 := p.2
  (F_disk_Many m a0).bind fun x1 =>
  bif x1.2 == (0 : Int) then
    bif decide (a1 < (0 : Int)) then some (2 : Int) else
    bif decide (x1.1 ≤ a1) then
      some (2 : Int)
    else some x1.2
  else some x1.2
def F_disk_asked.ann : List (Nat × Ann) := []
def F_disk_asked.sig : Sig := ⟨[.val true [.sl (.int .u8)], .val false [.int .i64]], [(false, [.dat (.int .i64)])]⟩
noncomputable def F_disk_asked.S : Summ := ⟨29, F_disk_asked.sig, F_disk_asked⟩
noncomputable def F_disk_asked.G : List Summ := [F_disk_Many.S]
theorem F_disk_asked.eq : absF Try.prog F_disk_asked.G F_disk_asked.ann F_disk_asked.sig Try.f29 = F_disk_asked := by kernel_rfl
theorem F_disk_asked.sound : Sound Try.prog F_disk_asked.S := absF_sound (fn := Try.f29) (Γ := F_disk_asked.G) (all_cons F_disk_Many.sound all_nil) mix (by kernel_rfl) (by kernel_rfl) (fun m p => congrFun (congrFun F_disk_asked.eq m) p)
/-! ### bytes.Clone -/
noncomputable def F_bytes_Clone (_ : Fu) (p : List Int) : Option (List Int) :=
  let a0 := p
  match a0 with
  | [] => same2
   (
    some ([] : List Int))
   (
    bif Nat.ble (0 + a0.length) 140737488351232 then
      some (([] : List Int) ++ a0)
    else none)
  | _ :: _ =>
    bif Nat.ble (0 + a0.length) 140737488351232 then
      some (([] : List Int) ++ a0)
    else none
def F_bytes_Clone.ann : List (Nat × Ann) := []
def F_bytes_Clone.sig : Sig := ⟨[.val false [.sl (.int .u8)]], [(false, [.own (.int .u8) 0 .wr])]⟩
noncomputable def F_bytes_Clone.S : Summ := ⟨30, F_bytes_Clone.sig, F_bytes_Clone⟩
noncomputable def F_bytes_Clone.G : List Summ := []
theorem F_bytes_Clone.eq : absF Try.prog F_bytes_Clone.G F_bytes_Clone.ann F_bytes_Clone.sig Try.f30 = F_bytes_Clone := by kernel_rfl
theorem F_bytes_Clone.sound : Sound Try.prog F_bytes_Clone.S := absF_sound (fn := Try.f30) (Γ := F_bytes_Clone.G) all_nil mix (by kernel_rfl) (by kernel_rfl) (fun m p => congrFun (congrFun F_bytes_Clone.eq m) p)
noncomputable def C_bytes_Clone (m : Fu) (p : List Int) : Option (List Int) := bif Nat.ble p.length 140737488351232 then some p else none
theorem C_bytes_Clone.is : F_bytes_Clone = C_bytes_Clone := by
  funext m p
  have h0 : Nat.ble 0 140737488351232 = true := rfl
  cases p <;> simp [F_bytes_Clone, C_bytes_Clone, same2_self, h0]
noncomputable def C_bytes_Clone.S : Summ := ⟨30, F_bytes_Clone.sig, C_bytes_Clone⟩
theorem C_bytes_Clone.sound : Sound Try.prog C_bytes_Clone.S := by
  have h := F_bytes_Clone.sound
  unfold F_bytes_Clone.S at h
  rw [C_bytes_Clone.is] at h
  exact h
/-! ### cloakroom/disk.at -/
noncomputable def F_disk_at_w (_ : Fu) (p : List Int × Int) : Option (Int × Int) :=
  let x1 := IntKind.i64.wrap (p.2 * (64 : Int))
  let x2 := IntKind.i64.wrap (IntKind.i64.wrap (p.2 + (1 : Int)) * (64 : Int))
  bif decide ((0 : Int) ≤ x1) && decide (x1 < x2) && decide (x2 ≤ (p.1.length : Int)) then some (x1, x2 - x1) else none
def F_disk_at_w.sig : Sig := ⟨[.own (.int .u8), .val false [.int .i64]], [(true, [.cst (.ptr 0 0), .dat (.int .i64), .dat (.int .i64)])]⟩
noncomputable def F_disk_at_w.S : Summ := ⟨31, F_disk_at_w.sig, F_disk_at_w⟩
theorem F_disk_at_w.core (n lo hi : Int) (len cap b o : Nat) (w : World) (hlo : wrap64 (n * 64) = lo) (hhi : wrap64 (wrap64 (n + 1) * 64) = hi) (h0 : 0 ≤ lo) (h1 : lo < hi) (h2 : hi ≤ (len : Int)) (hc : len ≤ cap) :
    Calls Try.prog 31 #[.agg #[.slice (some ⟨b, o, none⟩) len cap], .int .i64 n] w fun e w' => ∃ v, e = .returned v ∧ (∃ c', v = .slice (some ⟨b, o + lo.toNat, none⟩) (hi - lo).toNat c') ∧ Grows w w' := by
  have e1 : max hi 0 = hi := by omega
  have e2 : hi ≤ (cap : Int) := by omega
  have e3 : ¬ hi.toNat = lo.toNat := by omega
  have e4 : hi.toNat - lo.toNat = (hi - lo).toNat := by omega
  go_enter Try.func31, Try.ntmps31
  go_wp2_with (simp only [hlo, hhi, e1])
  go_ret
  refine ⟨_, rfl, ⟨_, rfl⟩, ?_⟩
  exact ⟨by rw [size_alloc]; omega, fun b hb => heap_alloc_lt _ _ hb, rfl, rfl, rfl⟩
theorem F_disk_at_w.sound : Sound Try.prog F_disk_at_w.S := by
  show WinSound Try.prog 31 (.int .u8) F_disk_at_w
  intro m xs n q hq
  change List Int at xs
  unfold F_disk_at_w at hq
  dsimp only at hq
  rw [show IntKind.i64.wrap (n * (64 : Int)) = wrap64 (n * 64) from by rw [IntKind.wrap_i64, wrap64], show IntKind.i64.wrap (IntKind.i64.wrap (n + (1 : Int)) * (64 : Int)) = wrap64 (wrap64 (n + 1) * 64) from by rw [IntKind.wrap_i64, IntKind.wrap_i64, wrap64, wrap64]] at hq
  generalize hlo : wrap64 (n * 64) = lo at hq
  generalize hhi : wrap64 (wrap64 (n + 1) * 64) = hi at hq
  cases hc : decide ((0 : Int) ≤ lo) && decide (lo < hi) && decide (hi ≤ (xs.length : Int)) with
  | false => rw [hc] at hq; cases hq
  | true =>
    rw [hc] at hq
    cases hq
    simp only [Bool.and_eq_true, decide_eq_true_eq] at hc
    obtain ⟨⟨c1, c2⟩, c3⟩ := hc
    refine ⟨by show 0 < xs.length; omega, fun w b o cap h1 h2 hn => ?_⟩
    have hcore := F_disk_at_w.core n lo hi xs.length cap b o w hlo hhi c1 c2 c3 h1
    have hrun : (callFunc 31 #[.agg #[.slice (some ⟨b, o, none⟩) xs.length cap], .int .i64 n]).run Try.prog w = .ok (.enter 31 #[.agg #[.slice (some ⟨b, o, none⟩) xs.length cap], .int .i64 n]) w := by
      have hb : Try.f31.body.isSome = true := by kernel_rfl
      have hn : (Try.f31.name == "runtime.NumGoroutine") = false := by kernel_rfl
      obtain ⟨c, hbody⟩ := Option.isSome_iff_exists.1 hb
      have hn' : ¬ Try.f31.name = "runtime.NumGoroutine" := by simpa using hn
      simp [callFunc, Try.func31, hn', hbody]
    unfold Go.Abs.Ends
    rw [show (callFunc 31 #[.agg #[.slice (some ⟨b, o, none⟩) (List.length xs) cap], .int .i64 n]).run Try.prog w = _ from hrun]
    have e1 : (lo.toNat) * (Ty.int IntKind.u8).sz = lo.toNat := Nat.mul_one _
    refine Calls.mono hcore ?_
    rintro e w' ⟨v, he, hv, hg⟩
    exact ⟨v, he, by rw [e1]; exact hv, hg⟩
/-! ### cloakroom/disk.Do -/
noncomputable def F_disk_Do.l58 (m : Fu) (a0 : List Int) (a1 : List (Int × (List Int))) (x3 : Int) (x4 : Int) : Option (Step Int (Int ⊕ Unit)) :=
  bif decide (x4 < x3) then
    bif (decide ((0 : Int) ≤ x4)) && (decide (x4 < (a1.length : Int))) then
      let x6 := a1.getD x4.toNat (0, [])
      (F_disk_asked m (a0, x6.1)).bind fun x7 =>
      bif x7 != (0 : Int) then some (.fin (Sum.inl x7)) else
      bif (x6.2.length : Int) != (64 : Int) then
        some (.fin (Sum.inl (3 : Int)))
      else some (.next (IntKind.i64.wrap (x4 + (1 : Int))))
    else none
  else some (.fin (Sum.inr ()))
noncomputable def F_disk_Do.l506 (m : Fu) (x19 : List (Int × (List Int))) (x20 : Int) (x21 : Int × (List Int)) : Option (Step (Int × (List Int)) ((List Int))) :=
  bif decide (x21.1 < x20) then
    bif (decide ((0 : Int) ≤ x21.1)) && (decide (x21.1 < (x19.length : Int))) then
      let x23 := x19.getD x21.1.toNat (0, [])
      (F_disk_at_w m (x21.2, x23.1)).bind fun x24 =>
      bif Nat.ble (x24.1.toNat + x24.2.toNat) x21.2.length && (Nat.beq x23.2.length x24.2.toNat && Nat.ble x24.2.toNat 4294967296) then
        some (.next ((IntKind.i64.wrap (x21.1 + (1 : Int))), (x21.2.take x24.1.toNat ++ x23.2 ++ x21.2.drop (x24.1.toNat + x24.2.toNat))))
      else none
    else none
  else some (.fin x21.2)
noncomputable def F_disk_Do (m : Fu) (p : (List Int) × (List (Int × (List Int))) × Int) : Option ((List Int) × Int) :=
  let a0 := p.1
  let a1 := p.2.1
  let a2 := p.2.2
  (F_disk_Check m a0).bind fun x1 =>
  bif x1 != (0 : Int) then some (([] : List Int), x1) else
  (iter m (F_disk_Do.l58 m a0 a1 (a1.length : Int)) (0 : Int)).bind fun x12 =>
  match x12 with
  | .inl x13 =>
    some (([] : List Int), x13)
  | .inr _ =>
    bif decide (a2 < (0 : Int)) then some (([] : List Int), (2 : Int)) else
    bif decide ((a1.length : Int) < a2) then some (([] : List Int), (2 : Int)) else
    (C_bytes_Clone m a0).bind fun x18 =>
    bif ((decide ((0 : Int) ≤ a2)) && (decide (a2 ≤ a2))) && (decide (a2 ≤ (a1.length : Int))) then
      let x19 := (a1.take a2.toNat).drop 0
      (iter m (F_disk_Do.l506 m x19 (x19.length : Int)) ((0 : Int), x18)).bind fun x27 =>
      some (x27, (0 : Int))
    else none
def F_disk_Do.ann : List (Nat × Ann) := [(58, .loop ⟨[(23, false, [.dat (.int .i64)])], [], [], [], 224⟩ [(.ret, ⟨[(7, false, [.dat (.int .i64)])], [(64, [.cst .nils])], [], [], 224⟩), (.exit 0, ⟨[], [], [], [], 224⟩)]),
  (506, .loop ⟨[(59, false, [.dat (.int .i64)])], [], [(384, .int .u8, .wr)], [], 544⟩ [(.exit 2, ⟨[], [], [(384, .int .u8, .wr)], [], 544⟩)])]
def F_disk_Do.sig : Sig := ⟨[.val true [.sl (.int .u8)], .val false [.sl (.pr (.int .i64) (.sl (.int .u8)))], .val false [.int .i64]], [(true, [.own (.int .u8) 0 .wr]), (false, [.dat (.int .i64)])]⟩
noncomputable def F_disk_Do.S : Summ := ⟨12, F_disk_Do.sig, F_disk_Do⟩
noncomputable def F_disk_Do.G : List Summ := [F_disk_Check.S, F_disk_asked.S, C_bytes_Clone.S, F_disk_at_w.S]
theorem F_disk_Do.eq : absF Try.prog F_disk_Do.G F_disk_Do.ann F_disk_Do.sig Try.f12 = F_disk_Do := by kernel_rfl
theorem F_disk_Do.sound : Sound Try.prog F_disk_Do.S := absF_sound (fn := Try.f12) (Γ := F_disk_Do.G) (all_cons F_disk_Check.sound (all_cons F_disk_asked.sound (all_cons C_bytes_Clone.sound (all_cons F_disk_at_w.sound all_nil)))) mix (by kernel_rfl) (by kernel_rfl) (fun m p => congrFun (congrFun F_disk_Do.eq m) p)
/-! ### cloakroom/reopen.Format -/
noncomputable def F_reopen_Format (m : Fu) (p : Int × Int × (List Int) × (List (Int × (List Int) × (List Int) × Int × Int × Int)) × Int × Int × Bool) : Option ((List Int) × Int) :=
  let a0 := p.1
  let a1 := p.2.1
  let a2 := p.2.2.1
  let a3 := p.2.2.2.1
  let a4 := p.2.2.2.2.1
  let a5 := p.2.2.2.2.2.1
  let a6 := p.2.2.2.2.2.2
  (F_disk_New m a0).bind fun x1 =>
  bif x1.2 != (0 : Int) then some (([] : List Int), x1.2) else
  bif decide (a0 < (3 : Int)) then some (([] : List Int), (230 : Int)) else
  (F_reopen_half m a0).bind fun x4 =>
  (F_reopen_record m (a1, a2, a3, a4, a5, a6, (1 : Int), x4)).bind fun x5 =>
  bif x5.2 != (0 : Int) then some (([] : List Int), x5.2) else
  (F_reopen_first m ((1 : Int), (0 : Int))).bind fun x7 =>
  (F_reopen_puts m (x5.1, (1 : Int), ([x7]))).bind fun x9 =>
  (F_disk_Do m (x1.1, x9, (x9.length : Int))).bind fun x11 =>
  some x11
def F_reopen_Format.ann : List (Nat × Ann) := []
def F_reopen_Format.sig : Sig := ⟨[.val false [.int .i64], .val true [.int .i64, .sl (.int .i64), .sl (.pr (.int .i64) (.pr .str (.pr .str (.pr (.int .u32) (.pr (.int .i64) (.int .u64)))))), .int .i64, .int .i64, .bool]], [(true, [.own (.int .u8) 0 .wr]), (false, [.dat (.int .i64)])]⟩
noncomputable def F_reopen_Format.S : Summ := ⟨18, F_reopen_Format.sig, F_reopen_Format⟩
noncomputable def F_reopen_Format.G : List Summ := [F_disk_New.S, F_reopen_half.S, F_reopen_record.S, F_reopen_first.S, F_reopen_puts.S, F_disk_Do.S]
theorem F_reopen_Format.eq : absF Try.prog F_reopen_Format.G F_reopen_Format.ann F_reopen_Format.sig Try.f18 = F_reopen_Format := by kernel_rfl
theorem F_reopen_Format.sound : Sound Try.prog F_reopen_Format.S := absF_sound (fn := Try.f18) (Γ := F_reopen_Format.G) (all_cons F_disk_New.sound (all_cons F_reopen_half.sound (all_cons F_reopen_record.sound (all_cons F_reopen_first.sound (all_cons F_reopen_puts.sound (all_cons F_disk_Do.sound all_nil)))))) mix (by kernel_rfl) (by kernel_rfl) (fun m p => congrFun (congrFun F_reopen_Format.eq m) p)
/-! ### cloakroom/cloakroomlaw23.nine -/
noncomputable def F_law23_nine (m : Fu) (_ : Unit) : Option ((List Int) × Int × (List Int) × (List (Int × (List Int) × (List Int) × Int × Int × Int)) × Int × Int × Bool) :=
  (F_image_New m ([1] : List Int)).bind fun x1 =>
  (F_reopen_Format m ((9 : Int), x1.1, x1.2.1, x1.2.2.1, x1.2.2.2.1, x1.2.2.2.2.1, x1.2.2.2.2.2.1)).bind fun x2 =>
  some (x2.1, x1.1, x1.2.1, x1.2.2.1, x1.2.2.2.1, x1.2.2.2.2.1, x1.2.2.2.2.2.1)
def F_law23_nine.ann : List (Nat × Ann) := []
def F_law23_nine.sig : Sig := ⟨[], [(true, [.own (.int .u8) 0 .wr]), (true, [.dat (.int .i64), .own (.int .i64) 0 .wr, .dat (.sl (.pr (.int .i64) (.pr .str (.pr .str (.pr (.int .u32) (.pr (.int .i64) (.int .u64))))))), .dat (.int .i64), .dat (.int .i64), .dat .bool])]⟩
noncomputable def F_law23_nine.S : Summ := ⟨17, F_law23_nine.sig, F_law23_nine⟩
noncomputable def F_law23_nine.G : List Summ := [F_image_New.S, F_reopen_Format.S]
theorem F_law23_nine.eq : absF Try.prog F_law23_nine.G F_law23_nine.ann F_law23_nine.sig Try.f17 = F_law23_nine := by kernel_rfl
theorem F_law23_nine.sound : Sound Try.prog F_law23_nine.S := absF_sound (fn := Try.f17) (Γ := F_law23_nine.G) (all_cons F_image_New.sound (all_cons F_reopen_Format.sound all_nil)) mix (by kernel_rfl) (by kernel_rfl) (fun m p => congrFun (congrFun F_law23_nine.eq m) p)
/-! ### cloakroom/cloakroomlaw23.put -/
noncomputable def F_law23_put (_ : Fu) (p : List Int) : Option (Int × Int × (List Int) × (List Int) × Int × Int × Int × (List Int) × Int × Int × Bool) :=
  let a0 := p
  some ((1 : Int), (0 : Int), a0, ([] : List Int), (0 : Int), (0 : Int), (0 : Int), ([] : List Int), (0 : Int), (0 : Int), false)
def F_law23_put.ann : List (Nat × Ann) := []
def F_law23_put.sig : Sig := ⟨[.val false [.str]], [(true, [.dat (.int .u8), .dat (.int .i64), .dat .str, .dat .str, .dat (.int .u32), .dat (.int .i64), .dat (.int .u64), .dat .str, .dat (.int .u8), .dat (.int .i64), .dat .bool])]⟩
noncomputable def F_law23_put.S : Summ := ⟨20, F_law23_put.sig, F_law23_put⟩
noncomputable def F_law23_put.G : List Summ := []
theorem F_law23_put.eq : absF Try.prog F_law23_put.G F_law23_put.ann F_law23_put.sig Try.f20 = F_law23_put := by kernel_rfl
theorem F_law23_put.sound : Sound Try.prog F_law23_put.S := absF_sound (fn := Try.f20) (Γ := F_law23_put.G) all_nil mix (by kernel_rfl) (by kernel_rfl) (fun m p => congrFun (congrFun F_law23_put.eq m) p)
/-! ### cloakroom/disk.at -/
noncomputable def F_disk_at (_ : Fu) (p : (List Int) × Int) : Option (List Int) :=
  let a0 := p.1
  let a1 := p.2
  let x1 := IntKind.i64.wrap (a1 * (64 : Int))
  let x3 := IntKind.i64.wrap ((IntKind.i64.wrap (a1 + (1 : Int))) * (64 : Int))
  bif (((decide ((0 : Int) ≤ x1)) && (decide (x1 ≤ x3))) && (decide (x3 ≤ x3))) && (decide (x3 ≤ (a0.length : Int))) then
    some ((a0.take x3.toNat).drop x1.toNat)
  else none
def F_disk_at.ann : List (Nat × Ann) := []
def F_disk_at.sig : Sig := ⟨[.val true [.sl (.int .u8)], .val false [.int .i64]], [(false, [.dat (.sl (.int .u8))])]⟩
noncomputable def F_disk_at.S : Summ := ⟨31, F_disk_at.sig, F_disk_at⟩
noncomputable def F_disk_at.G : List Summ := []
theorem F_disk_at.eq : absF Try.prog F_disk_at.G F_disk_at.ann F_disk_at.sig Try.f31 = F_disk_at := by kernel_rfl
theorem F_disk_at.sound : Sound Try.prog F_disk_at.S := absF_sound (fn := Try.f31) (Γ := F_disk_at.G) all_nil mix (by kernel_rfl) (by kernel_rfl) (fun m p => congrFun (congrFun F_disk_at.eq m) p)
/-! ### cloakroom/disk.Read -/
noncomputable def F_disk_Read (m : Fu) (p : (List Int) × Int) : Option ((List Int) × Int) :=
  let a0 := p.1
  let a1 := p.2
  (F_disk_asked m (a0, a1)).bind fun x1 =>
  bif x1 != (0 : Int) then some (([] : List Int), x1) else
  (F_disk_at m (a0, a1)).bind fun x3 =>
  (C_bytes_Clone m x3).bind fun x4 =>
  some (x4, (0 : Int))
def F_disk_Read.ann : List (Nat × Ann) := []
def F_disk_Read.sig : Sig := ⟨[.val true [.sl (.int .u8)], .val false [.int .i64]], [(false, [.own (.int .u8) 0 .wr]), (false, [.dat (.int .i64)])]⟩
noncomputable def F_disk_Read.S : Summ := ⟨48, F_disk_Read.sig, F_disk_Read⟩
noncomputable def F_disk_Read.G : List Summ := [F_disk_asked.S, F_disk_at.S, C_bytes_Clone.S]
theorem F_disk_Read.eq : absF Try.prog F_disk_Read.G F_disk_Read.ann F_disk_Read.sig Try.f48 = F_disk_Read := by kernel_rfl
theorem F_disk_Read.sound : Sound Try.prog F_disk_Read.S := absF_sound (fn := Try.f48) (Γ := F_disk_Read.G) (all_cons F_disk_asked.sound (all_cons F_disk_at.sound (all_cons C_bytes_Clone.sound all_nil))) mix (by kernel_rfl) (by kernel_rfl) (fun m p => congrFun (congrFun F_disk_Read.eq m) p)
/-! ### bytes.Equal -/
noncomputable def F_bytes_Equal (_ : Fu) (p : (List Int) × (List Int)) : Option (Bool) :=
  let a0 := p.1
  let a1 := p.2
  some (a0 == a1)
def F_bytes_Equal.ann : List (Nat × Ann) := []
def F_bytes_Equal.sig : Sig := ⟨[.val false [.sl (.int .u8)], .val false [.sl (.int .u8)]], [(false, [.dat .bool])]⟩
noncomputable def F_bytes_Equal.S : Summ := ⟨49, F_bytes_Equal.sig, F_bytes_Equal⟩
noncomputable def F_bytes_Equal.G : List Summ := []
theorem F_bytes_Equal.eq : absF Try.prog F_bytes_Equal.G F_bytes_Equal.ann F_bytes_Equal.sig Try.f49 = F_bytes_Equal := by kernel_rfl
theorem F_bytes_Equal.sound : Sound Try.prog F_bytes_Equal.S := absF_sound (fn := Try.f49) (Γ := F_bytes_Equal.G) all_nil mix (by kernel_rfl) (by kernel_rfl) (fun m p => congrFun (congrFun F_bytes_Equal.eq m) p)
/-! ### (*cloakroom/reopen.store).from -/
noncomputable def F_reopen_store_from_r (_ : Fu) (p : Int × Int) : Option Int := some (IntKind.i64.wrap ((1 : Int) + IntKind.i64.wrap (p.2 * p.1)))
def F_reopen_store_from_r.sig : Sig := ⟨[.val false [.int .i64], .val false [.int .i64]], [(true, [.cst (.ptr 1 3), .dat (.int .i64)])]⟩
noncomputable def F_reopen_store_from_r.S : Summ := ⟨52, F_reopen_store_from_r.sig, F_reopen_store_from_r⟩
theorem F_reopen_store_from_r.sound : Sound Try.prog F_reopen_store_from_r.S := by
  show RdSound Try.prog 52 3 F_reopen_store_from_r
  intro m y n z hz
  have hz2 : IntKind.i64.wrap ((1 : Int) + IntKind.i64.wrap (n * y)) = z := by
    unfold F_reopen_store_from_r at hz
    cases hz
    rfl
  have hw : IntKind.i64.wrap z = z := by rw [← hz2, IntKind.wrap_i64, IntKind.wrap_i64]; omega
  refine ⟨hw, fun w B hc hy hn => ?_⟩
  have hz3 : wrap64 (1 + wrap64 (n * y)) = z := by rw [← hz2, IntKind.wrap_i64, IntKind.wrap_i64, wrap64, wrap64]
  have hcore : Calls Try.prog 52 #[.pointer (some ⟨B, 0, none⟩), .int .i64 n] w fun e w' => ∃ v, e = .returned v ∧ v = .int .i64 z ∧ Grows w w' := by
    go_enter Try.func52, Try.ntmps52
    go_wp2_with (simp only [hc, hz3])
    go_ret
    exact ⟨_, rfl, rfl, Nat.le_refl _, fun b hb => rfl, rfl, rfl, rfl⟩
  have hrun : (callFunc 52 #[.pointer (some ⟨B, 0, none⟩), .int .i64 n]).run Try.prog w = .ok (.enter 52 #[.pointer (some ⟨B, 0, none⟩), .int .i64 n]) w := by
    have hb : Try.f52.body.isSome = true := by kernel_rfl
    have hn : (Try.f52.name == "runtime.NumGoroutine") = false := by kernel_rfl
    obtain ⟨c, hbody⟩ := Option.isSome_iff_exists.1 hb
    have hn' : ¬ Try.f52.name = "runtime.NumGoroutine" := by simpa using hn
    simp [callFunc, Try.func52, hn', hbody]
  unfold Go.Abs.Ends
  rw [hrun]
  exact hcore
/-! ### cloakroom/journal.some -/
noncomputable def F_journal_some.l506 (m : Fu) (a0 : List Int) (a1 : Int) (a2 : Int) (x8 : (List (List Int)) × Int) : Option (Step ((List (List Int)) × Int) (Int ⊕ (List (List Int)))) :=
  bif decide (x8.2 < a2) then
    (F_disk_Read m (a0, (IntKind.i64.wrap (a1 + x8.2)))).bind fun x11 =>
    bif x11.2 != (0 : Int) then some (.fin (Sum.inl x11.2)) else
    let x13 := [x11.1]
    bif Nat.ble (x8.1.length + x13.length) 4294967296 then
      some (.next ((x8.1 ++ x13), (IntKind.i64.wrap (x8.2 + (1 : Int)))))
    else none
  else some (.fin (Sum.inr x8.1))
noncomputable def F_journal_some (m : Fu) (p : (List Int) × Int × Int) : Option ((List (List Int)) × Int) :=
  let a0 := p.1
  let a1 := p.2.1
  let a2 := p.2.2
  (F_disk_Many m a0).bind fun x1 =>
  bif x1.2 != (0 : Int) then some (([] : List (List Int)), x1.2) else
  bif decide (a1 < (0 : Int)) then some (([] : List (List Int)), (2 : Int)) else
  bif decide (a2 < (0 : Int)) then some (([] : List (List Int)), (2 : Int)) else
  bif decide (x1.1 < a1) then some (([] : List (List Int)), (2 : Int)) else
  bif decide ((IntKind.i64.wrap (x1.1 - a1)) < a2) then some (([] : List (List Int)), (2 : Int)) else
  (iter m (F_journal_some.l506 m a0 a1 a2) (([] : List (List Int)), (0 : Int))).bind fun x16 =>
  match x16 with
  | .inl x17 =>
    some (([] : List (List Int)), x17)
  | .inr x18 =>
    some (x18, (0 : Int))
def F_journal_some.ann : List (Nat × Ann) := [(506, .loop ⟨[(10, false, [.own (.sl (.int .u8)) 576 .wr]), (41, false, [.dat (.int .i64)])], [], [], [], 577⟩ [(.ret, ⟨[(6, false, [.cst .nils]), (7, false, [.dat (.int .i64)])], [], [], [], 576⟩), (.exit 0, ⟨[(10, false, [.own (.sl (.int .u8)) 576 .wr])], [], [], [], 577⟩)])]
def F_journal_some.sig : Sig := ⟨[.val true [.sl (.int .u8)], .val false [.int .i64], .val false [.int .i64]], [(false, [.own (.sl (.int .u8)) 0 .wr]), (false, [.dat (.int .i64)])]⟩
noncomputable def F_journal_some.S : Summ := ⟨73, F_journal_some.sig, F_journal_some⟩
noncomputable def F_journal_some.G : List Summ := [F_disk_Many.S, F_disk_Read.S]
theorem F_journal_some.eq : absF Try.prog F_journal_some.G F_journal_some.ann F_journal_some.sig Try.f73 = F_journal_some := by kernel_rfl
theorem F_journal_some.sound : Sound Try.prog F_journal_some.S := absF_sound (fn := Try.f73) (Γ := F_journal_some.G) (all_cons F_disk_Many.sound (all_cons F_disk_Read.sound all_nil)) mix (by kernel_rfl) (by kernel_rfl) (fun m p => congrFun (congrFun F_journal_some.eq m) p)
/-! ### cloakroom/journal.get -/
noncomputable def F_journal_get.l26 (_ : Fu) (a0 : List Int) (x1 : Int) (x2 : Int × Int) : Option (Step (Int × Int) Int) :=
  bif decide (x2.2 < x1) then
    bif (decide ((0 : Int) ≤ x2.2)) && (decide (x2.2 < (a0.length : Int))) then
      let x6 := IntKind.i64.wrap ((8 : Int) * x2.2)
      bif decide (x6 < (0 : Int)) then
        none
      else some (.next ((bitsOp .or .u32 x2.1 (shlOp .u32 (IntKind.u32.wrap (a0.getD x2.2.toNat 0)) x6)), (IntKind.i64.wrap (x2.2 + (1 : Int)))))
    else none
  else some (.fin x2.1)
noncomputable def F_journal_get (m : Fu) (p : List Int) : Option (Int) :=
  let a0 := p
  (iter m (F_journal_get.l26 m a0 (a0.length : Int)) ((0 : Int), (0 : Int))).bind fun x10 =>
  some x10
def F_journal_get.ann : List (Nat × Ann) := [(26, .loop ⟨[(2, false, [.dat (.int .u32)]), (7, false, [.dat (.int .i64)])], [], [], [], 80⟩ [(.exit 0, ⟨[(2, false, [.dat (.int .u32)])], [], [], [], 80⟩)])]
def F_journal_get.sig : Sig := ⟨[.val false [.sl (.int .u8)]], [(false, [.dat (.int .u32)])]⟩
noncomputable def F_journal_get.S : Summ := ⟨74, F_journal_get.sig, F_journal_get⟩
noncomputable def F_journal_get.G : List Summ := []
theorem F_journal_get.eq : absF Try.prog F_journal_get.G F_journal_get.ann F_journal_get.sig Try.f74 = F_journal_get := by kernel_rfl
theorem F_journal_get.sound : Sound Try.prog F_journal_get.S := absF_sound (fn := Try.f74) (Γ := F_journal_get.G) all_nil mix (by kernel_rfl) (by kernel_rfl) (fun m p => congrFun (congrFun F_journal_get.eq m) p)
/-! ### cloakroom/journal.open -/
noncomputable def F_journal_open.l250 (_ : Fu) (x13 : List (List Int)) (x14 : Int) (x15 : (List Int) × Int × Int × Int) : Option (Step ((List Int) × Int × Int × Int) ((Int × Int × Bool) ⊕ ((List Int) × Int × Int))) :=
  bif decide (x15.2.2.2 < x14) then
    bif (decide ((0 : Int) ≤ x15.2.2.2)) && (decide (x15.2.2.2 < (x13.length : Int))) then
      let x17 := x13.getD x15.2.2.2.toNat []
      bif decide ((20 : Int) < (x17.length : Int)) then
        let x19 := IntKind.i64.wrap (x17.getD 20 0)
        bif decide ((43 : Int) < x19) then some (.fin (Sum.inl ((0 : Int), (0 : Int), false))) else
        bif ((decide ((21 : Int) ≤ (x17.length : Int))) && (decide ((x17.length : Int) ≤ (x17.length : Int)))) && (decide ((x17.length : Int) ≤ (x17.length : Int))) then
          let x21 := (x17.take ((x17.length : Int).toNat)).drop 21
          bif ((decide ((0 : Int) ≤ x19)) && (decide (x19 ≤ (x21.length : Int)))) && (decide ((x21.length : Int) ≤ (x21.length : Int))) then
            let x22 := (x21.take x19.toNat).drop 0
            bif Nat.ble (x15.1.length + x22.length) 140737488351232 then
              some (.next ((x15.1 ++ x22), x15.2.1, x15.2.2.1, (IntKind.i64.wrap (x15.2.2.2 + (1 : Int)))))
            else none
          else none
        else none
      else none
    else none
  else some (.fin (Sum.inr (x15.1, x15.2.1, x15.2.2.1)))
noncomputable def F_journal_open.l2042 (m : Fu) (a3 : List (List Int)) (x28 : (List (List Int)) × Int) (x32 : Int) (x33 : (List Int) × Int × Int × Int) : Option (Step ((List Int) × Int × Int × Int) ((Int × Int × Bool) ⊕ ((List Int) × Int × Int))) :=
  bif decide (x33.2.2.2 < x32) then
    bif (decide ((0 : Int) ≤ x33.2.2.2)) && (decide (x33.2.2.2 < (x28.1.length : Int))) then
      bif Nat.blt x33.2.2.2.toNat x28.1.length then
        bif (decide ((0 : Int) ≤ x33.2.2.2)) && (decide (x33.2.2.2 < (a3.length : Int))) then
          (F_bytes_Equal m ((x28.1.getD x33.2.2.2.toNat []), (a3.getD x33.2.2.2.toNat []))).bind fun x37 =>
          bif !x37 then
            some (.fin (Sum.inl ((0 : Int), (0 : Int), false)))
          else some (.next (x33.1, x33.2.1, x33.2.2.1, (IntKind.i64.wrap (x33.2.2.2 + (1 : Int)))))
        else none
      else none
    else none
  else some (.fin (Sum.inr (x33.1, x33.2.1, x33.2.2.1)))
noncomputable def F_journal_open (m : Fu) (p : Int × Int × Int × (List (List Int))) : Option ((List Int) × Int × Int × Bool) :=
  let a0 := p.1
  let a1 := p.2.1
  let a2 := p.2.2.1
  let a3 := p.2.2.2
  bif (a3.length : Int) == (0 : Int) then some (([] : List Int), (0 : Int), (0 : Int), false) else
  bif decide ((0 : Int) < (a3.length : Int)) then
    let x3 := a3.getD 0 []
    bif (decide ((12 : Int) ≤ (x3.length : Int))) && (decide ((x3.length : Int) ≤ (x3.length : Int))) then
      (F_journal_get m ((x3.take 12).drop 8)).bind fun x5 =>
      bif decide ((0 : Int) < (a3.length : Int)) then
        let x6 := a3.getD 0 []
        bif (decide ((20 : Int) ≤ (x6.length : Int))) && (decide ((x6.length : Int) ≤ (x6.length : Int))) then
          (F_journal_get m ((x6.take 20).drop 18)).bind fun x8 =>
          let x9 := IntKind.i64.wrap x8
          bif decide (x9 < (1 : Int)) then some (([] : List Int), (0 : Int), (0 : Int), false) else
          bif decide ((a3.length : Int) < x9) then some (([] : List Int), (0 : Int), (0 : Int), false) else
          bif ((decide ((0 : Int) ≤ x9)) && (decide (x9 ≤ (a3.length : Int)))) && (decide ((a3.length : Int) ≤ (a3.length : Int))) then
            let x13 := (a3.take x9.toNat).drop 0
            (iter m (F_journal_open.l250 m x13 (x13.length : Int)) (([] : List Int), x5, x9, (0 : Int))).bind fun x25 =>
            match x25 with
            | .inl x26 =>
              some (([] : List Int), x26)
            | .inr x27 =>
              (F_journal_Frame m (a0, a1, x27.2.1, a2, x27.1)).bind fun x28 =>
              bif x28.2 != (0 : Int) then some (([] : List Int), (0 : Int), (0 : Int), false) else
              bif (x28.1.length : Int) != x27.2.2 then some (([] : List Int), (0 : Int), (0 : Int), false) else
              (iter m (F_journal_open.l2042 m a3 x28 (x28.1.length : Int)) (x27.1, x27.2.1, x27.2.2, (0 : Int))).bind fun x40 =>
              match x40 with
              | .inl x41 =>
                some (([] : List Int), x41)
              | .inr x42 =>
                some (x42.1, x42.2.1, x42.2.2, true)
          else none
        else none
      else none
    else none
  else none
def F_journal_open.ann : List (Nat × Ann) := [(250, .loop ⟨[(8, false, [.own (.int .u8) 592 .wr]), (9, false, [.dat (.int .u32)]), (10, false, [.dat (.int .i64)]), (44, false, [.dat (.int .i64)])], [], [], [], 593⟩ [(.ret, ⟨[(8, false, [.cst .nils]), (9, false, [.dat (.int .u32)]), (10, false, [.dat (.int .i64)]), (11, false, [.dat .bool])], [], [], [], 592⟩), (.exit 0, ⟨[(8, false, [.own (.int .u8) 592 .wr]), (9, false, [.dat (.int .u32)]), (10, false, [.dat (.int .i64)])], [], [], [], 593⟩)]),
  (2042, .loop ⟨[(8, false, [.own (.int .u8) 945 .fr]), (9, false, [.dat (.int .u32)]), (10, false, [.dat (.int .i64)]), (80, false, [.dat (.int .i64)])], [], [], [592], 946⟩ [(.ret, ⟨[(8, false, [.cst .nils]), (9, false, [.dat (.int .u32)]), (10, false, [.dat (.int .i64)]), (11, false, [.dat .bool])], [], [], [592], 945⟩), (.exit 2, ⟨[(8, false, [.own (.int .u8) 945 .fr]), (9, false, [.dat (.int .u32)]), (10, false, [.dat (.int .i64)])], [], [], [592], 946⟩)])]
def F_journal_open.sig : Sig := ⟨[.val false [.int .u32], .val false [.int .u32], .val false [.int .u32], .val false [.sl (.sl (.int .u8))]], [(false, [.own (.int .u8) 0 .fr]), (false, [.dat (.int .u32)]), (false, [.dat (.int .i64)]), (false, [.dat .bool])]⟩
noncomputable def F_journal_open.S : Summ := ⟨85, F_journal_open.sig, F_journal_open⟩
noncomputable def F_journal_open.G : List Summ := [F_journal_get.S, F_journal_Frame.S, F_bytes_Equal.S]
theorem F_journal_open.eq : absF Try.prog F_journal_open.G F_journal_open.ann F_journal_open.sig Try.f85 = F_journal_open := by kernel_rfl
theorem F_journal_open.sound : Sound Try.prog F_journal_open.S := absF_sound (fn := Try.f85) (Γ := F_journal_open.G) (all_cons F_journal_get.sound (all_cons F_journal_Frame.sound (all_cons F_bytes_Equal.sound all_nil))) mix (by kernel_rfl) (by kernel_rfl) (fun m p => congrFun (congrFun F_journal_open.eq m) p)
/-! ### cloakroom/journal.Read -/
noncomputable def F_journal_Read.l252 (m : Fu) (a1 : Int) (x4 : (List (List Int)) × (List (List Int)) × Int × Int × Int) : Option (Step ((List (List Int)) × (List (List Int)) × Int × Int × Int) (((List (List Int)) × (List (List Int)) × Int × Int × Int))) :=
  (F_journal_open m (a1, (IntKind.u32.wrap (IntKind.i64.wrap ((x4.2.1.length : Int) + (1 : Int)))), x4.2.2.2.1, x4.1)).bind fun x8 =>
  bif !x8.2.2.2 then some (.fin x4) else
  let x10 := [x8.1]
  bif Nat.ble (x4.2.1.length + x10.length) 4294967296 then
    bif (((decide ((0 : Int) ≤ x8.2.2.1)) && (decide (x8.2.2.1 ≤ (x4.1.length : Int)))) && (decide ((x4.1.length : Int) ≤ (x4.1.length : Int)))) && (decide ((x4.1.length : Int) ≤ (x4.1.length : Int))) then
      some (.next (((x4.1.take ((x4.1.length : Int).toNat)).drop x8.2.2.1.toNat), (x4.2.1 ++ x10), (IntKind.i64.wrap (x4.2.2.1 + x8.2.2.1)), x8.2.1, x4.2.2.2.2))
    else none
  else none
noncomputable def F_journal_Read.l1018 (m : Fu) (a1 : Int) (x14 : ((List (List Int)) × (List (List Int)) × Int × Int × Int)) (x15 : Int) (x16 : Int × (List (List Int)) × Int × Int × Int) : Option (Step (Int × (List (List Int)) × Int × Int × Int) (((List (List Int)) × Int × Int × Int))) :=
  bif decide (x16.1 < x15) then
    bif (decide ((0 : Int) ≤ x16.1)) && (decide (x16.1 < (x14.1.length : Int))) then
      let x18 := x14.1.getD x16.1.toNat []
      bif (decide ((4 : Int) ≤ (x18.length : Int))) && (decide ((x18.length : Int) ≤ (x18.length : Int))) then
        (F_journal_get m ((x18.take 4).drop 0)).bind fun x20 =>
        bif x20 == a1 then
          bif (decide ((12 : Int) ≤ (x18.length : Int))) && (decide ((x18.length : Int) ≤ (x18.length : Int))) then
            (F_journal_get m ((x18.take 12).drop 8)).bind fun x23 =>
            bif (decide ((16 : Int) ≤ (x18.length : Int))) && (decide ((x18.length : Int) ≤ (x18.length : Int))) then
              (F_journal_get m ((x18.take 16).drop 12)).bind fun x25 =>
              some (.next ((IntKind.i64.wrap (x16.1 + (1 : Int))), x16.2.1, x16.2.2.1, x16.2.2.2.1, (mxI (mxI x16.2.2.2.2 x23) x25)))
            else none
          else none
        else some (.next ((IntKind.i64.wrap (x16.1 + (1 : Int))), x16.2))
      else none
    else none
  else some (.fin x16.2)
noncomputable def F_journal_Read (m : Fu) (p : (List Int) × Int × Int × Int) : Option ((List (List Int)) × Int × Int × Int × Int) :=
  let a0 := p.1
  let a1 := p.2.1
  let a2 := p.2.2.1
  let a3 := p.2.2.2
  (F_journal_some m (a0, a2, a3)).bind fun x1 =>
  bif x1.2 != (0 : Int) then some (([] : List (List Int)), (0 : Int), (0 : Int), (0 : Int), x1.2) else
  bif a1 == (0 : Int) then some (([] : List (List Int)), (0 : Int), (0 : Int), (0 : Int), (2 : Int)) else
  (iter m (F_journal_Read.l252 m a1) (x1.1, ([] : List (List Int)), (0 : Int), (0 : Int), (0 : Int))).bind fun x14 =>
  (iter m (F_journal_Read.l1018 m a1 x14 (x14.1.length : Int)) ((0 : Int), x14.2)).bind fun x29 =>
  some (x29.1, x29.2.1, x29.2.2.1, x29.2.2.2, (0 : Int))
def F_journal_Read.ann : List (Nat × Ann) := [(252, .loop ⟨[(10, false, [.dat (.sl (.sl (.int .u8)))])], [(320, [.own (.sl (.int .u8)) 336 .wr, .dat (.int .i64), .dat (.int .u32), .dat (.int .u32)])], [], [160], 337⟩ [(.exit 0, ⟨[(10, false, [.dat (.sl (.sl (.int .u8)))])], [(320, [.own (.sl (.int .u8)) 336 .wr, .dat (.int .i64), .dat (.int .u32), .dat (.int .u32)])], [], [160], 337⟩)]),
  (1018, .loop ⟨[(68, false, [.dat (.int .i64)])], [(320, [.own (.sl (.int .u8)) 385 .wr, .dat (.int .i64), .dat (.int .u32), .dat (.int .u32)])], [], [336], 386⟩ [(.exit 2, ⟨[], [(320, [.own (.sl (.int .u8)) 385 .wr, .dat (.int .i64), .dat (.int .u32), .dat (.int .u32)])], [], [336], 386⟩)])]
def F_journal_Read.sig : Sig := ⟨[.val true [.sl (.int .u8)], .val false [.int .u32], .val false [.int .i64], .val false [.int .i64]], [(true, [.own (.sl (.int .u8)) 0 .wr, .dat (.int .i64), .dat (.int .u32), .dat (.int .u32)]), (false, [.dat (.int .i64)])]⟩
noncomputable def F_journal_Read.S : Summ := ⟨70, F_journal_Read.sig, F_journal_Read⟩
noncomputable def F_journal_Read.G : List Summ := [F_journal_some.S, F_journal_open.S, F_journal_get.S]
theorem F_journal_Read.eq : absF Try.prog F_journal_Read.G F_journal_Read.ann F_journal_Read.sig Try.f70 = F_journal_Read := by kernel_rfl
theorem F_journal_Read.sound : Sound Try.prog F_journal_Read.S := absF_sound (fn := Try.f70) (Γ := F_journal_Read.G) (all_cons F_journal_some.sound (all_cons F_journal_open.sound (all_cons F_journal_get.sound all_nil))) mix (by kernel_rfl) (by kernel_rfl) (fun m p => congrFun (congrFun F_journal_Read.eq m) p)
/-! ### cloakroom/code.Read -/
noncomputable def F_code_Read.s7474 (_ : Fu) (x2 : Int × Int) (x4 : Int) : Option (Unit ⊕ Unit) :=
  bif x2.2 == (9 : Int) then
    bif decide ((1 : Int) < x4) then
      some (Sum.inl ())
    else some (Sum.inr ())
  else some (Sum.inr ())
noncomputable def F_code_Read.l58 (m : Fu) (a0 : List Int) (x1 : Int) (x2 : Int × Int) : Option (Step (Int × Int) (Unit ⊕ (Int × Int × Int))) :=
  bif decide (x2.2 < x1) then
    bif (decide ((0 : Int) ≤ x2.2)) && (decide (x2.2 < (a0.length : Int))) then
      let x4 := a0.getD x2.2.toNat 0
      (F_code_Read.s7474 m x2 x4).bind fun x7 =>
      match x7 with
      | .inl _ =>
        some (.fin (Sum.inl ()))
      | .inr _ =>
        let x12 := IntKind.i64.wrap ((7 : Int) * x2.2)
        bif decide (x12 < (0 : Int)) then none else
        let x14 := bitsOp .or .u64 x2.1 (shlOp .u64 (IntKind.u64.wrap (bitsOp .and .u8 x4 (127 : Int))) x12)
        bif decide (x4 < (128 : Int)) then
          bif x4 == (0 : Int) then
            bif decide ((0 : Int) < x2.2) then
              some (.fin (Sum.inl ()))
            else some (.fin (Sum.inr (x14, (IntKind.i64.wrap (x2.2 + (1 : Int))), (0 : Int))))
          else some (.fin (Sum.inr (x14, (IntKind.i64.wrap (x2.2 + (1 : Int))), (0 : Int))))
        else some (.next (x14, (IntKind.i64.wrap (x2.2 + (1 : Int)))))
    else none
  else some (.fin (Sum.inl ()))
noncomputable def F_code_Read (m : Fu) (p : List Int) : Option (Int × Int × Int) :=
  let a0 := p
  (iter m (F_code_Read.l58 m a0 (a0.length : Int)) ((0 : Int), (0 : Int))).bind fun x21 =>
  match x21 with
  | .inl _ =>
    some ((0 : Int), (0 : Int), (8 : Int))
  | .inr x23 =>
    some x23
def F_code_Read.ann : List (Nat × Ann) := [(58, .loop ⟨[(5, false, [.dat (.int .u64)]), (10, false, [.dat (.int .i64)])], [], [], [], 128⟩ [(.exit 0, ⟨[], [], [], [], 128⟩), (.ret, ⟨[(2, false, [.dat (.int .u64)]), (3, false, [.dat (.int .i64)]), (4, false, [.dat (.int .i64)])], [], [], [], 128⟩)]),
  (7474, .jnt [(.exit 0, ⟨[], [], [], [], 224⟩), (.normal, ⟨[], [], [], [], 224⟩)])]
def F_code_Read.sig : Sig := ⟨[.val false [.sl (.int .u8)]], [(false, [.dat (.int .u64)]), (false, [.dat (.int .i64)]), (false, [.dat (.int .i64)])]⟩
noncomputable def F_code_Read.S : Summ := ⟨92, F_code_Read.sig, F_code_Read⟩
noncomputable def F_code_Read.G : List Summ := []
theorem F_code_Read.eq : absF Try.prog F_code_Read.G F_code_Read.ann F_code_Read.sig Try.f92 = F_code_Read := by kernel_rfl
theorem F_code_Read.sound : Sound Try.prog F_code_Read.S := absF_sound (fn := Try.f92) (Γ := F_code_Read.G) all_nil mix (by kernel_rfl) (by kernel_rfl) (fun m p => congrFun (congrFun F_code_Read.eq m) p)
/-! ### (*cloakroom/image.reader).wide -/
noncomputable def F_image_reader_wide.s14 (_ : Fu) (a0 : List Int) (a1 : Bool) (x1 : Int × Int × Int) : Option (((List Int) × Bool)) :=
  bif a1 then
    some (a0, true)
  else some (a0, (x1.2.2 != (0 : Int)))
noncomputable def F_image_reader_wide (m : Fu) (p : (List Int) × Bool) : Option (Int × (List Int) × Bool) :=
  let a0 := p.1
  let a1 := p.2
  (F_code_Read m a0).bind fun x1 =>
  (F_image_reader_wide.s14 m a0 a1 x1).bind fun x3 =>
  bif (((decide ((0 : Int) ≤ x1.2.1)) && (decide (x1.2.1 ≤ (x3.1.length : Int)))) && (decide ((x3.1.length : Int) ≤ (x3.1.length : Int)))) && (decide ((x3.1.length : Int) ≤ (x3.1.length : Int))) then
    some (x1.1, ((x3.1.take ((x3.1.length : Int).toNat)).drop x1.2.1.toNat), x3.2)
  else none
def F_image_reader_wide.ann : List (Nat × Ann) := [(14, .jnt [(.normal, ⟨[], [(0, [.dat (.sl (.int .u8)), .dat .bool])], [], [], 224⟩)])]
def F_image_reader_wide.sig : Sig := ⟨[.box [.sl (.int .u8), .bool]], [(false, [.dat (.int .u64)])]⟩
noncomputable def F_image_reader_wide.S : Summ := ⟨88, F_image_reader_wide.sig, F_image_reader_wide⟩
noncomputable def F_image_reader_wide.G : List Summ := [F_code_Read.S]
theorem F_image_reader_wide.eq : absF Try.prog F_image_reader_wide.G F_image_reader_wide.ann F_image_reader_wide.sig Try.f88 = F_image_reader_wide := by kernel_rfl
theorem F_image_reader_wide.sound : Sound Try.prog F_image_reader_wide.S := absF_sound (fn := Try.f88) (Γ := F_image_reader_wide.G) (all_cons F_code_Read.sound all_nil) mix (by kernel_rfl) (by kernel_rfl) (fun m p => congrFun (congrFun F_image_reader_wide.eq m) p)
/-! ### (*cloakroom/image.reader).num -/
noncomputable def F_image_reader_num (m : Fu) (p : (List Int) × Bool × Int) : Option (Int × (List Int) × Bool) :=
  let a0 := p.1
  let a1 := p.2.1
  let a2 := p.2.2
  (F_image_reader_wide m (a0, a1)).bind fun x1 =>
  bif decide ((IntKind.u64.wrap a2) < x1.1) then
    some ((0 : Int), x1.2.1, true)
  else some ((IntKind.i64.wrap x1.1), x1.2)
def F_image_reader_num.ann : List (Nat × Ann) := []
def F_image_reader_num.sig : Sig := ⟨[.box [.sl (.int .u8), .bool], .val false [.int .i64]], [(false, [.dat (.int .i64)])]⟩
noncomputable def F_image_reader_num.S : Summ := ⟨86, F_image_reader_num.sig, F_image_reader_num⟩
noncomputable def F_image_reader_num.G : List Summ := [F_image_reader_wide.S]
theorem F_image_reader_num.eq : absF Try.prog F_image_reader_num.G F_image_reader_num.ann F_image_reader_num.sig Try.f86 = F_image_reader_num := by kernel_rfl
theorem F_image_reader_num.sound : Sound Try.prog F_image_reader_num.S := absF_sound (fn := Try.f86) (Γ := F_image_reader_num.G) (all_cons F_image_reader_wide.sound all_nil) mix (by kernel_rfl) (by kernel_rfl) (fun m p => congrFun (congrFun F_image_reader_num.eq m) p)
/-! ### (*cloakroom/image.reader).text -/
noncomputable def F_image_reader_text (m : Fu) (p : (List Int) × Bool) : Option ((List Int) × (List Int) × Bool) :=
  let a0 := p.1
  let a1 := p.2
  (F_image_reader_num m (a0, a1, (a0.length : Int))).bind fun x2 =>
  bif decide ((x2.2.1.length : Int) < x2.1) then some (([] : List Int), x2.2.1, true) else
  bif ((decide ((0 : Int) ≤ x2.1)) && (decide (x2.1 ≤ (x2.2.1.length : Int)))) && (decide ((x2.2.1.length : Int) ≤ (x2.2.1.length : Int))) then
    bif (((decide ((0 : Int) ≤ x2.1)) && (decide (x2.1 ≤ (x2.2.1.length : Int)))) && (decide ((x2.2.1.length : Int) ≤ (x2.2.1.length : Int)))) && (decide ((x2.2.1.length : Int) ≤ (x2.2.1.length : Int))) then
      some (((x2.2.1.take x2.1.toNat).drop 0), ((x2.2.1.take ((x2.2.1.length : Int).toNat)).drop x2.1.toNat), x2.2.2)
    else none
  else none
def F_image_reader_text.ann : List (Nat × Ann) := []
def F_image_reader_text.sig : Sig := ⟨[.box [.sl (.int .u8), .bool]], [(false, [.dat .str])]⟩
noncomputable def F_image_reader_text.S : Summ := ⟨87, F_image_reader_text.sig, F_image_reader_text⟩
noncomputable def F_image_reader_text.G : List Summ := [F_image_reader_num.S]
theorem F_image_reader_text.eq : absF Try.prog F_image_reader_text.G F_image_reader_text.ann F_image_reader_text.sig Try.f87 = F_image_reader_text := by kernel_rfl
theorem F_image_reader_text.sound : Sound Try.prog F_image_reader_text.S := absF_sound (fn := Try.f87) (Γ := F_image_reader_text.G) (all_cons F_image_reader_num.sound all_nil) mix (by kernel_rfl) (by kernel_rfl) (fun m p => congrFun (congrFun F_image_reader_text.eq m) p)
/-! ### cloakroom/image.Read -/
noncomputable def F_image_Read.l250 (m : Fu) (x4 : Int × (List Int) × Bool) (x5 : Int × (List Int) × Bool × Int × (List Int) × Int × Int × Bool) : Option (Step (Int × (List Int) × Bool × Int × (List Int) × Int × Int × Bool) (((List Int) × Bool × Int × (List Int) × Int × Int × Bool))) :=
  bif decide (x5.1 < x4.1) then
    (F_image_reader_num m (x5.2.1, x5.2.2.1, (16 : Int))).bind fun x7 =>
    let x8 := [x7.1]
    bif Nat.ble (x5.2.2.2.2.1.length + x8.length) 4294967296 then
      some (.next ((IntKind.i64.wrap (x5.1 + (1 : Int))), x7.2.1, x7.2.2, x5.2.2.2.1, (x5.2.2.2.2.1 ++ x8), x5.2.2.2.2.2))
    else none
  else some (.fin x5.2)
noncomputable def F_image_Read.l2042 (m : Fu) (x16 : Int × (List Int) × Bool) (x17 : Int × (List Int) × Bool × Int × (List Int) × (List (Int × (List Int) × (List Int) × Int × Int × Int)) × Int × Int × Bool) : Option (Step (Int × (List Int) × Bool × Int × (List Int) × (List (Int × (List Int) × (List Int) × Int × Int × Int)) × Int × Int × Bool) ((Int × Int × Int × Int × Bool) ⊕ ((List Int) × Bool × Int × (List Int) × (List (Int × (List Int) × (List Int) × Int × Int × Int)) × Int × Int × Bool))) :=
  bif decide (x17.1 < x16.1) then
    (F_image_reader_num m (x17.2.1, x17.2.2.1, (4 : Int))).bind fun x19 =>
    (F_image_reader_text m x19.2).bind fun x20 =>
    (F_image_reader_text m x20.2).bind fun x21 =>
    (F_image_reader_num m (x21.2.1, x21.2.2, (4294967295 : Int))).bind fun x22 =>
    (F_image_reader_num m (x22.2.1, x22.2.2, (1099511627776 : Int))).bind fun x24 =>
    (F_image_reader_wide m x24.2).bind fun x25 =>
    let x26 := [(x19.1, (x20.1, (x21.1, ((IntKind.u32.wrap x22.1), (x24.1, x25.1)))))]
    bif Nat.ble (x17.2.2.2.2.2.1.length + x26.length) 4294967296 then
      bif x25.2.2 then
        some (.fin (Sum.inl ((8 : Int), (0 : Int), (0 : Int), (0 : Int), false)))
      else some (.next ((IntKind.i64.wrap (x17.1 + (1 : Int))), x25.2.1, x25.2.2, x17.2.2.2.1, x17.2.2.2.2.1, (x17.2.2.2.2.2.1 ++ x26), x17.2.2.2.2.2.2))
    else none
  else some (.fin (Sum.inr x17.2))
noncomputable def F_image_Read (m : Fu) (p : List Int) : Option (Int × (List Int) × (List (Int × (List Int) × (List Int) × Int × Int × Int)) × Int × Int × Bool × Int) :=
  let a0 := p
  bif decide ((65536 : Int) < (a0.length : Int)) then some ((0 : Int), ([] : List Int), ([] : List (Int × (List Int) × (List Int) × Int × Int × Int)), (0 : Int), (0 : Int), false, (3 : Int)) else
  (F_image_reader_num m (a0, false, (1099511627776 : Int))).bind fun x3 =>
  (F_image_reader_num m (x3.2.1, x3.2.2, (4 : Int))).bind fun x4 =>
  (iter m (F_image_Read.l250 m x4) ((0 : Int), x4.2.1, x4.2.2, x3.1, ([] : List Int), (0 : Int), (0 : Int), false)).bind fun x11 =>
  (F_image_reader_num m (x11.1, x11.2.1, (2147483647 : Int))).bind fun x12 =>
  (F_image_reader_num m (x12.2.1, x12.2.2, (2147483647 : Int))).bind fun x13 =>
  (F_image_reader_num m (x13.2.1, x13.2.2, (255 : Int))).bind fun x14 =>
  (F_image_reader_num m (x14.2.1, x14.2.2, (1024 : Int))).bind fun x16 =>
  (iter m (F_image_Read.l2042 m x16) ((0 : Int), x16.2.1, x16.2.2, x11.2.2.1, x11.2.2.2.1, ([] : List (Int × (List Int) × (List Int) × Int × Int × Int)), x12.1, x13.1, (x14.1 == (1 : Int)))).bind fun x29 =>
  match x29 with
  | .inl x30 =>
    some (x30.2.1, ([] : List Int), ([] : List (Int × (List Int) × (List Int) × Int × Int × Int)), x30.2.2.1, x30.2.2.2.1, x30.2.2.2.2, x30.1)
  | .inr x31 =>
    (F_image_Write m x31.2.2).bind fun x32 =>
    bif x31.2.1 then some ((0 : Int), ([] : List Int), ([] : List (Int × (List Int) × (List Int) × Int × Int × Int)), (0 : Int), (0 : Int), false, (8 : Int)) else
    bif x32.2 != (0 : Int) then some ((0 : Int), ([] : List Int), ([] : List (Int × (List Int) × (List Int) × Int × Int × Int)), (0 : Int), (0 : Int), false, (8 : Int)) else
    (F_bytes_Equal m (x32.1, a0)).bind fun x34 =>
    bif !x34 then
      some ((0 : Int), ([] : List Int), ([] : List (Int × (List Int) × (List Int) × Int × Int × Int)), (0 : Int), (0 : Int), false, (8 : Int))
    else some (x31.2.2.1, x31.2.2.2.1, x31.2.2.2.2.1, x31.2.2.2.2.2.1, x31.2.2.2.2.2.2.1, x31.2.2.2.2.2.2.2, (0 : Int))
def F_image_Read.ann : List (Nat × Ann) := [(250, .loop ⟨[(21, false, [.dat (.int .i64)])], [(128, [.dat (.sl (.int .u8)), .dat .bool]), (208, [.dat (.int .i64), .own (.int .i64) 288 .wr, .cst .nils, .dat (.int .i64), .dat (.int .i64), .dat .bool])], [], [], 289⟩ [(.exit 0, ⟨[], [(128, [.dat (.sl (.int .u8)), .dat .bool]), (208, [.dat (.int .i64), .own (.int .i64) 288 .wr, .cst .nils, .dat (.int .i64), .dat (.int .i64), .dat .bool])], [], [], 289⟩)]),
  (2042, .loop ⟨[(43, false, [.dat (.int .i64)])], [(128, [.dat (.sl (.int .u8)), .dat .bool]), (208, [.dat (.int .i64), .own (.int .i64) 545 .wr, .own (.pr (.int .i64) (.pr .str (.pr .str (.pr (.int .u32) (.pr (.int .i64) (.int .u64)))))) 546 .wr, .dat (.int .i64), .dat (.int .i64), .dat .bool])], [], [288], 547⟩ [(.ret, ⟨[(3, false, [.dat (.int .i64)])], [(16, [.dat (.int .i64), .cst .nils, .cst .nils, .dat (.int .i64), .dat (.int .i64), .dat .bool])], [], [128, 208, 288], 545⟩), (.exit 2, ⟨[], [(128, [.dat (.sl (.int .u8)), .dat .bool]), (208, [.dat (.int .i64), .own (.int .i64) 545 .wr, .own (.pr (.int .i64) (.pr .str (.pr .str (.pr (.int .u32) (.pr (.int .i64) (.int .u64)))))) 546 .wr, .dat (.int .i64), .dat (.int .i64), .dat .bool])], [], [288], 547⟩)])]
def F_image_Read.sig : Sig := ⟨[.val false [.sl (.int .u8)]], [(true, [.dat (.int .i64), .own (.int .i64) 0 .fr, .own (.pr (.int .i64) (.pr .str (.pr .str (.pr (.int .u32) (.pr (.int .i64) (.int .u64)))))) 0 .fr, .dat (.int .i64), .dat (.int .i64), .dat .bool]), (false, [.dat (.int .i64)])]⟩
noncomputable def F_image_Read.S : Summ := ⟨71, F_image_Read.sig, F_image_Read⟩
noncomputable def F_image_Read.G : List Summ := [F_image_reader_num.S, F_image_reader_text.S, F_image_reader_wide.S, F_image_Write.S, F_bytes_Equal.S]
theorem F_image_Read.eq : absF Try.prog F_image_Read.G F_image_Read.ann F_image_Read.sig Try.f71 = F_image_Read := by kernel_rfl
theorem F_image_Read.sound : Sound Try.prog F_image_Read.S := absF_sound (fn := Try.f71) (Γ := F_image_Read.G) (all_cons F_image_reader_num.sound (all_cons F_image_reader_text.sound (all_cons F_image_reader_wide.sound (all_cons F_image_Write.sound (all_cons F_bytes_Equal.sound all_nil))))) mix (by kernel_rfl) (by kernel_rfl) (fun m p => congrFun (congrFun F_image_Read.eq m) p)
/-! ### (*cloakroom/code.reader).wide -/
noncomputable def F_code_reader_wide.s14 (_ : Fu) (a0 : List Int) (a1 : Bool) (x1 : Int × Int × Int) : Option (((List Int) × Bool)) :=
  bif a1 then
    some (a0, true)
  else some (a0, (x1.2.2 != (0 : Int)))
noncomputable def F_code_reader_wide (m : Fu) (p : (List Int) × Bool) : Option (Int × (List Int) × Bool) :=
  let a0 := p.1
  let a1 := p.2
  (F_code_Read m a0).bind fun x1 =>
  (F_code_reader_wide.s14 m a0 a1 x1).bind fun x3 =>
  bif (((decide ((0 : Int) ≤ x1.2.1)) && (decide (x1.2.1 ≤ (x3.1.length : Int)))) && (decide ((x3.1.length : Int) ≤ (x3.1.length : Int)))) && (decide ((x3.1.length : Int) ≤ (x3.1.length : Int))) then
    some (x1.1, ((x3.1.take ((x3.1.length : Int).toNat)).drop x1.2.1.toNat), x3.2)
  else none
def F_code_reader_wide.ann : List (Nat × Ann) := [(14, .jnt [(.normal, ⟨[], [(0, [.dat (.sl (.int .u8)), .dat .bool])], [], [], 224⟩)])]
def F_code_reader_wide.sig : Sig := ⟨[.box [.sl (.int .u8), .bool]], [(false, [.dat (.int .u64)])]⟩
noncomputable def F_code_reader_wide.S : Summ := ⟨93, F_code_reader_wide.sig, F_code_reader_wide⟩
noncomputable def F_code_reader_wide.G : List Summ := [F_code_Read.S]
theorem F_code_reader_wide.eq : absF Try.prog F_code_reader_wide.G F_code_reader_wide.ann F_code_reader_wide.sig Try.f93 = F_code_reader_wide := by kernel_rfl
theorem F_code_reader_wide.sound : Sound Try.prog F_code_reader_wide.S := absF_sound (fn := Try.f93) (Γ := F_code_reader_wide.G) (all_cons F_code_Read.sound all_nil) mix (by kernel_rfl) (by kernel_rfl) (fun m p => congrFun (congrFun F_code_reader_wide.eq m) p)
/-! ### (*cloakroom/code.reader).num -/
noncomputable def F_code_reader_num (m : Fu) (p : (List Int) × Bool × Int) : Option (Int × (List Int) × Bool) :=
  let a0 := p.1
  let a1 := p.2.1
  let a2 := p.2.2
  (F_code_reader_wide m (a0, a1)).bind fun x1 =>
  bif decide ((IntKind.u64.wrap a2) < x1.1) then
    some ((0 : Int), x1.2.1, true)
  else some ((IntKind.i64.wrap x1.1), x1.2)
def F_code_reader_num.ann : List (Nat × Ann) := []
def F_code_reader_num.sig : Sig := ⟨[.box [.sl (.int .u8), .bool], .val false [.int .i64]], [(false, [.dat (.int .i64)])]⟩
noncomputable def F_code_reader_num.S : Summ := ⟨89, F_code_reader_num.sig, F_code_reader_num⟩
noncomputable def F_code_reader_num.G : List Summ := [F_code_reader_wide.S]
theorem F_code_reader_num.eq : absF Try.prog F_code_reader_num.G F_code_reader_num.ann F_code_reader_num.sig Try.f89 = F_code_reader_num := by kernel_rfl
theorem F_code_reader_num.sound : Sound Try.prog F_code_reader_num.S := absF_sound (fn := Try.f89) (Γ := F_code_reader_num.G) (all_cons F_code_reader_wide.sound all_nil) mix (by kernel_rfl) (by kernel_rfl) (fun m p => congrFun (congrFun F_code_reader_num.eq m) p)
/-! ### (*cloakroom/code.reader).byte -/
noncomputable def F_code_reader_byte (_ : Fu) (p : (List Int) × Bool) : Option (Int × (List Int) × Bool) :=
  let a0 := p.1
  let a1 := p.2
  bif (a0.length : Int) == (0 : Int) then some ((0 : Int), a0, true) else
  bif decide ((0 : Int) < (a0.length : Int)) then
    bif ((decide ((1 : Int) ≤ (a0.length : Int))) && (decide ((a0.length : Int) ≤ (a0.length : Int)))) && (decide ((a0.length : Int) ≤ (a0.length : Int))) then
      some ((a0.getD 0 0), ((a0.take ((a0.length : Int).toNat)).drop 1), a1)
    else none
  else none
def F_code_reader_byte.ann : List (Nat × Ann) := []
def F_code_reader_byte.sig : Sig := ⟨[.box [.sl (.int .u8), .bool]], [(false, [.dat (.int .u8)])]⟩
noncomputable def F_code_reader_byte.S : Summ := ⟨94, F_code_reader_byte.sig, F_code_reader_byte⟩
noncomputable def F_code_reader_byte.G : List Summ := []
theorem F_code_reader_byte.eq : absF Try.prog F_code_reader_byte.G F_code_reader_byte.ann F_code_reader_byte.sig Try.f94 = F_code_reader_byte := by kernel_rfl
theorem F_code_reader_byte.sound : Sound Try.prog F_code_reader_byte.S := absF_sound (fn := Try.f94) (Γ := F_code_reader_byte.G) all_nil mix (by kernel_rfl) (by kernel_rfl) (fun m p => congrFun (congrFun F_code_reader_byte.eq m) p)
/-! ### cloakroom/code.cut -/
noncomputable def F_code_cut (m : Fu) (p : List Int) : Option ((List Int) × (List Int) × Int) :=
  let a0 := p
  (F_code_Read m a0).bind fun x1 =>
  bif x1.2.2 != (0 : Int) then some (([] : List Int), ([] : List Int), (8 : Int)) else
  bif decide ((IntKind.u64.wrap (IntKind.i64.wrap ((a0.length : Int) - x1.2.1))) < x1.1) then some (([] : List Int), ([] : List Int), (8 : Int)) else
  bif (((decide ((0 : Int) ≤ x1.2.1)) && (decide (x1.2.1 ≤ (a0.length : Int)))) && (decide ((a0.length : Int) ≤ (a0.length : Int)))) && (decide ((a0.length : Int) ≤ (a0.length : Int))) then
    let x7 := (a0.take ((a0.length : Int).toNat)).drop x1.2.1.toNat
    bif ((decide ((0 : Int) ≤ x1.1)) && (decide (x1.1 ≤ (x7.length : Int)))) && (decide ((x7.length : Int) ≤ (x7.length : Int))) then
      let x10 := IntKind.i64.wrap (x1.2.1 + (IntKind.i64.wrap x1.1))
      bif (((decide ((0 : Int) ≤ x10)) && (decide (x10 ≤ (a0.length : Int)))) && (decide ((a0.length : Int) ≤ (a0.length : Int)))) && (decide ((a0.length : Int) ≤ (a0.length : Int))) then
        some (((x7.take x1.1.toNat).drop 0), ((a0.take ((a0.length : Int).toNat)).drop x10.toNat), (0 : Int))
      else none
    else none
  else none
def F_code_cut.ann : List (Nat × Ann) := []
def F_code_cut.sig : Sig := ⟨[.val false [.sl (.int .u8)]], [(false, [.dat (.sl (.int .u8))]), (false, [.dat (.sl (.int .u8))]), (false, [.dat (.int .i64)])]⟩
noncomputable def F_code_cut.S : Summ := ⟨96, F_code_cut.sig, F_code_cut⟩
noncomputable def F_code_cut.G : List Summ := [F_code_Read.S]
theorem F_code_cut.eq : absF Try.prog F_code_cut.G F_code_cut.ann F_code_cut.sig Try.f96 = F_code_cut := by kernel_rfl
theorem F_code_cut.sound : Sound Try.prog F_code_cut.S := absF_sound (fn := Try.f96) (Γ := F_code_cut.G) (all_cons F_code_Read.sound all_nil) mix (by kernel_rfl) (by kernel_rfl) (fun m p => congrFun (congrFun F_code_cut.eq m) p)
/-! ### (*cloakroom/code.reader).text -/
noncomputable def F_code_reader_text (m : Fu) (p : (List Int) × Bool) : Option ((List Int) × (List Int) × Bool) :=
  let a0 := p.1
  let a1 := p.2
  (F_code_cut m a0).bind fun x1 =>
  bif x1.2.2 != (0 : Int) then
    some (([] : List Int), a0, true)
  else some (x1.1, x1.2.1, a1)
def F_code_reader_text.ann : List (Nat × Ann) := []
def F_code_reader_text.sig : Sig := ⟨[.box [.sl (.int .u8), .bool]], [(false, [.dat .str])]⟩
noncomputable def F_code_reader_text.S : Summ := ⟨95, F_code_reader_text.sig, F_code_reader_text⟩
noncomputable def F_code_reader_text.G : List Summ := [F_code_cut.S]
theorem F_code_reader_text.eq : absF Try.prog F_code_reader_text.G F_code_reader_text.ann F_code_reader_text.sig Try.f95 = F_code_reader_text := by kernel_rfl
theorem F_code_reader_text.sound : Sound Try.prog F_code_reader_text.S := absF_sound (fn := Try.f95) (Γ := F_code_reader_text.G) (all_cons F_code_cut.sound all_nil) mix (by kernel_rfl) (by kernel_rfl) (fun m p => congrFun (congrFun F_code_reader_text.eq m) p)
/-! ### (*cloakroom/code.reader).change -/
noncomputable def F_code_reader_change.s116 (_ : Fu) (x1 : Int × (List Int) × Bool) : Option (Bool) :=
  let x2 := x1.1 == (1 : Int)
  bif x2 then some x2 else
  let x3 := x1.1 == (2 : Int)
  bif x3 then some x3 else
  let x4 := x1.1 == (3 : Int)
  bif x4 then
    some x4
  else some (x1.1 == (5 : Int))
noncomputable def F_code_reader_change.s14 (m : Fu) (x1 : Int × (List Int) × Bool) : Option (((List Int) × Bool × Int × Int × (List Int) × (List Int) × Int × Int × Int × (List Int) × Int × Int × Bool)) :=
  (F_code_reader_change.s116 m x1).bind fun x6 =>
  bif x6 then
    (F_code_reader_num m (x1.2.1, x1.2.2, (4 : Int))).bind fun x7 =>
    some (x7.2.1, x7.2.2, x1.1, x7.1, ([] : List Int), ([] : List Int), (0 : Int), (0 : Int), (0 : Int), ([] : List Int), (0 : Int), (0 : Int), false)
  else some (x1.2.1, x1.2.2, x1.1, (0 : Int), ([] : List Int), ([] : List Int), (0 : Int), (0 : Int), (0 : Int), ([] : List Int), (0 : Int), (0 : Int), false)
noncomputable def F_code_reader_change.s3934 (_ : Fu) (x8 : ((List Int) × Bool × Int × Int × (List Int) × (List Int) × Int × Int × Int × (List Int) × Int × Int × Bool)) : Option (Bool) :=
  let x19 := x8.2.2.1 == (4 : Int)
  bif x19 then some x19 else
  let x20 := x8.2.2.1 == (5 : Int)
  bif x20 then some x20 else
  let x21 := x8.2.2.1 == (6 : Int)
  bif x21 then
    some x21
  else some (x8.2.2.1 == (7 : Int))
noncomputable def F_code_reader_change.s30 (m : Fu) (x8 : ((List Int) × Bool × Int × Int × (List Int) × (List Int) × Int × Int × Int × (List Int) × Int × Int × Bool)) : Option (((List Int) × Bool × Int × Int × (List Int) × (List Int) × Int × Int × Int × (List Int) × Int × Int × Bool)) :=
  bif x8.2.2.1 == (1 : Int) then
    (F_code_reader_text m (x8.1, x8.2.1)).bind fun x10 =>
    (F_code_reader_text m x10.2).bind fun x11 =>
    (F_code_reader_num m (x11.2.1, x11.2.2, (4294967295 : Int))).bind fun x12 =>
    (F_code_reader_num m (x12.2.1, x12.2.2, (1099511627776 : Int))).bind fun x14 =>
    (F_code_reader_wide m x14.2).bind fun x15 =>
    some (x15.2.1, x15.2.2, x8.2.2.1, x8.2.2.2.1, x10.1, x11.1, (IntKind.u32.wrap x12.1), x14.1, x15.1, x8.2.2.2.2.2.2.2.2.2)
  else
    bif x8.2.2.1 == (2 : Int) then
      (F_code_reader_text m (x8.1, x8.2.1)).bind fun x17 =>
      (F_code_reader_byte m x17.2).bind fun x18 =>
      some (x18.2.1, x18.2.2, x8.2.2.1, x8.2.2.2.1, x8.2.2.2.2.1, x8.2.2.2.2.2.1, x8.2.2.2.2.2.2.1, x8.2.2.2.2.2.2.2.1, x8.2.2.2.2.2.2.2.2.1, x17.1, x18.1, x8.2.2.2.2.2.2.2.2.2.2.2)
    else
      (F_code_reader_change.s3934 m x8).bind fun x23 =>
      bif x23 then
        (F_code_reader_num m (x8.1, x8.2.1, (1099511627776 : Int))).bind fun x24 =>
        some (x24.2.1, x24.2.2, x8.2.2.1, x8.2.2.2.1, x8.2.2.2.2.1, x8.2.2.2.2.2.1, x8.2.2.2.2.2.2.1, x8.2.2.2.2.2.2.2.1, x8.2.2.2.2.2.2.2.2.1, x8.2.2.2.2.2.2.2.2.2.1, x8.2.2.2.2.2.2.2.2.2.2.1, x24.1, x8.2.2.2.2.2.2.2.2.2.2.2.2)
      else some x8
noncomputable def F_code_reader_change.s62 (m : Fu) (x25 : ((List Int) × Bool × Int × Int × (List Int) × (List Int) × Int × Int × Int × (List Int) × Int × Int × Bool)) : Option (((List Int) × Bool × Int × Int × (List Int) × (List Int) × Int × Int × Int × (List Int) × Int × Int × Bool)) :=
  bif x25.2.2.1 == (6 : Int) then
    (F_code_reader_byte m (x25.1, x25.2.1)).bind fun x27 =>
    some (x27.2.1, x27.2.2, x25.2.2.1, x25.2.2.2.1, x25.2.2.2.2.1, x25.2.2.2.2.2.1, x25.2.2.2.2.2.2.1, x25.2.2.2.2.2.2.2.1, x25.2.2.2.2.2.2.2.2.1, x25.2.2.2.2.2.2.2.2.2.1, x25.2.2.2.2.2.2.2.2.2.2.1, x25.2.2.2.2.2.2.2.2.2.2.2.1, (x27.1 == (1 : Int)))
  else some x25
noncomputable def F_code_reader_change (m : Fu) (p : (List Int) × Bool) : Option (Int × Int × (List Int) × (List Int) × Int × Int × Int × (List Int) × Int × Int × Bool × (List Int) × Bool) :=
  let a0 := p.1
  let a1 := p.2
  (F_code_reader_byte m (a0, a1)).bind fun x1 =>
  (F_code_reader_change.s14 m x1).bind fun x8 =>
  (F_code_reader_change.s30 m x8).bind fun x25 =>
  (F_code_reader_change.s62 m x25).bind fun x29 =>
  some (x29.2.2.1, x29.2.2.2.1, x29.2.2.2.2.1, x29.2.2.2.2.2.1, x29.2.2.2.2.2.2.1, x29.2.2.2.2.2.2.2.1, x29.2.2.2.2.2.2.2.2.1, x29.2.2.2.2.2.2.2.2.2.1, x29.2.2.2.2.2.2.2.2.2.2.1, x29.2.2.2.2.2.2.2.2.2.2.2.1, x29.2.2.2.2.2.2.2.2.2.2.2.2, x29.1, x29.2.1)
def F_code_reader_change.ann : List (Nat × Ann) := [(14, .jnt [(.normal, ⟨[], [(0, [.dat (.sl (.int .u8)), .dat .bool]), (80, [.dat (.int .u8), .dat (.int .i64), .dat .str, .dat .str, .dat (.int .u32), .dat (.int .i64), .dat (.int .u64), .dat .str, .dat (.int .u8), .dat (.int .i64), .dat .bool])], [], [], 112⟩)]),
  (30, .jnt [(.normal, ⟨[], [(0, [.dat (.sl (.int .u8)), .dat .bool]), (80, [.dat (.int .u8), .dat (.int .i64), .dat .str, .dat .str, .dat (.int .u32), .dat (.int .i64), .dat (.int .u64), .dat .str, .dat (.int .u8), .dat (.int .i64), .dat .bool])], [], [], 112⟩)]),
  (62, .jnt [(.normal, ⟨[], [(0, [.dat (.sl (.int .u8)), .dat .bool]), (80, [.dat (.int .u8), .dat (.int .i64), .dat .str, .dat .str, .dat (.int .u32), .dat (.int .i64), .dat (.int .u64), .dat .str, .dat (.int .u8), .dat (.int .i64), .dat .bool])], [], [], 112⟩)]),
  (116, .jnt [(.normal, ⟨[(9, false, [.dat .bool])], [], [], [], 144⟩)]),
  (3934, .jnt [(.normal, ⟨[(42, false, [.dat .bool])], [], [], [], 208⟩)])]
def F_code_reader_change.sig : Sig := ⟨[.box [.sl (.int .u8), .bool]], [(true, [.dat (.int .u8), .dat (.int .i64), .dat .str, .dat .str, .dat (.int .u32), .dat (.int .i64), .dat (.int .u64), .dat .str, .dat (.int .u8), .dat (.int .i64), .dat .bool])]⟩
noncomputable def F_code_reader_change.S : Summ := ⟨90, F_code_reader_change.sig, F_code_reader_change⟩
noncomputable def F_code_reader_change.G : List Summ := [F_code_reader_byte.S, F_code_reader_num.S, F_code_reader_text.S, F_code_reader_wide.S]
theorem F_code_reader_change.eq : absF Try.prog F_code_reader_change.G F_code_reader_change.ann F_code_reader_change.sig Try.f90 = F_code_reader_change := by kernel_rfl
theorem F_code_reader_change.sound : Sound Try.prog F_code_reader_change.S := absF_sound (fn := Try.f90) (Γ := F_code_reader_change.G) (all_cons F_code_reader_byte.sound (all_cons F_code_reader_num.sound (all_cons F_code_reader_text.sound (all_cons F_code_reader_wide.sound all_nil)))) mix (by kernel_rfl) (by kernel_rfl) (fun m p => congrFun (congrFun F_code_reader_change.eq m) p)
/-! ### cloakroom/code.keyed -/
noncomputable def F_code_keyed (_ : Fu) (p : List Int) : Option (Bool) :=
  let a0 := p
  bif !(a0 == ([] : List Int)) then
    some (decide ((a0.length : Int) ≤ (32 : Int)))
  else some false
def F_code_keyed.ann : List (Nat × Ann) := []
def F_code_keyed.sig : Sig := ⟨[.val false [.str]], [(false, [.dat .bool])]⟩
noncomputable def F_code_keyed.S : Summ := ⟨77, F_code_keyed.sig, F_code_keyed⟩
noncomputable def F_code_keyed.G : List Summ := []
theorem F_code_keyed.eq : absF Try.prog F_code_keyed.G F_code_keyed.ann F_code_keyed.sig Try.f77 = F_code_keyed := by kernel_rfl
theorem F_code_keyed.sound : Sound Try.prog F_code_keyed.S := absF_sound (fn := Try.f77) (Γ := F_code_keyed.G) all_nil mix (by kernel_rfl) (by kernel_rfl) (fun m p => congrFun (congrFun F_code_keyed.eq m) p)
/-! ### cloakroom/code.in -/
noncomputable def F_code_in (_ : Fu) (p : Int × Int) : Option (Bool) :=
  let a0 := p.1
  let a1 := p.2
  bif decide ((0 : Int) ≤ a0) then
    some (decide (a0 ≤ a1))
  else some false
def F_code_in.ann : List (Nat × Ann) := []
def F_code_in.sig : Sig := ⟨[.val false [.int .i64], .val false [.int .i64]], [(false, [.dat .bool])]⟩
noncomputable def F_code_in.S : Summ := ⟨78, F_code_in.sig, F_code_in⟩
noncomputable def F_code_in.G : List Summ := []
theorem F_code_in.eq : absF Try.prog F_code_in.G F_code_in.ann F_code_in.sig Try.f78 = F_code_in := by kernel_rfl
theorem F_code_in.sound : Sound Try.prog F_code_in.S := absF_sound (fn := Try.f78) (Γ := F_code_in.G) all_nil mix (by kernel_rfl) (by kernel_rfl) (fun m p => congrFun (congrFun F_code_in.eq m) p)
/-! ### cloakroom/code.tenanted -/
noncomputable def F_code_tenanted (_ : Fu) (p : Int) : Option (Bool) :=
  let a0 := p
  bif decide ((0 : Int) ≤ a0) then
    some (decide (a0 < (4 : Int)))
  else some false
def F_code_tenanted.ann : List (Nat × Ann) := []
def F_code_tenanted.sig : Sig := ⟨[.val false [.int .i64]], [(false, [.dat .bool])]⟩
noncomputable def F_code_tenanted.S : Summ := ⟨79, F_code_tenanted.sig, F_code_tenanted⟩
noncomputable def F_code_tenanted.G : List Summ := []
theorem F_code_tenanted.eq : absF Try.prog F_code_tenanted.G F_code_tenanted.ann F_code_tenanted.sig Try.f79 = F_code_tenanted := by kernel_rfl
theorem F_code_tenanted.sound : Sound Try.prog F_code_tenanted.S := absF_sound (fn := Try.f79) (Γ := F_code_tenanted.G) all_nil mix (by kernel_rfl) (by kernel_rfl) (fun m p => congrFun (congrFun F_code_tenanted.eq m) p)
/-! ### cloakroom/code.may -/
noncomputable def F_code_may.s30 (m : Fu) (a0 : Int) (a1 : Int) (a2 : List Int) (a3 : List Int) (a4 : Int) (a5 : Int) (a6 : Int) (a7 : List Int) (a8 : Int) (a9 : Int) (a10 : Bool) : Option ((Bool × Int × Int × (List Int) × (List Int) × Int × Int × Int × (List Int) × Int × Int × Bool)) :=
  bif a0 == (1 : Int) then
    (F_code_keyed m a2).bind fun x2 =>
    bif x2 then
      bif decide ((a3.length : Int) ≤ (512 : Int)) then
        (F_code_in m (a5, (1099511627776 : Int))).bind fun x5 =>
        some (x5, a0, a1, a2, a3, a4, a5, a6, ([] : List Int), (0 : Int), (0 : Int), false)
      else some (false, a0, a1, a2, a3, a4, a5, a6, ([] : List Int), (0 : Int), (0 : Int), false)
    else some (false, a0, a1, a2, a3, a4, a5, a6, ([] : List Int), (0 : Int), (0 : Int), false)
  else
    bif a0 == (2 : Int) then
      (F_code_keyed m a7).bind fun x7 =>
      bif x7 then
        bif a8 == (1 : Int) then
          some (true, a0, a1, ([] : List Int), ([] : List Int), (0 : Int), (0 : Int), (0 : Int), a7, a8, (0 : Int), false)
        else some ((a8 == (2 : Int)), a0, a1, ([] : List Int), ([] : List Int), (0 : Int), (0 : Int), (0 : Int), a7, a8, (0 : Int), false)
      else some (false, a0, a1, ([] : List Int), ([] : List Int), (0 : Int), (0 : Int), (0 : Int), a7, a8, (0 : Int), false)
    else
      bif a0 == (3 : Int) then some (true, a0, a1, ([] : List Int), ([] : List Int), (0 : Int), (0 : Int), (0 : Int), ([] : List Int), (0 : Int), (0 : Int), false) else
      bif a0 == (4 : Int) then
        (F_code_in m (a9, (1099511627776 : Int))).bind fun x12 =>
        some (x12, a0, (0 : Int), ([] : List Int), ([] : List Int), (0 : Int), (0 : Int), (0 : Int), ([] : List Int), (0 : Int), a9, false)
      else
        bif a0 == (5 : Int) then
          (F_code_in m (a9, (16 : Int))).bind fun x14 =>
          some (x14, a0, a1, ([] : List Int), ([] : List Int), (0 : Int), (0 : Int), (0 : Int), ([] : List Int), (0 : Int), a9, false)
        else
          bif a0 == (6 : Int) then
            (F_code_in m (a9, (2147483647 : Int))).bind fun x16 =>
            some (x16, a0, (0 : Int), ([] : List Int), ([] : List Int), (0 : Int), (0 : Int), (0 : Int), ([] : List Int), (0 : Int), a9, a10)
          else
            bif a0 == (7 : Int) then
              (F_code_in m (a9, (2147483647 : Int))).bind fun x18 =>
              some (x18, a0, (0 : Int), ([] : List Int), ([] : List Int), (0 : Int), (0 : Int), (0 : Int), ([] : List Int), (0 : Int), a9, false)
            else some (false, a0, (0 : Int), ([] : List Int), ([] : List Int), (0 : Int), (0 : Int), (0 : Int), ([] : List Int), (0 : Int), (0 : Int), false)
noncomputable def F_code_may (m : Fu) (p : Int × Int × (List Int) × (List Int) × Int × Int × Int × (List Int) × Int × Int × Bool) : Option (Bool) :=
  let a0 := p.1
  let a1 := p.2.1
  let a2 := p.2.2.1
  let a3 := p.2.2.2.1
  let a4 := p.2.2.2.2.1
  let a5 := p.2.2.2.2.2.1
  let a6 := p.2.2.2.2.2.2.1
  let a7 := p.2.2.2.2.2.2.2.1
  let a8 := p.2.2.2.2.2.2.2.2.1
  let a9 := p.2.2.2.2.2.2.2.2.2.1
  let a10 := p.2.2.2.2.2.2.2.2.2.2
  (F_code_may.s30 m a0 a1 a2 a3 a4 a5 a6 a7 a8 a9 a10).bind fun x19 =>
  bif x19.1 then
    (F_code_tenanted m a1).bind fun x20 =>
    bif x20 then
      some ((x19.2.1 == a0) && ((x19.2.2.1 == a1) && (((x19.2.2.2.1 == a2) && ((x19.2.2.2.2.1 == a3) && ((x19.2.2.2.2.2.1 == a4) && ((x19.2.2.2.2.2.2.1 == a5) && ((x19.2.2.2.2.2.2.2.1 == a6) && true))))) && ((x19.2.2.2.2.2.2.2.2.1 == a7) && ((x19.2.2.2.2.2.2.2.2.2.1 == a8) && ((x19.2.2.2.2.2.2.2.2.2.2.1 == a9) && ((x19.2.2.2.2.2.2.2.2.2.2.2 == a10) && true)))))))
    else some false
  else some false
def F_code_may.ann : List (Nat × Ann) := [(30, .jnt [(.normal, ⟨[(4, false, [.dat .bool])], [(96, [.dat (.int .u8), .dat (.int .i64), .dat .str, .dat .str, .dat (.int .u32), .dat (.int .i64), .dat (.int .u64), .dat .str, .dat (.int .u8), .dat (.int .i64), .dat .bool])], [], [], 144⟩)])]
def F_code_may.sig : Sig := ⟨[.val true [.int .u8, .int .i64, .str, .str, .int .u32, .int .i64, .int .u64, .str, .int .u8, .int .i64, .bool]], [(false, [.dat .bool])]⟩
noncomputable def F_code_may.S : Summ := ⟨58, F_code_may.sig, F_code_may⟩
noncomputable def F_code_may.G : List Summ := [F_code_keyed.S, F_code_in.S, F_code_tenanted.S]
theorem F_code_may.eq : absF Try.prog F_code_may.G F_code_may.ann F_code_may.sig Try.f58 = F_code_may := by kernel_rfl
theorem F_code_may.sound : Sound Try.prog F_code_may.S := absF_sound (fn := Try.f58) (Γ := F_code_may.G) (all_cons F_code_keyed.sound (all_cons F_code_in.sound (all_cons F_code_tenanted.sound all_nil))) mix (by kernel_rfl) (by kernel_rfl) (fun m p => congrFun (congrFun F_code_may.eq m) p)
/-! ### cloakroom/code.nums -/
noncomputable def F_code_nums.l26 (m : Fu) (a1 : List Int) (x1 : Int) (x2 : (List Int) × Int) : Option (Step ((List Int) × Int) ((List Int))) :=
  bif decide (x2.2 < x1) then
    bif (decide ((0 : Int) ≤ x2.2)) && (decide (x2.2 < (a1.length : Int))) then
      (F_code_Small m (IntKind.u64.wrap (a1.getD x2.2.toNat 0))).bind fun x6 =>
      bif Nat.ble (x2.1.length + x6.length) 140737488351232 then
        some (.next ((x2.1 ++ x6), (IntKind.i64.wrap (x2.2 + (1 : Int)))))
      else none
    else none
  else some (.fin x2.1)
noncomputable def F_code_nums (m : Fu) (p : (List Int) × (List Int)) : Option (List Int) :=
  let a0 := p.1
  let a1 := p.2
  (iter m (F_code_nums.l26 m a1 (a1.length : Int)) (a0, (0 : Int))).bind fun x9 =>
  some x9
def F_code_nums.ann : List (Nat × Ann) := [(26, .loop ⟨[(0, false, [.own (.int .u8) 96 .fr]), (9, false, [.dat (.int .i64)])], [], [], [0], 97⟩ [(.exit 0, ⟨[(0, false, [.own (.int .u8) 96 .fr])], [], [], [0], 97⟩)])]
def F_code_nums.sig : Sig := ⟨[.own (.int .u8), .val false [.sl (.int .i64)]], [(false, [.own (.int .u8) 0 .fr])]⟩
noncomputable def F_code_nums.S : Summ := ⟨59, F_code_nums.sig, F_code_nums⟩
noncomputable def F_code_nums.G : List Summ := [F_code_Small.S]
theorem F_code_nums.eq : absF Try.prog F_code_nums.G F_code_nums.ann F_code_nums.sig Try.f59 = F_code_nums := by kernel_rfl
theorem F_code_nums.sound : Sound Try.prog F_code_nums.S := absF_sound (fn := Try.f59) (Γ := F_code_nums.G) (all_cons F_code_Small.sound all_nil) mix (by kernel_rfl) (by kernel_rfl) (fun m p => congrFun (congrFun F_code_nums.eq m) p)
/-! ### cloakroom/code.texts -/
noncomputable def F_code_texts.l26 (m : Fu) (a1 : List (List Int)) (x1 : Int) (x2 : (List Int) × Int) : Option (Step ((List Int) × Int) ((List Int))) :=
  bif decide (x2.2 < x1) then
    bif (decide ((0 : Int) ≤ x2.2)) && (decide (x2.2 < (a1.length : Int))) then
      (F_code_Text m (a1.getD x2.2.toNat [])).bind fun x5 =>
      bif Nat.ble (x2.1.length + x5.length) 140737488351232 then
        some (.next ((x2.1 ++ x5), (IntKind.i64.wrap (x2.2 + (1 : Int)))))
      else none
    else none
  else some (.fin x2.1)
noncomputable def F_code_texts (m : Fu) (p : (List Int) × (List (List Int))) : Option (List Int) :=
  let a0 := p.1
  let a1 := p.2
  (iter m (F_code_texts.l26 m a1 (a1.length : Int)) (a0, (0 : Int))).bind fun x8 =>
  some x8
def F_code_texts.ann : List (Nat × Ann) := [(26, .loop ⟨[(0, false, [.own (.int .u8) 96 .fr]), (9, false, [.dat (.int .i64)])], [], [], [0], 97⟩ [(.exit 0, ⟨[(0, false, [.own (.int .u8) 96 .fr])], [], [], [0], 97⟩)])]
def F_code_texts.sig : Sig := ⟨[.own (.int .u8), .val false [.sl .str]], [(false, [.own (.int .u8) 0 .fr])]⟩
noncomputable def F_code_texts.S : Summ := ⟨81, F_code_texts.sig, F_code_texts⟩
noncomputable def F_code_texts.G : List Summ := [F_code_Text.S]
theorem F_code_texts.eq : absF Try.prog F_code_texts.G F_code_texts.ann F_code_texts.sig Try.f81 = F_code_texts := by kernel_rfl
theorem F_code_texts.sound : Sound Try.prog F_code_texts.S := absF_sound (fn := Try.f81) (Γ := F_code_texts.G) (all_cons F_code_Text.sound all_nil) mix (by kernel_rfl) (by kernel_rfl) (fun m p => congrFun (congrFun F_code_texts.eq m) p)
/-! ### cloakroom/code.put -/
noncomputable def F_code_put.s116 (_ : Fu) (a1 : Int) : Option (Bool) :=
  let x3 := a1 == (1 : Int)
  bif x3 then some x3 else
  let x4 := a1 == (2 : Int)
  bif x4 then some x4 else
  let x5 := a1 == (3 : Int)
  bif x5 then
    some x5
  else some (a1 == (5 : Int))
noncomputable def F_code_put.s14 (m : Fu) (a1 : Int) (a2 : Int) (x2 : List Int) : Option ((List Int)) :=
  (F_code_put.s116 m a1).bind fun x7 =>
  bif x7 then
    (F_code_nums m (x2, ([a2]))).bind fun x9 =>
    some x9
  else some x2
noncomputable def F_code_put.s3934 (_ : Fu) (a1 : Int) : Option (Bool) :=
  let x24 := a1 == (4 : Int)
  bif x24 then some x24 else
  let x25 := a1 == (5 : Int)
  bif x25 then some x25 else
  let x26 := a1 == (6 : Int)
  bif x26 then
    some x26
  else some (a1 == (7 : Int))
noncomputable def F_code_put.s30 (m : Fu) (a1 : Int) (a3 : List Int) (a4 : List Int) (a5 : Int) (a6 : Int) (a7 : Int) (a8 : List Int) (a9 : Int) (a10 : Int) (x10 : (List Int)) : Option ((List Int) ⊕ (List Int)) :=
  bif a1 == (1 : Int) then
    (F_code_texts m (x10, ([a3, a4]))).bind fun x13 =>
    (F_code_nums m (x13, ([(IntKind.i64.wrap a5), a6]))).bind fun x16 =>
    (F_code_Small m a7).bind fun x17 =>
    bif Nat.ble (x16.length + x17.length) 140737488351232 then
      some (Sum.inl (x16 ++ x17))
    else none
  else
    bif a1 == (2 : Int) then
      (F_code_texts m (x10, ([a8]))).bind fun x21 =>
      let x22 := [a9]
      bif Nat.ble (x21.length + x22.length) 140737488351232 then
        some (Sum.inl (x21 ++ x22))
      else none
    else
      (F_code_put.s3934 m a1).bind fun x28 =>
      bif x28 then
        (F_code_nums m (x10, ([a10]))).bind fun x30 =>
        some (Sum.inr x30)
      else some (Sum.inr x10)
noncomputable def F_code_put (m : Fu) (p : (List Int) × Int × Int × (List Int) × (List Int) × Int × Int × Int × (List Int) × Int × Int × Bool) : Option (List Int) :=
  let a0 := p.1
  let a1 := p.2.1
  let a2 := p.2.2.1
  let a3 := p.2.2.2.1
  let a4 := p.2.2.2.2.1
  let a5 := p.2.2.2.2.2.1
  let a6 := p.2.2.2.2.2.2.1
  let a7 := p.2.2.2.2.2.2.2.1
  let a8 := p.2.2.2.2.2.2.2.2.1
  let a9 := p.2.2.2.2.2.2.2.2.2.1
  let a10 := p.2.2.2.2.2.2.2.2.2.2.1
  let a11 := p.2.2.2.2.2.2.2.2.2.2.2
  let x1 := [a1]
  bif Nat.ble (a0.length + x1.length) 140737488351232 then
    (F_code_put.s14 m a1 a2 (a0 ++ x1)).bind fun x10 =>
    (F_code_put.s30 m a1 a3 a4 a5 a6 a7 a8 a9 a10 x10).bind fun x31 =>
    match x31 with
    | .inl x32 =>
      some x32
    | .inr x33 =>
      bif a1 == (6 : Int) then
        bif a11 then
          bif Nat.ble (x33.length + 1) 140737488351232 then
            some (x33 ++ ([1] : List Int))
          else none
        else
          bif Nat.ble (x33.length + 1) 140737488351232 then
            some (x33 ++ ([0] : List Int))
          else none
      else some x33
  else none
def F_code_put.ann : List (Nat × Ann) := [(14, .jnt [(.normal, ⟨[(0, false, [.own (.int .u8) 160 .fr])], [], [], [128], 161⟩)]),
  (30, .jnt [(.ret, ⟨[(4, false, [.own (.int .u8) 161 .fr])], [], [], [160], 162⟩), (.normal, ⟨[(0, false, [.own (.int .u8) 161 .fr])], [], [], [160], 162⟩)]),
  (116, .jnt [(.normal, ⟨[(12, false, [.dat .bool])], [], [], [], 192⟩)]),
  (3934, .jnt [(.normal, ⟨[(61, false, [.dat .bool])], [], [], [], 257⟩)])]
def F_code_put.sig : Sig := ⟨[.own (.int .u8), .val true [.int .u8, .int .i64, .str, .str, .int .u32, .int .i64, .int .u64, .str, .int .u8, .int .i64, .bool]], [(false, [.own (.int .u8) 0 .fr])]⟩
noncomputable def F_code_put.S : Summ := ⟨60, F_code_put.sig, F_code_put⟩
noncomputable def F_code_put.G : List Summ := [F_code_nums.S, F_code_texts.S, F_code_Small.S]
theorem F_code_put.eq : absF Try.prog F_code_put.G F_code_put.ann F_code_put.sig Try.f60 = F_code_put := by kernel_rfl
theorem F_code_put.sound : Sound Try.prog F_code_put.S := absF_sound (fn := Try.f60) (Γ := F_code_put.G) (all_cons F_code_nums.sound (all_cons F_code_texts.sound (all_cons F_code_Small.sound all_nil))) mix (by kernel_rfl) (by kernel_rfl) (fun m p => congrFun (congrFun F_code_put.eq m) p)
/-! ### cloakroom/code.Changes -/
noncomputable def F_code_Changes.l58 (m : Fu) (a0 : List (Int × Int × ((List Int) × (List Int) × Int × Int × Int) × (List Int) × Int × Int × Bool)) (x3 : Int) (x4 : Int) : Option (Step Int (Int ⊕ Unit)) :=
  bif decide (x4 < x3) then
    bif (decide ((0 : Int) ≤ x4)) && (decide (x4 < (a0.length : Int))) then
      let x6 := a0.getD x4.toNat (0, (0, (([], ([], (0, (0, 0)))), ([], (0, (0, false))))))
      (F_code_may m (x6.1, x6.2.1, x6.2.2.1.1, x6.2.2.1.2.1, x6.2.2.1.2.2.1, x6.2.2.1.2.2.2.1, x6.2.2.1.2.2.2.2, x6.2.2.2)).bind fun x7 =>
      bif !x7 then
        some (.fin (Sum.inl (8 : Int)))
      else some (.next (IntKind.i64.wrap (x4 + (1 : Int))))
    else none
  else some (.fin (Sum.inr ()))
noncomputable def F_code_Changes.l250 (m : Fu) (a0 : List (Int × Int × ((List Int) × (List Int) × Int × Int × Int) × (List Int) × Int × Int × Bool)) (x16 : Int) (x17 : (List Int) × Int) : Option (Step ((List Int) × Int) (Int ⊕ (List Int))) :=
  bif decide (x17.2 < x16) then
    bif (decide ((0 : Int) ≤ x17.2)) && (decide (x17.2 < (a0.length : Int))) then
      let x19 := a0.getD x17.2.toNat (0, (0, (([], ([], (0, (0, 0)))), ([], (0, (0, false))))))
      (F_code_put m (x17.1, x19.1, x19.2.1, x19.2.2.1.1, x19.2.2.1.2.1, x19.2.2.1.2.2.1, x19.2.2.1.2.2.2.1, x19.2.2.1.2.2.2.2, x19.2.2.2)).bind fun x20 =>
      bif decide ((65536 : Int) < (x20.length : Int)) then
        some (.fin (Sum.inl (3 : Int)))
      else some (.next (x20, (IntKind.i64.wrap (x17.2 + (1 : Int)))))
    else none
  else some (.fin (Sum.inr x17.1))
noncomputable def F_code_Changes (m : Fu) (p : List (Int × Int × ((List Int) × (List Int) × Int × Int × Int) × (List Int) × Int × Int × Bool)) : Option ((List Int) × Int) :=
  let a0 := p
  bif decide ((4096 : Int) < (a0.length : Int)) then some (([] : List Int), (4 : Int)) else
  (iter m (F_code_Changes.l58 m a0 (a0.length : Int)) (0 : Int)).bind fun x10 =>
  match x10 with
  | .inl x11 =>
    some (([] : List Int), x11)
  | .inr _ =>
    (F_code_nums m (([] : List Int), ([(a0.length : Int)]))).bind fun x15 =>
    (iter m (F_code_Changes.l250 m a0 (a0.length : Int)) (x15, (0 : Int))).bind fun x24 =>
    match x24 with
    | .inl x25 =>
      some (([] : List Int), x25)
    | .inr x26 =>
      some (x26, (0 : Int))
def F_code_Changes.ann : List (Nat × Ann) := [(58, .loop ⟨[(14, false, [.dat (.int .i64)])], [], [], [], 144⟩ [(.ret, ⟨[(2, false, [.cst .nils]), (3, false, [.dat (.int .i64)])], [], [], [], 144⟩), (.exit 0, ⟨[], [], [], [], 144⟩)]),
  (250, .loop ⟨[(6, false, [.own (.int .u8) 272 .fr]), (28, false, [.dat (.int .i64)])], [], [], [192], 273⟩ [(.ret, ⟨[(2, false, [.cst .nils]), (3, false, [.dat (.int .i64)])], [], [], [192], 272⟩), (.exit 2, ⟨[(6, false, [.own (.int .u8) 272 .fr])], [], [], [192], 273⟩)])]
def F_code_Changes.sig : Sig := ⟨[.val false [.sl (.pr (.int .u8) (.pr (.int .i64) (.pr (.pr .str (.pr .str (.pr (.int .u32) (.pr (.int .i64) (.int .u64))))) (.pr .str (.pr (.int .u8) (.pr (.int .i64) .bool))))))]], [(false, [.own (.int .u8) 0 .fr]), (false, [.dat (.int .i64)])]⟩
noncomputable def F_code_Changes.S : Summ := ⟨36, F_code_Changes.sig, F_code_Changes⟩
noncomputable def F_code_Changes.G : List Summ := [F_code_may.S, F_code_nums.S, F_code_put.S]
theorem F_code_Changes.eq : absF Try.prog F_code_Changes.G F_code_Changes.ann F_code_Changes.sig Try.f36 = F_code_Changes := by kernel_rfl
theorem F_code_Changes.sound : Sound Try.prog F_code_Changes.S := absF_sound (fn := Try.f36) (Γ := F_code_Changes.G) (all_cons F_code_may.sound (all_cons F_code_nums.sound (all_cons F_code_put.sound all_nil))) mix (by kernel_rfl) (by kernel_rfl) (fun m p => congrFun (congrFun F_code_Changes.eq m) p)
/-! ### cloakroom/code.OfChanges -/
noncomputable def F_code_OfChanges.l250 (m : Fu) (x3 : Int × (List Int) × Bool) (x4 : (List (Int × Int × ((List Int) × (List Int) × Int × Int × Int) × (List Int) × Int × Int × Bool)) × Int × (List Int) × Bool) : Option (Step ((List (Int × Int × ((List Int) × (List Int) × Int × Int × Int) × (List Int) × Int × Int × Bool)) × Int × (List Int) × Bool) (Int ⊕ ((List (Int × Int × ((List Int) × (List Int) × Int × Int × Int) × (List Int) × Int × Int × Bool)) × (List Int) × Bool))) :=
  bif decide (x4.2.1 < x3.1) then
    (F_code_reader_change m x4.2.2).bind fun x6 =>
    let x7 := [(x6.1, (x6.2.1, ((x6.2.2.1, (x6.2.2.2.1, (x6.2.2.2.2.1, (x6.2.2.2.2.2.1, x6.2.2.2.2.2.2.1)))), (x6.2.2.2.2.2.2.2.1, (x6.2.2.2.2.2.2.2.2.1, (x6.2.2.2.2.2.2.2.2.2.1, x6.2.2.2.2.2.2.2.2.2.2.1))))))]
    bif Nat.ble (x4.1.length + x7.length) 4294967296 then
      bif x6.2.2.2.2.2.2.2.2.2.2.2.2 then
        some (.fin (Sum.inl (8 : Int)))
      else some (.next ((x4.1 ++ x7), (IntKind.i64.wrap (x4.2.1 + (1 : Int))), x6.2.2.2.2.2.2.2.2.2.2.2))
    else none
  else some (.fin (Sum.inr (x4.1, x4.2.2)))
noncomputable def F_code_OfChanges (m : Fu) (p : List Int) : Option ((List (Int × Int × ((List Int) × (List Int) × Int × Int × Int) × (List Int) × Int × Int × Bool)) × Int) :=
  let a0 := p
  bif decide ((65536 : Int) < (a0.length : Int)) then some (([] : List (Int × Int × ((List Int) × (List Int) × Int × Int × Int) × (List Int) × Int × Int × Bool)), (3 : Int)) else
  (F_code_reader_num m (a0, false, (4096 : Int))).bind fun x3 =>
  (iter m (F_code_OfChanges.l250 m x3) (([] : List (Int × Int × ((List Int) × (List Int) × Int × Int × Int) × (List Int) × Int × Int × Bool)), (0 : Int), x3.2)).bind fun x10 =>
  match x10 with
  | .inl x11 =>
    some (([] : List (Int × Int × ((List Int) × (List Int) × Int × Int × Int) × (List Int) × Int × Int × Bool)), x11)
  | .inr x12 =>
    (F_code_Changes m x12.1).bind fun x13 =>
    bif x12.2.2 then some (([] : List (Int × Int × ((List Int) × (List Int) × Int × Int × Int) × (List Int) × Int × Int × Bool)), (8 : Int)) else
    bif x13.2 != (0 : Int) then some (([] : List (Int × Int × ((List Int) × (List Int) × Int × Int × Int) × (List Int) × Int × Int × Bool)), (8 : Int)) else
    (F_bytes_Equal m (x13.1, a0)).bind fun x15 =>
    bif !x15 then
      some (([] : List (Int × Int × ((List Int) × (List Int) × Int × Int × Int) × (List Int) × Int × Int × Bool)), (8 : Int))
    else some (x12.1, (0 : Int))
def F_code_OfChanges.ann : List (Nat × Ann) := [(250, .loop ⟨[(5, false, [.own (.pr (.int .u8) (.pr (.int .i64) (.pr (.pr .str (.pr .str (.pr (.int .u32) (.pr (.int .i64) (.int .u64))))) (.pr .str (.pr (.int .u8) (.pr (.int .i64) .bool)))))) 224 .wr]), (16, false, [.dat (.int .i64)])], [(128, [.dat (.sl (.int .u8)), .dat .bool])], [], [], 225⟩ [(.ret, ⟨[(2, false, [.cst .nils]), (3, false, [.dat (.int .i64)])], [], [], [128], 224⟩), (.exit 0, ⟨[(5, false, [.own (.pr (.int .u8) (.pr (.int .i64) (.pr (.pr .str (.pr .str (.pr (.int .u32) (.pr (.int .i64) (.int .u64))))) (.pr .str (.pr (.int .u8) (.pr (.int .i64) .bool)))))) 224 .wr])], [(128, [.dat (.sl (.int .u8)), .dat .bool])], [], [], 225⟩)])]
def F_code_OfChanges.sig : Sig := ⟨[.val false [.sl (.int .u8)]], [(false, [.own (.pr (.int .u8) (.pr (.int .i64) (.pr (.pr .str (.pr .str (.pr (.int .u32) (.pr (.int .i64) (.int .u64))))) (.pr .str (.pr (.int .u8) (.pr (.int .i64) .bool)))))) 0 .fr]), (false, [.dat (.int .i64)])]⟩
noncomputable def F_code_OfChanges.S : Summ := ⟨72, F_code_OfChanges.sig, F_code_OfChanges⟩
noncomputable def F_code_OfChanges.G : List Summ := [F_code_reader_num.S, F_code_reader_change.S, F_code_Changes.S, F_bytes_Equal.S]
theorem F_code_OfChanges.eq : absF Try.prog F_code_OfChanges.G F_code_OfChanges.ann F_code_OfChanges.sig Try.f72 = F_code_OfChanges := by kernel_rfl
theorem F_code_OfChanges.sound : Sound Try.prog F_code_OfChanges.S := absF_sound (fn := Try.f72) (Γ := F_code_OfChanges.G) (all_cons F_code_reader_num.sound (all_cons F_code_reader_change.sound (all_cons F_code_Changes.sound (all_cons F_bytes_Equal.sound all_nil)))) mix (by kernel_rfl) (by kernel_rfl) (fun m p => congrFun (congrFun F_code_OfChanges.eq m) p)
/-! ### slices.Clone[[]cloakroom/api.Kept,cloakroom/api.Kept] -/
noncomputable def F_slices_Clone_Kept (_ : Fu) (p : List (Int × (List Int) × (List Int) × Int × Int × Int)) : Option (List (Int × (List Int) × (List Int) × Int × Int × Int)) :=
  let a0 := p
  match a0 with
  | [] => same2
   (
    some ([] : List (Int × (List Int) × (List Int) × Int × Int × Int)))
   (
    bif Nat.ble (0 + a0.length) 4294967296 then
      some (([] : List (Int × (List Int) × (List Int) × Int × Int × Int)) ++ a0)
    else none)
  | _ :: _ =>
    bif Nat.ble (0 + a0.length) 4294967296 then
      some (([] : List (Int × (List Int) × (List Int) × Int × Int × Int)) ++ a0)
    else none
def F_slices_Clone_Kept.ann : List (Nat × Ann) := []
def F_slices_Clone_Kept.sig : Sig := ⟨[.val false [.sl (.pr (.int .i64) (.pr .str (.pr .str (.pr (.int .u32) (.pr (.int .i64) (.int .u64))))))]], [(false, [.own (.pr (.int .i64) (.pr .str (.pr .str (.pr (.int .u32) (.pr (.int .i64) (.int .u64)))))) 0 .wr])]⟩
noncomputable def F_slices_Clone_Kept.S : Summ := ⟨61, F_slices_Clone_Kept.sig, F_slices_Clone_Kept⟩
noncomputable def F_slices_Clone_Kept.G : List Summ := []
theorem F_slices_Clone_Kept.eq : absF Try.prog F_slices_Clone_Kept.G F_slices_Clone_Kept.ann F_slices_Clone_Kept.sig Try.f61 = F_slices_Clone_Kept := by kernel_rfl
theorem F_slices_Clone_Kept.sound : Sound Try.prog F_slices_Clone_Kept.S := absF_sound (fn := Try.f61) (Γ := F_slices_Clone_Kept.G) all_nil mix (by kernel_rfl) (by kernel_rfl) (fun m p => congrFun (congrFun F_slices_Clone_Kept.eq m) p)
noncomputable def C_slices_Clone_Kept (m : Fu) (p : List (Int × (List Int) × (List Int) × Int × Int × Int)) : Option (List (Int × (List Int) × (List Int) × Int × Int × Int)) := bif Nat.ble p.length 4294967296 then some p else none
theorem C_slices_Clone_Kept.is : F_slices_Clone_Kept = C_slices_Clone_Kept := by
  funext m p
  have h0 : Nat.ble 0 4294967296 = true := rfl
  cases p <;> simp [F_slices_Clone_Kept, C_slices_Clone_Kept, same2_self, h0]
noncomputable def C_slices_Clone_Kept.S : Summ := ⟨61, F_slices_Clone_Kept.sig, C_slices_Clone_Kept⟩
theorem C_slices_Clone_Kept.sound : Sound Try.prog C_slices_Clone_Kept.S := by
  have h := F_slices_Clone_Kept.sound
  unfold F_slices_Clone_Kept.S at h
  rw [C_slices_Clone_Kept.is] at h
  exact h
/-! ### (*cloakroom/image.state).do$1 -/
noncomputable def F_image_state_do_c1 (m : Fu) (p : Int × (List Int) × (List Int) × Int × Int × Int × Int × Int × (List Int) × (List Int) × Int × Int × Int × (List Int) × Int × Int × Bool) : Option (Bool × Int × Int × (List Int) × (List Int) × Int × Int × Int × (List Int) × Int × Int × Bool) :=
  let a1 := p.2.1
  let a2 := p.2.2.1
  let a3 := p.2.2.2.1
  let a4 := p.2.2.2.2.1
  let a5 := p.2.2.2.2.2.1
  let a6 := p.2.2.2.2.2.2.1
  let a7 := p.2.2.2.2.2.2.2.1
  let a8 := p.2.2.2.2.2.2.2.2.1
  let a9 := p.2.2.2.2.2.2.2.2.2.1
  let a10 := p.2.2.2.2.2.2.2.2.2.2.1
  let a11 := p.2.2.2.2.2.2.2.2.2.2.2.1
  let a12 := p.2.2.2.2.2.2.2.2.2.2.2.2.1
  let a13 := p.2.2.2.2.2.2.2.2.2.2.2.2.2.1
  let a14 := p.2.2.2.2.2.2.2.2.2.2.2.2.2.2.1
  let a15 := p.2.2.2.2.2.2.2.2.2.2.2.2.2.2.2.1
  let a16 := p.2.2.2.2.2.2.2.2.2.2.2.2.2.2.2.2
  (F_image_due m (a1, a2, a3, a4, a5, a15)).bind fun x1 =>
  some (x1, a6, a7, a8, a9, a10, a11, a12, a13, a14, a15, a16)
def F_image_state_do_c1.ann : List (Nat × Ann) := []
def F_image_state_do_c1.sig : Sig := ⟨[.val true [.int .i64, .str, .str, .int .u32, .int .i64, .int .u64], .box [.int .u8, .int .i64, .str, .str, .int .u32, .int .i64, .int .u64, .str, .int .u8, .int .i64, .bool]], [(false, [.dat .bool])]⟩
noncomputable def F_image_state_do_c1.S : Summ := ⟨63, F_image_state_do_c1.sig, F_image_state_do_c1⟩
noncomputable def F_image_state_do_c1.G : List Summ := [F_image_due.S]
theorem F_image_state_do_c1.eq : absF Try.prog F_image_state_do_c1.G F_image_state_do_c1.ann F_image_state_do_c1.sig Try.f63 = F_image_state_do_c1 := by kernel_rfl
theorem F_image_state_do_c1.sound : Sound Try.prog F_image_state_do_c1.S := absF_sound (fn := Try.f63) (Γ := F_image_state_do_c1.G) (all_cons F_image_due.sound all_nil) mix (by kernel_rfl) (by kernel_rfl) (fun m p => congrFun (congrFun F_image_state_do_c1.eq m) p)
/-! ### (*cloakroom/image.state).do$2 -/
noncomputable def F_image_state_do_c2 (_ : Fu) (p : Int × (List Int) × (List Int) × Int × Int × Int × Int × Int × (List Int) × (List Int) × Int × Int × Int × (List Int) × Int × Int × Bool) : Option (Bool × Int × Int × (List Int) × (List Int) × Int × Int × Int × (List Int) × Int × Int × Bool) :=
  let a0 := p.1
  let a6 := p.2.2.2.2.2.2.1
  let a7 := p.2.2.2.2.2.2.2.1
  let a8 := p.2.2.2.2.2.2.2.2.1
  let a9 := p.2.2.2.2.2.2.2.2.2.1
  let a10 := p.2.2.2.2.2.2.2.2.2.2.1
  let a11 := p.2.2.2.2.2.2.2.2.2.2.2.1
  let a12 := p.2.2.2.2.2.2.2.2.2.2.2.2.1
  let a13 := p.2.2.2.2.2.2.2.2.2.2.2.2.2.1
  let a14 := p.2.2.2.2.2.2.2.2.2.2.2.2.2.2.1
  let a15 := p.2.2.2.2.2.2.2.2.2.2.2.2.2.2.2.1
  let a16 := p.2.2.2.2.2.2.2.2.2.2.2.2.2.2.2.2
  some ((a0 == a7), a6, a7, a8, a9, a10, a11, a12, a13, a14, a15, a16)
def F_image_state_do_c2.ann : List (Nat × Ann) := []
def F_image_state_do_c2.sig : Sig := ⟨[.val true [.int .i64, .str, .str, .int .u32, .int .i64, .int .u64], .box [.int .u8, .int .i64, .str, .str, .int .u32, .int .i64, .int .u64, .str, .int .u8, .int .i64, .bool]], [(false, [.dat .bool])]⟩
noncomputable def F_image_state_do_c2.S : Summ := ⟨66, F_image_state_do_c2.sig, F_image_state_do_c2⟩
noncomputable def F_image_state_do_c2.G : List Summ := []
theorem F_image_state_do_c2.eq : absF Try.prog F_image_state_do_c2.G F_image_state_do_c2.ann F_image_state_do_c2.sig Try.f66 = F_image_state_do_c2 := by kernel_rfl
theorem F_image_state_do_c2.sound : Sound Try.prog F_image_state_do_c2.S := absF_sound (fn := Try.f66) (Γ := F_image_state_do_c2.G) all_nil mix (by kernel_rfl) (by kernel_rfl) (fun m p => congrFun (congrFun F_image_state_do_c2.eq m) p)
/-! ### cloakroom/image.Apply -/
noncomputable def F_image_Apply.i26s212 (_ : Fu) (x12 : Int × Int × (List Int) × (List (Int × (List Int) × (List Int) × Int × Int × Int)) × Int × Int × Bool × (List Bool) × (List ((Int × (List Int)) × Int)) × Int) (x14 : Int × Int × ((List Int) × (List Int) × Int × Int × Int) × (List Int) × Int × Int × Bool) : Option (Int ⊕ Unit) :=
  bif decide (x14.2.2.2.2.2.1 < x12.2.1) then
    some (Sum.inl (2 : Int))
  else some (Sum.inr ())
noncomputable def F_image_Apply.i27s50 (_ : Fu) (x22 : Bool) : Option (Unit ⊕ Unit) :=
  bif x22 then
    some (Sum.inl ())
  else some (Sum.inr ())
noncomputable def F_image_Apply.i27s818 (m : Fu) (x21 : Int × Int × (List Int) × Int × Int × Bool × (List Bool) × (List ((Int × (List Int)) × Int)) × Int × Int × Int × (List Int) × (List Int) × Int × Int × Int × (List Int) × Int × Int × Bool) (x25 : Int × (List Int) × (List Int) × Int × Int × Int) : Option ((Bool × Int × Int × (List Int) × (List Int) × Int × Int × Int × (List Int) × Int × Int × Bool)) :=
  bif (decide ((0 : Int) ≤ x21.1)) && (decide (x21.1 < (x21.2.2.2.2.2.2.1.length : Int))) then
    bif Nat.blt x21.1.toNat x21.2.2.2.2.2.2.1.length then
      bif !(x21.2.2.2.2.2.2.1.getD x21.1.toNat false) then
        (F_image_state_do_c1 m (x25.1, x25.2.1, x25.2.2.1, x25.2.2.2.1, x25.2.2.2.2.1, x25.2.2.2.2.2, x21.2.2.2.2.2.2.2.2.2)).bind fun x28 =>
        some x28
      else some (false, x21.2.2.2.2.2.2.2.2.2)
    else none
  else none
noncomputable def F_image_Apply.i30s1 (_ : Fu) (x21 : Int × Int × (List Int) × Int × Int × Bool × (List Bool) × (List ((Int × (List Int)) × Int)) × Int × Int × Int × (List Int) × (List Int) × Int × Int × Int × (List Int) × Int × Int × Bool) (x25 : Int × (List Int) × (List Int) × Int × Int × Int) : Option ((Int × (List Int) × Int × Int × Bool × (List Bool) × (List ((Int × (List Int)) × Int)) × Int)) :=
  let x30 := mget (keyEq (.pr (.int .i64) .str)) x21.2.2.2.2.2.2.2.1 (x25.1, x25.2.1)
  bif x30.isSome then
    bif (decide ((0 : Int) ≤ (x30.getD 0))) && (decide ((x30.getD 0) < (x21.2.2.2.2.2.2.1.length : Int))) then
      bif Nat.blt ((x30.getD 0).toNat) x21.2.2.2.2.2.2.1.length then
        some (x21.2.1, x21.2.2.1, x21.2.2.2.1, x21.2.2.2.2.1, x21.2.2.2.2.2.1, (x21.2.2.2.2.2.2.1.set ((x30.getD 0).toNat) true), (mdel (keyEq (.pr (.int .i64) .str)) x21.2.2.2.2.2.2.2.1 (x25.1, x25.2.1)), (IntKind.i64.wrap (x21.2.2.2.2.2.2.2.2.1 - (1 : Int))))
      else none
    else none
  else some (x21.2.1, x21.2.2.1, x21.2.2.2.1, x21.2.2.2.2.1, x21.2.2.2.2.2.1, x21.2.2.2.2.2.2.1, x21.2.2.2.2.2.2.2.1, x21.2.2.2.2.2.2.2.2.1)
noncomputable def F_image_Apply.i27l6 (m : Fu) (x12 : Int × Int × (List Int) × (List (Int × (List Int) × (List Int) × Int × Int × Int)) × Int × Int × Bool × (List Bool) × (List ((Int × (List Int)) × Int)) × Int) (x20 : Int) (x21 : Int × Int × (List Int) × Int × Int × Bool × (List Bool) × (List ((Int × (List Int)) × Int)) × Int × Int × Int × (List Int) × (List Int) × Int × Int × Int × (List Int) × Int × Int × Bool) : Option (Step (Int × Int × (List Int) × Int × Int × Bool × (List Bool) × (List ((Int × (List Int)) × Int)) × Int × Int × Int × (List Int) × (List Int) × Int × Int × Int × (List Int) × Int × Int × Bool) ((Int × (List Int) × (List (Int × (List Int) × (List Int) × Int × Int × Int)) × Int × Int × Bool × (List Bool) × (List ((Int × (List Int)) × Int)) × Int))) :=
  (F_image_Apply.i27s50 m (decide (x21.1 < x20))).bind fun x23 =>
  match x23 with
  | .inl _ =>
    bif (decide ((0 : Int) ≤ x21.1)) && (decide (x21.1 < (x12.2.2.2.1.length : Int))) then
      bif Nat.blt x21.1.toNat x12.2.2.2.1.length then
        let x25 := x12.2.2.2.1.getD x21.1.toNat (0, ([], ([], (0, (0, 0)))))
        (F_image_Apply.i27s818 m x21 x25).bind fun x29 =>
        bif x29.1 then
          (F_image_Apply.i30s1 m x21 x25).bind fun x34 =>
          some (.next ((IntKind.i64.wrap (x21.1 + (1 : Int))), x34.1, x34.2.1, x34.2.2.1, x34.2.2.2.1, x34.2.2.2.2.1, x34.2.2.2.2.2.1, x34.2.2.2.2.2.2.1, x34.2.2.2.2.2.2.2, x29.2))
        else some (.next ((IntKind.i64.wrap (x21.1 + (1 : Int))), x21.2.1, x21.2.2.1, x21.2.2.2.1, x21.2.2.2.2.1, x21.2.2.2.2.2.1, x21.2.2.2.2.2.2.1, x21.2.2.2.2.2.2.2.1, x21.2.2.2.2.2.2.2.2.1, x29.2))
      else none
    else none
  | .inr _ =>
    some (.fin (x21.2.1, x21.2.2.1, x12.2.2.2.1, x21.2.2.2.1, x21.2.2.2.2.1, x21.2.2.2.2.2.1, x21.2.2.2.2.2.2.1, x21.2.2.2.2.2.2.2.1, x21.2.2.2.2.2.2.2.2.1))
noncomputable def F_image_Apply.i26s860 (_ : Fu) (x12 : Int × Int × (List Int) × (List (Int × (List Int) × (List Int) × Int × Int × Int)) × Int × Int × Bool × (List Bool) × (List ((Int × (List Int)) × Int)) × Int) (x14 : Int × Int × ((List Int) × (List Int) × Int × Int × Int) × (List Int) × Int × Int × Bool) : Option (Int ⊕ Unit) :=
  bif decide (x14.2.2.2.2.2.1 < x12.2.2.2.2.1) then
    some (Sum.inl (2 : Int))
  else some (Sum.inr ())
noncomputable def F_image_Apply.i26s6 (m : Fu) (x12 : Int × Int × (List Int) × (List (Int × (List Int) × (List Int) × Int × Int × Int)) × Int × Int × Bool × (List Bool) × (List ((Int × (List Int)) × Int)) × Int) (x14 : Int × Int × ((List Int) × (List Int) × Int × Int × Int) × (List Int) × Int × Int × Bool) : Option ((Int × Int × (List Int) × (List (Int × (List Int) × (List Int) × Int × Int × Int)) × Int × Int × Bool × (List Bool) × (List ((Int × (List Int)) × Int)) × Int) ⊕ Unit) :=
  bif x14.1 == (4 : Int) then
    (F_image_Apply.i26s212 m x12 x14).bind fun x17 =>
    match x17 with
    | .inl x18 =>
      some (Sum.inl (x18, x12.2))
    | .inr _ =>
      (iter m (F_image_Apply.i27l6 m x12 (x12.2.2.2.1.length : Int)) ((0 : Int), x14.2.2.2.2.2.1, x12.2.2.1, x12.2.2.2.2.1, x12.2.2.2.2.2.1, x12.2.2.2.2.2.2.1, x12.2.2.2.2.2.2.2.1, x12.2.2.2.2.2.2.2.2.1, x12.2.2.2.2.2.2.2.2.2, x14.1, x14.2.1, x14.2.2.1.1, x14.2.2.1.2.1, x14.2.2.1.2.2.1, x14.2.2.1.2.2.2.1, x14.2.2.1.2.2.2.2, x14.2.2.2)).bind fun x38 =>
      some (Sum.inl ((0 : Int), x38))
  else
    bif x14.1 == (6 : Int) then
      (F_image_Apply.i26s860 m x12 x14).bind fun x41 =>
      match x41 with
      | .inl x42 =>
        some (Sum.inl (x42, x12.2))
      | .inr _ =>
        some (Sum.inl ((0 : Int), x12.2.1, x12.2.2.1, x12.2.2.2.1, x14.2.2.2.2.2.1, x12.2.2.2.2.2.1, x14.2.2.2.2.2.2, x12.2.2.2.2.2.2.2))
    else
      bif x14.1 == (7 : Int) then
        some (Sum.inl ((0 : Int), x12.2.1, x12.2.2.1, x12.2.2.2.1, x12.2.2.2.2.1, x14.2.2.2.2.2.1, x12.2.2.2.2.2.2))
      else some (Sum.inr ())
noncomputable def F_image_Apply.i26s14 (_ : Fu) (x12 : Int × Int × (List Int) × (List (Int × (List Int) × (List Int) × Int × Int × Int)) × Int × Int × Bool × (List Bool) × (List ((Int × (List Int)) × Int)) × Int) (x14 : Int × Int × ((List Int) × (List Int) × Int × Int × Int) × (List Int) × Int × Int × Bool) : Option (Int ⊕ Unit) :=
  bif decide ((x12.2.2.1.length : Int) ≤ x14.2.1) then
    some (Sum.inl (2 : Int))
  else some (Sum.inr ())
noncomputable def F_image_Apply.i31s6 (m : Fu) (x14 : Int × Int × ((List Int) × (List Int) × Int × Int × Int) × (List Int) × Int × Int × Bool) : Option (Int ⊕ Unit) :=
  (F_image_size m x14.2.2.1).bind fun x54 =>
  bif decide ((256 : Int) < x54) then
    some (Sum.inl (2 : Int))
  else some (Sum.inr ())
noncomputable def F_image_Apply.i32s1 (_ : Fu) (x12 : Int × Int × (List Int) × (List (Int × (List Int) × (List Int) × Int × Int × Int)) × Int × Int × Bool × (List Bool) × (List ((Int × (List Int)) × Int)) × Int) (x14 : Int × Int × ((List Int) × (List Int) × Int × Int × Int) × (List Int) × Int × Int × Bool) : Option ((Int × (List Int) × (List (Int × (List Int) × (List Int) × Int × Int × Int)) × Int × Int × Bool × (List Bool) × (List ((Int × (List Int)) × Int)) × Int)) :=
  let x59 := mget (keyEq (.pr (.int .i64) .str)) x12.2.2.2.2.2.2.2.2.1 (x14.2.1, x14.2.2.1.1)
  bif x59.isSome then
    bif (decide ((0 : Int) ≤ (x59.getD 0))) && (decide ((x59.getD 0) < (x12.2.2.2.2.2.2.2.1.length : Int))) then
      bif Nat.blt ((x59.getD 0).toNat) x12.2.2.2.2.2.2.2.1.length then
        some (x12.2.1, x12.2.2.1, x12.2.2.2.1, x12.2.2.2.2.1, x12.2.2.2.2.2.1, x12.2.2.2.2.2.2.1, (x12.2.2.2.2.2.2.2.1.set ((x59.getD 0).toNat) true), (mdel (keyEq (.pr (.int .i64) .str)) x12.2.2.2.2.2.2.2.2.1 (x14.2.1, x14.2.2.1.1)), (IntKind.i64.wrap (x12.2.2.2.2.2.2.2.2.2 - (1 : Int))))
      else none
    else none
  else some x12.2
noncomputable def F_image_Apply.i31s62 (m : Fu) (x14 : Int × Int × ((List Int) × (List Int) × Int × Int × Int) × (List Int) × Int × Int × Bool) (x63 : (Int × (List Int) × (List (Int × (List Int) × (List Int) × Int × Int × Int)) × Int × Int × Bool × (List Bool) × (List ((Int × (List Int)) × Int)) × Int)) : Option (Int ⊕ Unit) :=
  (F_image_due m (x14.2.2.1.1, x14.2.2.1.2.1, x14.2.2.1.2.2.1, x14.2.2.1.2.2.2.1, x14.2.2.1.2.2.2.2, x63.1)).bind fun x64 =>
  bif x64 then
    some (Sum.inl (0 : Int))
  else some (Sum.inr ())
noncomputable def F_image_Apply.i31s126 (_ : Fu) (x63 : (Int × (List Int) × (List (Int × (List Int) × (List Int) × Int × Int × Int)) × Int × Int × Bool × (List Bool) × (List ((Int × (List Int)) × Int)) × Int)) : Option (Int ⊕ Unit) :=
  bif x63.2.2.2.2.2.2.2.2 == (1024 : Int) then
    some (Sum.inl (9 : Int))
  else some (Sum.inr ())
noncomputable def F_image_Apply.i31s1 (m : Fu) (x12 : Int × Int × (List Int) × (List (Int × (List Int) × (List Int) × Int × Int × Int)) × Int × Int × Bool × (List Bool) × (List ((Int × (List Int)) × Int)) × Int) (x14 : Int × Int × ((List Int) × (List Int) × Int × Int × Int) × (List Int) × Int × Int × Bool) : Option ((Int × Int × (List Int) × (List (Int × (List Int) × (List Int) × Int × Int × Int)) × Int × Int × Bool × (List Bool) × (List ((Int × (List Int)) × Int)) × Int)) :=
  (F_image_Apply.i31s6 m x14).bind fun x56 =>
  match x56 with
  | .inl x57 =>
    some (x57, x12.2)
  | .inr _ =>
    (F_image_Apply.i32s1 m x12 x14).bind fun x63 =>
    (F_image_Apply.i31s62 m x14 x63).bind fun x65 =>
    match x65 with
    | .inl x66 =>
      some (x66, x63)
    | .inr _ =>
      (F_image_Apply.i31s126 m x63).bind fun x69 =>
      match x69 with
      | .inl x70 =>
        some (x70, x63)
      | .inr _ =>
        bif Nat.blt x63.2.2.2.2.2.2.2.1.length 4294967296 then
          let x74 := [(x14.2.1, x14.2.2.1)]
          bif Nat.ble (x63.2.2.1.length + x74.length) 4294967296 then
            let x76 := [false]
            bif Nat.ble (x63.2.2.2.2.2.2.1.length + x76.length) 140737488351232 then
              some ((0 : Int), x63.1, x63.2.1, (x63.2.2.1 ++ x74), x63.2.2.2.1, x63.2.2.2.2.1, x63.2.2.2.2.2.1, (x63.2.2.2.2.2.2.1 ++ x76), (mset (keyEq (.pr (.int .i64) .str)) x63.2.2.2.2.2.2.2.1 (x14.2.1, x14.2.2.1.1) (x63.2.2.1.length : Int)), (IntKind.i64.wrap (x63.2.2.2.2.2.2.2.2 + (1 : Int))))
            else none
          else none
        else none
noncomputable def F_image_Apply.i33s1 (_ : Fu) (x12 : Int × Int × (List Int) × (List (Int × (List Int) × (List Int) × Int × Int × Int)) × Int × Int × Bool × (List Bool) × (List ((Int × (List Int)) × Int)) × Int) (x14 : Int × Int × ((List Int) × (List Int) × Int × Int × Int) × (List Int) × Int × Int × Bool) : Option ((Int × (List Int) × (List (Int × (List Int) × (List Int) × Int × Int × Int)) × Int × Int × Bool × (List Bool) × (List ((Int × (List Int)) × Int)) × Int)) :=
  let x81 := mget (keyEq (.pr (.int .i64) .str)) x12.2.2.2.2.2.2.2.2.1 (x14.2.1, x14.2.2.2.1)
  bif x81.isSome then
    bif (decide ((0 : Int) ≤ (x81.getD 0))) && (decide ((x81.getD 0) < (x12.2.2.2.2.2.2.2.1.length : Int))) then
      bif Nat.blt ((x81.getD 0).toNat) x12.2.2.2.2.2.2.2.1.length then
        some (x12.2.1, x12.2.2.1, x12.2.2.2.1, x12.2.2.2.2.1, x12.2.2.2.2.2.1, x12.2.2.2.2.2.2.1, (x12.2.2.2.2.2.2.2.1.set ((x81.getD 0).toNat) true), (mdel (keyEq (.pr (.int .i64) .str)) x12.2.2.2.2.2.2.2.2.1 (x14.2.1, x14.2.2.2.1)), (IntKind.i64.wrap (x12.2.2.2.2.2.2.2.2.2 - (1 : Int))))
      else none
    else none
  else some x12.2
noncomputable def F_image_Apply.i34s50 (_ : Fu) (x89 : Bool) : Option (Unit ⊕ Unit) :=
  bif x89 then
    some (Sum.inl ())
  else some (Sum.inr ())
noncomputable def F_image_Apply.i34s818 (m : Fu) (x88 : Int × Int × (List Int) × Int × Int × Bool × (List Bool) × (List ((Int × (List Int)) × Int)) × Int × Int × Int × (List Int) × (List Int) × Int × Int × Int × (List Int) × Int × Int × Bool) (x92 : Int × (List Int) × (List Int) × Int × Int × Int) : Option ((Bool × Int × Int × (List Int) × (List Int) × Int × Int × Int × (List Int) × Int × Int × Bool)) :=
  bif (decide ((0 : Int) ≤ x88.1)) && (decide (x88.1 < (x88.2.2.2.2.2.2.1.length : Int))) then
    bif Nat.blt x88.1.toNat x88.2.2.2.2.2.2.1.length then
      bif !(x88.2.2.2.2.2.2.1.getD x88.1.toNat false) then
        (F_image_state_do_c2 m (x92.1, x92.2.1, x92.2.2.1, x92.2.2.2.1, x92.2.2.2.2.1, x92.2.2.2.2.2, x88.2.2.2.2.2.2.2.2.2)).bind fun x95 =>
        some x95
      else some (false, x88.2.2.2.2.2.2.2.2.2)
    else none
  else none
noncomputable def F_image_Apply.i37s1 (_ : Fu) (x88 : Int × Int × (List Int) × Int × Int × Bool × (List Bool) × (List ((Int × (List Int)) × Int)) × Int × Int × Int × (List Int) × (List Int) × Int × Int × Int × (List Int) × Int × Int × Bool) (x92 : Int × (List Int) × (List Int) × Int × Int × Int) : Option ((Int × (List Int) × Int × Int × Bool × (List Bool) × (List ((Int × (List Int)) × Int)) × Int)) :=
  let x97 := mget (keyEq (.pr (.int .i64) .str)) x88.2.2.2.2.2.2.2.1 (x92.1, x92.2.1)
  bif x97.isSome then
    bif (decide ((0 : Int) ≤ (x97.getD 0))) && (decide ((x97.getD 0) < (x88.2.2.2.2.2.2.1.length : Int))) then
      bif Nat.blt ((x97.getD 0).toNat) x88.2.2.2.2.2.2.1.length then
        some (x88.2.1, x88.2.2.1, x88.2.2.2.1, x88.2.2.2.2.1, x88.2.2.2.2.2.1, (x88.2.2.2.2.2.2.1.set ((x97.getD 0).toNat) true), (mdel (keyEq (.pr (.int .i64) .str)) x88.2.2.2.2.2.2.2.1 (x92.1, x92.2.1)), (IntKind.i64.wrap (x88.2.2.2.2.2.2.2.2.1 - (1 : Int))))
      else none
    else none
  else some (x88.2.1, x88.2.2.1, x88.2.2.2.1, x88.2.2.2.2.1, x88.2.2.2.2.2.1, x88.2.2.2.2.2.2.1, x88.2.2.2.2.2.2.2.1, x88.2.2.2.2.2.2.2.2.1)
noncomputable def F_image_Apply.i34l6 (m : Fu) (x12 : Int × Int × (List Int) × (List (Int × (List Int) × (List Int) × Int × Int × Int)) × Int × Int × Bool × (List Bool) × (List ((Int × (List Int)) × Int)) × Int) (x87 : Int) (x88 : Int × Int × (List Int) × Int × Int × Bool × (List Bool) × (List ((Int × (List Int)) × Int)) × Int × Int × Int × (List Int) × (List Int) × Int × Int × Int × (List Int) × Int × Int × Bool) : Option (Step (Int × Int × (List Int) × Int × Int × Bool × (List Bool) × (List ((Int × (List Int)) × Int)) × Int × Int × Int × (List Int) × (List Int) × Int × Int × Int × (List Int) × Int × Int × Bool) ((Int × (List Int) × (List (Int × (List Int) × (List Int) × Int × Int × Int)) × Int × Int × Bool × (List Bool) × (List ((Int × (List Int)) × Int)) × Int))) :=
  (F_image_Apply.i34s50 m (decide (x88.1 < x87))).bind fun x90 =>
  match x90 with
  | .inl _ =>
    bif (decide ((0 : Int) ≤ x88.1)) && (decide (x88.1 < (x12.2.2.2.1.length : Int))) then
      bif Nat.blt x88.1.toNat x12.2.2.2.1.length then
        let x92 := x12.2.2.2.1.getD x88.1.toNat (0, ([], ([], (0, (0, 0)))))
        (F_image_Apply.i34s818 m x88 x92).bind fun x96 =>
        bif x96.1 then
          (F_image_Apply.i37s1 m x88 x92).bind fun x101 =>
          some (.next ((IntKind.i64.wrap (x88.1 + (1 : Int))), x101.1, x101.2.1, x101.2.2.1, x101.2.2.2.1, x101.2.2.2.2.1, x101.2.2.2.2.2.1, x101.2.2.2.2.2.2.1, x101.2.2.2.2.2.2.2, x96.2))
        else some (.next ((IntKind.i64.wrap (x88.1 + (1 : Int))), x88.2.1, x88.2.2.1, x88.2.2.2.1, x88.2.2.2.2.1, x88.2.2.2.2.2.1, x88.2.2.2.2.2.2.1, x88.2.2.2.2.2.2.2.1, x88.2.2.2.2.2.2.2.2.1, x96.2))
      else none
    else none
  | .inr _ =>
    some (.fin (x88.2.1, x88.2.2.1, x12.2.2.2.1, x88.2.2.2.1, x88.2.2.2.2.1, x88.2.2.2.2.2.1, x88.2.2.2.2.2.2.1, x88.2.2.2.2.2.2.2.1, x88.2.2.2.2.2.2.2.2.1))
noncomputable def F_image_Apply.i26s1 (m : Fu) (x12 : Int × Int × (List Int) × (List (Int × (List Int) × (List Int) × Int × Int × Int)) × Int × Int × Bool × (List Bool) × (List ((Int × (List Int)) × Int)) × Int) (x14 : Int × Int × ((List Int) × (List Int) × Int × Int × Int) × (List Int) × Int × Int × Bool) : Option ((Int × Int × (List Int) × (List (Int × (List Int) × (List Int) × Int × Int × Int)) × Int × Int × Bool × (List Bool) × (List ((Int × (List Int)) × Int)) × Int)) :=
  (F_image_Apply.i26s6 m x12 x14).bind fun x45 =>
  match x45 with
  | .inl x46 =>
    some x46
  | .inr _ =>
    (F_image_Apply.i26s14 m x12 x14).bind fun x50 =>
    match x50 with
    | .inl x51 =>
      some (x51, x12.2)
    | .inr _ =>
      bif x14.1 == (1 : Int) then
        (F_image_Apply.i31s1 m x12 x14).bind fun x79 =>
        some x79
      else
        bif x14.1 == (2 : Int) then
          (F_image_Apply.i33s1 m x12 x14).bind fun x85 =>
          some ((0 : Int), x85)
        else
          bif x14.1 == (3 : Int) then
            (iter m (F_image_Apply.i34l6 m x12 (x12.2.2.2.1.length : Int)) ((0 : Int), x12.2.1, x12.2.2.1, x12.2.2.2.2.1, x12.2.2.2.2.2.1, x12.2.2.2.2.2.2.1, x12.2.2.2.2.2.2.2.1, x12.2.2.2.2.2.2.2.2.1, x12.2.2.2.2.2.2.2.2.2, x14.1, x14.2.1, x14.2.2.1.1, x14.2.2.1.2.1, x14.2.2.1.2.2.1, x14.2.2.1.2.2.2.1, x14.2.2.1.2.2.2.2, x14.2.2.2)).bind fun x105 =>
            some ((0 : Int), x105)
          else
            bif x14.1 == (5 : Int) then
              bif (decide ((0 : Int) ≤ x14.2.1)) && (decide (x14.2.1 < (x12.2.2.1.length : Int))) then
                bif Nat.blt x14.2.1.toNat x12.2.2.1.length then
                  some ((0 : Int), x12.2.1, (x12.2.2.1.set x14.2.1.toNat x14.2.2.2.2.2.1), x12.2.2.2)
                else none
              else none
            else some ((0 : Int), x12.2)
noncomputable def F_image_Apply.l250 (m : Fu) (a6 : List (Int × Int × ((List Int) × (List Int) × Int × Int × Int) × (List Int) × Int × Int × Bool)) (x11 : Int) (x12 : Int × Int × (List Int) × (List (Int × (List Int) × (List Int) × Int × Int × Int)) × Int × Int × Bool × (List Bool) × (List ((Int × (List Int)) × Int)) × Int) : Option (Step (Int × Int × (List Int) × (List (Int × (List Int) × (List Int) × Int × Int × Int)) × Int × Int × Bool × (List Bool) × (List ((Int × (List Int)) × Int)) × Int) ((Int × Int × Int × Int × Bool) ⊕ (Int × (List Int) × (List (Int × (List Int) × (List Int) × Int × Int × Int)) × Int × Int × Bool × (List Bool) × (List ((Int × (List Int)) × Int)) × Int))) :=
  bif decide (x12.1 < x11) then
    bif (decide ((0 : Int) ≤ x12.1)) && (decide (x12.1 < (a6.length : Int))) then
      (F_image_Apply.i26s1 m x12 (a6.getD x12.1.toNat (0, (0, (([], ([], (0, (0, 0)))), ([], (0, (0, false)))))))).bind fun x108 =>
      bif x108.1 != (0 : Int) then
        some (.fin (Sum.inl (x108.1, (0 : Int), (0 : Int), (0 : Int), false)))
      else some (.next ((IntKind.i64.wrap (x12.1 + (1 : Int))), x108.2))
    else none
  else some (.fin (Sum.inr x12.2))
noncomputable def F_image_Apply.i38s466 (_ : Fu) (x116 : Bool) : Option (Unit ⊕ Unit) :=
  bif x116 then
    some (Sum.inl ())
  else some (Sum.inr ())
noncomputable def F_image_Apply.i38l58 (m : Fu) (x113 : Int × (List Int) × (List (Int × (List Int) × (List Int) × Int × Int × Int)) × Int × Int × Bool × (List Bool) × (List ((Int × (List Int)) × Int)) × Int) (x114 : Int) (x115 : (List (Int × (List Int) × (List Int) × Int × Int × Int)) × Int) : Option (Step ((List (Int × (List Int) × (List Int) × Int × Int × Int)) × Int) ((List (Int × (List Int) × (List Int) × Int × Int × Int)))) :=
  (F_image_Apply.i38s466 m (decide (x115.2 < x114))).bind fun x117 =>
  match x117 with
  | .inl _ =>
    bif (decide ((0 : Int) ≤ x115.2)) && (decide (x115.2 < (x113.2.2.1.length : Int))) then
      bif Nat.blt x115.2.toNat x113.2.2.1.length then
        bif (decide ((0 : Int) ≤ x115.2)) && (decide (x115.2 < (x113.2.2.2.2.2.2.1.length : Int))) then
          bif Nat.blt x115.2.toNat x113.2.2.2.2.2.2.1.length then
            bif !(x113.2.2.2.2.2.2.1.getD x115.2.toNat false) then
              let x122 := [(x113.2.2.1.getD x115.2.toNat (0, ([], ([], (0, (0, 0))))))]
              bif Nat.ble (x115.1.length + x122.length) 4294967296 then
                some (.next ((x115.1 ++ x122), (IntKind.i64.wrap (x115.2 + (1 : Int)))))
              else none
            else some (.next (x115.1, (IntKind.i64.wrap (x115.2 + (1 : Int)))))
          else none
        else none
      else none
    else none
  | .inr _ =>
    some (.fin x115.1)
noncomputable def F_image_Apply (m : Fu) (p : Int × (List Int) × (List (Int × (List Int) × (List Int) × Int × Int × Int)) × Int × Int × Bool × (List (Int × Int × ((List Int) × (List Int) × Int × Int × Int) × (List Int) × Int × Int × Bool))) : Option (Int × (List Int) × (List (Int × (List Int) × (List Int) × Int × Int × Int)) × Int × Int × Bool × Int) :=
  let a0 := p.1
  let a1 := p.2.1
  let a2 := p.2.2.1
  let a3 := p.2.2.2.1
  let a4 := p.2.2.2.2.1
  let a5 := p.2.2.2.2.2.1
  let a6 := p.2.2.2.2.2.2
  (F_image_Check m (a0, a1, a2, a3, a4, a5)).bind fun x1 =>
  bif x1 != (0 : Int) then some ((0 : Int), ([] : List Int), ([] : List (Int × (List Int) × (List Int) × Int × Int × Int)), (0 : Int), (0 : Int), false, x1) else
  (F_code_Changes m a6).bind fun x3 =>
  bif x3.2 != (0 : Int) then some ((0 : Int), ([] : List Int), ([] : List (Int × (List Int) × (List Int) × Int × Int × Int)), (0 : Int), (0 : Int), false, x3.2) else
  (C_slices_Clone_int m a1).bind fun x5 =>
  (C_slices_Clone_Kept m a2).bind fun x6 =>
  let x7 := (x6.length : Int)
  bif ((decide ((0 : Int) ≤ x7)) && (decide (x7 ≤ x7))) && (decide (x7 ≤ (4294967296 : Int))) then
    (F_image_places m x6).bind fun x9 =>
    (iter m (F_image_Apply.l250 m a6 (a6.length : Int)) ((0 : Int), a0, x5, x6, a3, a4, a5, (List.replicate x7.toNat false), x9, (x6.length : Int))).bind fun x111 =>
    match x111 with
    | .inl x112 =>
      some (x112.2.1, ([] : List Int), ([] : List (Int × (List Int) × (List Int) × Int × Int × Int)), x112.2.2.1, x112.2.2.2.1, x112.2.2.2.2, x112.1)
    | .inr x113 =>
      (iter m (F_image_Apply.i38l58 m x113 (x113.2.2.1.length : Int)) (([] : List (Int × (List Int) × (List Int) × Int × Int × Int)), (0 : Int))).bind fun x127 =>
      some (x113.1, x113.2.1, x127, x113.2.2.2.1, x113.2.2.2.2.1, x113.2.2.2.2.2.1, (0 : Int))
  else none
def F_image_Apply.ann : List (Nat × Ann) := [(30, .inl [(1, [])]),
  (126, .inl [(1, [(58, .loop ⟨[(3, false, [.own (.pr (.int .i64) (.pr .str (.pr .str (.pr (.int .u32) (.pr (.int .i64) (.int .u64)))))) 964 .wr]), (12, false, [.dat (.int .i64)])], [], [], [], 965⟩ [(.exit 0, ⟨[(3, false, [.own (.pr (.int .i64) (.pr .str (.pr .str (.pr (.int .u32) (.pr (.int .i64) (.int .u64)))))) 964 .wr])], [], [], [], 965⟩)]), (466, .jnt [(.normal, ⟨[], [], [], [], 981⟩), (.exit 0, ⟨[], [], [], [], 981⟩)])])]),
  (250, .loop ⟨[(32, false, [.dat (.int .i64)])], [(704, [.dat (.int .i64), .own (.int .i64) 800 .wr, .own (.pr (.int .i64) (.pr .str (.pr .str (.pr (.int .u32) (.pr (.int .i64) (.int .u64)))))) 801 .wr, .dat (.int .i64), .dat (.int .i64), .dat .bool, .own .bool 802 .wr, .own (.pr (.pr (.int .i64) .str) (.int .i64)) 803 (.mp true false), .dat (.int .i64)])], [], [384, 432, 576, 624], 804⟩ [(.ret, ⟨[(5, false, [.dat (.int .i64)])], [(48, [.dat (.int .i64), .cst .nils, .cst .nils, .dat (.int .i64), .dat (.int .i64), .dat .bool])], [], [384, 432, 576, 624, 704], 800⟩), (.exit 0, ⟨[], [(704, [.dat (.int .i64), .own (.int .i64) 800 .wr, .own (.pr (.int .i64) (.pr .str (.pr .str (.pr (.int .u32) (.pr (.int .i64) (.int .u64)))))) 801 .wr, .dat (.int .i64), .dat (.int .i64), .dat .bool, .own .bool 802 .wr, .own (.pr (.pr (.int .i64) .str) (.int .i64)) 803 (.mp true false), .dat (.int .i64)])], [], [384, 432, 576, 624], 804⟩)]),
  (32050, .inl [(2, [(1, .jnt [(.ret, ⟨[(4, false, [.dat (.int .i64)])], [(704, [.dat (.int .i64), .own (.int .i64) 916 .wr, .own (.pr (.int .i64) (.pr .str (.pr .str (.pr (.int .u32) (.pr (.int .i64) (.int .u64)))))) 917 .wr, .dat (.int .i64), .dat (.int .i64), .dat .bool, .own .bool 918 .wr, .own (.pr (.pr (.int .i64) .str) (.int .i64)) 919 (.mp true false), .dat (.int .i64)])], [], [800, 801, 802, 803], 920⟩)]), (6, .jnt [(.ret, ⟨[(4, false, [.dat (.int .i64)])], [(704, [.dat (.int .i64), .own (.int .i64) 948 .wr, .own (.pr (.int .i64) (.pr .str (.pr .str (.pr (.int .u32) (.pr (.int .i64) (.int .u64)))))) 949 .wr, .dat (.int .i64), .dat (.int .i64), .dat .bool, .own .bool 950 .wr, .own (.pr (.pr (.int .i64) .str) (.int .i64)) 951 (.mp true false), .dat (.int .i64)])], [], [800, 801, 802, 803, 916], 952⟩), (.normal, ⟨[], [], [], [], 948⟩)]), (14, .jnt [(.ret, ⟨[(4, false, [.dat (.int .i64)])], [], [], [], 948⟩), (.normal, ⟨[], [], [], [], 948⟩)]), (212, .jnt [(.ret, ⟨[(4, false, [.dat (.int .i64)])], [], [], [], 1012⟩), (.normal, ⟨[], [], [], [], 1012⟩)]), (854, .inl [(2, [(6, .loop ⟨[(12, false, [.dat (.int .i64)])], [(704, [.dat (.int .i64), .own (.int .i64) 1268 .wr, .cst (.own (.pr (.int .i64) (.pr .str (.pr .str (.pr (.int .u32) (.pr (.int .i64) (.int .u64)))))) 801), .dat (.int .i64), .dat (.int .i64), .dat .bool, .own .bool 1269 .wr, .own (.pr (.pr (.int .i64) .str) (.int .i64)) 1270 (.mp true false), .dat (.int .i64)]), (916, [.dat (.int .u8), .dat (.int .i64), .dat .str, .dat .str, .dat (.int .u32), .dat (.int .i64), .dat (.int .u64), .dat .str, .dat (.int .u8), .dat (.int .i64), .dat .bool])], [], [800, 802, 803], 1271⟩ [(.exit 0, ⟨[], [(704, [.dat (.int .i64), .own (.int .i64) 1268 .wr, .own (.pr (.int .i64) (.pr .str (.pr .str (.pr (.int .u32) (.pr (.int .i64) (.int .u64)))))) 1269 .wr, .dat (.int .i64), .dat (.int .i64), .dat .bool, .own .bool 1270 .wr, .own (.pr (.pr (.int .i64) .str) (.int .i64)) 1271 (.mp true false), .dat (.int .i64)])], [], [800, 801, 802, 803, 916], 1272⟩)]), (50, .jnt [(.normal, ⟨[], [], [], [], 1287⟩), (.exit 0, ⟨[], [], [], [], 1287⟩)]), (818, .jnt [(.normal, ⟨[(29, false, [.dat .bool])], [(916, [.dat (.int .u8), .dat (.int .i64), .dat .str, .dat .str, .dat (.int .u32), .dat (.int .i64), .dat (.int .u64), .dat .str, .dat (.int .u8), .dat (.int .i64), .dat .bool])], [], [], 1383⟩)]), (1638, .inl [(7, [(1, .jnt [(.normal, ⟨[], [(704, [.dat (.int .i64), .own (.int .i64) 1495 .wr, .cst (.own (.pr (.int .i64) (.pr .str (.pr .str (.pr (.int .u32) (.pr (.int .i64) (.int .u64)))))) 801), .dat (.int .i64), .dat (.int .i64), .dat .bool, .own .bool 1496 .wr, .own (.pr (.pr (.int .i64) .str) (.int .i64)) 1497 (.mp true false), .dat (.int .i64)])], [], [1268, 1269, 1270], 1498⟩)])])])])]), (860, .jnt [(.ret, ⟨[(4, false, [.dat (.int .i64)])], [], [], [], 1044⟩), (.normal, ⟨[], [], [], [], 1044⟩)]), (980, .inl [(5, [(1, .jnt [(.ret, ⟨[(6, false, [.dat (.int .i64)])], [(704, [.dat (.int .i64), .own (.int .i64) 1092 .wr, .own (.pr (.int .i64) (.pr .str (.pr .str (.pr (.int .u32) (.pr (.int .i64) (.int .u64)))))) 1093 .wr, .dat (.int .i64), .dat (.int .i64), .dat .bool, .own .bool 1094 .wr, .own (.pr (.pr (.int .i64) .str) (.int .i64)) 1095 (.mp true false), .dat (.int .i64)])], [], [800, 801, 802, 803], 1096⟩)]), (6, .jnt [(.ret, ⟨[(6, false, [.dat (.int .i64)])], [], [], [], 1124⟩), (.normal, ⟨[], [], [], [], 1124⟩)]), (30, .inl [(2, [(1, .jnt [(.normal, ⟨[], [(704, [.dat (.int .i64), .own (.int .i64) 1252 .wr, .own (.pr (.int .i64) (.pr .str (.pr .str (.pr (.int .u32) (.pr (.int .i64) (.int .u64)))))) 1253 .wr, .dat (.int .i64), .dat (.int .i64), .dat .bool, .own .bool 1254 .wr, .own (.pr (.pr (.int .i64) .str) (.int .i64)) 1255 (.mp true false), .dat (.int .i64)])], [], [800, 801, 802, 803], 1256⟩)])])]), (62, .jnt [(.ret, ⟨[(6, false, [.dat (.int .i64)])], [], [], [], 1256⟩), (.normal, ⟨[], [], [], [], 1256⟩)]), (126, .jnt [(.ret, ⟨[(6, false, [.dat (.int .i64)])], [], [], [], 1256⟩), (.normal, ⟨[], [], [], [], 1256⟩)])])]), (1966, .inl [(6, [(1, .jnt [(.normal, ⟨[], [(704, [.dat (.int .i64), .own (.int .i64) 1140 .wr, .own (.pr (.int .i64) (.pr .str (.pr .str (.pr (.int .u32) (.pr (.int .i64) (.int .u64)))))) 1141 .wr, .dat (.int .i64), .dat (.int .i64), .dat .bool, .own .bool 1142 .wr, .own (.pr (.pr (.int .i64) .str) (.int .i64)) 1143 (.mp true false), .dat (.int .i64)])], [], [800, 801, 802, 803], 1144⟩)])])]), (7870, .inl [(2, [(6, .loop ⟨[(12, false, [.dat (.int .i64)])], [(704, [.dat (.int .i64), .own (.int .i64) 1220 .wr, .cst (.own (.pr (.int .i64) (.pr .str (.pr .str (.pr (.int .u32) (.pr (.int .i64) (.int .u64)))))) 801), .dat (.int .i64), .dat (.int .i64), .dat .bool, .own .bool 1221 .wr, .own (.pr (.pr (.int .i64) .str) (.int .i64)) 1222 (.mp true false), .dat (.int .i64)]), (916, [.dat (.int .u8), .dat (.int .i64), .dat .str, .dat .str, .dat (.int .u32), .dat (.int .i64), .dat (.int .u64), .dat .str, .dat (.int .u8), .dat (.int .i64), .dat .bool])], [], [800, 802, 803], 1223⟩ [(.exit 0, ⟨[], [(704, [.dat (.int .i64), .own (.int .i64) 1220 .wr, .own (.pr (.int .i64) (.pr .str (.pr .str (.pr (.int .u32) (.pr (.int .i64) (.int .u64)))))) 1221 .wr, .dat (.int .i64), .dat (.int .i64), .dat .bool, .own .bool 1222 .wr, .own (.pr (.pr (.int .i64) .str) (.int .i64)) 1223 (.mp true false), .dat (.int .i64)])], [], [800, 801, 802, 803, 916], 1224⟩)]), (50, .jnt [(.normal, ⟨[], [], [], [], 1239⟩), (.exit 0, ⟨[], [], [], [], 1239⟩)]), (818, .jnt [(.normal, ⟨[(29, false, [.dat .bool])], [(916, [.dat (.int .u8), .dat (.int .i64), .dat .str, .dat .str, .dat (.int .u32), .dat (.int .i64), .dat (.int .u64), .dat .str, .dat (.int .u8), .dat (.int .i64), .dat .bool])], [], [], 1335⟩)]), (1638, .inl [(7, [(1, .jnt [(.normal, ⟨[], [(704, [.dat (.int .i64), .own (.int .i64) 1447 .wr, .cst (.own (.pr (.int .i64) (.pr .str (.pr .str (.pr (.int .u32) (.pr (.int .i64) (.int .u64)))))) 801), .dat (.int .i64), .dat (.int .i64), .dat .bool, .own .bool 1448 .wr, .own (.pr (.pr (.int .i64) .str) (.int .i64)) 1449 (.mp true false), .dat (.int .i64)])], [], [1220, 1221, 1222], 1450⟩)])])])])])])])]
def F_image_Apply.sig : Sig := ⟨[.val true [.int .i64, .sl (.int .i64), .sl (.pr (.int .i64) (.pr .str (.pr .str (.pr (.int .u32) (.pr (.int .i64) (.int .u64)))))), .int .i64, .int .i64, .bool], .val false [.sl (.pr (.int .u8) (.pr (.int .i64) (.pr (.pr .str (.pr .str (.pr (.int .u32) (.pr (.int .i64) (.int .u64))))) (.pr .str (.pr (.int .u8) (.pr (.int .i64) .bool))))))]], [(true, [.dat (.int .i64), .own (.int .i64) 0 .wr, .own (.pr (.int .i64) (.pr .str (.pr .str (.pr (.int .u32) (.pr (.int .i64) (.int .u64)))))) 0 .wr, .dat (.int .i64), .dat (.int .i64), .dat .bool]), (false, [.dat (.int .i64)])]⟩
noncomputable def F_image_Apply.S : Summ := ⟨16, F_image_Apply.sig, F_image_Apply⟩
noncomputable def F_image_Apply.G : List Summ := [F_image_Check.S, F_code_Changes.S, C_slices_Clone_int.S, C_slices_Clone_Kept.S, F_image_places.S, F_image_state_do_c1.S, F_image_size.S, F_image_due.S, F_image_state_do_c2.S]
theorem F_image_Apply.eq : absF Try.prog F_image_Apply.G F_image_Apply.ann F_image_Apply.sig Try.f16 = F_image_Apply := by kernel_rfl
theorem F_image_Apply.sound : Sound Try.prog F_image_Apply.S := absF_sound (fn := Try.f16) (Γ := F_image_Apply.G) (all_cons F_image_Check.sound (all_cons F_code_Changes.sound (all_cons C_slices_Clone_int.sound (all_cons C_slices_Clone_Kept.sound (all_cons F_image_places.sound (all_cons F_image_state_do_c1.sound (all_cons F_image_size.sound (all_cons F_image_due.sound (all_cons F_image_state_do_c2.sound all_nil))))))))) mix (by kernel_rfl) (by kernel_rfl) (fun m p => congrFun (congrFun F_image_Apply.eq m) p)
/-! ### (*cloakroom/reopen.store).read -/
noncomputable def F_reopen_store_read.l250 (m : Fu) (x9 : List (List Int)) (x10 : Int) (x11 : Int × (List Int) × Int × Int × Int × (List (List Int)) × Int × Int × Int × Int × (List Int) × (List (Int × (List Int) × (List Int) × Int × Int × Int)) × Int × Int × Bool) : Option (Step (Int × (List Int) × Int × Int × Int × (List (List Int)) × Int × Int × Int × Int × (List Int) × (List (Int × (List Int) × (List Int) × Int × Int × Int)) × Int × Int × Bool) ((Bool × (List Int) × Int × Int × Int × (List (List Int)) × Int × Int × Int × Int × (List Int) × (List (Int × (List Int) × (List Int) × Int × Int × Int)) × Int × Int × Bool) ⊕ ((List Int) × Int × Int × Int × (List (List Int)) × Int × Int × Int × Int × (List Int) × (List (Int × (List Int) × (List Int) × Int × Int × Int)) × Int × Int × Bool))) :=
  bif decide (x11.1 < x10) then
    bif (decide ((0 : Int) ≤ x11.1)) && (decide (x11.1 < (x9.length : Int))) then
      (F_code_OfChanges m (x9.getD x11.1.toNat [])).bind fun x14 =>
      bif x14.2 != (0 : Int) then some (.fin (Sum.inl (false, x11.2))) else
      (F_image_Apply m (x11.2.2.2.2.2.2.2.2.2.1, x11.2.2.2.2.2.2.2.2.2.2.1, x11.2.2.2.2.2.2.2.2.2.2.2.1, x11.2.2.2.2.2.2.2.2.2.2.2.2.1, x11.2.2.2.2.2.2.2.2.2.2.2.2.2.1, x11.2.2.2.2.2.2.2.2.2.2.2.2.2.2, x14.1)).bind fun x16 =>
      bif x16.2.2.2.2.2.2 != (0 : Int) then
        some (.fin (Sum.inl (false, x11.2.1, x11.2.2.1, x11.2.2.2.1, x11.2.2.2.2.1, x11.2.2.2.2.2.1, x11.2.2.2.2.2.2.1, x11.2.2.2.2.2.2.2.1, x11.2.2.2.2.2.2.2.2.1, x16.1, x16.2.1, x16.2.2.1, x16.2.2.2.1, x16.2.2.2.2.1, x16.2.2.2.2.2.1)))
      else some (.next ((IntKind.i64.wrap (x11.1 + (1 : Int))), x11.2.1, x11.2.2.1, x11.2.2.2.1, x11.2.2.2.2.1, x11.2.2.2.2.2.1, x11.2.2.2.2.2.2.1, x11.2.2.2.2.2.2.2.1, x11.2.2.2.2.2.2.2.2.1, x16.1, x16.2.1, x16.2.2.1, x16.2.2.2.1, x16.2.2.2.2.1, x16.2.2.2.2.2.1))
    else none
  else some (.fin (Sum.inr x11.2))
noncomputable def F_reopen_store_read (m : Fu) (p : (List Int) × Int × Int × Int × (List (List Int)) × Int × Int × Int × Int × (List Int) × (List (Int × (List Int) × (List Int) × Int × Int × Int)) × Int × Int × Bool) : Option (Bool × (List Int) × Int × Int × Int × (List (List Int)) × Int × Int × Int × Int × (List Int) × (List (Int × (List Int) × (List Int) × Int × Int × Int)) × Int × Int × Bool) :=
  let a0 := p.1
  let a1 := p.2.1
  let a2 := p.2.2.1
  let a3 := p.2.2.2.1
  let a8 := p.2.2.2.2.2.2.2.2.1
  let a9 := p.2.2.2.2.2.2.2.2.2.1
  let a10 := p.2.2.2.2.2.2.2.2.2.2.1
  let a11 := p.2.2.2.2.2.2.2.2.2.2.2.1
  let a12 := p.2.2.2.2.2.2.2.2.2.2.2.2.1
  let a13 := p.2.2.2.2.2.2.2.2.2.2.2.2.2
  (F_reopen_store_from_r m (a3, a2)).bind fun x1 =>
  (F_journal_Read m (a0, a1, x1, a3)).bind fun x2 =>
  bif x2.2.2.2.2 != (0 : Int) then some (false, a0, a1, a2, a3, x2.1, x2.2.1, x2.2.2.1, x2.2.2.2.1, a8, a9, a10, a11, a12, a13) else
  bif (x2.1.length : Int) == (0 : Int) then some (false, a0, a1, a2, a3, x2.1, x2.2.1, x2.2.2.1, x2.2.2.2.1, a8, a9, a10, a11, a12, a13) else
  bif decide ((0 : Int) < (x2.1.length : Int)) then
    bif Nat.blt 0 x2.1.length then
      (F_image_Read m (x2.1.getD 0 [])).bind fun x7 =>
      bif x7.2.2.2.2.2.2 != (0 : Int) then some (false, a0, a1, a2, a3, x2.1, x2.2.1, x2.2.2.1, x2.2.2.2.1, x7.1, x7.2.1, x7.2.2.1, x7.2.2.2.1, x7.2.2.2.2.1, x7.2.2.2.2.2.1) else
      bif ((decide ((1 : Int) ≤ (x2.1.length : Int))) && (decide ((x2.1.length : Int) ≤ (x2.1.length : Int)))) && (decide ((x2.1.length : Int) ≤ (x2.1.length : Int))) then
        let x9 := (x2.1.take ((x2.1.length : Int).toNat)).drop 1
        (iter m (F_reopen_store_read.l250 m x9 (x9.length : Int)) ((0 : Int), a0, a1, a2, a3, x2.1, x2.2.1, x2.2.2.1, x2.2.2.2.1, x7.1, x7.2.1, x7.2.2.1, x7.2.2.2.1, x7.2.2.2.2.1, x7.2.2.2.2.2.1)).bind fun x19 =>
        match x19 with
        | .inl x20 =>
          some x20
        | .inr x21 =>
          some (true, x21)
      else none
    else none
  else none
def F_reopen_store_read.ann : List (Nat × Ann) := [(250, .loop ⟨[(67, false, [.dat (.int .i64)])], [(0, [.dat (.sl (.int .u8)), .dat (.int .u32), .dat (.int .i64), .dat (.int .i64), .own (.sl (.int .u8)) 1072 .fr, .dat (.int .i64), .dat (.int .u32), .dat (.int .u32), .dat (.int .i64), .own (.int .i64) 1073 .fr, .own (.pr (.int .i64) (.pr .str (.pr .str (.pr (.int .u32) (.pr (.int .i64) (.int .u64)))))) 1074 .fr, .dat (.int .i64), .dat (.int .i64), .dat .bool])], [], [352, 784, 785], 1075⟩ [(.ret, ⟨[(2, false, [.dat .bool])], [(0, [.dat (.sl (.int .u8)), .dat (.int .u32), .dat (.int .i64), .dat (.int .i64), .own (.sl (.int .u8)) 1072 .fr, .dat (.int .i64), .dat (.int .u32), .dat (.int .u32), .dat (.int .i64), .own (.int .i64) 1073 .fr, .own (.pr (.int .i64) (.pr .str (.pr .str (.pr (.int .u32) (.pr (.int .i64) (.int .u64)))))) 1074 .fr, .dat (.int .i64), .dat (.int .i64), .dat .bool])], [], [352, 784, 785], 1075⟩), (.exit 0, ⟨[], [(0, [.dat (.sl (.int .u8)), .dat (.int .u32), .dat (.int .i64), .dat (.int .i64), .own (.sl (.int .u8)) 1072 .fr, .dat (.int .i64), .dat (.int .u32), .dat (.int .u32), .dat (.int .i64), .own (.int .i64) 1073 .fr, .own (.pr (.int .i64) (.pr .str (.pr .str (.pr (.int .u32) (.pr (.int .i64) (.int .u64)))))) 1074 .fr, .dat (.int .i64), .dat (.int .i64), .dat .bool])], [], [352, 784, 785], 1075⟩)])]
def F_reopen_store_read.sig : Sig := ⟨[.box [.sl (.int .u8), .int .u32, .int .i64, .int .i64, .sl (.sl (.int .u8)), .int .i64, .int .u32, .int .u32, .int .i64, .sl (.int .i64), .sl (.pr (.int .i64) (.pr .str (.pr .str (.pr (.int .u32) (.pr (.int .i64) (.int .u64)))))), .int .i64, .int .i64, .bool]], [(false, [.dat .bool])]⟩
noncomputable def F_reopen_store_read.S : Summ := ⟨50, F_reopen_store_read.sig, F_reopen_store_read⟩
noncomputable def F_reopen_store_read.G : List Summ := [F_reopen_store_from_r.S, F_journal_Read.S, F_image_Read.S, F_code_OfChanges.S, F_image_Apply.S]
theorem F_reopen_store_read.eq : absF Try.prog F_reopen_store_read.G F_reopen_store_read.ann F_reopen_store_read.sig Try.f50 = F_reopen_store_read := by kernel_rfl
theorem F_reopen_store_read.sound : Sound Try.prog F_reopen_store_read.S := absF_sound (fn := Try.f50) (Γ := F_reopen_store_read.G) (all_cons F_reopen_store_from_r.sound (all_cons F_journal_Read.sound (all_cons F_image_Read.sound (all_cons F_code_OfChanges.sound (all_cons F_image_Apply.sound all_nil))))) mix (by kernel_rfl) (by kernel_rfl) (fun m p => congrFun (congrFun F_reopen_store_read.eq m) p)
/-! ### (*cloakroom/reopen.store).append -/
noncomputable def F_reopen_store_append (m : Fu) (p : (List Int) × Int × Int × Int × (List (List Int)) × Int × Int × Int × Int × (List Int) × (List (Int × (List Int) × (List Int) × Int × Int × Int)) × Int × Int × Bool × (List (Int × Int × ((List Int) × (List Int) × Int × Int × Int) × (List Int) × Int × Int × Bool))) : Option ((List (Int × (List Int))) × Int × (List Int) × Int × Int × Int × (List (List Int)) × Int × Int × Int × Int × (List Int) × (List (Int × (List Int) × (List Int) × Int × Int × Int)) × Int × Int × Bool) :=
  let a0 := p.1
  let a1 := p.2.1
  let a2 := p.2.2.1
  let a3 := p.2.2.2.1
  let a4 := p.2.2.2.2.1
  let a5 := p.2.2.2.2.2.1
  let a6 := p.2.2.2.2.2.2.1
  let a7 := p.2.2.2.2.2.2.2.1
  let a8 := p.2.2.2.2.2.2.2.2.1
  let a9 := p.2.2.2.2.2.2.2.2.2.1
  let a10 := p.2.2.2.2.2.2.2.2.2.2.1
  let a11 := p.2.2.2.2.2.2.2.2.2.2.2.1
  let a12 := p.2.2.2.2.2.2.2.2.2.2.2.2.1
  let a13 := p.2.2.2.2.2.2.2.2.2.2.2.2.2.1
  let a14 := p.2.2.2.2.2.2.2.2.2.2.2.2.2.2
  (F_image_Apply m (a8, a9, a10, a11, a12, a13, a14)).bind fun x1 =>
  bif x1.2.2.2.2.2.2 != (0 : Int) then some (([] : List (Int × (List Int))), x1.2.2.2.2.2.2, a0, a1, a2, a3, a4, a5, a6, a7, a8, a9, a10, a11, a12, a13) else
  (F_code_Changes m a14).bind fun x3 =>
  bif x3.2 != (0 : Int) then some (([] : List (Int × (List Int))), x3.2, a0, a1, a2, a3, a4, a5, a6, a7, a8, a9, a10, a11, a12, a13) else
  (F_journal_Next m (a4, a5, a6, a7, a1, x3.1)).bind fun x5 =>
  bif x5.2 != (0 : Int) then some (([] : List (Int × (List Int))), x5.2, a0, a1, a2, a3, a4, a5, a6, a7, a8, a9, a10, a11, a12, a13) else
  bif decide ((IntKind.i64.wrap (a3 - a5)) < (x5.1.length : Int)) then some (([] : List (Int × (List Int))), (9 : Int), a0, a1, a2, a3, a4, a5, a6, a7, a8, a9, a10, a11, a12, a13) else
  (F_reopen_store_from_r m (a3, a2)).bind fun x10 =>
  (F_reopen_puts m (x5.1, (IntKind.i64.wrap (x10 + a5)), ([] : List (Int × (List Int))))).bind fun x12 =>
  some (x12, (0 : Int), a0, a1, a2, a3, a4, a5, a6, a7, a8, a9, a10, a11, a12, a13)
def F_reopen_store_append.ann : List (Nat × Ann) := []
def F_reopen_store_append.sig : Sig := ⟨[.box [.sl (.int .u8), .int .u32, .int .i64, .int .i64, .sl (.sl (.int .u8)), .int .i64, .int .u32, .int .u32, .int .i64, .sl (.int .i64), .sl (.pr (.int .i64) (.pr .str (.pr .str (.pr (.int .u32) (.pr (.int .i64) (.int .u64)))))), .int .i64, .int .i64, .bool], .val false [.sl (.pr (.int .u8) (.pr (.int .i64) (.pr (.pr .str (.pr .str (.pr (.int .u32) (.pr (.int .i64) (.int .u64))))) (.pr .str (.pr (.int .u8) (.pr (.int .i64) .bool))))))]], [(false, [.own (.pr (.int .i64) (.sl (.int .u8))) 0 .wr]), (false, [.dat (.int .i64)])]⟩
noncomputable def F_reopen_store_append.S : Summ := ⟨34, F_reopen_store_append.sig, F_reopen_store_append⟩
noncomputable def F_reopen_store_append.G : List Summ := [F_image_Apply.S, F_code_Changes.S, F_journal_Next.S, F_reopen_store_from_r.S, F_reopen_puts.S]
theorem F_reopen_store_append.eq : absF Try.prog F_reopen_store_append.G F_reopen_store_append.ann F_reopen_store_append.sig Try.f34 = F_reopen_store_append := by kernel_rfl
theorem F_reopen_store_append.sound : Sound Try.prog F_reopen_store_append.S := absF_sound (fn := Try.f34) (Γ := F_reopen_store_append.G) (all_cons F_image_Apply.sound (all_cons F_code_Changes.sound (all_cons F_journal_Next.sound (all_cons F_reopen_store_from_r.sound (all_cons F_reopen_puts.sound all_nil))))) mix (by kernel_rfl) (by kernel_rfl) (fun m p => congrFun (congrFun F_reopen_store_append.eq m) p)
/-! ### cloakroom/reopen.Append -/
noncomputable def F_reopen_Append.i1s14 (_ : Fu) (x1 : Int × Int) : Option (Int ⊕ Unit) :=
  bif x1.2 != (0 : Int) then
    some (Sum.inl x1.2)
  else some (Sum.inr ())
noncomputable def F_reopen_Append.i1s30 (_ : Fu) (x1 : Int × Int) : Option (Int ⊕ Unit) :=
  bif decide (x1.1 < (3 : Int)) then
    some (Sum.inl (230 : Int))
  else some (Sum.inr ())
noncomputable def F_reopen_Append.i1s126 (_ : Fu) (x12 : (List Int) × Int) : Option (Int ⊕ Unit) :=
  bif x12.2 != (0 : Int) then
    some (Sum.inl x12.2)
  else some (Sum.inr ())
noncomputable def F_reopen_Append.i1s16338 (_ : Fu) (x22 : Bool) : Option (Unit ⊕ Unit) :=
  bif x22 then
    some (Sum.inl ())
  else some (Sum.inr ())
noncomputable def F_reopen_Append.i1l2042 (m : Fu) (x12 : (List Int) × Int) (x21 : Int × (List Int) × Int × Int × Int × Int × Int × Int × Int × Int × Int × Bool) : Option (Step (Int × (List Int) × Int × Int × Int × Int × Int × Int × Int × Int × Int × Bool) (((List Int) × Int × Int × Int × Int × Int × Int × Int × Int × Int × Bool))) :=
  (F_reopen_Append.i1s16338 m (decide (x21.1 < (4 : Int)))).bind fun x23 =>
  match x23 with
  | .inl _ =>
    bif (decide ((0 : Int) ≤ x21.1)) && (decide (x21.1 < (x12.1.length : Int))) then
      bif Nat.blt x21.1.toNat x12.1.length then
        let x27 := IntKind.i64.wrap ((8 : Int) * x21.1)
        bif decide (x27 < (0 : Int)) then
          none
        else some (.next ((IntKind.i64.wrap (x21.1 + (1 : Int))), x21.2.1, (bitsOp .or .u32 x21.2.2.1 (shlOp .u32 (IntKind.u32.wrap (x12.1.getD x21.1.toNat 0)) x27)), x21.2.2.2))
      else none
    else none
  | .inr _ =>
    some (.fin x21.2)
noncomputable def F_reopen_Append (m : Fu) (p : (List Int) × (List (Int × Int × ((List Int) × (List Int) × Int × Int × Int) × (List Int) × Int × Int × Bool))) : Option ((List (Int × (List Int))) × Int) :=
  let a0 := p.1
  let a1 := p.2
  (F_disk_Many m a0).bind fun x1 =>
  (F_reopen_Append.i1s14 m x1).bind fun x3 =>
  match x3 with
  | .inl x4 =>
    bif x4 != (0 : Int) then
      some (([] : List (Int × (List Int))), x4)
    else none
  | .inr _ =>
    (F_reopen_Append.i1s30 m x1).bind fun x8 =>
    match x8 with
    | .inl x9 =>
      bif x9 != (0 : Int) then
        some (([] : List (Int × (List Int))), x9)
      else none
    | .inr _ =>
      (F_disk_Read m (a0, (0 : Int))).bind fun x12 =>
      (F_reopen_Append.i1s126 m x12).bind fun x14 =>
      match x14 with
      | .inl x15 =>
        bif x15 != (0 : Int) then
          some (([] : List (Int × (List Int))), x15)
        else none
      | .inr _ =>
        bif decide ((4 : Int) < (x12.1.length : Int)) then
          bif Nat.blt 4 x12.1.length then
            (F_reopen_half m x1.1).bind fun x20 =>
            (iter m (F_reopen_Append.i1l2042 m x12) ((0 : Int), a0, (0 : Int), (IntKind.i64.wrap (x12.1.getD 4 0)), x20, (0 : Int), (0 : Int), (0 : Int), (0 : Int), (0 : Int), (0 : Int), false)).bind fun x32 =>
            bif x32.2.1 == (0 : Int) then some (([] : List (Int × (List Int))), (230 : Int)) else
            bif decide ((1 : Int) < x32.2.2.1) then some (([] : List (Int × (List Int))), (230 : Int)) else
            (F_reopen_first m (x32.2.1, x32.2.2.1)).bind fun x35 =>
            (F_bytes_Equal m (x35.2, x12.1)).bind fun x36 =>
            bif !x36 then some (([] : List (Int × (List Int))), (230 : Int)) else
            (F_reopen_store_read m (x32.1, x32.2.1, x32.2.2.1, x32.2.2.2.1, ([] : List (List Int)), x32.2.2.2.2.1, x32.2.2.2.2.2.1, x32.2.2.2.2.2.2.1, x32.2.2.2.2.2.2.2.1, ([] : List Int), ([] : List (Int × (List Int) × (List Int) × Int × Int × Int)), x32.2.2.2.2.2.2.2.2)).bind fun x38 =>
            bif !x38.1 then some (([] : List (Int × (List Int))), (230 : Int)) else
            (F_reopen_store_append m (x38.2.1, x38.2.2.1, x38.2.2.2.1, x38.2.2.2.2.1, x38.2.2.2.2.2.1, x38.2.2.2.2.2.2.1, x38.2.2.2.2.2.2.2.1, x38.2.2.2.2.2.2.2.2.1, x38.2.2.2.2.2.2.2.2.2.1, x38.2.2.2.2.2.2.2.2.2.2.1, x38.2.2.2.2.2.2.2.2.2.2.2.1, x38.2.2.2.2.2.2.2.2.2.2.2.2.1, x38.2.2.2.2.2.2.2.2.2.2.2.2.2.1, x38.2.2.2.2.2.2.2.2.2.2.2.2.2.2, a1)).bind fun x40 =>
            some (x40.1, x40.2.1)
          else none
        else none
def F_reopen_Append.ann : List (Nat × Ann) := [(6, .inl [(1, [(14, .jnt [(.ret, ⟨[(2, false, [.cst .nilp]), (3, false, [.dat (.int .i64)])], [], [], [], 256⟩), (.normal, ⟨[], [], [], [], 256⟩)]), (30, .jnt [(.ret, ⟨[(2, false, [.cst .nilp]), (3, false, [.dat (.int .i64)])], [], [], [], 256⟩), (.normal, ⟨[], [], [], [], 256⟩)]), (126, .jnt [(.ret, ⟨[(2, false, [.cst .nilp]), (3, false, [.dat (.int .i64)])], [], [], [], 368⟩), (.normal, ⟨[], [], [], [], 368⟩)]), (2042, .loop ⟨[(36, false, [.dat (.int .i64)])], [(496, [.dat (.sl (.int .u8)), .dat (.int .u32), .dat (.int .i64), .dat (.int .i64), .cst .nils, .dat (.int .i64), .dat (.int .u32), .dat (.int .u32), .dat (.int .i64), .cst .nils, .cst .nils, .dat (.int .i64), .dat (.int .i64), .dat .bool])], [], [], 544⟩ [(.exit 0, ⟨[], [(496, [.dat (.sl (.int .u8)), .dat (.int .u32), .dat (.int .i64), .dat (.int .i64), .cst .nils, .dat (.int .i64), .dat (.int .u32), .dat (.int .u32), .dat (.int .i64), .cst .nils, .cst .nils, .dat (.int .i64), .dat (.int .i64), .dat .bool])], [], [], 544⟩)]), (16338, .jnt [(.normal, ⟨[], [], [], [], 560⟩), (.exit 0, ⟨[], [], [], [], 560⟩)])])])]
def F_reopen_Append.sig : Sig := ⟨[.val true [.sl (.int .u8)], .val false [.sl (.pr (.int .u8) (.pr (.int .i64) (.pr (.pr .str (.pr .str (.pr (.int .u32) (.pr (.int .i64) (.int .u64))))) (.pr .str (.pr (.int .u8) (.pr (.int .i64) .bool))))))]], [(false, [.own (.pr (.int .i64) (.sl (.int .u8))) 0 .wr]), (false, [.dat (.int .i64)])]⟩
noncomputable def F_reopen_Append.S : Summ := ⟨19, F_reopen_Append.sig, F_reopen_Append⟩
noncomputable def F_reopen_Append.G : List Summ := [F_disk_Many.S, F_reopen_store_append.S, F_disk_Read.S, F_reopen_half.S, F_reopen_first.S, F_bytes_Equal.S, F_reopen_store_read.S]
theorem F_reopen_Append.eq : absF Try.prog F_reopen_Append.G F_reopen_Append.ann F_reopen_Append.sig Try.f19 = F_reopen_Append := by kernel_rfl
theorem F_reopen_Append.sound : Sound Try.prog F_reopen_Append.S := absF_sound (fn := Try.f19) (Γ := F_reopen_Append.G) (all_cons F_disk_Many.sound (all_cons F_reopen_store_append.sound (all_cons F_disk_Read.sound (all_cons F_reopen_half.sound (all_cons F_reopen_first.sound (all_cons F_bytes_Equal.sound (all_cons F_reopen_store_read.sound all_nil))))))) mix (by kernel_rfl) (by kernel_rfl) (fun m p => congrFun (congrFun F_reopen_Append.eq m) p)
/-! ### cloakroom/cloakroomlaw23.done -/
noncomputable def F_law23_done.s6 (_ : Fu) (a1 : List (Int × (List Int))) (a2 : Int) : Option (Int) :=
  bif decide (a2 < (0 : Int)) then
    some (a1.length : Int)
  else some a2
noncomputable def F_law23_done (m : Fu) (p : (List Int) × (List (Int × (List Int))) × Int) : Option (List Int) :=
  let a0 := p.1
  let a1 := p.2.1
  let a2 := p.2.2
  (F_law23_done.s6 m a1 a2).bind fun x3 =>
  (F_disk_Do m (a0, a1, x3)).bind fun x4 =>
  bif x4.2 != (0 : Int) then
    some ([] : List Int)
  else some x4.1
def F_law23_done.ann : List (Nat × Ann) := [(6, .jnt [(.normal, ⟨[(2, false, [.dat (.int .i64)])], [], [], [], 80⟩)])]
def F_law23_done.sig : Sig := ⟨[.val true [.sl (.int .u8)], .val false [.sl (.pr (.int .i64) (.sl (.int .u8)))], .val false [.int .i64]], [(true, [.own (.int .u8) 0 .wr])]⟩
noncomputable def F_law23_done.S : Summ := ⟨21, F_law23_done.sig, F_law23_done⟩
noncomputable def F_law23_done.G : List Summ := [F_disk_Do.S]
theorem F_law23_done.eq : absF Try.prog F_law23_done.G F_law23_done.ann F_law23_done.sig Try.f21 = F_law23_done := by kernel_rfl
theorem F_law23_done.sound : Sound Try.prog F_law23_done.S := absF_sound (fn := Try.f21) (Γ := F_law23_done.G) (all_cons F_disk_Do.sound all_nil) mix (by kernel_rfl) (by kernel_rfl) (fun m p => congrFun (congrFun F_law23_done.eq m) p)
/-! ### cloakroom/reopen.Open -/
noncomputable def F_reopen_Open.i1s14 (_ : Fu) (x1 : Int × Int) : Option (Int ⊕ Unit) :=
  bif x1.2 != (0 : Int) then
    some (Sum.inl x1.2)
  else some (Sum.inr ())
noncomputable def F_reopen_Open.i1s30 (_ : Fu) (x1 : Int × Int) : Option (Int ⊕ Unit) :=
  bif decide (x1.1 < (3 : Int)) then
    some (Sum.inl (230 : Int))
  else some (Sum.inr ())
noncomputable def F_reopen_Open.i1s126 (_ : Fu) (x12 : (List Int) × Int) : Option (Int ⊕ Unit) :=
  bif x12.2 != (0 : Int) then
    some (Sum.inl x12.2)
  else some (Sum.inr ())
noncomputable def F_reopen_Open.i1s16338 (_ : Fu) (x22 : Bool) : Option (Unit ⊕ Unit) :=
  bif x22 then
    some (Sum.inl ())
  else some (Sum.inr ())
noncomputable def F_reopen_Open.i1l2042 (m : Fu) (x12 : (List Int) × Int) (x21 : Int × (List Int) × Int × Int × Int × Int × Int × Int × Int × Int × Int × Bool) : Option (Step (Int × (List Int) × Int × Int × Int × Int × Int × Int × Int × Int × Int × Bool) (((List Int) × Int × Int × Int × Int × Int × Int × Int × Int × Int × Bool))) :=
  (F_reopen_Open.i1s16338 m (decide (x21.1 < (4 : Int)))).bind fun x23 =>
  match x23 with
  | .inl _ =>
    bif (decide ((0 : Int) ≤ x21.1)) && (decide (x21.1 < (x12.1.length : Int))) then
      bif Nat.blt x21.1.toNat x12.1.length then
        let x27 := IntKind.i64.wrap ((8 : Int) * x21.1)
        bif decide (x27 < (0 : Int)) then
          none
        else some (.next ((IntKind.i64.wrap (x21.1 + (1 : Int))), x21.2.1, (bitsOp .or .u32 x21.2.2.1 (shlOp .u32 (IntKind.u32.wrap (x12.1.getD x21.1.toNat 0)) x27)), x21.2.2.2))
      else none
    else none
  | .inr _ =>
    some (.fin x21.2)
noncomputable def F_reopen_Open (m : Fu) (p : List Int) : Option (Int × (List Int) × (List (Int × (List Int) × (List Int) × Int × Int × Int)) × Int × Int × Bool × Int × Int) :=
  let a0 := p
  (F_disk_Many m a0).bind fun x1 =>
  (F_reopen_Open.i1s14 m x1).bind fun x3 =>
  match x3 with
  | .inl x4 =>
    bif x4 != (0 : Int) then
      some ((0 : Int), ([] : List Int), ([] : List (Int × (List Int) × (List Int) × Int × Int × Int)), (0 : Int), (0 : Int), false, (0 : Int), x4)
    else none
  | .inr _ =>
    (F_reopen_Open.i1s30 m x1).bind fun x8 =>
    match x8 with
    | .inl x9 =>
      bif x9 != (0 : Int) then
        some ((0 : Int), ([] : List Int), ([] : List (Int × (List Int) × (List Int) × Int × Int × Int)), (0 : Int), (0 : Int), false, (0 : Int), x9)
      else none
    | .inr _ =>
      (F_disk_Read m (a0, (0 : Int))).bind fun x12 =>
      (F_reopen_Open.i1s126 m x12).bind fun x14 =>
      match x14 with
      | .inl x15 =>
        bif x15 != (0 : Int) then
          some ((0 : Int), ([] : List Int), ([] : List (Int × (List Int) × (List Int) × Int × Int × Int)), (0 : Int), (0 : Int), false, (0 : Int), x15)
        else none
      | .inr _ =>
        bif decide ((4 : Int) < (x12.1.length : Int)) then
          bif Nat.blt 4 x12.1.length then
            (F_reopen_half m x1.1).bind fun x20 =>
            (iter m (F_reopen_Open.i1l2042 m x12) ((0 : Int), a0, (0 : Int), (IntKind.i64.wrap (x12.1.getD 4 0)), x20, (0 : Int), (0 : Int), (0 : Int), (0 : Int), (0 : Int), (0 : Int), false)).bind fun x32 =>
            bif x32.2.1 == (0 : Int) then some ((0 : Int), ([] : List Int), ([] : List (Int × (List Int) × (List Int) × Int × Int × Int)), (0 : Int), (0 : Int), false, (0 : Int), (230 : Int)) else
            bif decide ((1 : Int) < x32.2.2.1) then some ((0 : Int), ([] : List Int), ([] : List (Int × (List Int) × (List Int) × Int × Int × Int)), (0 : Int), (0 : Int), false, (0 : Int), (230 : Int)) else
            (F_reopen_first m (x32.2.1, x32.2.2.1)).bind fun x35 =>
            (F_bytes_Equal m (x35.2, x12.1)).bind fun x36 =>
            bif !x36 then some ((0 : Int), ([] : List Int), ([] : List (Int × (List Int) × (List Int) × Int × Int × Int)), (0 : Int), (0 : Int), false, (0 : Int), (230 : Int)) else
            (F_reopen_store_read m (x32.1, x32.2.1, x32.2.2.1, x32.2.2.2.1, ([] : List (List Int)), x32.2.2.2.2.1, x32.2.2.2.2.2.1, x32.2.2.2.2.2.2.1, x32.2.2.2.2.2.2.2.1, ([] : List Int), ([] : List (Int × (List Int) × (List Int) × Int × Int × Int)), x32.2.2.2.2.2.2.2.2)).bind fun x38 =>
            bif !x38.1 then
              some ((0 : Int), ([] : List Int), ([] : List (Int × (List Int) × (List Int) × Int × Int × Int)), (0 : Int), (0 : Int), false, (0 : Int), (230 : Int))
            else some (x38.2.2.2.2.2.2.2.2.2.1, x38.2.2.2.2.2.2.2.2.2.2.1, x38.2.2.2.2.2.2.2.2.2.2.2.1, x38.2.2.2.2.2.2.2.2.2.2.2.2.1, x38.2.2.2.2.2.2.2.2.2.2.2.2.2.1, x38.2.2.2.2.2.2.2.2.2.2.2.2.2.2, (IntKind.i64.wrap ((x38.2.2.2.2.2.1.length : Int) - (1 : Int))), (0 : Int))
          else none
        else none
def F_reopen_Open.ann : List (Nat × Ann) := [(6, .inl [(1, [(14, .jnt [(.ret, ⟨[(2, false, [.cst .nilp]), (3, false, [.dat (.int .i64)])], [], [], [], 256⟩), (.normal, ⟨[], [], [], [], 256⟩)]), (30, .jnt [(.ret, ⟨[(2, false, [.cst .nilp]), (3, false, [.dat (.int .i64)])], [], [], [], 256⟩), (.normal, ⟨[], [], [], [], 256⟩)]), (126, .jnt [(.ret, ⟨[(2, false, [.cst .nilp]), (3, false, [.dat (.int .i64)])], [], [], [], 368⟩), (.normal, ⟨[], [], [], [], 368⟩)]), (2042, .loop ⟨[(36, false, [.dat (.int .i64)])], [(496, [.dat (.sl (.int .u8)), .dat (.int .u32), .dat (.int .i64), .dat (.int .i64), .cst .nils, .dat (.int .i64), .dat (.int .u32), .dat (.int .u32), .dat (.int .i64), .cst .nils, .cst .nils, .dat (.int .i64), .dat (.int .i64), .dat .bool])], [], [], 544⟩ [(.exit 0, ⟨[], [(496, [.dat (.sl (.int .u8)), .dat (.int .u32), .dat (.int .i64), .dat (.int .i64), .cst .nils, .dat (.int .i64), .dat (.int .u32), .dat (.int .u32), .dat (.int .i64), .cst .nils, .cst .nils, .dat (.int .i64), .dat (.int .i64), .dat .bool])], [], [], 544⟩)]), (16338, .jnt [(.normal, ⟨[], [], [], [], 560⟩), (.exit 0, ⟨[], [], [], [], 560⟩)])])])]
def F_reopen_Open.sig : Sig := ⟨[.val true [.sl (.int .u8)]], [(true, [.dat (.int .i64), .dat (.sl (.int .i64)), .dat (.sl (.pr (.int .i64) (.pr .str (.pr .str (.pr (.int .u32) (.pr (.int .i64) (.int .u64))))))), .dat (.int .i64), .dat (.int .i64), .dat .bool]), (false, [.dat (.int .i64)]), (false, [.dat (.int .i64)])]⟩
noncomputable def F_reopen_Open.S : Summ := ⟨10, F_reopen_Open.sig, F_reopen_Open⟩
noncomputable def F_reopen_Open.G : List Summ := [F_disk_Many.S, F_disk_Read.S, F_reopen_half.S, F_reopen_first.S, F_bytes_Equal.S, F_reopen_store_read.S]
theorem F_reopen_Open.eq : absF Try.prog F_reopen_Open.G F_reopen_Open.ann F_reopen_Open.sig Try.f10 = F_reopen_Open := by kernel_rfl
theorem F_reopen_Open.sound : Sound Try.prog F_reopen_Open.S := absF_sound (fn := Try.f10) (Γ := F_reopen_Open.G) (all_cons F_disk_Many.sound (all_cons F_disk_Read.sound (all_cons F_reopen_half.sound (all_cons F_reopen_first.sound (all_cons F_bytes_Equal.sound (all_cons F_reopen_store_read.sound all_nil)))))) mix (by kernel_rfl) (by kernel_rfl) (fun m p => congrFun (congrFun F_reopen_Open.eq m) p)
/-! ### slices.Equal[[]int,int] -/
noncomputable def F_slices_Equal_int.l58 (_ : Fu) (a0 : List Int) (a1 : List Int) (x4 : Int) (x5 : Int) : Option (Step Int (Bool ⊕ Unit)) :=
  bif decide (x5 < x4) then
    bif (decide ((0 : Int) ≤ x5)) && (decide (x5 < (a0.length : Int))) then
      bif (decide ((0 : Int) ≤ x5)) && (decide (x5 < (a1.length : Int))) then
        bif (a0.getD x5.toNat 0) != (a1.getD x5.toNat 0) then
          some (.fin (Sum.inl false))
        else some (.next (IntKind.i64.wrap (x5 + (1 : Int))))
      else none
    else none
  else some (.fin (Sum.inr ()))
noncomputable def F_slices_Equal_int (m : Fu) (p : (List Int) × (List Int)) : Option (Bool) :=
  let a0 := p.1
  let a1 := p.2
  bif (a0.length : Int) != (a1.length : Int) then some false else
  (iter m (F_slices_Equal_int.l58 m a0 a1 (a0.length : Int)) (0 : Int)).bind fun x11 =>
  match x11 with
  | .inl x12 =>
    some x12
  | .inr _ =>
    some true
def F_slices_Equal_int.ann : List (Nat × Ann) := [(58, .loop ⟨[(13, false, [.dat (.int .i64)])], [], [], [], 176⟩ [(.ret, ⟨[(4, false, [.dat .bool])], [], [], [], 176⟩), (.exit 0, ⟨[], [], [], [], 176⟩)])]
def F_slices_Equal_int.sig : Sig := ⟨[.val false [.sl (.int .i64)], .val false [.sl (.int .i64)]], [(false, [.dat .bool])]⟩
noncomputable def F_slices_Equal_int.S : Summ := ⟨32, F_slices_Equal_int.sig, F_slices_Equal_int⟩
noncomputable def F_slices_Equal_int.G : List Summ := []
theorem F_slices_Equal_int.eq : absF Try.prog F_slices_Equal_int.G F_slices_Equal_int.ann F_slices_Equal_int.sig Try.f32 = F_slices_Equal_int := by kernel_rfl
theorem F_slices_Equal_int.sound : Sound Try.prog F_slices_Equal_int.S := absF_sound (fn := Try.f32) (Γ := F_slices_Equal_int.G) all_nil mix (by kernel_rfl) (by kernel_rfl) (fun m p => congrFun (congrFun F_slices_Equal_int.eq m) p)
/-! ### slices.Equal[[]cloakroom/api.Kept,cloakroom/api.Kept] -/
noncomputable def F_slices_Equal_Kept.l58 (_ : Fu) (a0 : List (Int × (List Int) × (List Int) × Int × Int × Int)) (a1 : List (Int × (List Int) × (List Int) × Int × Int × Int)) (x4 : Int) (x5 : Int) : Option (Step Int (Bool ⊕ Unit)) :=
  bif decide (x5 < x4) then
    bif (decide ((0 : Int) ≤ x5)) && (decide (x5 < (a0.length : Int))) then
      let x7 := a0.getD x5.toNat (0, ([], ([], (0, (0, 0)))))
      bif (decide ((0 : Int) ≤ x5)) && (decide (x5 < (a1.length : Int))) then
        let x8 := a1.getD x5.toNat (0, ([], ([], (0, (0, 0)))))
        bif !((x7.1 == x8.1) && (((x7.2.1 == x8.2.1) && ((x7.2.2.1 == x8.2.2.1) && ((x7.2.2.2.1 == x8.2.2.2.1) && ((x7.2.2.2.2.1 == x8.2.2.2.2.1) && ((x7.2.2.2.2.2 == x8.2.2.2.2.2) && true))))) && true)) then
          some (.fin (Sum.inl false))
        else some (.next (IntKind.i64.wrap (x5 + (1 : Int))))
      else none
    else none
  else some (.fin (Sum.inr ()))
noncomputable def F_slices_Equal_Kept (m : Fu) (p : (List (Int × (List Int) × (List Int) × Int × Int × Int)) × (List (Int × (List Int) × (List Int) × Int × Int × Int))) : Option (Bool) :=
  let a0 := p.1
  let a1 := p.2
  bif (a0.length : Int) != (a1.length : Int) then some false else
  (iter m (F_slices_Equal_Kept.l58 m a0 a1 (a0.length : Int)) (0 : Int)).bind fun x11 =>
  match x11 with
  | .inl x12 =>
    some x12
  | .inr _ =>
    some true
def F_slices_Equal_Kept.ann : List (Nat × Ann) := [(58, .loop ⟨[(13, false, [.dat (.int .i64)])], [], [], [], 176⟩ [(.ret, ⟨[(4, false, [.dat .bool])], [], [], [], 176⟩), (.exit 0, ⟨[], [], [], [], 176⟩)])]
def F_slices_Equal_Kept.sig : Sig := ⟨[.val false [.sl (.pr (.int .i64) (.pr .str (.pr .str (.pr (.int .u32) (.pr (.int .i64) (.int .u64))))))], .val false [.sl (.pr (.int .i64) (.pr .str (.pr .str (.pr (.int .u32) (.pr (.int .i64) (.int .u64))))))]], [(false, [.dat .bool])]⟩
noncomputable def F_slices_Equal_Kept.S : Summ := ⟨33, F_slices_Equal_Kept.sig, F_slices_Equal_Kept⟩
noncomputable def F_slices_Equal_Kept.G : List Summ := []
theorem F_slices_Equal_Kept.eq : absF Try.prog F_slices_Equal_Kept.G F_slices_Equal_Kept.ann F_slices_Equal_Kept.sig Try.f33 = F_slices_Equal_Kept := by kernel_rfl
theorem F_slices_Equal_Kept.sound : Sound Try.prog F_slices_Equal_Kept.S := absF_sound (fn := Try.f33) (Γ := F_slices_Equal_Kept.G) all_nil mix (by kernel_rfl) (by kernel_rfl) (fun m p => congrFun (congrFun F_slices_Equal_Kept.eq m) p)
/-! ### cloakroom/image.Same -/
noncomputable def F_image_Same (m : Fu) (p : Int × (List Int) × (List (Int × (List Int) × (List Int) × Int × Int × Int)) × Int × Int × Bool × Int × (List Int) × (List (Int × (List Int) × (List Int) × Int × Int × Int)) × Int × Int × Bool) : Option (Bool) :=
  let a0 := p.1
  let a1 := p.2.1
  let a2 := p.2.2.1
  let a3 := p.2.2.2.1
  let a4 := p.2.2.2.2.1
  let a5 := p.2.2.2.2.2.1
  let a6 := p.2.2.2.2.2.2.1
  let a7 := p.2.2.2.2.2.2.2.1
  let a8 := p.2.2.2.2.2.2.2.2.1
  let a9 := p.2.2.2.2.2.2.2.2.2.1
  let a10 := p.2.2.2.2.2.2.2.2.2.2.1
  let a11 := p.2.2.2.2.2.2.2.2.2.2.2
  bif a0 == a6 then
    bif a3 == a9 then
      bif a4 == a10 then
        bif a5 == a11 then
          (F_slices_Equal_int m (a1, a7)).bind fun x5 =>
          bif x5 then
            (F_slices_Equal_Kept m (a2, a8)).bind fun x6 =>
            some x6
          else some false
        else some false
      else some false
    else some false
  else some false
def F_image_Same.ann : List (Nat × Ann) := []
def F_image_Same.sig : Sig := ⟨[.val true [.int .i64, .sl (.int .i64), .sl (.pr (.int .i64) (.pr .str (.pr .str (.pr (.int .u32) (.pr (.int .i64) (.int .u64)))))), .int .i64, .int .i64, .bool], .val true [.int .i64, .sl (.int .i64), .sl (.pr (.int .i64) (.pr .str (.pr .str (.pr (.int .u32) (.pr (.int .i64) (.int .u64)))))), .int .i64, .int .i64, .bool]], [(false, [.dat .bool])]⟩
noncomputable def F_image_Same.S : Summ := ⟨13, F_image_Same.sig, F_image_Same⟩
noncomputable def F_image_Same.G : List Summ := [F_slices_Equal_int.S, F_slices_Equal_Kept.S]
theorem F_image_Same.eq : absF Try.prog F_image_Same.G F_image_Same.ann F_image_Same.sig Try.f13 = F_image_Same := by kernel_rfl
theorem F_image_Same.sound : Sound Try.prog F_image_Same.S := absF_sound (fn := Try.f13) (Γ := F_image_Same.G) (all_cons F_slices_Equal_int.sound (all_cons F_slices_Equal_Kept.sound all_nil)) mix (by kernel_rfl) (by kernel_rfl) (fun m p => congrFun (congrFun F_image_Same.eq m) p)
/-! ### cloakroom/cloakroomlaw23.alive -/
noncomputable def F_law23_alive (m : Fu) (_ : Unit) : Option (Bool) :=
  (F_law23_nine m ()).bind fun x1 =>
  (F_law23_put m ([97] : List Int)).bind fun x2 =>
  (F_reopen_Append m (x1.1, ([(x2.1, (x2.2.1, ((x2.2.2.1, (x2.2.2.2.1, (x2.2.2.2.2.1, (x2.2.2.2.2.2.1, x2.2.2.2.2.2.2.1)))), x2.2.2.2.2.2.2.2)))]))).bind fun x4 =>
  (F_law23_done m (x1.1, x4.1, (-1 : Int))).bind fun x5 =>
  (F_reopen_Open m x5).bind fun x6 =>
  (F_reopen_Open m x1.1).bind fun x7 =>
  bif x4.2 == (0 : Int) then
    bif x6.2.2.2.2.2.2.2 == (0 : Int) then
      bif x7.2.2.2.2.2.2.2 == (0 : Int) then
        bif x6.2.2.2.2.2.2.1 == (1 : Int) then
          bif x7.2.2.2.2.2.2.1 == (0 : Int) then
            bif (x6.2.2.1.length : Int) == (1 : Int) then
              bif decide ((0 : Int) < (x6.2.2.1.length : Int)) then
                bif (((x6.2.2.1.getD 0 (0, ([], ([], (0, (0, 0)))))).2).1) == ([97] : List Int) then
                  (F_image_Same m (x7.1, x7.2.1, x7.2.2.1, x7.2.2.2.1, x7.2.2.2.2.1, x7.2.2.2.2.2.1, x1.2)).bind fun x17 =>
                  some x17
                else some false
              else none
            else some false
          else some false
        else some false
      else some false
    else some false
  else some false
def F_law23_alive.ann : List (Nat × Ann) := []
def F_law23_alive.sig : Sig := ⟨[], [(false, [.dat .bool])]⟩
noncomputable def F_law23_alive.S : Summ := ⟨8, F_law23_alive.sig, F_law23_alive⟩
noncomputable def F_law23_alive.G : List Summ := [F_law23_nine.S, F_law23_put.S, F_reopen_Append.S, F_law23_done.S, F_reopen_Open.S, F_image_Same.S]
theorem F_law23_alive.eq : absF Try.prog F_law23_alive.G F_law23_alive.ann F_law23_alive.sig Try.f8 = F_law23_alive := by kernel_rfl
theorem F_law23_alive.sound : Sound Try.prog F_law23_alive.S := absF_sound (fn := Try.f8) (Γ := F_law23_alive.G) (all_cons F_law23_nine.sound (all_cons F_law23_put.sound (all_cons F_reopen_Append.sound (all_cons F_law23_done.sound (all_cons F_reopen_Open.sound (all_cons F_image_Same.sound all_nil)))))) mix (by kernel_rfl) (by kernel_rfl) (fun m p => congrFun (congrFun F_law23_alive.eq m) p)
/-! ### cloakroom/cloakroomref21.Great -/
noncomputable def F_ref21_Great.s232 (_ : Fu) (a2 : List (Int × (List Int) × (List Int) × Int × Int × Int)) (x1 : Int × Int) : Option (Unit ⊕ Unit) :=
  bif decide (x1.2 < (a2.length : Int)) then
    bif decide (x1.2 < (3000 : Int)) then
      some (Sum.inl ())
    else some (Sum.inr ())
  else some (Sum.inr ())
noncomputable def F_ref21_Great.l58 (m : Fu) (a2 : List (Int × (List Int) × (List Int) × Int × Int × Int)) (x1 : Int × Int) : Option (Step (Int × Int) Int) :=
  (F_ref21_Great.s232 m a2 x1).bind fun x5 =>
  match x5 with
  | .inl _ =>
    bif (decide ((0 : Int) ≤ x1.2)) && (decide (x1.2 < (a2.length : Int))) then
      bif (decide ((0 : Int) ≤ x1.2)) && (decide (x1.2 < (a2.length : Int))) then
        some (.next ((IntKind.i64.wrap ((IntKind.i64.wrap (x1.1 + (mnI ((((a2.getD x1.2.toNat (0, ([], ([], (0, (0, 0)))))).2).1).length : Int) (100000 : Int)))) + (mnI (((((a2.getD x1.2.toNat (0, ([], ([], (0, (0, 0)))))).2).2).1).length : Int) (100000 : Int)))), (IntKind.i64.wrap (x1.2 + (1 : Int)))))
      else none
    else none
  | .inr _ =>
    some (.fin x1.1)
noncomputable def F_ref21_Great (m : Fu) (p : Int × (List Int) × (List (Int × (List Int) × (List Int) × Int × Int × Int)) × Int × Int × Bool) : Option (Bool) :=
  let a1 := p.2.1
  let a2 := p.2.2.1
  (iter m (F_ref21_Great.l58 m a2) ((0 : Int), (0 : Int))).bind fun x17 =>
  bif decide ((40 : Int) < (a1.length : Int)) then some true else
  bif decide ((1100 : Int) < (a2.length : Int)) then
    some true
  else some (decide ((400000 : Int) < x17))
def F_ref21_Great.ann : List (Nat × Ann) := [(58, .loop ⟨[(3, false, [.dat (.int .i64)]), (4, false, [.dat (.int .i64)])], [], [], [], 80⟩ [(.exit 0, ⟨[(3, false, [.dat (.int .i64)])], [], [], [], 80⟩)]),
  (232, .jnt [(.normal, ⟨[], [], [], [], 80⟩), (.exit 0, ⟨[], [], [], [], 80⟩)])]
def F_ref21_Great.sig : Sig := ⟨[.val true [.int .i64, .sl (.int .i64), .sl (.pr (.int .i64) (.pr .str (.pr .str (.pr (.int .u32) (.pr (.int .i64) (.int .u64)))))), .int .i64, .int .i64, .bool]], [(false, [.dat .bool])]⟩
noncomputable def F_ref21_Great.S : Summ := ⟨24, F_ref21_Great.sig, F_ref21_Great⟩
noncomputable def F_ref21_Great.G : List Summ := []
theorem F_ref21_Great.eq : absF Try.prog F_ref21_Great.G F_ref21_Great.ann F_ref21_Great.sig Try.f24 = F_ref21_Great := by kernel_rfl
theorem F_ref21_Great.sound : Sound Try.prog F_ref21_Great.S := absF_sound (fn := Try.f24) (Γ := F_ref21_Great.G) all_nil mix (by kernel_rfl) (by kernel_rfl) (fun m p => congrFun (congrFun F_ref21_Great.eq m) p)
/-! ### cloakroom/cloakroomref01.Heavy -/
noncomputable def F_ref01_Heavy.s232 (_ : Fu) (a0 : List (Int × Int × ((List Int) × (List Int) × Int × Int × Int) × (List Int) × Int × Int × Bool)) (x1 : Int × Int) : Option (Unit ⊕ Unit) :=
  bif decide (x1.2 < (a0.length : Int)) then
    bif decide (x1.2 < (10000 : Int)) then
      some (Sum.inl ())
    else some (Sum.inr ())
  else some (Sum.inr ())
noncomputable def F_ref01_Heavy.l58 (m : Fu) (a0 : List (Int × Int × ((List Int) × (List Int) × Int × Int × Int) × (List Int) × Int × Int × Bool)) (x1 : Int × Int) : Option (Step (Int × Int) Int) :=
  (F_ref01_Heavy.s232 m a0 x1).bind fun x5 =>
  match x5 with
  | .inl _ =>
    bif (decide ((0 : Int) ≤ x1.2)) && (decide (x1.2 < (a0.length : Int))) then
      bif (decide ((0 : Int) ≤ x1.2)) && (decide (x1.2 < (a0.length : Int))) then
        bif (decide ((0 : Int) ≤ x1.2)) && (decide (x1.2 < (a0.length : Int))) then
          some (.next ((IntKind.i64.wrap ((IntKind.i64.wrap ((IntKind.i64.wrap (x1.1 + (mnI ((((((a0.getD x1.2.toNat (0, (0, (([], ([], (0, (0, 0)))), ([], (0, (0, false))))))).2).2).1).1).length : Int) (100000 : Int)))) + (mnI (((((((a0.getD x1.2.toNat (0, (0, (([], ([], (0, (0, 0)))), ([], (0, (0, false))))))).2).2).1).2).1).length : Int) (100000 : Int)))) + (mnI ((((((a0.getD x1.2.toNat (0, (0, (([], ([], (0, (0, 0)))), ([], (0, (0, false))))))).2).2).2).1).length : Int) (100000 : Int)))), (IntKind.i64.wrap (x1.2 + (1 : Int)))))
        else none
      else none
    else none
  | .inr _ =>
    some (.fin x1.1)
noncomputable def F_ref01_Heavy (m : Fu) (p : List (Int × Int × ((List Int) × (List Int) × Int × Int × Int) × (List Int) × Int × Int × Bool)) : Option (Bool) :=
  let a0 := p
  (iter m (F_ref01_Heavy.l58 m a0) ((0 : Int), (0 : Int))).bind fun x21 =>
  bif decide ((5000 : Int) < (a0.length : Int)) then
    some true
  else some (decide ((200000 : Int) < x21))
def F_ref01_Heavy.ann : List (Nat × Ann) := [(58, .loop ⟨[(3, false, [.dat (.int .i64)]), (4, false, [.dat (.int .i64)])], [], [], [], 64⟩ [(.exit 0, ⟨[(3, false, [.dat (.int .i64)])], [], [], [], 64⟩)]),
  (232, .jnt [(.normal, ⟨[], [], [], [], 64⟩), (.exit 0, ⟨[], [], [], [], 64⟩)])]
def F_ref01_Heavy.sig : Sig := ⟨[.val false [.sl (.pr (.int .u8) (.pr (.int .i64) (.pr (.pr .str (.pr .str (.pr (.int .u32) (.pr (.int .i64) (.int .u64))))) (.pr .str (.pr (.int .u8) (.pr (.int .i64) .bool))))))]], [(false, [.dat .bool])]⟩
noncomputable def F_ref01_Heavy.S : Summ := ⟨25, F_ref01_Heavy.sig, F_ref01_Heavy⟩
noncomputable def F_ref01_Heavy.G : List Summ := []
theorem F_ref01_Heavy.eq : absF Try.prog F_ref01_Heavy.G F_ref01_Heavy.ann F_ref01_Heavy.sig Try.f25 = F_ref01_Heavy := by kernel_rfl
theorem F_ref01_Heavy.sound : Sound Try.prog F_ref01_Heavy.S := absF_sound (fn := Try.f25) (Γ := F_ref01_Heavy.G) all_nil mix (by kernel_rfl) (by kernel_rfl) (fun m p => congrFun (congrFun F_ref01_Heavy.eq m) p)
/-! ### cloakroom/cloakroomlaw23.heavy -/
noncomputable def F_law23_heavy (m : Fu) (p : (List Int) × Int × (List Int) × (List (Int × (List Int) × (List Int) × Int × Int × Int)) × Int × Int × Bool × (List (Int × Int × ((List Int) × (List Int) × Int × Int × Int) × (List Int) × Int × Int × Bool))) : Option (Bool) :=
  let a0 := p.1
  let a1 := p.2.1
  let a2 := p.2.2.1
  let a3 := p.2.2.2.1
  let a4 := p.2.2.2.2.1
  let a5 := p.2.2.2.2.2.1
  let a6 := p.2.2.2.2.2.2.1
  let a7 := p.2.2.2.2.2.2.2
  bif decide ((40000 : Int) < (a0.length : Int)) then some true else
  (F_ref21_Great m (a1, a2, a3, a4, a5, a6)).bind fun x3 =>
  bif x3 then some true else
  bif decide ((200 : Int) < (a3.length : Int)) then some true else
  (F_ref01_Heavy m a7).bind fun x6 =>
  bif x6 then
    some true
  else some (decide ((300 : Int) < (a7.length : Int)))
def F_law23_heavy.ann : List (Nat × Ann) := []
def F_law23_heavy.sig : Sig := ⟨[.val true [.sl (.int .u8)], .val true [.int .i64, .sl (.int .i64), .sl (.pr (.int .i64) (.pr .str (.pr .str (.pr (.int .u32) (.pr (.int .i64) (.int .u64)))))), .int .i64, .int .i64, .bool], .val false [.sl (.pr (.int .u8) (.pr (.int .i64) (.pr (.pr .str (.pr .str (.pr (.int .u32) (.pr (.int .i64) (.int .u64))))) (.pr .str (.pr (.int .u8) (.pr (.int .i64) .bool))))))]], [(false, [.dat .bool])]⟩
noncomputable def F_law23_heavy.S : Summ := ⟨9, F_law23_heavy.sig, F_law23_heavy⟩
noncomputable def F_law23_heavy.G : List Summ := [F_ref21_Great.S, F_ref01_Heavy.S]
theorem F_law23_heavy.eq : absF Try.prog F_law23_heavy.G F_law23_heavy.ann F_law23_heavy.sig Try.f9 = F_law23_heavy := by kernel_rfl
theorem F_law23_heavy.sound : Sound Try.prog F_law23_heavy.S := absF_sound (fn := Try.f9) (Γ := F_law23_heavy.G) (all_cons F_ref21_Great.sound (all_cons F_ref01_Heavy.sound all_nil)) mix (by kernel_rfl) (by kernel_rfl) (fun m p => congrFun (congrFun F_law23_heavy.eq m) p)
/-! ### cloakroom/journal.Greatest -/
noncomputable def F_journal_Greatest.l58 (m : Fu) (x1 : (List (List Int)) × Int) (x2 : Int) (x3 : Int × Int) : Option (Step (Int × Int) Int) :=
  bif decide (x3.2 < x2) then
    bif (decide ((0 : Int) ≤ x3.2)) && (decide (x3.2 < (x1.1.length : Int))) then
      bif Nat.blt x3.2.toNat x1.1.length then
        let x5 := x1.1.getD x3.2.toNat []
        bif (decide ((4 : Int) ≤ (x5.length : Int))) && (decide ((x5.length : Int) ≤ (x5.length : Int))) then
          (F_journal_get m ((x5.take 4).drop 0)).bind fun x7 =>
          some (.next ((mxI x3.1 x7), (IntKind.i64.wrap (x3.2 + (1 : Int)))))
        else none
      else none
    else none
  else some (.fin x3.1)
noncomputable def F_journal_Greatest (m : Fu) (p : (List Int) × Int × Int) : Option (Int × Int) :=
  let a0 := p.1
  let a1 := p.2.1
  let a2 := p.2.2
  (F_journal_some m (a0, a1, a2)).bind fun x1 =>
  (iter m (F_journal_Greatest.l58 m x1 (x1.1.length : Int)) ((0 : Int), (0 : Int))).bind fun x10 =>
  some (x10, x1.2)
def F_journal_Greatest.ann : List (Nat × Ann) := [(58, .loop ⟨[(6, false, [.dat (.int .u32)]), (20, false, [.dat (.int .i64)])], [], [], [], 288⟩ [(.exit 0, ⟨[(6, false, [.dat (.int .u32)])], [], [], [], 288⟩)])]
def F_journal_Greatest.sig : Sig := ⟨[.val true [.sl (.int .u8)], .val false [.int .i64], .val false [.int .i64]], [(false, [.dat (.int .u32)]), (false, [.dat (.int .i64)])]⟩
noncomputable def F_journal_Greatest.S : Summ := ⟨51, F_journal_Greatest.sig, F_journal_Greatest⟩
noncomputable def F_journal_Greatest.G : List Summ := [F_journal_some.S, F_journal_get.S]
theorem F_journal_Greatest.eq : absF Try.prog F_journal_Greatest.G F_journal_Greatest.ann F_journal_Greatest.sig Try.f51 = F_journal_Greatest := by kernel_rfl
theorem F_journal_Greatest.sound : Sound Try.prog F_journal_Greatest.S := absF_sound (fn := Try.f51) (Γ := F_journal_Greatest.G) (all_cons F_journal_some.sound (all_cons F_journal_get.sound all_nil)) mix (by kernel_rfl) (by kernel_rfl) (fun m p => congrFun (congrFun F_journal_Greatest.eq m) p)
/-! ### (*cloakroom/reopen.store).swap -/
noncomputable def F_reopen_store_swap (m : Fu) (p : (List Int) × Int × Int × Int × (List (List Int)) × Int × Int × Int × Int × (List Int) × (List (Int × (List Int) × (List Int) × Int × Int × Int)) × Int × Int × Bool × Int × (List Int) × (List (Int × (List Int) × (List Int) × Int × Int × Int)) × Int × Int × Bool) : Option ((List (Int × (List Int))) × Int × (List Int) × Int × Int × Int × (List (List Int)) × Int × Int × Int × Int × (List Int) × (List (Int × (List Int) × (List Int) × Int × Int × Int)) × Int × Int × Bool) :=
  let a0 := p.1
  let a1 := p.2.1
  let a2 := p.2.2.1
  let a3 := p.2.2.2.1
  let a4 := p.2.2.2.2.1
  let a5 := p.2.2.2.2.2.1
  let a6 := p.2.2.2.2.2.2.1
  let a7 := p.2.2.2.2.2.2.2.1
  let a8 := p.2.2.2.2.2.2.2.2.1
  let a9 := p.2.2.2.2.2.2.2.2.2.1
  let a10 := p.2.2.2.2.2.2.2.2.2.2.1
  let a11 := p.2.2.2.2.2.2.2.2.2.2.2.1
  let a12 := p.2.2.2.2.2.2.2.2.2.2.2.2.1
  let a13 := p.2.2.2.2.2.2.2.2.2.2.2.2.2.1
  let a14 := p.2.2.2.2.2.2.2.2.2.2.2.2.2.2.1
  let a15 := p.2.2.2.2.2.2.2.2.2.2.2.2.2.2.2.1
  let a16 := p.2.2.2.2.2.2.2.2.2.2.2.2.2.2.2.2.1
  let a17 := p.2.2.2.2.2.2.2.2.2.2.2.2.2.2.2.2.2.1
  let a18 := p.2.2.2.2.2.2.2.2.2.2.2.2.2.2.2.2.2.2.1
  let a19 := p.2.2.2.2.2.2.2.2.2.2.2.2.2.2.2.2.2.2.2
  let x1 := IntKind.i64.wrap ((1 : Int) - a2)
  (F_reopen_store_from_r m (a3, x1)).bind fun x2 =>
  (F_journal_Greatest m (a0, x2, a3)).bind fun x3 =>
  bif x3.2 != (0 : Int) then some (([] : List (Int × (List Int))), x3.2, a0, a1, a2, a3, a4, a5, a6, a7, a8, a9, a10, a11, a12, a13) else
  let x6 := IntKind.u32.wrap ((mxI x3.1 a1) + (1 : Int))
  (F_reopen_record m (a14, a15, a16, a17, a18, a19, x6, a3)).bind fun x7 =>
  bif x7.2 != (0 : Int) then some (([] : List (Int × (List Int))), x7.2, a0, a1, a2, a3, a4, a5, a6, a7, a8, a9, a10, a11, a12, a13) else
  (F_reopen_store_from_r m (a3, x1)).bind fun x9 =>
  (F_reopen_first m (x6, x1)).bind fun x10 =>
  (F_reopen_puts m (x7.1, x9, ([x10]))).bind fun x12 =>
  some (x12, (0 : Int), a0, a1, a2, a3, a4, a5, a6, a7, a8, a9, a10, a11, a12, a13)
def F_reopen_store_swap.ann : List (Nat × Ann) := []
def F_reopen_store_swap.sig : Sig := ⟨[.box [.sl (.int .u8), .int .u32, .int .i64, .int .i64, .sl (.sl (.int .u8)), .int .i64, .int .u32, .int .u32, .int .i64, .sl (.int .i64), .sl (.pr (.int .i64) (.pr .str (.pr .str (.pr (.int .u32) (.pr (.int .i64) (.int .u64)))))), .int .i64, .int .i64, .bool], .val true [.int .i64, .sl (.int .i64), .sl (.pr (.int .i64) (.pr .str (.pr .str (.pr (.int .u32) (.pr (.int .i64) (.int .u64)))))), .int .i64, .int .i64, .bool]], [(false, [.own (.pr (.int .i64) (.sl (.int .u8))) 0 .wr]), (false, [.dat (.int .i64)])]⟩
noncomputable def F_reopen_store_swap.S : Summ := ⟨27, F_reopen_store_swap.sig, F_reopen_store_swap⟩
noncomputable def F_reopen_store_swap.G : List Summ := [F_reopen_store_from_r.S, F_journal_Greatest.S, F_reopen_record.S, F_reopen_first.S, F_reopen_puts.S]
theorem F_reopen_store_swap.eq : absF Try.prog F_reopen_store_swap.G F_reopen_store_swap.ann F_reopen_store_swap.sig Try.f27 = F_reopen_store_swap := by kernel_rfl
theorem F_reopen_store_swap.sound : Sound Try.prog F_reopen_store_swap.S := absF_sound (fn := Try.f27) (Γ := F_reopen_store_swap.G) (all_cons F_reopen_store_from_r.sound (all_cons F_journal_Greatest.sound (all_cons F_reopen_record.sound (all_cons F_reopen_first.sound (all_cons F_reopen_puts.sound all_nil))))) mix (by kernel_rfl) (by kernel_rfl) (fun m p => congrFun (congrFun F_reopen_store_swap.eq m) p)
/-! ### cloakroom/reopen.Swap -/
noncomputable def F_reopen_Swap.i1s14 (_ : Fu) (x1 : Int × Int) : Option (Int ⊕ Unit) :=
  bif x1.2 != (0 : Int) then
    some (Sum.inl x1.2)
  else some (Sum.inr ())
noncomputable def F_reopen_Swap.i1s30 (_ : Fu) (x1 : Int × Int) : Option (Int ⊕ Unit) :=
  bif decide (x1.1 < (3 : Int)) then
    some (Sum.inl (230 : Int))
  else some (Sum.inr ())
noncomputable def F_reopen_Swap.i1s126 (_ : Fu) (x12 : (List Int) × Int) : Option (Int ⊕ Unit) :=
  bif x12.2 != (0 : Int) then
    some (Sum.inl x12.2)
  else some (Sum.inr ())
noncomputable def F_reopen_Swap.i1s16338 (_ : Fu) (x22 : Bool) : Option (Unit ⊕ Unit) :=
  bif x22 then
    some (Sum.inl ())
  else some (Sum.inr ())
noncomputable def F_reopen_Swap.i1l2042 (m : Fu) (x12 : (List Int) × Int) (x21 : Int × (List Int) × Int × Int × Int × Int × Int × Int × Int × Int × Int × Bool) : Option (Step (Int × (List Int) × Int × Int × Int × Int × Int × Int × Int × Int × Int × Bool) (((List Int) × Int × Int × Int × Int × Int × Int × Int × Int × Int × Bool))) :=
  (F_reopen_Swap.i1s16338 m (decide (x21.1 < (4 : Int)))).bind fun x23 =>
  match x23 with
  | .inl _ =>
    bif (decide ((0 : Int) ≤ x21.1)) && (decide (x21.1 < (x12.1.length : Int))) then
      bif Nat.blt x21.1.toNat x12.1.length then
        let x27 := IntKind.i64.wrap ((8 : Int) * x21.1)
        bif decide (x27 < (0 : Int)) then
          none
        else some (.next ((IntKind.i64.wrap (x21.1 + (1 : Int))), x21.2.1, (bitsOp .or .u32 x21.2.2.1 (shlOp .u32 (IntKind.u32.wrap (x12.1.getD x21.1.toNat 0)) x27)), x21.2.2.2))
      else none
    else none
  | .inr _ =>
    some (.fin x21.2)
noncomputable def F_reopen_Swap (m : Fu) (p : (List Int) × Int × (List Int) × (List (Int × (List Int) × (List Int) × Int × Int × Int)) × Int × Int × Bool) : Option ((List (Int × (List Int))) × Int) :=
  let a0 := p.1
  let a1 := p.2.1
  let a2 := p.2.2.1
  let a3 := p.2.2.2.1
  let a4 := p.2.2.2.2.1
  let a5 := p.2.2.2.2.2.1
  let a6 := p.2.2.2.2.2.2
  (F_disk_Many m a0).bind fun x1 =>
  (F_reopen_Swap.i1s14 m x1).bind fun x3 =>
  match x3 with
  | .inl x4 =>
    bif x4 != (0 : Int) then
      some (([] : List (Int × (List Int))), x4)
    else none
  | .inr _ =>
    (F_reopen_Swap.i1s30 m x1).bind fun x8 =>
    match x8 with
    | .inl x9 =>
      bif x9 != (0 : Int) then
        some (([] : List (Int × (List Int))), x9)
      else none
    | .inr _ =>
      (F_disk_Read m (a0, (0 : Int))).bind fun x12 =>
      (F_reopen_Swap.i1s126 m x12).bind fun x14 =>
      match x14 with
      | .inl x15 =>
        bif x15 != (0 : Int) then
          some (([] : List (Int × (List Int))), x15)
        else none
      | .inr _ =>
        bif decide ((4 : Int) < (x12.1.length : Int)) then
          bif Nat.blt 4 x12.1.length then
            (F_reopen_half m x1.1).bind fun x20 =>
            (iter m (F_reopen_Swap.i1l2042 m x12) ((0 : Int), a0, (0 : Int), (IntKind.i64.wrap (x12.1.getD 4 0)), x20, (0 : Int), (0 : Int), (0 : Int), (0 : Int), (0 : Int), (0 : Int), false)).bind fun x32 =>
            bif x32.2.1 == (0 : Int) then some (([] : List (Int × (List Int))), (230 : Int)) else
            bif decide ((1 : Int) < x32.2.2.1) then some (([] : List (Int × (List Int))), (230 : Int)) else
            (F_reopen_first m (x32.2.1, x32.2.2.1)).bind fun x35 =>
            (F_bytes_Equal m (x35.2, x12.1)).bind fun x36 =>
            bif !x36 then some (([] : List (Int × (List Int))), (230 : Int)) else
            (F_reopen_store_read m (x32.1, x32.2.1, x32.2.2.1, x32.2.2.2.1, ([] : List (List Int)), x32.2.2.2.2.1, x32.2.2.2.2.2.1, x32.2.2.2.2.2.2.1, x32.2.2.2.2.2.2.2.1, ([] : List Int), ([] : List (Int × (List Int) × (List Int) × Int × Int × Int)), x32.2.2.2.2.2.2.2.2)).bind fun x38 =>
            bif !x38.1 then some (([] : List (Int × (List Int))), (230 : Int)) else
            (F_reopen_store_swap m (x38.2.1, x38.2.2.1, x38.2.2.2.1, x38.2.2.2.2.1, x38.2.2.2.2.2.1, x38.2.2.2.2.2.2.1, x38.2.2.2.2.2.2.2.1, x38.2.2.2.2.2.2.2.2.1, x38.2.2.2.2.2.2.2.2.2.1, x38.2.2.2.2.2.2.2.2.2.2.1, x38.2.2.2.2.2.2.2.2.2.2.2.1, x38.2.2.2.2.2.2.2.2.2.2.2.2.1, x38.2.2.2.2.2.2.2.2.2.2.2.2.2.1, x38.2.2.2.2.2.2.2.2.2.2.2.2.2.2, a1, a2, a3, a4, a5, a6)).bind fun x40 =>
            some (x40.1, x40.2.1)
          else none
        else none
def F_reopen_Swap.ann : List (Nat × Ann) := [(6, .inl [(1, [(14, .jnt [(.ret, ⟨[(2, false, [.cst .nilp]), (3, false, [.dat (.int .i64)])], [], [], [], 272⟩), (.normal, ⟨[], [], [], [], 272⟩)]), (30, .jnt [(.ret, ⟨[(2, false, [.cst .nilp]), (3, false, [.dat (.int .i64)])], [], [], [], 272⟩), (.normal, ⟨[], [], [], [], 272⟩)]), (126, .jnt [(.ret, ⟨[(2, false, [.cst .nilp]), (3, false, [.dat (.int .i64)])], [], [], [], 384⟩), (.normal, ⟨[], [], [], [], 384⟩)]), (2042, .loop ⟨[(36, false, [.dat (.int .i64)])], [(512, [.dat (.sl (.int .u8)), .dat (.int .u32), .dat (.int .i64), .dat (.int .i64), .cst .nils, .dat (.int .i64), .dat (.int .u32), .dat (.int .u32), .dat (.int .i64), .cst .nils, .cst .nils, .dat (.int .i64), .dat (.int .i64), .dat .bool])], [], [], 560⟩ [(.exit 0, ⟨[], [(512, [.dat (.sl (.int .u8)), .dat (.int .u32), .dat (.int .i64), .dat (.int .i64), .cst .nils, .dat (.int .i64), .dat (.int .u32), .dat (.int .u32), .dat (.int .i64), .cst .nils, .cst .nils, .dat (.int .i64), .dat (.int .i64), .dat .bool])], [], [], 560⟩)]), (16338, .jnt [(.normal, ⟨[], [], [], [], 576⟩), (.exit 0, ⟨[], [], [], [], 576⟩)])])])]
def F_reopen_Swap.sig : Sig := ⟨[.val true [.sl (.int .u8)], .val true [.int .i64, .sl (.int .i64), .sl (.pr (.int .i64) (.pr .str (.pr .str (.pr (.int .u32) (.pr (.int .i64) (.int .u64)))))), .int .i64, .int .i64, .bool]], [(false, [.own (.pr (.int .i64) (.sl (.int .u8))) 0 .wr]), (false, [.dat (.int .i64)])]⟩
noncomputable def F_reopen_Swap.S : Summ := ⟨11, F_reopen_Swap.sig, F_reopen_Swap⟩
noncomputable def F_reopen_Swap.G : List Summ := [F_disk_Many.S, F_reopen_store_swap.S, F_disk_Read.S, F_reopen_half.S, F_reopen_first.S, F_bytes_Equal.S, F_reopen_store_read.S]
theorem F_reopen_Swap.eq : absF Try.prog F_reopen_Swap.G F_reopen_Swap.ann F_reopen_Swap.sig Try.f11 = F_reopen_Swap := by kernel_rfl
theorem F_reopen_Swap.sound : Sound Try.prog F_reopen_Swap.S := absF_sound (fn := Try.f11) (Γ := F_reopen_Swap.G) (all_cons F_disk_Many.sound (all_cons F_reopen_store_swap.sound (all_cons F_disk_Read.sound (all_cons F_reopen_half.sound (all_cons F_reopen_first.sound (all_cons F_bytes_Equal.sound (all_cons F_reopen_store_read.sound all_nil))))))) mix (by kernel_rfl) (by kernel_rfl) (fun m p => congrFun (congrFun F_reopen_Swap.eq m) p)
/-! ### cloakroom/reopen.Compact -/
noncomputable def F_reopen_Compact.i1s14 (_ : Fu) (x1 : Int × Int) : Option (Int ⊕ Unit) :=
  bif x1.2 != (0 : Int) then
    some (Sum.inl x1.2)
  else some (Sum.inr ())
noncomputable def F_reopen_Compact.i1s30 (_ : Fu) (x1 : Int × Int) : Option (Int ⊕ Unit) :=
  bif decide (x1.1 < (3 : Int)) then
    some (Sum.inl (230 : Int))
  else some (Sum.inr ())
noncomputable def F_reopen_Compact.i1s126 (_ : Fu) (x12 : (List Int) × Int) : Option (Int ⊕ Unit) :=
  bif x12.2 != (0 : Int) then
    some (Sum.inl x12.2)
  else some (Sum.inr ())
noncomputable def F_reopen_Compact.i1s16338 (_ : Fu) (x22 : Bool) : Option (Unit ⊕ Unit) :=
  bif x22 then
    some (Sum.inl ())
  else some (Sum.inr ())
noncomputable def F_reopen_Compact.i1l2042 (m : Fu) (x12 : (List Int) × Int) (x21 : Int × (List Int) × Int × Int × Int × Int × Int × Int × Int × Int × Int × Bool) : Option (Step (Int × (List Int) × Int × Int × Int × Int × Int × Int × Int × Int × Int × Bool) (((List Int) × Int × Int × Int × Int × Int × Int × Int × Int × Int × Bool))) :=
  (F_reopen_Compact.i1s16338 m (decide (x21.1 < (4 : Int)))).bind fun x23 =>
  match x23 with
  | .inl _ =>
    bif (decide ((0 : Int) ≤ x21.1)) && (decide (x21.1 < (x12.1.length : Int))) then
      bif Nat.blt x21.1.toNat x12.1.length then
        let x27 := IntKind.i64.wrap ((8 : Int) * x21.1)
        bif decide (x27 < (0 : Int)) then
          none
        else some (.next ((IntKind.i64.wrap (x21.1 + (1 : Int))), x21.2.1, (bitsOp .or .u32 x21.2.2.1 (shlOp .u32 (IntKind.u32.wrap (x12.1.getD x21.1.toNat 0)) x27)), x21.2.2.2))
      else none
    else none
  | .inr _ =>
    some (.fin x21.2)
noncomputable def F_reopen_Compact (m : Fu) (p : List Int) : Option ((List (Int × (List Int))) × Int) :=
  let a0 := p
  (F_disk_Many m a0).bind fun x1 =>
  (F_reopen_Compact.i1s14 m x1).bind fun x3 =>
  match x3 with
  | .inl x4 =>
    bif x4 != (0 : Int) then
      some (([] : List (Int × (List Int))), x4)
    else none
  | .inr _ =>
    (F_reopen_Compact.i1s30 m x1).bind fun x8 =>
    match x8 with
    | .inl x9 =>
      bif x9 != (0 : Int) then
        some (([] : List (Int × (List Int))), x9)
      else none
    | .inr _ =>
      (F_disk_Read m (a0, (0 : Int))).bind fun x12 =>
      (F_reopen_Compact.i1s126 m x12).bind fun x14 =>
      match x14 with
      | .inl x15 =>
        bif x15 != (0 : Int) then
          some (([] : List (Int × (List Int))), x15)
        else none
      | .inr _ =>
        bif decide ((4 : Int) < (x12.1.length : Int)) then
          bif Nat.blt 4 x12.1.length then
            (F_reopen_half m x1.1).bind fun x20 =>
            (iter m (F_reopen_Compact.i1l2042 m x12) ((0 : Int), a0, (0 : Int), (IntKind.i64.wrap (x12.1.getD 4 0)), x20, (0 : Int), (0 : Int), (0 : Int), (0 : Int), (0 : Int), (0 : Int), false)).bind fun x32 =>
            bif x32.2.1 == (0 : Int) then some (([] : List (Int × (List Int))), (230 : Int)) else
            bif decide ((1 : Int) < x32.2.2.1) then some (([] : List (Int × (List Int))), (230 : Int)) else
            (F_reopen_first m (x32.2.1, x32.2.2.1)).bind fun x35 =>
            (F_bytes_Equal m (x35.2, x12.1)).bind fun x36 =>
            bif !x36 then some (([] : List (Int × (List Int))), (230 : Int)) else
            (F_reopen_store_read m (x32.1, x32.2.1, x32.2.2.1, x32.2.2.2.1, ([] : List (List Int)), x32.2.2.2.2.1, x32.2.2.2.2.2.1, x32.2.2.2.2.2.2.1, x32.2.2.2.2.2.2.2.1, ([] : List Int), ([] : List (Int × (List Int) × (List Int) × Int × Int × Int)), x32.2.2.2.2.2.2.2.2)).bind fun x38 =>
            bif !x38.1 then some (([] : List (Int × (List Int))), (230 : Int)) else
            (F_reopen_store_swap m (x38.2.1, x38.2.2.1, x38.2.2.2.1, x38.2.2.2.2.1, x38.2.2.2.2.2.1, x38.2.2.2.2.2.2.1, x38.2.2.2.2.2.2.2.1, x38.2.2.2.2.2.2.2.2.1, x38.2.2.2.2.2.2.2.2.2.1, x38.2.2.2.2.2.2.2.2.2.2.1, x38.2.2.2.2.2.2.2.2.2.2.2.1, x38.2.2.2.2.2.2.2.2.2.2.2.2.1, x38.2.2.2.2.2.2.2.2.2.2.2.2.2.1, x38.2.2.2.2.2.2.2.2.2.2.2.2.2.2, x38.2.2.2.2.2.2.2.2.2)).bind fun x40 =>
            some (x40.1, x40.2.1)
          else none
        else none
def F_reopen_Compact.ann : List (Nat × Ann) := [(6, .inl [(1, [(14, .jnt [(.ret, ⟨[(2, false, [.cst .nilp]), (3, false, [.dat (.int .i64)])], [], [], [], 240⟩), (.normal, ⟨[], [], [], [], 240⟩)]), (30, .jnt [(.ret, ⟨[(2, false, [.cst .nilp]), (3, false, [.dat (.int .i64)])], [], [], [], 240⟩), (.normal, ⟨[], [], [], [], 240⟩)]), (126, .jnt [(.ret, ⟨[(2, false, [.cst .nilp]), (3, false, [.dat (.int .i64)])], [], [], [], 352⟩), (.normal, ⟨[], [], [], [], 352⟩)]), (2042, .loop ⟨[(36, false, [.dat (.int .i64)])], [(480, [.dat (.sl (.int .u8)), .dat (.int .u32), .dat (.int .i64), .dat (.int .i64), .cst .nils, .dat (.int .i64), .dat (.int .u32), .dat (.int .u32), .dat (.int .i64), .cst .nils, .cst .nils, .dat (.int .i64), .dat (.int .i64), .dat .bool])], [], [], 528⟩ [(.exit 0, ⟨[], [(480, [.dat (.sl (.int .u8)), .dat (.int .u32), .dat (.int .i64), .dat (.int .i64), .cst .nils, .dat (.int .i64), .dat (.int .u32), .dat (.int .u32), .dat (.int .i64), .cst .nils, .cst .nils, .dat (.int .i64), .dat (.int .i64), .dat .bool])], [], [], 528⟩)]), (16338, .jnt [(.normal, ⟨[], [], [], [], 544⟩), (.exit 0, ⟨[], [], [], [], 544⟩)])])])]
def F_reopen_Compact.sig : Sig := ⟨[.val true [.sl (.int .u8)]], [(false, [.own (.pr (.int .i64) (.sl (.int .u8))) 0 .wr]), (false, [.dat (.int .i64)])]⟩
noncomputable def F_reopen_Compact.S : Summ := ⟨14, F_reopen_Compact.sig, F_reopen_Compact⟩
noncomputable def F_reopen_Compact.G : List Summ := [F_disk_Many.S, F_disk_Read.S, F_reopen_half.S, F_reopen_first.S, F_bytes_Equal.S, F_reopen_store_read.S, F_reopen_store_swap.S]
theorem F_reopen_Compact.eq : absF Try.prog F_reopen_Compact.G F_reopen_Compact.ann F_reopen_Compact.sig Try.f14 = F_reopen_Compact := by kernel_rfl
theorem F_reopen_Compact.sound : Sound Try.prog F_reopen_Compact.S := absF_sound (fn := Try.f14) (Γ := F_reopen_Compact.G) (all_cons F_disk_Many.sound (all_cons F_disk_Read.sound (all_cons F_reopen_half.sound (all_cons F_reopen_first.sound (all_cons F_bytes_Equal.sound (all_cons F_reopen_store_read.sound (all_cons F_reopen_store_swap.sound all_nil))))))) mix (by kernel_rfl) (by kernel_rfl) (fun m p => congrFun (congrFun F_reopen_Compact.eq m) p)
/-! ### cloakroom/cloakroomlaw23.ReopenSwaps -/
noncomputable def F_law23_ReopenSwaps.s1020 (_ : Fu) (a7 : Int) (x6 : (List (Int × (List Int))) × Int) : Option (Bool) :=
  bif x6.2 == (0 : Int) then
    bif decide ((0 : Int) ≤ a7) then
      some (decide (a7 ≤ (x6.1.length : Int)))
    else some false
  else some false
noncomputable def F_law23_ReopenSwaps.s510 (m : Fu) (a0 : List Int) (a1 : Int) (a2 : List Int) (a3 : List (Int × (List Int) × (List Int) × Int × Int × Int)) (a4 : Int) (a5 : Int) (a6 : Bool) (a7 : Int) (x4 : Int × (List Int) × (List (Int × (List Int) × (List Int) × Int × Int × Int)) × Int × Int × Bool × Int × Int) (x6 : (List (Int × (List Int))) × Int) : Option (Bool ⊕ Unit) :=
  (F_law23_ReopenSwaps.s1020 m a7 x6).bind fun x11 =>
  bif x11 then
    (F_disk_Do m (a0, x6.1, a7)).bind fun x12 =>
    (F_reopen_Open m x12.1).bind fun x13 =>
    bif x12.2 != (0 : Int) then some (Sum.inl false) else
    bif x13.2.2.2.2.2.2.2 != (0 : Int) then some (Sum.inl false) else
    bif decide (a7 < (x6.1.length : Int)) then
      (F_image_Same m (x13.1, x13.2.1, x13.2.2.1, x13.2.2.2.1, x13.2.2.2.2.1, x13.2.2.2.2.2.1, x4.1, x4.2.1, x4.2.2.1, x4.2.2.2.1, x4.2.2.2.2.1, x4.2.2.2.2.2.1)).bind fun x18 =>
      bif !x18 then some (Sum.inl false) else
      bif x13.2.2.2.2.2.2.1 != x4.2.2.2.2.2.2.1 then some (Sum.inl false) else
      bif a7 == (x6.1.length : Int) then
        (F_image_Same m (x13.1, x13.2.1, x13.2.2.1, x13.2.2.2.1, x13.2.2.2.2.1, x13.2.2.2.2.2.1, a1, a2, a3, a4, a5, a6)).bind fun x23 =>
        bif !x23 then some (Sum.inl false) else
        bif x13.2.2.2.2.2.2.1 != (0 : Int) then
          some (Sum.inl false)
        else some (Sum.inr ())
      else some (Sum.inr ())
    else
      bif a7 == (x6.1.length : Int) then
        (F_image_Same m (x13.1, x13.2.1, x13.2.2.1, x13.2.2.2.1, x13.2.2.2.2.1, x13.2.2.2.2.2.1, a1, a2, a3, a4, a5, a6)).bind fun x28 =>
        bif !x28 then some (Sum.inl false) else
        bif x13.2.2.2.2.2.2.1 != (0 : Int) then
          some (Sum.inl false)
        else some (Sum.inr ())
      else some (Sum.inr ())
  else some (Sum.inr ())
noncomputable def F_law23_ReopenSwaps (m : Fu) (p : (List Int) × Int × (List Int) × (List (Int × (List Int) × (List Int) × Int × Int × Int)) × Int × Int × Bool × Int) : Option (Bool) :=
  let a0 := p.1
  let a1 := p.2.1
  let a2 := p.2.2.1
  let a3 := p.2.2.2.1
  let a4 := p.2.2.2.2.1
  let a5 := p.2.2.2.2.2.1
  let a6 := p.2.2.2.2.2.2.1
  let a7 := p.2.2.2.2.2.2.2
  (F_law23_alive m ()).bind fun x1 =>
  bif !x1 then some false else
  (F_law23_heavy m (a0, a1, a2, a3, a4, a5, a6, ([] : List (Int × Int × ((List Int) × (List Int) × Int × Int × Int) × (List Int) × Int × Int × Bool)))).bind fun x3 =>
  bif x3 then some x1 else
  (F_reopen_Open m a0).bind fun x4 =>
  bif x4.2.2.2.2.2.2.2 != (0 : Int) then some x1 else
  (F_reopen_Swap m (a0, a1, a2, a3, a4, a5, a6)).bind fun x6 =>
  (F_law23_ReopenSwaps.s510 m a0 a1 a2 a3 a4 a5 a6 a7 x4 x6).bind fun x31 =>
  match x31 with
  | .inl x32 =>
    some x32
  | .inr _ =>
    (F_reopen_Compact m a0).bind fun x34 =>
    bif x34.2 != (0 : Int) then
      bif x1 then
        some ((x34.1.length : Int) == (0 : Int))
      else some false
    else
      (F_disk_Do m (a0, x34.1, (mnI (mxI a7 (0 : Int)) (x34.1.length : Int)))).bind fun x41 =>
      (F_reopen_Open m x41.1).bind fun x42 =>
      bif x1 then
        bif x41.2 == (0 : Int) then
          bif x42.2.2.2.2.2.2.2 == (0 : Int) then
            (F_image_Same m (x42.1, x42.2.1, x42.2.2.1, x42.2.2.2.1, x42.2.2.2.2.1, x42.2.2.2.2.2.1, x4.1, x4.2.1, x4.2.2.1, x4.2.2.2.1, x4.2.2.2.2.1, x4.2.2.2.2.2.1)).bind fun x45 =>
            some x45
          else some false
        else some false
      else some false
def F_law23_ReopenSwaps.ann : List (Nat × Ann) := [(510, .jnt [(.ret, ⟨[(6, false, [.dat .bool])], [], [], [], 528⟩), (.normal, ⟨[], [], [], [], 528⟩)]),
  (1020, .jnt [(.normal, ⟨[(57, false, [.dat .bool])], [], [], [], 528⟩)])]
def F_law23_ReopenSwaps.sig : Sig := ⟨[.val true [.sl (.int .u8)], .val true [.int .i64, .sl (.int .i64), .sl (.pr (.int .i64) (.pr .str (.pr .str (.pr (.int .u32) (.pr (.int .i64) (.int .u64)))))), .int .i64, .int .i64, .bool], .val false [.int .i64]], [(false, [.dat .bool])]⟩
noncomputable def F_law23_ReopenSwaps.S : Summ := ⟨3, F_law23_ReopenSwaps.sig, F_law23_ReopenSwaps⟩
noncomputable def F_law23_ReopenSwaps.G : List Summ := [F_law23_alive.S, F_law23_heavy.S, F_reopen_Open.S, F_reopen_Swap.S, F_disk_Do.S, F_image_Same.S, F_reopen_Compact.S]
theorem F_law23_ReopenSwaps.eq : absF Try.prog F_law23_ReopenSwaps.G F_law23_ReopenSwaps.ann F_law23_ReopenSwaps.sig Try.f3 = F_law23_ReopenSwaps := by kernel_rfl
theorem F_law23_ReopenSwaps.sound : Sound Try.prog F_law23_ReopenSwaps.S := absF_sound (fn := Try.f3) (Γ := F_law23_ReopenSwaps.G) (all_cons F_law23_alive.sound (all_cons F_law23_heavy.sound (all_cons F_reopen_Open.sound (all_cons F_reopen_Swap.sound (all_cons F_disk_Do.sound (all_cons F_image_Same.sound (all_cons F_reopen_Compact.sound all_nil))))))) mix (by kernel_rfl) (by kernel_rfl) (fun m p => congrFun (congrFun F_law23_ReopenSwaps.eq m) p)
/-! ### cloakroom/reopen.Keep -/
noncomputable def F_reopen_Keep.i1s14 (_ : Fu) (x1 : Int × Int) : Option (Int ⊕ Unit) :=
  bif x1.2 != (0 : Int) then
    some (Sum.inl x1.2)
  else some (Sum.inr ())
noncomputable def F_reopen_Keep.i1s30 (_ : Fu) (x1 : Int × Int) : Option (Int ⊕ Unit) :=
  bif decide (x1.1 < (3 : Int)) then
    some (Sum.inl (230 : Int))
  else some (Sum.inr ())
noncomputable def F_reopen_Keep.i1s126 (_ : Fu) (x12 : (List Int) × Int) : Option (Int ⊕ Unit) :=
  bif x12.2 != (0 : Int) then
    some (Sum.inl x12.2)
  else some (Sum.inr ())
noncomputable def F_reopen_Keep.i1s16338 (_ : Fu) (x22 : Bool) : Option (Unit ⊕ Unit) :=
  bif x22 then
    some (Sum.inl ())
  else some (Sum.inr ())
noncomputable def F_reopen_Keep.i1l2042 (m : Fu) (x12 : (List Int) × Int) (x21 : Int × (List Int) × Int × Int × Int × Int × Int × Int × Int × Int × Int × Bool) : Option (Step (Int × (List Int) × Int × Int × Int × Int × Int × Int × Int × Int × Int × Bool) (((List Int) × Int × Int × Int × Int × Int × Int × Int × Int × Int × Bool))) :=
  (F_reopen_Keep.i1s16338 m (decide (x21.1 < (4 : Int)))).bind fun x23 =>
  match x23 with
  | .inl _ =>
    bif (decide ((0 : Int) ≤ x21.1)) && (decide (x21.1 < (x12.1.length : Int))) then
      bif Nat.blt x21.1.toNat x12.1.length then
        let x27 := IntKind.i64.wrap ((8 : Int) * x21.1)
        bif decide (x27 < (0 : Int)) then
          none
        else some (.next ((IntKind.i64.wrap (x21.1 + (1 : Int))), x21.2.1, (bitsOp .or .u32 x21.2.2.1 (shlOp .u32 (IntKind.u32.wrap (x12.1.getD x21.1.toNat 0)) x27)), x21.2.2.2))
      else none
    else none
  | .inr _ =>
    some (.fin x21.2)
noncomputable def F_reopen_Keep (m : Fu) (p : (List Int) × (List (Int × Int × ((List Int) × (List Int) × Int × Int × Int) × (List Int) × Int × Int × Bool))) : Option ((List (Int × (List Int))) × Int) :=
  let a0 := p.1
  let a1 := p.2
  (F_disk_Many m a0).bind fun x1 =>
  (F_reopen_Keep.i1s14 m x1).bind fun x3 =>
  match x3 with
  | .inl x4 =>
    bif x4 != (0 : Int) then
      some (([] : List (Int × (List Int))), x4)
    else none
  | .inr _ =>
    (F_reopen_Keep.i1s30 m x1).bind fun x8 =>
    match x8 with
    | .inl x9 =>
      bif x9 != (0 : Int) then
        some (([] : List (Int × (List Int))), x9)
      else none
    | .inr _ =>
      (F_disk_Read m (a0, (0 : Int))).bind fun x12 =>
      (F_reopen_Keep.i1s126 m x12).bind fun x14 =>
      match x14 with
      | .inl x15 =>
        bif x15 != (0 : Int) then
          some (([] : List (Int × (List Int))), x15)
        else none
      | .inr _ =>
        bif decide ((4 : Int) < (x12.1.length : Int)) then
          bif Nat.blt 4 x12.1.length then
            (F_reopen_half m x1.1).bind fun x20 =>
            (iter m (F_reopen_Keep.i1l2042 m x12) ((0 : Int), a0, (0 : Int), (IntKind.i64.wrap (x12.1.getD 4 0)), x20, (0 : Int), (0 : Int), (0 : Int), (0 : Int), (0 : Int), (0 : Int), false)).bind fun x32 =>
            bif x32.2.1 == (0 : Int) then some (([] : List (Int × (List Int))), (230 : Int)) else
            bif decide ((1 : Int) < x32.2.2.1) then some (([] : List (Int × (List Int))), (230 : Int)) else
            (F_reopen_first m (x32.2.1, x32.2.2.1)).bind fun x35 =>
            (F_bytes_Equal m (x35.2, x12.1)).bind fun x36 =>
            bif !x36 then some (([] : List (Int × (List Int))), (230 : Int)) else
            (F_reopen_store_read m (x32.1, x32.2.1, x32.2.2.1, x32.2.2.2.1, ([] : List (List Int)), x32.2.2.2.2.1, x32.2.2.2.2.2.1, x32.2.2.2.2.2.2.1, x32.2.2.2.2.2.2.2.1, ([] : List Int), ([] : List (Int × (List Int) × (List Int) × Int × Int × Int)), x32.2.2.2.2.2.2.2.2)).bind fun x38 =>
            bif !x38.1 then some (([] : List (Int × (List Int))), (230 : Int)) else
            (F_reopen_store_append m (x38.2.1, x38.2.2.1, x38.2.2.2.1, x38.2.2.2.2.1, x38.2.2.2.2.2.1, x38.2.2.2.2.2.2.1, x38.2.2.2.2.2.2.2.1, x38.2.2.2.2.2.2.2.2.1, x38.2.2.2.2.2.2.2.2.2.1, x38.2.2.2.2.2.2.2.2.2.2.1, x38.2.2.2.2.2.2.2.2.2.2.2.1, x38.2.2.2.2.2.2.2.2.2.2.2.2.1, x38.2.2.2.2.2.2.2.2.2.2.2.2.2.1, x38.2.2.2.2.2.2.2.2.2.2.2.2.2.2, a1)).bind fun x40 =>
            bif x40.2.1 != (9 : Int) then some (x40.1, x40.2.1) else
            (F_reopen_store_swap m (x40.2.2.1, x40.2.2.2.1, x40.2.2.2.2.1, x40.2.2.2.2.2.1, x40.2.2.2.2.2.2.1, x40.2.2.2.2.2.2.2.1, x40.2.2.2.2.2.2.2.2.1, x40.2.2.2.2.2.2.2.2.2.1, x40.2.2.2.2.2.2.2.2.2.2.1, x40.2.2.2.2.2.2.2.2.2.2.2.1, x40.2.2.2.2.2.2.2.2.2.2.2.2.1, x40.2.2.2.2.2.2.2.2.2.2.2.2.2.1, x40.2.2.2.2.2.2.2.2.2.2.2.2.2.2.1, x40.2.2.2.2.2.2.2.2.2.2.2.2.2.2.2, x40.2.2.2.2.2.2.2.2.2.2)).bind fun x42 =>
            bif x42.2.1 != (0 : Int) then some (([] : List (Int × (List Int))), x42.2.1) else
            (F_disk_Do m (a0, x42.1, (x42.1.length : Int))).bind fun x45 =>
            bif x45.2 != (0 : Int) then some (([] : List (Int × (List Int))), x45.2) else
            (F_reopen_Append m (x45.1, a1)).bind fun x47 =>
            bif x47.2 != (0 : Int) then some (([] : List (Int × (List Int))), x47.2) else
            bif Nat.ble (x42.1.length + x47.1.length) 4294967296 then
              some ((x42.1 ++ x47.1), (0 : Int))
            else none
          else none
        else none
def F_reopen_Keep.ann : List (Nat × Ann) := [(6, .inl [(1, [(14, .jnt [(.ret, ⟨[(2, false, [.cst .nilp]), (3, false, [.dat (.int .i64)])], [], [], [], 256⟩), (.normal, ⟨[], [], [], [], 256⟩)]), (30, .jnt [(.ret, ⟨[(2, false, [.cst .nilp]), (3, false, [.dat (.int .i64)])], [], [], [], 256⟩), (.normal, ⟨[], [], [], [], 256⟩)]), (126, .jnt [(.ret, ⟨[(2, false, [.cst .nilp]), (3, false, [.dat (.int .i64)])], [], [], [], 368⟩), (.normal, ⟨[], [], [], [], 368⟩)]), (2042, .loop ⟨[(36, false, [.dat (.int .i64)])], [(496, [.dat (.sl (.int .u8)), .dat (.int .u32), .dat (.int .i64), .dat (.int .i64), .cst .nils, .dat (.int .i64), .dat (.int .u32), .dat (.int .u32), .dat (.int .i64), .cst .nils, .cst .nils, .dat (.int .i64), .dat (.int .i64), .dat .bool])], [], [], 544⟩ [(.exit 0, ⟨[], [(496, [.dat (.sl (.int .u8)), .dat (.int .u32), .dat (.int .i64), .dat (.int .i64), .cst .nils, .dat (.int .i64), .dat (.int .u32), .dat (.int .u32), .dat (.int .i64), .cst .nils, .cst .nils, .dat (.int .i64), .dat (.int .i64), .dat .bool])], [], [], 544⟩)]), (16338, .jnt [(.normal, ⟨[], [], [], [], 560⟩), (.exit 0, ⟨[], [], [], [], 560⟩)])])])]
def F_reopen_Keep.sig : Sig := ⟨[.val true [.sl (.int .u8)], .val false [.sl (.pr (.int .u8) (.pr (.int .i64) (.pr (.pr .str (.pr .str (.pr (.int .u32) (.pr (.int .i64) (.int .u64))))) (.pr .str (.pr (.int .u8) (.pr (.int .i64) .bool))))))]], [(false, [.own (.pr (.int .i64) (.sl (.int .u8))) 0 .wr]), (false, [.dat (.int .i64)])]⟩
noncomputable def F_reopen_Keep.S : Summ := ⟨15, F_reopen_Keep.sig, F_reopen_Keep⟩
noncomputable def F_reopen_Keep.G : List Summ := [F_disk_Many.S, F_reopen_store_append.S, F_disk_Read.S, F_reopen_half.S, F_reopen_first.S, F_bytes_Equal.S, F_reopen_store_read.S, F_reopen_store_swap.S, F_disk_Do.S, F_reopen_Append.S]
theorem F_reopen_Keep.eq : absF Try.prog F_reopen_Keep.G F_reopen_Keep.ann F_reopen_Keep.sig Try.f15 = F_reopen_Keep := by kernel_rfl
theorem F_reopen_Keep.sound : Sound Try.prog F_reopen_Keep.S := absF_sound (fn := Try.f15) (Γ := F_reopen_Keep.G) (all_cons F_disk_Many.sound (all_cons F_reopen_store_append.sound (all_cons F_disk_Read.sound (all_cons F_reopen_half.sound (all_cons F_reopen_first.sound (all_cons F_bytes_Equal.sound (all_cons F_reopen_store_read.sound (all_cons F_reopen_store_swap.sound (all_cons F_disk_Do.sound (all_cons F_reopen_Append.sound all_nil)))))))))) mix (by kernel_rfl) (by kernel_rfl) (fun m p => congrFun (congrFun F_reopen_Keep.eq m) p)
/-! ### cloakroom/cloakroomlaw23.ReopenTorn -/
noncomputable def F_law23_ReopenTorn (m : Fu) (p : (List Int) × (List (Int × Int × ((List Int) × (List Int) × Int × Int × Int) × (List Int) × Int × Int × Bool)) × Int) : Option (Bool) :=
  let a0 := p.1
  let a1 := p.2.1
  let a2 := p.2.2
  (F_law23_alive m ()).bind fun x1 =>
  bif !x1 then some false else
  (F_law23_heavy m (a0, (0 : Int), ([] : List Int), ([] : List (Int × (List Int) × (List Int) × Int × Int × Int)), (0 : Int), (0 : Int), false, a1)).bind fun x3 =>
  bif x3 then some x1 else
  (F_reopen_Open m a0).bind fun x4 =>
  (F_reopen_Keep m (a0, a1)).bind fun x5 =>
  bif x4.2.2.2.2.2.2.2 != (0 : Int) then some x1 else
  bif x5.2 != (0 : Int) then some x1 else
  bif decide (a2 < (0 : Int)) then some x1 else
  bif decide ((x5.1.length : Int) < a2) then some x1 else
  (F_image_Apply m (x4.1, x4.2.1, x4.2.2.1, x4.2.2.2.1, x4.2.2.2.2.1, x4.2.2.2.2.2.1, a1)).bind fun x11 =>
  (F_disk_Do m (a0, x5.1, a2)).bind fun x12 =>
  (F_reopen_Open m x12.1).bind fun x13 =>
  bif x11.2.2.2.2.2.2 != (0 : Int) then some false else
  bif x12.2 != (0 : Int) then some false else
  bif x13.2.2.2.2.2.2.2 != (0 : Int) then some false else
  bif a2 == (x5.1.length : Int) then
    bif x1 then
      (F_image_Same m (x13.1, x13.2.1, x13.2.2.1, x13.2.2.2.1, x13.2.2.2.2.1, x13.2.2.2.2.2.1, x11.1, x11.2.1, x11.2.2.1, x11.2.2.2.1, x11.2.2.2.2.1, x11.2.2.2.2.2.1)).bind fun x19 =>
      some x19
    else some false
  else
    bif x1 then
      (F_image_Same m (x13.1, x13.2.1, x13.2.2.1, x13.2.2.2.1, x13.2.2.2.2.1, x13.2.2.2.2.2.1, x4.1, x4.2.1, x4.2.2.1, x4.2.2.2.1, x4.2.2.2.2.1, x4.2.2.2.2.2.1)).bind fun x20 =>
      some x20
    else some false
def F_law23_ReopenTorn.ann : List (Nat × Ann) := []
def F_law23_ReopenTorn.sig : Sig := ⟨[.val true [.sl (.int .u8)], .val false [.sl (.pr (.int .u8) (.pr (.int .i64) (.pr (.pr .str (.pr .str (.pr (.int .u32) (.pr (.int .i64) (.int .u64))))) (.pr .str (.pr (.int .u8) (.pr (.int .i64) .bool))))))], .val false [.int .i64]], [(false, [.dat .bool])]⟩
noncomputable def F_law23_ReopenTorn.S : Summ := ⟨4, F_law23_ReopenTorn.sig, F_law23_ReopenTorn⟩
noncomputable def F_law23_ReopenTorn.G : List Summ := [F_law23_alive.S, F_law23_heavy.S, F_reopen_Open.S, F_reopen_Keep.S, F_image_Apply.S, F_disk_Do.S, F_image_Same.S]
theorem F_law23_ReopenTorn.eq : absF Try.prog F_law23_ReopenTorn.G F_law23_ReopenTorn.ann F_law23_ReopenTorn.sig Try.f4 = F_law23_ReopenTorn := by kernel_rfl
theorem F_law23_ReopenTorn.sound : Sound Try.prog F_law23_ReopenTorn.S := absF_sound (fn := Try.f4) (Γ := F_law23_ReopenTorn.G) (all_cons F_law23_alive.sound (all_cons F_law23_heavy.sound (all_cons F_reopen_Open.sound (all_cons F_reopen_Keep.sound (all_cons F_image_Apply.sound (all_cons F_disk_Do.sound (all_cons F_image_Same.sound all_nil))))))) mix (by kernel_rfl) (by kernel_rfl) (fun m p => congrFun (congrFun F_law23_ReopenTorn.eq m) p)
/-! ### cloakroom/cloakroomlaw23.blocks -/
noncomputable def F_law23_blocks.l58 (_ : Fu) (a0 : List (Int × (List Int))) (x1 : (List Int) × Int) : Option (Step ((List Int) × Int) ((List Int))) :=
  bif decide (x1.2 < (a0.length : Int)) then
    bif (decide ((0 : Int) ≤ x1.2)) && (decide (x1.2 < (a0.length : Int))) then
      let x8 := [(IntKind.u8.wrap (IntKind.i64.wrap ((48 : Int) + (((a0.getD x1.2.toNat (0, [])).1).tmod (10 : Int)))))]
      bif Nat.ble (x1.1.length + x8.length) 140737488351232 then
        some (.next ((x1.1 ++ x8), (IntKind.i64.wrap (x1.2 + (1 : Int)))))
      else none
    else none
  else some (.fin x1.1)
noncomputable def F_law23_blocks (m : Fu) (p : List (Int × (List Int))) : Option (List Int) :=
  let a0 := p
  (iter m (F_law23_blocks.l58 m a0) (([] : List Int), (0 : Int))).bind fun x11 =>
  some x11
def F_law23_blocks.ann : List (Nat × Ann) := [(58, .loop ⟨[(3, false, [.dat .str]), (4, false, [.dat (.int .i64)])], [], [], [], 64⟩ [(.exit 0, ⟨[(3, false, [.dat .str])], [], [], [], 64⟩)])]
def F_law23_blocks.sig : Sig := ⟨[.val false [.sl (.pr (.int .i64) (.sl (.int .u8)))]], [(false, [.dat .str])]⟩
noncomputable def F_law23_blocks.S : Summ := ⟨22, F_law23_blocks.sig, F_law23_blocks⟩
noncomputable def F_law23_blocks.G : List Summ := []
theorem F_law23_blocks.eq : absF Try.prog F_law23_blocks.G F_law23_blocks.ann F_law23_blocks.sig Try.f22 = F_law23_blocks := by kernel_rfl
theorem F_law23_blocks.sound : Sound Try.prog F_law23_blocks.S := absF_sound (fn := Try.f22) (Γ := F_law23_blocks.G) all_nil mix (by kernel_rfl) (by kernel_rfl) (fun m p => congrFun (congrFun F_law23_blocks.eq m) p)
/-! ### cloakroom/cloakroomlaw23.ReopenNames -/
noncomputable def F_law23_ReopenNames.l32762 (m : Fu) (x15 : (List Int) × Int × (List Int)) : Option (Step ((List Int) × Int × (List Int)) (Bool ⊕ (List Int))) :=
  bif decide (x15.2.1 < (4 : Int)) then
    (F_law23_put m ([97] : List Int)).bind fun x17 =>
    (F_reopen_Keep m (x15.2.2, ([(x17.1, (x17.2.1, ((x17.2.2.1, (x17.2.2.2.1, (x17.2.2.2.2.1, (x17.2.2.2.2.2.1, x17.2.2.2.2.2.2.1)))), x17.2.2.2.2.2.2.2)))]))).bind fun x19 =>
    bif x19.2 != (0 : Int) then some (.fin (Sum.inl false)) else
    (F_law23_blocks m x19.1).bind fun x21 =>
    (F_law23_done m (x15.2.2, x19.1, (-1 : Int))).bind fun x22 =>
    some (.next (x21, (IntKind.i64.wrap (x15.2.1 + (1 : Int))), x22))
  else some (.fin (Sum.inr x15.1))
noncomputable def F_law23_ReopenNames (m : Fu) (_ : Unit) : Option (Bool) :=
  (F_law23_alive m ()).bind fun x1 =>
  bif !x1 then some false else
  (F_law23_nine m ()).bind fun x3 =>
  (F_reopen_Format m ((2 : Int), x3.2)).bind fun x4 =>
  (F_reopen_Format m ((4097 : Int), x3.2)).bind fun x5 =>
  (F_law23_put m ([97] : List Int)).bind fun x6 =>
  (F_reopen_Append m (x3.1, ([(x6.1, (x6.2.1, ((x6.2.2.1, (x6.2.2.2.1, (x6.2.2.2.2.1, (x6.2.2.2.2.2.1, x6.2.2.2.2.2.2.1)))), x6.2.2.2.2.2.2.2)))]))).bind fun x8 =>
  (F_law23_done m (x3.1, x8.1, (-1 : Int))).bind fun x9 =>
  (F_reopen_Compact m x9).bind fun x10 =>
  (F_law23_done m (x9, x10.1, (-1 : Int))).bind fun x11 =>
  (F_reopen_Open m x11).bind fun x12 =>
  (F_law23_done m (x9, x10.1, (1 : Int))).bind fun x13 =>
  (F_reopen_Open m x13).bind fun x14 =>
  (iter m (F_law23_ReopenNames.l32762 m) (([] : List Int), (0 : Int), x3.1)).bind fun x24 =>
  match x24 with
  | .inl x25 =>
    some x25
  | .inr x26 =>
    (F_reopen_Open m (List.replicate 256 0)).bind fun x28 =>
    bif x4.2 == (230 : Int) then
      bif x5.2 == (20 : Int) then
        (F_law23_blocks m x8.1).bind fun x31 =>
        bif x31 == ([50] : List Int) then
          bif x10.2 == (0 : Int) then
            (F_law23_blocks m x10.1).bind fun x34 =>
            bif x34 == ([53, 48] : List Int) then
              bif x12.2.2.2.2.2.2.2 == (0 : Int) then
                bif x12.2.2.2.2.2.2.1 == (0 : Int) then
                  bif (x12.2.2.1.length : Int) == (1 : Int) then
                    bif x14.2.2.2.2.2.2.2 == (0 : Int) then
                      bif x14.2.2.2.2.2.2.1 == (1 : Int) then
                        bif (x14.2.2.1.length : Int) == (1 : Int) then
                          bif x26 == ([53, 48, 54] : List Int) then
                            some (x28.2.2.2.2.2.2.2 == (230 : Int))
                          else some false
                        else some false
                      else some false
                    else some false
                  else some false
                else some false
              else some false
            else some false
          else some false
        else some false
      else some false
    else some false
def F_law23_ReopenNames.ann : List (Nat × Ann) := [(32762, .loop ⟨[(18, false, [.dat .str]), (19, false, [.dat (.int .i64)])], [(112, [.own (.int .u8) 1184 .fr])], [], [48], 1185⟩ [(.ret, ⟨[(0, false, [.dat .bool])], [], [], [48, 112], 1184⟩), (.exit 0, ⟨[(18, false, [.dat .str])], [], [], [48, 112], 1184⟩)])]
def F_law23_ReopenNames.sig : Sig := ⟨[], [(false, [.dat .bool])]⟩
noncomputable def F_law23_ReopenNames.S : Summ := ⟨5, F_law23_ReopenNames.sig, F_law23_ReopenNames⟩
noncomputable def F_law23_ReopenNames.G : List Summ := [F_law23_alive.S, F_law23_nine.S, F_reopen_Format.S, F_law23_put.S, F_reopen_Append.S, F_law23_done.S, F_reopen_Compact.S, F_reopen_Open.S, F_reopen_Keep.S, F_law23_blocks.S]
theorem F_law23_ReopenNames.eq : absF Try.prog F_law23_ReopenNames.G F_law23_ReopenNames.ann F_law23_ReopenNames.sig Try.f5 = F_law23_ReopenNames := by kernel_rfl
theorem F_law23_ReopenNames.sound : Sound Try.prog F_law23_ReopenNames.S := absF_sound (fn := Try.f5) (Γ := F_law23_ReopenNames.G) (all_cons F_law23_alive.sound (all_cons F_law23_nine.sound (all_cons F_reopen_Format.sound (all_cons F_law23_put.sound (all_cons F_reopen_Append.sound (all_cons F_law23_done.sound (all_cons F_reopen_Compact.sound (all_cons F_reopen_Open.sound (all_cons F_reopen_Keep.sound (all_cons F_law23_blocks.sound all_nil)))))))))) mix (by kernel_rfl) (by kernel_rfl) (fun m p => congrFun (congrFun F_law23_ReopenNames.eq m) p)
/-! ### cloakroom/cloakroomlaw23.ReopenRoom -/
noncomputable def F_law23_ReopenRoom (m : Fu) (p : (List Int) × (List (Int × Int × ((List Int) × (List Int) × Int × Int × Int) × (List Int) × Int × Int × Bool))) : Option (Bool) :=
  let a0 := p.1
  let a1 := p.2
  (F_law23_alive m ()).bind fun x1 =>
  bif !x1 then some false else
  (F_law23_heavy m (a0, (0 : Int), ([] : List Int), ([] : List (Int × (List Int) × (List Int) × Int × Int × Int)), (0 : Int), (0 : Int), false, a1)).bind fun x3 =>
  bif x3 then some x1 else
  (F_reopen_Open m a0).bind fun x4 =>
  (F_reopen_Keep m (a0, a1)).bind fun x5 =>
  bif x4.2.2.2.2.2.2.2 != (0 : Int) then some x1 else
  bif x5.2 != (9 : Int) then some x1 else
  (F_image_Apply m (x4.1, x4.2.1, x4.2.2.1, x4.2.2.2.1, x4.2.2.2.2.1, x4.2.2.2.2.2.1, a1)).bind fun x8 =>
  bif x8.2.2.2.2.2.2 == (9 : Int) then some x1 else
  (F_reopen_Compact m a0).bind fun x10 =>
  bif x10.2 != (0 : Int) then
    bif x1 then
      some (x10.2 == (9 : Int))
    else some false
  else
    (F_disk_Do m (a0, x10.1, (x10.1.length : Int))).bind fun x14 =>
    (F_reopen_Append m (x14.1, a1)).bind fun x15 =>
    bif x1 then
      bif x8.2.2.2.2.2.2 == (0 : Int) then
        bif x14.2 == (0 : Int) then
          some (x15.2 == (9 : Int))
        else some false
      else some false
    else some false
def F_law23_ReopenRoom.ann : List (Nat × Ann) := []
def F_law23_ReopenRoom.sig : Sig := ⟨[.val true [.sl (.int .u8)], .val false [.sl (.pr (.int .u8) (.pr (.int .i64) (.pr (.pr .str (.pr .str (.pr (.int .u32) (.pr (.int .i64) (.int .u64))))) (.pr .str (.pr (.int .u8) (.pr (.int .i64) .bool))))))]], [(false, [.dat .bool])]⟩
noncomputable def F_law23_ReopenRoom.S : Summ := ⟨6, F_law23_ReopenRoom.sig, F_law23_ReopenRoom⟩
noncomputable def F_law23_ReopenRoom.G : List Summ := [F_law23_alive.S, F_law23_heavy.S, F_reopen_Open.S, F_reopen_Keep.S, F_image_Apply.S, F_reopen_Compact.S, F_disk_Do.S, F_reopen_Append.S]
theorem F_law23_ReopenRoom.eq : absF Try.prog F_law23_ReopenRoom.G F_law23_ReopenRoom.ann F_law23_ReopenRoom.sig Try.f6 = F_law23_ReopenRoom := by kernel_rfl
theorem F_law23_ReopenRoom.sound : Sound Try.prog F_law23_ReopenRoom.S := absF_sound (fn := Try.f6) (Γ := F_law23_ReopenRoom.G) (all_cons F_law23_alive.sound (all_cons F_law23_heavy.sound (all_cons F_reopen_Open.sound (all_cons F_reopen_Keep.sound (all_cons F_image_Apply.sound (all_cons F_reopen_Compact.sound (all_cons F_disk_Do.sound (all_cons F_reopen_Append.sound all_nil)))))))) mix (by kernel_rfl) (by kernel_rfl) (fun m p => congrFun (congrFun F_law23_ReopenRoom.eq m) p)
/-! ### cloakroom/cloakroomlaw23.ReopenDays -/
noncomputable def F_law23_ReopenDays.s1047118 (m : Fu) (a2 : List (Int × (List (Int × Int × ((List Int) × (List Int) × Int × Int × Int) × (List Int) × Int × Int × Bool)) × Int)) (x3 : Int × (List Int) × (List (Int × (List Int) × (List Int) × Int × Int × Int)) × Int × Int × Bool × Int) (x10 : Int × Int × (List Int) × (List (Int × (List Int) × (List Int) × Int × Int × Int)) × Int × Int × Bool × (List Int) × (List Int)) : Option (((List (Int × (List Int))) × Int × Int × (List Int) × (List (Int × (List Int) × (List Int) × Int × Int × Int)) × Int × Int × Bool)) :=
  bif (decide ((0 : Int) ≤ x10.1)) && (decide (x10.1 < (a2.length : Int))) then
    let x16 := ((a2.getD x10.1.toNat (0, ([], 0))).1).tmod (4 : Int)
    bif x16 == (2 : Int) then
      (F_reopen_Compact m x10.2.2.2.2.2.2.2.1).bind fun x18 =>
      some (x18.1, x18.2, x10.2.1, x10.2.2.1, x10.2.2.2.1, x10.2.2.2.2.1, x10.2.2.2.2.2.1, x10.2.2.2.2.2.2.1)
    else
      bif x16 == (3 : Int) then
        (F_reopen_Swap m (x10.2.2.2.2.2.2.2.1, x3.1, x10.2.2.2.2.2.2.2.2, x3.2.2.1, x3.2.2.2.1, x3.2.2.2.2.1, x3.2.2.2.2.2.1)).bind fun x20 =>
        some (x20.1, x20.2, x3.1, x10.2.2.2.2.2.2.2.2, x3.2.2.1, x3.2.2.2.1, x3.2.2.2.2.1, x3.2.2.2.2.2.1)
      else
        bif (decide ((0 : Int) ≤ x10.1)) && (decide (x10.1 < (a2.length : Int))) then
          (F_image_Apply m (x10.2.1, x10.2.2.1, x10.2.2.2.1, x10.2.2.2.2.1, x10.2.2.2.2.2.1, x10.2.2.2.2.2.2.1, (((a2.getD x10.1.toNat (0, ([], 0))).2).1))).bind fun x22 =>
          bif x22.2.2.2.2.2.2 == (0 : Int) then
            bif (decide ((0 : Int) ≤ x10.1)) && (decide (x10.1 < (a2.length : Int))) then
              (F_reopen_Keep m (x10.2.2.2.2.2.2.2.1, (((a2.getD x10.1.toNat (0, ([], 0))).2).1))).bind fun x25 =>
              some (x25.1, x25.2, x22.1, x22.2.1, x22.2.2.1, x22.2.2.2.1, x22.2.2.2.2.1, x22.2.2.2.2.2.1)
            else none
          else some (([] : List (Int × (List Int))), x22.2.2.2.2.2.2, x22.1, x22.2.1, x22.2.2.1, x22.2.2.2.1, x22.2.2.2.2.1, x22.2.2.2.2.2.1)
        else none
  else none
noncomputable def F_law23_ReopenDays.s16753916 (_ : Fu) (a2 : List (Int × (List (Int × Int × ((List Int) × (List Int) × Int × Int × Int) × (List Int) × Int × Int × Bool)) × Int)) (x10 : Int × Int × (List Int) × (List (Int × (List Int) × (List Int) × Int × Int × Int)) × Int × Int × Bool × (List Int) × (List Int)) (x26 : ((List (Int × (List Int))) × Int × Int × (List Int) × (List (Int × (List Int) × (List Int) × Int × Int × Int)) × Int × Int × Bool)) : Option (Bool) :=
  bif (decide ((0 : Int) ≤ x10.1)) && (decide (x10.1 < (a2.length : Int))) then
    bif decide ((0 : Int) ≤ (((a2.getD x10.1.toNat (0, ([], 0))).2).2)) then
      bif (decide ((0 : Int) ≤ x10.1)) && (decide (x10.1 < (a2.length : Int))) then
        some (decide ((((a2.getD x10.1.toNat (0, ([], 0))).2).2) < (x26.1.length : Int)))
      else none
    else some false
  else none
noncomputable def F_law23_ReopenDays.s8376958 (m : Fu) (a2 : List (Int × (List (Int × Int × ((List Int) × (List Int) × Int × Int × Int) × (List Int) × Int × Int × Bool)) × Int)) (x10 : Int × Int × (List Int) × (List (Int × (List Int) × (List Int) × Int × Int × Int)) × Int × Int × Bool × (List Int) × (List Int)) (x26 : ((List (Int × (List Int))) × Int × Int × (List Int) × (List (Int × (List Int) × (List Int) × Int × Int × Int)) × Int × Int × Bool)) (x29 : Int) : Option ((Int × Int × (List Int) × (List (Int × (List Int) × (List Int) × Int × Int × Int)) × Int × Int × Bool)) :=
  (F_law23_ReopenDays.s16753916 m a2 x10 x26).bind fun x35 =>
  bif x35 then
    bif (decide ((0 : Int) ≤ x10.1)) && (decide (x10.1 < (a2.length : Int))) then
      some ((((a2.getD x10.1.toNat (0, ([], 0))).2).2), x10.2.1, x10.2.2.1, x10.2.2.2.1, x10.2.2.2.2.1, x10.2.2.2.2.2.1, x10.2.2.2.2.2.2.1)
    else none
  else some (x29, x26.2.2)
noncomputable def F_law23_ReopenDays.l4090 (m : Fu) (a2 : List (Int × (List (Int × Int × ((List Int) × (List Int) × Int × Int × Int) × (List Int) × Int × Int × Bool)) × Int)) (x1 : Bool) (x3 : Int × (List Int) × (List (Int × (List Int) × (List Int) × Int × Int × Int)) × Int × Int × Bool × Int) (x10 : Int × Int × (List Int) × (List (Int × (List Int) × (List Int) × Int × Int × Int)) × Int × Int × Bool × (List Int) × (List Int)) : Option (Step (Int × Int × (List Int) × (List (Int × (List Int) × (List Int) × Int × Int × Int)) × Int × Int × Bool × (List Int) × (List Int)) (Bool ⊕ Unit)) :=
  bif decide (x10.1 < (a2.length : Int)) then
    bif (decide ((0 : Int) ≤ x10.1)) && (decide (x10.1 < (a2.length : Int))) then
      (F_law23_heavy m (x10.2.2.2.2.2.2.2.1, x10.2.1, x10.2.2.1, x10.2.2.2.1, x10.2.2.2.2.1, x10.2.2.2.2.2.1, x10.2.2.2.2.2.2.1, (((a2.getD x10.1.toNat (0, ([], 0))).2).1))).bind fun x14 =>
      bif x14 then some (.fin (Sum.inl x1)) else
      (F_law23_ReopenDays.s1047118 m a2 x3 x10).bind fun x26 =>
      bif x26.2.1 != (0 : Int) then some (.next ((IntKind.i64.wrap (x10.1 + (1 : Int))), x10.2)) else
      (F_law23_ReopenDays.s8376958 m a2 x10 x26 (x26.1.length : Int)).bind fun x37 =>
      (F_disk_Do m (x10.2.2.2.2.2.2.2.1, x26.1, x37.1)).bind fun x38 =>
      (F_reopen_Open m x38.1).bind fun x39 =>
      bif x38.2 != (0 : Int) then some (.fin (Sum.inl false)) else
      bif x39.2.2.2.2.2.2.2 != (0 : Int) then some (.fin (Sum.inl false)) else
      (F_image_Same m (x39.1, x39.2.1, x39.2.2.1, x39.2.2.2.1, x39.2.2.2.2.1, x39.2.2.2.2.2.1, x37.2)).bind fun x42 =>
      bif !x42 then
        some (.fin (Sum.inl false))
      else some (.next ((IntKind.i64.wrap (x10.1 + (1 : Int))), x39.1, x39.2.1, x39.2.2.1, x39.2.2.2.1, x39.2.2.2.2.1, x39.2.2.2.2.2.1, x38.1, x10.2.2.2.2.2.2.2.2))
    else none
  else some (.fin (Sum.inr ()))
noncomputable def F_law23_ReopenDays (m : Fu) (p : Int × (List Int) × (List (Int × (List (Int × Int × ((List Int) × (List Int) × Int × Int × Int) × (List Int) × Int × Int × Bool)) × Int))) : Option (Bool) :=
  let a0 := p.1
  let a1 := p.2.1
  let a2 := p.2.2
  (F_law23_alive m ()).bind fun x1 =>
  bif !x1 then some false else
  (F_image_New m a1).bind fun x3 =>
  bif x3.2.2.2.2.2.2 != (0 : Int) then some x1 else
  bif decide ((500 : Int) < a0) then some x1 else
  bif decide ((16 : Int) < (a2.length : Int)) then some x1 else
  (F_reopen_Format m (a0, x3.1, x3.2.1, x3.2.2.1, x3.2.2.2.1, x3.2.2.2.2.1, x3.2.2.2.2.2.1)).bind fun x8 =>
  bif x8.2 != (0 : Int) then some x1 else
  (iter m (F_law23_ReopenDays.l4090 m a2 x1 x3) ((0 : Int), x3.1, x3.2.1, x3.2.2.1, x3.2.2.2.1, x3.2.2.2.2.1, x3.2.2.2.2.2.1, x8.1, x3.2.1)).bind fun x45 =>
  match x45 with
  | .inl x46 =>
    some x46
  | .inr _ =>
    some x1
def F_law23_ReopenDays.ann : List (Nat × Ann) := [(4090, .loop ⟨[(13, false, [.dat (.int .i64)])], [(208, [.dat (.int .i64), .dat (.sl (.int .i64)), .dat (.sl (.pr (.int .i64) (.pr .str (.pr .str (.pr (.int .u32) (.pr (.int .i64) (.int .u64))))))), .dat (.int .i64), .dat (.int .i64), .dat .bool]), (528, [.own (.int .u8) 672 .fr])], [(144, .int .i64, .fr)], [464], 673⟩ [(.ret, ⟨[(6, false, [.dat .bool])], [], [], [144, 208, 464, 528], 672⟩), (.exit 0, ⟨[], [], [], [144, 208, 464, 528], 672⟩)]),
  (1047118, .jnt [(.normal, ⟨[(14, false, [.own (.pr (.int .i64) (.sl (.int .u8))) 945 .wr]), (16, false, [.dat (.int .i64)])], [(897, [.dat (.int .i64), .dat (.sl (.int .i64)), .dat (.sl (.pr (.int .i64) (.pr .str (.pr .str (.pr (.int .u32) (.pr (.int .i64) (.int .u64))))))), .dat (.int .i64), .dat (.int .i64), .dat .bool])], [], [], 946⟩)]),
  (8376958, .jnt [(.normal, ⟨[(17, false, [.dat (.int .i64)])], [(897, [.dat (.int .i64), .dat (.sl (.int .i64)), .dat (.sl (.pr (.int .i64) (.pr .str (.pr .str (.pr (.int .u32) (.pr (.int .i64) (.int .u64))))))), .dat (.int .i64), .dat (.int .i64), .dat .bool])], [], [], 1026⟩)]),
  (16753916, .jnt [(.normal, ⟨[(132, false, [.dat .bool])], [], [], [], 1026⟩)])]
def F_law23_ReopenDays.sig : Sig := ⟨[.val false [.int .i64], .val false [.sl (.int .i64)], .val false [.sl (.pr (.int .u8) (.pr (.sl (.pr (.int .u8) (.pr (.int .i64) (.pr (.pr .str (.pr .str (.pr (.int .u32) (.pr (.int .i64) (.int .u64))))) (.pr .str (.pr (.int .u8) (.pr (.int .i64) .bool))))))) (.int .i64)))]], [(false, [.dat .bool])]⟩
noncomputable def F_law23_ReopenDays.S : Summ := ⟨7, F_law23_ReopenDays.sig, F_law23_ReopenDays⟩
noncomputable def F_law23_ReopenDays.G : List Summ := [F_law23_alive.S, F_image_New.S, F_reopen_Format.S, F_law23_heavy.S, F_reopen_Compact.S, F_reopen_Swap.S, F_image_Apply.S, F_reopen_Keep.S, F_disk_Do.S, F_reopen_Open.S, F_image_Same.S]
theorem F_law23_ReopenDays.eq : absF Try.prog F_law23_ReopenDays.G F_law23_ReopenDays.ann F_law23_ReopenDays.sig Try.f7 = F_law23_ReopenDays := by kernel_rfl
theorem F_law23_ReopenDays.sound : Sound Try.prog F_law23_ReopenDays.S := absF_sound (fn := Try.f7) (Γ := F_law23_ReopenDays.G) (all_cons F_law23_alive.sound (all_cons F_image_New.sound (all_cons F_reopen_Format.sound (all_cons F_law23_heavy.sound (all_cons F_reopen_Compact.sound (all_cons F_reopen_Swap.sound (all_cons F_image_Apply.sound (all_cons F_reopen_Keep.sound (all_cons F_disk_Do.sound (all_cons F_reopen_Open.sound (all_cons F_image_Same.sound all_nil))))))))))) mix (by kernel_rfl) (by kernel_rfl) (fun m p => congrFun (congrFun F_law23_ReopenDays.eq m) p)
end Go.Proofs.Ytpfjjbpoikgocaa
