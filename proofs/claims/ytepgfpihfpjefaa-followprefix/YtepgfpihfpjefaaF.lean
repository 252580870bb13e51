/- The pure functions that the program's functions compute, and that they compute them. Printed by a program of this session (gen.py). -/
import Derived.Test.YtepgfpihfpjefaaProg
import Derived.Test.YtepgfpihfpjefaaA3
namespace Go.Proofs.Ytepgfpihfpjefaa
open Go.Abs
set_option maxRecDepth 100000
theorem mix : Try.prog.follows .mixedOrders = true := by kernel_rfl
/-! ### cloakroom/image.in -/
noncomputable def F_image_in (_ : Fu) (p : Int × Int) : Option (Bool) :=
  let a0 := p.1
  let a1 := p.2
  bif decide ((0 : Int) ≤ a0) then
    some (decide (a0 ≤ a1))
  else some false
def F_image_in.ann : List (Nat × Ann) := []
def F_image_in.sig : Sig := ⟨[.val false [.int .i64], .val false [.int .i64]], [(false, [.dat .bool])]⟩
noncomputable def F_image_in.S : Summ := ⟨62, F_image_in.sig, F_image_in⟩
noncomputable def F_image_in.G : List Summ := []
theorem F_image_in.eq : absF Try.prog F_image_in.G F_image_in.ann F_image_in.sig Try.f62 = F_image_in := by kernel_rfl
theorem F_image_in.sound : Sound Try.prog F_image_in.S := absF_sound (fn := Try.f62) (Γ := F_image_in.G) all_nil mix (by kernel_rfl) (by kernel_rfl) (fun m p => congrFun (congrFun F_image_in.eq m) p)
/-! ### cloakroom/image.quotas$1 -/
noncomputable def F_image_quotas_c1 (m : Fu) (p : Int) : Option (Bool) :=
  let a0 := p
  (F_image_in m (a0, (16 : Int))).bind fun x1 =>
  some (!x1)
def F_image_quotas_c1.ann : List (Nat × Ann) := []
def F_image_quotas_c1.sig : Sig := ⟨[.val false [.int .i64]], [(false, [.dat .bool])]⟩
noncomputable def F_image_quotas_c1.S : Summ := ⟨61, F_image_quotas_c1.sig, F_image_quotas_c1⟩
noncomputable def F_image_quotas_c1.G : List Summ := [F_image_in.S]
theorem F_image_quotas_c1.eq : absF Try.prog F_image_quotas_c1.G F_image_quotas_c1.ann F_image_quotas_c1.sig Try.f61 = F_image_quotas_c1 := by kernel_rfl
theorem F_image_quotas_c1.sound : Sound Try.prog F_image_quotas_c1.S := absF_sound (fn := Try.f61) (Γ := F_image_quotas_c1.G) (all_cons F_image_in.sound all_nil) mix (by kernel_rfl) (by kernel_rfl) (fun m p => congrFun (congrFun F_image_quotas_c1.eq m) p)
/-! ### slices.IndexFunc[[]int,int] -/
noncomputable def F_slices_IndexFunc_int.l26 (m : Fu) (a0 : List Int) (x1 : Int) (x2 : Int) : Option (Step Int (Int ⊕ Unit)) :=
  bif decide (x2 < x1) then
    bif (decide ((0 : Int) ≤ x2)) && (decide (x2 < (a0.length : Int))) then
      (F_image_quotas_c1 m (a0.getD x2.toNat 0)).bind fun x5 =>
      bif x5 then
        some (.fin (Sum.inl x2))
      else some (.next (IntKind.i64.wrap (x2 + (1 : Int))))
    else none
  else some (.fin (Sum.inr ()))
noncomputable def F_slices_IndexFunc_int (m : Fu) (p : List Int) : Option (Int) :=
  let a0 := p
  (iter m (F_slices_IndexFunc_int.l26 m a0 (a0.length : Int)) (0 : Int)).bind fun x7 =>
  match x7 with
  | .inl x8 =>
    some x8
  | .inr _ =>
    some (-1 : Int)
def F_slices_IndexFunc_int.ann : List (Nat × Ann) := [(26, .loop ⟨[(8, false, [.dat (.int .i64)])], [], [], [], 96⟩ [(.ret, ⟨[(4, false, [.dat (.int .i64)])], [], [], [], 96⟩), (.exit 0, ⟨[], [], [], [], 96⟩)])]
def F_slices_IndexFunc_int.sig : Sig := ⟨[.val false [.sl (.int .i64)], .fn 61 []], [(false, [.dat (.int .i64)])]⟩
noncomputable def F_slices_IndexFunc_int.S : Summ := ⟨86, F_slices_IndexFunc_int.sig, F_slices_IndexFunc_int⟩
noncomputable def F_slices_IndexFunc_int.G : List Summ := [F_image_quotas_c1.S]
theorem F_slices_IndexFunc_int.eq : absF Try.prog F_slices_IndexFunc_int.G F_slices_IndexFunc_int.ann F_slices_IndexFunc_int.sig Try.f86 = F_slices_IndexFunc_int := by kernel_rfl
theorem F_slices_IndexFunc_int.sound : Sound Try.prog F_slices_IndexFunc_int.S := absF_sound (fn := Try.f86) (Γ := F_slices_IndexFunc_int.G) (all_cons F_image_quotas_c1.sound all_nil) mix (by kernel_rfl) (by kernel_rfl) (fun m p => congrFun (congrFun F_slices_IndexFunc_int.eq m) p)
/-! ### slices.ContainsFunc[[]int,int] -/
noncomputable def F_slices_ContainsFunc_int (m : Fu) (p : List Int) : Option (Bool) :=
  let a0 := p
  (F_slices_IndexFunc_int m a0).bind fun x1 =>
  some (decide ((0 : Int) ≤ x1))
def F_slices_ContainsFunc_int.ann : List (Nat × Ann) := []
def F_slices_ContainsFunc_int.sig : Sig := ⟨[.val false [.sl (.int .i64)], .fn 61 []], [(false, [.dat .bool])]⟩
noncomputable def F_slices_ContainsFunc_int.S : Summ := ⟨60, F_slices_ContainsFunc_int.sig, F_slices_ContainsFunc_int⟩
noncomputable def F_slices_ContainsFunc_int.G : List Summ := [F_slices_IndexFunc_int.S]
theorem F_slices_ContainsFunc_int.eq : absF Try.prog F_slices_ContainsFunc_int.G F_slices_ContainsFunc_int.ann F_slices_ContainsFunc_int.sig Try.f60 = F_slices_ContainsFunc_int := by kernel_rfl
theorem F_slices_ContainsFunc_int.sound : Sound Try.prog F_slices_ContainsFunc_int.S := absF_sound (fn := Try.f60) (Γ := F_slices_ContainsFunc_int.G) (all_cons F_slices_IndexFunc_int.sound all_nil) mix (by kernel_rfl) (by kernel_rfl) (fun m p => congrFun (congrFun F_slices_ContainsFunc_int.eq m) p)
/-! ### cloakroom/image.quotas -/
noncomputable def F_image_quotas (m : Fu) (p : List Int) : Option (Bool) :=
  let a0 := p
  bif decide ((0 : Int) < (a0.length : Int)) then
    bif decide ((a0.length : Int) ≤ (4 : Int)) then
      (F_slices_ContainsFunc_int m a0).bind fun x5 =>
      some (!x5)
    else some false
  else some false
def F_image_quotas.ann : List (Nat × Ann) := []
def F_image_quotas.sig : Sig := ⟨[.val false [.sl (.int .i64)]], [(false, [.dat .bool])]⟩
noncomputable def F_image_quotas.S : Summ := ⟨32, F_image_quotas.sig, F_image_quotas⟩
noncomputable def F_image_quotas.G : List Summ := [F_slices_ContainsFunc_int.S]
theorem F_image_quotas.eq : absF Try.prog F_image_quotas.G F_image_quotas.ann F_image_quotas.sig Try.f32 = F_image_quotas := by kernel_rfl
theorem F_image_quotas.sound : Sound Try.prog F_image_quotas.S := absF_sound (fn := Try.f32) (Γ := F_image_quotas.G) (all_cons F_slices_ContainsFunc_int.sound all_nil) mix (by kernel_rfl) (by kernel_rfl) (fun m p => congrFun (congrFun F_image_quotas.eq m) p)
/-! ### slices.Clone[[]int,int] -/
noncomputable def F_slices_Clone_int (_ : Fu) (p : List Int) : Option (List Int) :=
  let a0 := p
  match a0 with
  | [] => same2
   (
    some ([] : List Int))
   (
    bif Nat.ble (0 + a0.length) 4294967296 then
      some (([] : List Int) ++ a0)
    else none)
  | _ :: _ =>
    bif Nat.ble (0 + a0.length) 4294967296 then
      some (([] : List Int) ++ a0)
    else none
def F_slices_Clone_int.ann : List (Nat × Ann) := []
def F_slices_Clone_int.sig : Sig := ⟨[.val false [.sl (.int .i64)]], [(false, [.own (.int .i64) 0 .wr])]⟩
noncomputable def F_slices_Clone_int.S : Summ := ⟨33, F_slices_Clone_int.sig, F_slices_Clone_int⟩
noncomputable def F_slices_Clone_int.G : List Summ := []
theorem F_slices_Clone_int.eq : absF Try.prog F_slices_Clone_int.G F_slices_Clone_int.ann F_slices_Clone_int.sig Try.f33 = F_slices_Clone_int := by kernel_rfl
theorem F_slices_Clone_int.sound : Sound Try.prog F_slices_Clone_int.S := absF_sound (fn := Try.f33) (Γ := F_slices_Clone_int.G) all_nil mix (by kernel_rfl) (by kernel_rfl) (fun m p => congrFun (congrFun F_slices_Clone_int.eq m) p)
noncomputable def C_slices_Clone_int (m : Fu) (p : List Int) : Option (List Int) := bif Nat.ble p.length 4294967296 then some p else none
theorem C_slices_Clone_int.is : F_slices_Clone_int = C_slices_Clone_int := by
  funext m p
  have h0 : Nat.ble 0 4294967296 = true := rfl
  cases p <;> simp [F_slices_Clone_int, C_slices_Clone_int, same2_self, h0]
noncomputable def C_slices_Clone_int.S : Summ := ⟨33, F_slices_Clone_int.sig, C_slices_Clone_int⟩
theorem C_slices_Clone_int.sound : Sound Try.prog C_slices_Clone_int.S := by
  have h := F_slices_Clone_int.sound
  unfold F_slices_Clone_int.S at h
  rw [C_slices_Clone_int.is] at h
  exact h
/-! ### cloakroom/image.New -/
noncomputable def F_image_New (m : Fu) (p : List Int) : Option (Int × (List Int) × (List (Int × (List Int) × (List Int) × Int × Int × Int)) × Int × Int × Bool × Int) :=
  let a0 := p
  (F_image_quotas m a0).bind fun x1 =>
  bif !x1 then some ((0 : Int), ([] : List Int), ([] : List (Int × (List Int) × (List Int) × Int × Int × Int)), (0 : Int), (0 : Int), false, (2 : Int)) else
  (C_slices_Clone_int m a0).bind fun x3 =>
  some ((0 : Int), x3, ([] : List (Int × (List Int) × (List Int) × Int × Int × Int)), (0 : Int), (0 : Int), false, (0 : Int))
def F_image_New.ann : List (Nat × Ann) := []
def F_image_New.sig : Sig := ⟨[.val false [.sl (.int .i64)]], [(true, [.dat (.int .i64), .own (.int .i64) 0 .wr, .dat (.sl (.pr (.int .i64) (.pr .str (.pr .str (.pr (.int .u32) (.pr (.int .i64) (.int .u64))))))), .dat (.int .i64), .dat (.int .i64), .dat .bool]), (false, [.dat (.int .i64)])]⟩
noncomputable def F_image_New.S : Summ := ⟨10, F_image_New.sig, F_image_New⟩
noncomputable def F_image_New.G : List Summ := [F_image_quotas.S, C_slices_Clone_int.S]
theorem F_image_New.eq : absF Try.prog F_image_New.G F_image_New.ann F_image_New.sig Try.f10 = F_image_New := by kernel_rfl
theorem F_image_New.sound : Sound Try.prog F_image_New.S := absF_sound (fn := Try.f10) (Γ := F_image_New.G) (all_cons F_image_quotas.sound (all_cons C_slices_Clone_int.sound all_nil)) mix (by kernel_rfl) (by kernel_rfl) (fun m p => congrFun (congrFun F_image_New.eq m) p)
/-! ### cloakroom/image.size -/
noncomputable def F_image_size (_ : Fu) (p : (List Int) × (List Int) × Int × Int × Int) : Option (Int) :=
  let a0 := p.1
  let a1 := p.2.1
  some (IntKind.i64.wrap ((IntKind.i64.wrap ((8 : Int) + (a0.length : Int))) + (a1.length : Int)))
def F_image_size.ann : List (Nat × Ann) := []
def F_image_size.sig : Sig := ⟨[.val true [.str, .str, .int .u32, .int .i64, .int .u64]], [(false, [.dat (.int .i64)])]⟩
noncomputable def F_image_size.S : Summ := ⟨87, F_image_size.sig, F_image_size⟩
noncomputable def F_image_size.G : List Summ := []
theorem F_image_size.eq : absF Try.prog F_image_size.G F_image_size.ann F_image_size.sig Try.f87 = F_image_size := by kernel_rfl
theorem F_image_size.sound : Sound Try.prog F_image_size.S := absF_sound (fn := Try.f87) (Γ := F_image_size.G) all_nil mix (by kernel_rfl) (by kernel_rfl) (fun m p => congrFun (congrFun F_image_size.eq m) p)
/-! ### cloakroom/image.may -/
noncomputable def F_image_may (m : Fu) (p : (List Int) × (List Int) × Int × Int × Int) : Option (Bool) :=
  let a0 := p.1
  let a1 := p.2.1
  let a2 := p.2.2.1
  let a3 := p.2.2.2.1
  let a4 := p.2.2.2.2
  bif !(a0 == ([] : List Int)) then
    bif decide ((a0.length : Int) ≤ (32 : Int)) then
      (F_image_size m (a0, a1, a2, a3, a4)).bind fun x4 =>
      bif decide (x4 ≤ (256 : Int)) then
        (F_image_in m (a3, (1099511627776 : Int))).bind fun x6 =>
        some x6
      else some false
    else some false
  else some false
def F_image_may.ann : List (Nat × Ann) := []
def F_image_may.sig : Sig := ⟨[.val true [.str, .str, .int .u32, .int .i64, .int .u64]], [(false, [.dat .bool])]⟩
noncomputable def F_image_may.S : Summ := ⟨63, F_image_may.sig, F_image_may⟩
noncomputable def F_image_may.G : List Summ := [F_image_size.S, F_image_in.S]
theorem F_image_may.eq : absF Try.prog F_image_may.G F_image_may.ann F_image_may.sig Try.f63 = F_image_may := by kernel_rfl
theorem F_image_may.sound : Sound Try.prog F_image_may.S := absF_sound (fn := Try.f63) (Γ := F_image_may.G) (all_cons F_image_size.sound (all_cons F_image_in.sound all_nil)) mix (by kernel_rfl) (by kernel_rfl) (fun m p => congrFun (congrFun F_image_may.eq m) p)
/-! ### cloakroom/image.due -/
noncomputable def F_image_due (_ : Fu) (p : (List Int) × (List Int) × Int × Int × Int × Int) : Option (Bool) :=
  let a3 := p.2.2.2.1
  let a5 := p.2.2.2.2.2
  bif a3 != (0 : Int) then
    some (decide (a3 ≤ a5))
  else some false
def F_image_due.ann : List (Nat × Ann) := []
def F_image_due.sig : Sig := ⟨[.val true [.str, .str, .int .u32, .int .i64, .int .u64], .val false [.int .i64]], [(false, [.dat .bool])]⟩
noncomputable def F_image_due.S : Summ := ⟨64, F_image_due.sig, F_image_due⟩
noncomputable def F_image_due.G : List Summ := []
theorem F_image_due.eq : absF Try.prog F_image_due.G F_image_due.ann F_image_due.sig Try.f64 = F_image_due := by kernel_rfl
theorem F_image_due.sound : Sound Try.prog F_image_due.S := absF_sound (fn := Try.f64) (Γ := F_image_due.G) all_nil mix (by kernel_rfl) (by kernel_rfl) (fun m p => congrFun (congrFun F_image_due.eq m) p)
/-! ### cloakroom/image.places -/
noncomputable def F_image_places.l58 (_ : Fu) (a0 : List (Int × (List Int) × (List Int) × Int × Int × Int)) (x1 : Int) (x2 : Int × (List ((Int × (List Int)) × Int))) : Option (Step (Int × (List ((Int × (List Int)) × Int))) ((List ((Int × (List Int)) × Int)))) :=
  bif decide (x2.1 < x1) then
    bif (decide ((0 : Int) ≤ x2.1)) && (decide (x2.1 < (a0.length : Int))) then
      let x4 := a0.getD x2.1.toNat (0, ([], ([], (0, (0, 0)))))
      bif Nat.blt x2.2.length 4294967296 then
        some (.next ((IntKind.i64.wrap (x2.1 + (1 : Int))), (mset (keyEq (.pr (.int .i64) .str)) x2.2 (x4.1, x4.2.1) x2.1)))
      else none
    else none
  else some (.fin x2.2)
noncomputable def F_image_places (m : Fu) (p : List (Int × (List Int) × (List Int) × Int × Int × Int)) : Option (List ((Int × (List Int)) × Int)) :=
  let a0 := p
  (iter m (F_image_places.l58 m a0 (a0.length : Int)) ((0 : Int), ([] : List ((Int × (List Int)) × Int)))).bind fun x7 =>
  some x7
def F_image_places.ann : List (Nat × Ann) := [(58, .loop ⟨[(9, false, [.dat (.int .i64)])], [], [(32, .pr (.pr (.int .i64) .str) (.int .i64), (.mp true false))], [], 112⟩ [(.exit 0, ⟨[], [], [(32, .pr (.pr (.int .i64) .str) (.int .i64), (.mp true false))], [], 112⟩)])]
def F_image_places.sig : Sig := ⟨[.val false [.sl (.pr (.int .i64) (.pr .str (.pr .str (.pr (.int .u32) (.pr (.int .i64) (.int .u64))))))]], [(false, [.own (.pr (.pr (.int .i64) .str) (.int .i64)) 0 (.mp true false)])]⟩
noncomputable def F_image_places.S : Summ := ⟨65, F_image_places.sig, F_image_places⟩
noncomputable def F_image_places.G : List Summ := []
theorem F_image_places.eq : absF Try.prog F_image_places.G F_image_places.ann F_image_places.sig Try.f65 = F_image_places := by kernel_rfl
theorem F_image_places.sound : Sound Try.prog F_image_places.S := absF_sound (fn := Try.f65) (Γ := F_image_places.G) all_nil mix (by kernel_rfl) (by kernel_rfl) (fun m p => congrFun (congrFun F_image_places.eq m) p)
/-! ### cloakroom/image.Check -/
noncomputable def F_image_Check.l58 (m : Fu) (a0 : Int) (a1 : List Int) (a2 : List (Int × (List Int) × (List Int) × Int × Int × Int)) (x11 : Int) (x12 : Int) : Option (Step Int (Int ⊕ Unit)) :=
  bif decide (x12 < x11) then
    bif (decide ((0 : Int) ≤ x12)) && (decide (x12 < (a2.length : Int))) then
      let x14 := a2.getD x12.toNat (0, ([], ([], (0, (0, 0)))))
      (F_image_in m (x14.1, (IntKind.i64.wrap ((a1.length : Int) - (1 : Int))))).bind fun x17 =>
      bif !x17 then some (.fin (Sum.inl (8 : Int))) else
      (F_image_may m x14.2).bind fun x19 =>
      bif !x19 then some (.fin (Sum.inl (8 : Int))) else
      (F_image_due m (x14.2.1, x14.2.2.1, x14.2.2.2.1, x14.2.2.2.2.1, x14.2.2.2.2.2, a0)).bind fun x21 =>
      bif x21 then
        some (.fin (Sum.inl (8 : Int)))
      else some (.next (IntKind.i64.wrap (x12 + (1 : Int))))
    else none
  else some (.fin (Sum.inr ()))
noncomputable def F_image_Check (m : Fu) (p : Int × (List Int) × (List (Int × (List Int) × (List Int) × Int × Int × Int)) × Int × Int × Bool) : Option (Int) :=
  let a0 := p.1
  let a1 := p.2.1
  let a2 := p.2.2.1
  let a3 := p.2.2.2.1
  let a4 := p.2.2.2.2.1
  (F_image_in m (a0, (1099511627776 : Int))).bind fun x1 =>
  bif !x1 then some (8 : Int) else
  (F_image_quotas m a1).bind fun x3 =>
  bif !x3 then some (8 : Int) else
  bif decide ((1024 : Int) < (a2.length : Int)) then some (8 : Int) else
  (F_image_in m (a3, (2147483647 : Int))).bind fun x7 =>
  bif !x7 then some (8 : Int) else
  (F_image_in m (a4, (2147483647 : Int))).bind fun x9 =>
  bif !x9 then some (8 : Int) else
  (iter m (F_image_Check.l58 m a0 a1 a2 (a2.length : Int)) (0 : Int)).bind fun x23 =>
  match x23 with
  | .inl x24 =>
    some x24
  | .inr _ =>
    (F_image_places m a2).bind fun x26 =>
    bif (x26.length : Int) != (a2.length : Int) then
      some (8 : Int)
    else some (0 : Int)
def F_image_Check.ann : List (Nat × Ann) := [(58, .loop ⟨[(36, false, [.dat (.int .i64)])], [], [], [], 560⟩ [(.ret, ⟨[(2, false, [.dat (.int .i64)])], [], [], [], 560⟩), (.exit 0, ⟨[], [], [], [], 560⟩)])]
def F_image_Check.sig : Sig := ⟨[.val true [.int .i64, .sl (.int .i64), .sl (.pr (.int .i64) (.pr .str (.pr .str (.pr (.int .u32) (.pr (.int .i64) (.int .u64)))))), .int .i64, .int .i64, .bool]], [(false, [.dat (.int .i64)])]⟩
noncomputable def F_image_Check.S : Summ := ⟨34, F_image_Check.sig, F_image_Check⟩
noncomputable def F_image_Check.G : List Summ := [F_image_in.S, F_image_quotas.S, F_image_may.S, F_image_due.S, F_image_places.S]
theorem F_image_Check.eq : absF Try.prog F_image_Check.G F_image_Check.ann F_image_Check.sig Try.f34 = F_image_Check := by kernel_rfl
theorem F_image_Check.sound : Sound Try.prog F_image_Check.S := absF_sound (fn := Try.f34) (Γ := F_image_Check.G) (all_cons F_image_in.sound (all_cons F_image_quotas.sound (all_cons F_image_may.sound (all_cons F_image_due.sound (all_cons F_image_places.sound all_nil))))) mix (by kernel_rfl) (by kernel_rfl) (fun m p => congrFun (congrFun F_image_Check.eq m) p)
/-! ### cloakroom/follow.in -/
noncomputable def F_follow_in (_ : Fu) (p : Int) : Option (Bool) :=
  let a0 := p
  bif decide ((0 : Int) ≤ a0) then
    some (decide (a0 ≤ (2147483647 : Int)))
  else some false
def F_follow_in.ann : List (Nat × Ann) := []
def F_follow_in.sig : Sig := ⟨[.val false [.int .i64]], [(false, [.dat .bool])]⟩
noncomputable def F_follow_in.S : Summ := ⟨38, F_follow_in.sig, F_follow_in⟩
noncomputable def F_follow_in.G : List Summ := []
theorem F_follow_in.eq : absF Try.prog F_follow_in.G F_follow_in.ann F_follow_in.sig Try.f38 = F_follow_in := by kernel_rfl
theorem F_follow_in.sound : Sound Try.prog F_follow_in.S := absF_sound (fn := Try.f38) (Γ := F_follow_in.G) all_nil mix (by kernel_rfl) (by kernel_rfl) (fun m p => congrFun (congrFun F_follow_in.eq m) p)
/-! ### slices.Clone[[]cloakroom/api.Kept,cloakroom/api.Kept] -/
noncomputable def F_slices_Clone_Kept (_ : Fu) (p : List (Int × (List Int) × (List Int) × Int × Int × Int)) : Option (List (Int × (List Int) × (List Int) × Int × Int × Int)) :=
  let a0 := p
  match a0 with
  | [] => same2
   (
    some ([] : List (Int × (List Int) × (List Int) × Int × Int × Int)))
   (
    bif Nat.ble (0 + a0.length) 4294967296 then
      some (([] : List (Int × (List Int) × (List Int) × Int × Int × Int)) ++ a0)
    else none)
  | _ :: _ =>
    bif Nat.ble (0 + a0.length) 4294967296 then
      some (([] : List (Int × (List Int) × (List Int) × Int × Int × Int)) ++ a0)
    else none
def F_slices_Clone_Kept.ann : List (Nat × Ann) := []
def F_slices_Clone_Kept.sig : Sig := ⟨[.val false [.sl (.pr (.int .i64) (.pr .str (.pr .str (.pr (.int .u32) (.pr (.int .i64) (.int .u64))))))]], [(false, [.own (.pr (.int .i64) (.pr .str (.pr .str (.pr (.int .u32) (.pr (.int .i64) (.int .u64)))))) 0 .wr])]⟩
noncomputable def F_slices_Clone_Kept.S : Summ := ⟨56, F_slices_Clone_Kept.sig, F_slices_Clone_Kept⟩
noncomputable def F_slices_Clone_Kept.G : List Summ := []
theorem F_slices_Clone_Kept.eq : absF Try.prog F_slices_Clone_Kept.G F_slices_Clone_Kept.ann F_slices_Clone_Kept.sig Try.f56 = F_slices_Clone_Kept := by kernel_rfl
theorem F_slices_Clone_Kept.sound : Sound Try.prog F_slices_Clone_Kept.S := absF_sound (fn := Try.f56) (Γ := F_slices_Clone_Kept.G) all_nil mix (by kernel_rfl) (by kernel_rfl) (fun m p => congrFun (congrFun F_slices_Clone_Kept.eq m) p)
noncomputable def C_slices_Clone_Kept (m : Fu) (p : List (Int × (List Int) × (List Int) × Int × Int × Int)) : Option (List (Int × (List Int) × (List Int) × Int × Int × Int)) := bif Nat.ble p.length 4294967296 then some p else none
theorem C_slices_Clone_Kept.is : F_slices_Clone_Kept = C_slices_Clone_Kept := by
  funext m p
  have h0 : Nat.ble 0 4294967296 = true := rfl
  cases p <;> simp [F_slices_Clone_Kept, C_slices_Clone_Kept, same2_self, h0]
noncomputable def C_slices_Clone_Kept.S : Summ := ⟨56, F_slices_Clone_Kept.sig, C_slices_Clone_Kept⟩
theorem C_slices_Clone_Kept.sound : Sound Try.prog C_slices_Clone_Kept.S := by
  have h := F_slices_Clone_Kept.sound
  unfold F_slices_Clone_Kept.S at h
  rw [C_slices_Clone_Kept.is] at h
  exact h
/-! ### cloakroom/follow.twin -/
noncomputable def F_follow_twin (m : Fu) (p : Int × (List Int) × (List (Int × (List Int) × (List Int) × Int × Int × Int)) × Int × Int × Bool × Int × Int) : Option (Int × (List Int) × (List (Int × (List Int) × (List Int) × Int × Int × Int)) × Int × Int × Bool) :=
  let a0 := p.1
  let a1 := p.2.1
  let a2 := p.2.2.1
  let a6 := p.2.2.2.2.2.2.1
  let a7 := p.2.2.2.2.2.2.2
  (C_slices_Clone_int m a1).bind fun x1 =>
  (C_slices_Clone_Kept m a2).bind fun x2 =>
  some (a0, x1, x2, a6, a7, false)
def F_follow_twin.ann : List (Nat × Ann) := []
def F_follow_twin.sig : Sig := ⟨[.val true [.int .i64, .sl (.int .i64), .sl (.pr (.int .i64) (.pr .str (.pr .str (.pr (.int .u32) (.pr (.int .i64) (.int .u64)))))), .int .i64, .int .i64, .bool], .val false [.int .i64], .val false [.int .i64]], [(true, [.dat (.int .i64), .own (.int .i64) 0 .wr, .own (.pr (.int .i64) (.pr .str (.pr .str (.pr (.int .u32) (.pr (.int .i64) (.int .u64)))))) 0 .wr, .dat (.int .i64), .dat (.int .i64), .dat .bool])]⟩
noncomputable def F_follow_twin.S : Summ := ⟨29, F_follow_twin.sig, F_follow_twin⟩
noncomputable def F_follow_twin.G : List Summ := [C_slices_Clone_int.S, C_slices_Clone_Kept.S]
theorem F_follow_twin.eq : absF Try.prog F_follow_twin.G F_follow_twin.ann F_follow_twin.sig Try.f29 = F_follow_twin := by kernel_rfl
theorem F_follow_twin.sound : Sound Try.prog F_follow_twin.S := absF_sound (fn := Try.f29) (Γ := F_follow_twin.G) (all_cons C_slices_Clone_int.sound (all_cons C_slices_Clone_Kept.sound all_nil)) mix (by kernel_rfl) (by kernel_rfl) (fun m p => congrFun (congrFun F_follow_twin.eq m) p)
/-! ### cloakroom/follow.New -/
noncomputable def F_follow_New (m : Fu) (p : Int × (List Int) × (List (Int × (List Int) × (List Int) × Int × Int × Int)) × Int × Int × Bool × Int) : Option (Int × Int × Int × (List Int) × (List (Int × (List Int) × (List Int) × Int × Int × Int)) × Int × Int × Bool × Int) :=
  let a0 := p.1
  let a1 := p.2.1
  let a2 := p.2.2.1
  let a3 := p.2.2.2.1
  let a4 := p.2.2.2.2.1
  let a5 := p.2.2.2.2.2.1
  let a6 := p.2.2.2.2.2.2
  (F_image_Check m (a0, a1, a2, a3, a4, a5)).bind fun x1 =>
  bif x1 != (0 : Int) then some ((0 : Int), (0 : Int), (0 : Int), ([] : List Int), ([] : List (Int × (List Int) × (List Int) × Int × Int × Int)), (0 : Int), (0 : Int), false, (8 : Int)) else
  (F_follow_in m a6).bind fun x3 =>
  bif !x3 then some ((0 : Int), (0 : Int), (0 : Int), ([] : List Int), ([] : List (Int × (List Int) × (List Int) × Int × Int × Int)), (0 : Int), (0 : Int), false, (2 : Int)) else
  (F_follow_twin m (a0, a1, a2, a3, a4, a5, a3, a6)).bind fun x5 =>
  some (a3, a6, x5.1, x5.2.1, x5.2.2.1, x5.2.2.2.1, x5.2.2.2.2.1, x5.2.2.2.2.2, (0 : Int))
def F_follow_New.ann : List (Nat × Ann) := []
def F_follow_New.sig : Sig := ⟨[.val true [.int .i64, .sl (.int .i64), .sl (.pr (.int .i64) (.pr .str (.pr .str (.pr (.int .u32) (.pr (.int .i64) (.int .u64)))))), .int .i64, .int .i64, .bool], .val false [.int .i64]], [(true, [.dat (.int .i64), .dat (.int .i64), .dat (.int .i64), .own (.int .i64) 0 .wr, .own (.pr (.int .i64) (.pr .str (.pr .str (.pr (.int .u32) (.pr (.int .i64) (.int .u64)))))) 0 .wr, .dat (.int .i64), .dat (.int .i64), .dat .bool]), (false, [.dat (.int .i64)])]⟩
noncomputable def F_follow_New.S : Summ := ⟨12, F_follow_New.sig, F_follow_New⟩
noncomputable def F_follow_New.G : List Summ := [F_image_Check.S, F_follow_in.S, F_follow_twin.S]
theorem F_follow_New.eq : absF Try.prog F_follow_New.G F_follow_New.ann F_follow_New.sig Try.f12 = F_follow_New := by kernel_rfl
theorem F_follow_New.sound : Sound Try.prog F_follow_New.S := absF_sound (fn := Try.f12) (Γ := F_follow_New.G) (all_cons F_image_Check.sound (all_cons F_follow_in.sound (all_cons F_follow_twin.sound all_nil))) mix (by kernel_rfl) (by kernel_rfl) (fun m p => congrFun (congrFun F_follow_New.eq m) p)
/-! ### cloakroom/cloakroomlaw25.five -/
noncomputable def F_law25_five (m : Fu) (_ : Unit) : Option (Int × Int × Int × (List Int) × (List (Int × (List Int) × (List Int) × Int × Int × Int)) × Int × Int × Bool) :=
  (F_image_New m ([1] : List Int)).bind fun x1 =>
  (F_follow_New m (x1.1, x1.2.1, x1.2.2.1, x1.2.2.2.1, x1.2.2.2.2.1, x1.2.2.2.2.2.1, (5 : Int))).bind fun x2 =>
  some (x2.1, x2.2.1, x2.2.2.1, x2.2.2.2.1, x2.2.2.2.2.1, x2.2.2.2.2.2.1, x2.2.2.2.2.2.2.1, x2.2.2.2.2.2.2.2.1)
def F_law25_five.ann : List (Nat × Ann) := []
def F_law25_five.sig : Sig := ⟨[], [(true, [.dat (.int .i64), .dat (.int .i64), .dat (.int .i64), .own (.int .i64) 0 .wr, .own (.pr (.int .i64) (.pr .str (.pr .str (.pr (.int .u32) (.pr (.int .i64) (.int .u64)))))) 0 .wr, .dat (.int .i64), .dat (.int .i64), .dat .bool])]⟩
noncomputable def F_law25_five.S : Summ := ⟨8, F_law25_five.sig, F_law25_five⟩
noncomputable def F_law25_five.G : List Summ := [F_image_New.S, F_follow_New.S]
theorem F_law25_five.eq : absF Try.prog F_law25_five.G F_law25_five.ann F_law25_five.sig Try.f8 = F_law25_five := by kernel_rfl
theorem F_law25_five.sound : Sound Try.prog F_law25_five.S := absF_sound (fn := Try.f8) (Γ := F_law25_five.G) (all_cons F_image_New.sound (all_cons F_follow_New.sound all_nil)) mix (by kernel_rfl) (by kernel_rfl) (fun m p => congrFun (congrFun F_law25_five.eq m) p)
/-! ### cloakroom/cloakroomlaw25.clock -/
noncomputable def F_law25_clock (_ : Fu) (p : Int × Int × Int) : Option (Int × Int × Int × (List Int)) :=
  let a0 := p.1
  let a1 := p.2.1
  let a2 := p.2.2
  some ((1 : Int), a0, a1, ([(1 : Int), (4 : Int), (IntKind.u8.wrap a2)]))
def F_law25_clock.ann : List (Nat × Ann) := []
def F_law25_clock.sig : Sig := ⟨[.val false [.int .i64], .val false [.int .i64], .val false [.int .i64]], [(true, [.dat (.int .u8), .dat (.int .i64), .dat (.int .i64), .own (.int .u8) 0 .wr])]⟩
noncomputable def F_law25_clock.S : Summ := ⟨9, F_law25_clock.sig, F_law25_clock⟩
noncomputable def F_law25_clock.G : List Summ := []
theorem F_law25_clock.eq : absF Try.prog F_law25_clock.G F_law25_clock.ann F_law25_clock.sig Try.f9 = F_law25_clock := by kernel_rfl
theorem F_law25_clock.sound : Sound Try.prog F_law25_clock.S := absF_sound (fn := Try.f9) (Γ := F_law25_clock.G) all_nil mix (by kernel_rfl) (by kernel_rfl) (fun m p => congrFun (congrFun F_law25_clock.eq m) p)
/-! ### cloakroom/follow.Check -/
noncomputable def F_follow_Check (m : Fu) (p : Int × Int × Int × (List Int) × (List (Int × (List Int) × (List Int) × Int × Int × Int)) × Int × Int × Bool) : Option (Int) :=
  let a0 := p.1
  let a1 := p.2.1
  let a2 := p.2.2.1
  let a3 := p.2.2.2.1
  let a4 := p.2.2.2.2.1
  let a5 := p.2.2.2.2.2.1
  let a6 := p.2.2.2.2.2.2.1
  let a7 := p.2.2.2.2.2.2.2
  (F_follow_in m a0).bind fun x1 =>
  bif !x1 then some (8 : Int) else
  (F_follow_in m a1).bind fun x3 =>
  bif !x3 then some (8 : Int) else
  (F_image_Check m (a2, a3, a4, a5, a6, a7)).bind fun x5 =>
  bif x5 != (0 : Int) then some (8 : Int) else
  bif a5 != a0 then some (8 : Int) else
  bif a6 != a1 then some (8 : Int) else
  bif a7 then
    some (8 : Int)
  else some (0 : Int)
def F_follow_Check.ann : List (Nat × Ann) := []
def F_follow_Check.sig : Sig := ⟨[.val true [.int .i64, .int .i64, .int .i64, .sl (.int .i64), .sl (.pr (.int .i64) (.pr .str (.pr .str (.pr (.int .u32) (.pr (.int .i64) (.int .u64)))))), .int .i64, .int .i64, .bool]], [(false, [.dat (.int .i64)])]⟩
noncomputable def F_follow_Check.S : Summ := ⟨16, F_follow_Check.sig, F_follow_Check⟩
noncomputable def F_follow_Check.G : List Summ := [F_follow_in.S, F_image_Check.S]
theorem F_follow_Check.eq : absF Try.prog F_follow_Check.G F_follow_Check.ann F_follow_Check.sig Try.f16 = F_follow_Check := by kernel_rfl
theorem F_follow_Check.sound : Sound Try.prog F_follow_Check.S := absF_sound (fn := Try.f16) (Γ := F_follow_Check.G) (all_cons F_follow_in.sound (all_cons F_image_Check.sound all_nil)) mix (by kernel_rfl) (by kernel_rfl) (fun m p => congrFun (congrFun F_follow_Check.eq m) p)
/-! ### cloakroom/numbers.in -/
noncomputable def F_numbers_in (_ : Fu) (p : Int) : Option (Bool) :=
  let a0 := p
  bif decide ((0 : Int) ≤ a0) then
    some (decide (a0 ≤ (2147483647 : Int)))
  else some false
def F_numbers_in.ann : List (Nat × Ann) := []
def F_numbers_in.sig : Sig := ⟨[.val false [.int .i64]], [(false, [.dat .bool])]⟩
noncomputable def F_numbers_in.S : Summ := ⟨50, F_numbers_in.sig, F_numbers_in⟩
noncomputable def F_numbers_in.G : List Summ := []
theorem F_numbers_in.eq : absF Try.prog F_numbers_in.G F_numbers_in.ann F_numbers_in.sig Try.f50 = F_numbers_in := by kernel_rfl
theorem F_numbers_in.sound : Sound Try.prog F_numbers_in.S := absF_sound (fn := Try.f50) (Γ := F_numbers_in.G) all_nil mix (by kernel_rfl) (by kernel_rfl) (fun m p => congrFun (congrFun F_numbers_in.eq m) p)
/-! ### cloakroom/code.Read -/
noncomputable def F_code_Read.s7474 (_ : Fu) (x2 : Int × Int) (x4 : Int) : Option (Unit ⊕ Unit) :=
  bif x2.2 == (9 : Int) then
    bif decide ((1 : Int) < x4) then
      some (Sum.inl ())
    else some (Sum.inr ())
  else some (Sum.inr ())
noncomputable def F_code_Read.l58 (m : Fu) (a0 : List Int) (x1 : Int) (x2 : Int × Int) : Option (Step (Int × Int) (Unit ⊕ (Int × Int × Int))) :=
  bif decide (x2.2 < x1) then
    bif (decide ((0 : Int) ≤ x2.2)) && (decide (x2.2 < (a0.length : Int))) then
      let x4 := a0.getD x2.2.toNat 0
      (F_code_Read.s7474 m x2 x4).bind fun x7 =>
      match x7 with
      | .inl _ =>
        some (.fin (Sum.inl ()))
      | .inr _ =>
        let x12 := IntKind.i64.wrap ((7 : Int) * x2.2)
        bif decide (x12 < (0 : Int)) then none else
        let x14 := bitsOp .or .u64 x2.1 (shlOp .u64 (IntKind.u64.wrap (bitsOp .and .u8 x4 (127 : Int))) x12)
        bif decide (x4 < (128 : Int)) then
          bif x4 == (0 : Int) then
            bif decide ((0 : Int) < x2.2) then
              some (.fin (Sum.inl ()))
            else some (.fin (Sum.inr (x14, (IntKind.i64.wrap (x2.2 + (1 : Int))), (0 : Int))))
          else some (.fin (Sum.inr (x14, (IntKind.i64.wrap (x2.2 + (1 : Int))), (0 : Int))))
        else some (.next (x14, (IntKind.i64.wrap (x2.2 + (1 : Int)))))
    else none
  else some (.fin (Sum.inl ()))
noncomputable def F_code_Read (m : Fu) (p : List Int) : Option (Int × Int × Int) :=
  let a0 := p
  (iter m (F_code_Read.l58 m a0 (a0.length : Int)) ((0 : Int), (0 : Int))).bind fun x21 =>
  match x21 with
  | .inl _ =>
    some ((0 : Int), (0 : Int), (8 : Int))
  | .inr x23 =>
    some x23
def F_code_Read.ann : List (Nat × Ann) := [(58, .loop ⟨[(5, false, [.dat (.int .u64)]), (10, false, [.dat (.int .i64)])], [], [], [], 128⟩ [(.exit 0, ⟨[], [], [], [], 128⟩), (.ret, ⟨[(2, false, [.dat (.int .u64)]), (3, false, [.dat (.int .i64)]), (4, false, [.dat (.int .i64)])], [], [], [], 128⟩)]),
  (7474, .jnt [(.exit 0, ⟨[], [], [], [], 224⟩), (.normal, ⟨[], [], [], [], 224⟩)])]
def F_code_Read.sig : Sig := ⟨[.val false [.sl (.int .u8)]], [(false, [.dat (.int .u64)]), (false, [.dat (.int .i64)]), (false, [.dat (.int .i64)])]⟩
noncomputable def F_code_Read.S : Summ := ⟨66, F_code_Read.sig, F_code_Read⟩
noncomputable def F_code_Read.G : List Summ := []
theorem F_code_Read.eq : absF Try.prog F_code_Read.G F_code_Read.ann F_code_Read.sig Try.f66 = F_code_Read := by kernel_rfl
theorem F_code_Read.sound : Sound Try.prog F_code_Read.S := absF_sound (fn := Try.f66) (Γ := F_code_Read.G) all_nil mix (by kernel_rfl) (by kernel_rfl) (fun m p => congrFun (congrFun F_code_Read.eq m) p)
/-! ### (*cloakroom/image.reader).wide -/
noncomputable def F_image_reader_wide.s14 (_ : Fu) (a0 : List Int) (a1 : Bool) (x1 : Int × Int × Int) : Option (((List Int) × Bool)) :=
  bif a1 then
    some (a0, true)
  else some (a0, (x1.2.2 != (0 : Int)))
noncomputable def F_image_reader_wide (m : Fu) (p : (List Int) × Bool) : Option (Int × (List Int) × Bool) :=
  let a0 := p.1
  let a1 := p.2
  (F_code_Read m a0).bind fun x1 =>
  (F_image_reader_wide.s14 m a0 a1 x1).bind fun x3 =>
  bif (((decide ((0 : Int) ≤ x1.2.1)) && (decide (x1.2.1 ≤ (x3.1.length : Int)))) && (decide ((x3.1.length : Int) ≤ (x3.1.length : Int)))) && (decide ((x3.1.length : Int) ≤ (x3.1.length : Int))) then
    some (x1.1, ((x3.1.take ((x3.1.length : Int).toNat)).drop x1.2.1.toNat), x3.2)
  else none
def F_image_reader_wide.ann : List (Nat × Ann) := [(14, .jnt [(.normal, ⟨[], [(0, [.dat (.sl (.int .u8)), .dat .bool])], [], [], 224⟩)])]
def F_image_reader_wide.sig : Sig := ⟨[.box [.sl (.int .u8), .bool]], [(false, [.dat (.int .u64)])]⟩
noncomputable def F_image_reader_wide.S : Summ := ⟨44, F_image_reader_wide.sig, F_image_reader_wide⟩
noncomputable def F_image_reader_wide.G : List Summ := [F_code_Read.S]
theorem F_image_reader_wide.eq : absF Try.prog F_image_reader_wide.G F_image_reader_wide.ann F_image_reader_wide.sig Try.f44 = F_image_reader_wide := by kernel_rfl
theorem F_image_reader_wide.sound : Sound Try.prog F_image_reader_wide.S := absF_sound (fn := Try.f44) (Γ := F_image_reader_wide.G) (all_cons F_code_Read.sound all_nil) mix (by kernel_rfl) (by kernel_rfl) (fun m p => congrFun (congrFun F_image_reader_wide.eq m) p)
/-! ### (*cloakroom/image.reader).num -/
noncomputable def F_image_reader_num (m : Fu) (p : (List Int) × Bool × Int) : Option (Int × (List Int) × Bool) :=
  let a0 := p.1
  let a1 := p.2.1
  let a2 := p.2.2
  (F_image_reader_wide m (a0, a1)).bind fun x1 =>
  bif decide ((IntKind.u64.wrap a2) < x1.1) then
    some ((0 : Int), x1.2.1, true)
  else some ((IntKind.i64.wrap x1.1), x1.2)
def F_image_reader_num.ann : List (Nat × Ann) := []
def F_image_reader_num.sig : Sig := ⟨[.box [.sl (.int .u8), .bool], .val false [.int .i64]], [(false, [.dat (.int .i64)])]⟩
noncomputable def F_image_reader_num.S : Summ := ⟨42, F_image_reader_num.sig, F_image_reader_num⟩
noncomputable def F_image_reader_num.G : List Summ := [F_image_reader_wide.S]
theorem F_image_reader_num.eq : absF Try.prog F_image_reader_num.G F_image_reader_num.ann F_image_reader_num.sig Try.f42 = F_image_reader_num := by kernel_rfl
theorem F_image_reader_num.sound : Sound Try.prog F_image_reader_num.S := absF_sound (fn := Try.f42) (Γ := F_image_reader_num.G) (all_cons F_image_reader_wide.sound all_nil) mix (by kernel_rfl) (by kernel_rfl) (fun m p => congrFun (congrFun F_image_reader_num.eq m) p)
/-! ### (*cloakroom/image.reader).text -/
noncomputable def F_image_reader_text (m : Fu) (p : (List Int) × Bool) : Option ((List Int) × (List Int) × Bool) :=
  let a0 := p.1
  let a1 := p.2
  (F_image_reader_num m (a0, a1, (a0.length : Int))).bind fun x2 =>
  bif decide ((x2.2.1.length : Int) < x2.1) then some (([] : List Int), x2.2.1, true) else
  bif ((decide ((0 : Int) ≤ x2.1)) && (decide (x2.1 ≤ (x2.2.1.length : Int)))) && (decide ((x2.2.1.length : Int) ≤ (x2.2.1.length : Int))) then
    bif (((decide ((0 : Int) ≤ x2.1)) && (decide (x2.1 ≤ (x2.2.1.length : Int)))) && (decide ((x2.2.1.length : Int) ≤ (x2.2.1.length : Int)))) && (decide ((x2.2.1.length : Int) ≤ (x2.2.1.length : Int))) then
      some (((x2.2.1.take x2.1.toNat).drop 0), ((x2.2.1.take ((x2.2.1.length : Int).toNat)).drop x2.1.toNat), x2.2.2)
    else none
  else none
def F_image_reader_text.ann : List (Nat × Ann) := []
def F_image_reader_text.sig : Sig := ⟨[.box [.sl (.int .u8), .bool]], [(false, [.dat .str])]⟩
noncomputable def F_image_reader_text.S : Summ := ⟨43, F_image_reader_text.sig, F_image_reader_text⟩
noncomputable def F_image_reader_text.G : List Summ := [F_image_reader_num.S]
theorem F_image_reader_text.eq : absF Try.prog F_image_reader_text.G F_image_reader_text.ann F_image_reader_text.sig Try.f43 = F_image_reader_text := by kernel_rfl
theorem F_image_reader_text.sound : Sound Try.prog F_image_reader_text.S := absF_sound (fn := Try.f43) (Γ := F_image_reader_text.G) (all_cons F_image_reader_num.sound all_nil) mix (by kernel_rfl) (by kernel_rfl) (fun m p => congrFun (congrFun F_image_reader_text.eq m) p)
/-! ### cloakroom/code.Small -/
noncomputable def F_code_Small.l28 (_ : Fu) (x1 : Int × (List Int)) : Option (Step (Int × (List Int)) ((Int × (List Int)))) :=
  bif decide ((127 : Int) < x1.1) then
    let x5 := [(bitsOp .or .u8 (IntKind.u8.wrap x1.1) (128 : Int))]
    bif Nat.ble (x1.2.length + x5.length) 140737488351232 then
      some (.next ((shrOp .u64 x1.1 (7 : Int)), (x1.2 ++ x5)))
    else none
  else some (.fin x1)
noncomputable def F_code_Small (m : Fu) (p : Int) : Option (List Int) :=
  let a0 := p
  (iter m (F_code_Small.l28 m) (a0, ([] : List Int))).bind fun x8 =>
  let x10 := [(IntKind.u8.wrap x8.1)]
  bif Nat.ble (x8.2.length + x10.length) 140737488351232 then
    some (x8.2 ++ x10)
  else none
def F_code_Small.ann : List (Nat × Ann) := [(28, .loop ⟨[(0, false, [.dat (.int .u64)]), (3, false, [.own (.int .u8) 48 .wr])], [], [], [], 49⟩ [(.exit 0, ⟨[(0, false, [.dat (.int .u64)]), (3, false, [.own (.int .u8) 48 .wr])], [], [], [], 49⟩)])]
def F_code_Small.sig : Sig := ⟨[.val false [.int .u64]], [(false, [.own (.int .u8) 0 .wr])]⟩
noncomputable def F_code_Small.S : Summ := ⟨37, F_code_Small.sig, F_code_Small⟩
noncomputable def F_code_Small.G : List Summ := []
theorem F_code_Small.eq : absF Try.prog F_code_Small.G F_code_Small.ann F_code_Small.sig Try.f37 = F_code_Small := by kernel_rfl
theorem F_code_Small.sound : Sound Try.prog F_code_Small.S := absF_sound (fn := Try.f37) (Γ := F_code_Small.G) all_nil mix (by kernel_rfl) (by kernel_rfl) (fun m p => congrFun (congrFun F_code_Small.eq m) p)
/-! ### cloakroom/image.nums -/
noncomputable def F_image_nums.l26 (m : Fu) (a1 : List Int) (x1 : Int) (x2 : (List Int) × Int) : Option (Step ((List Int) × Int) ((List Int))) :=
  bif decide (x2.2 < x1) then
    bif (decide ((0 : Int) ≤ x2.2)) && (decide (x2.2 < (a1.length : Int))) then
      (F_code_Small m (IntKind.u64.wrap (a1.getD x2.2.toNat 0))).bind fun x6 =>
      bif Nat.ble (x2.1.length + x6.length) 140737488351232 then
        some (.next ((x2.1 ++ x6), (IntKind.i64.wrap (x2.2 + (1 : Int)))))
      else none
    else none
  else some (.fin x2.1)
noncomputable def F_image_nums (m : Fu) (p : (List Int) × (List Int)) : Option (List Int) :=
  let a0 := p.1
  let a1 := p.2
  (iter m (F_image_nums.l26 m a1 (a1.length : Int)) (a0, (0 : Int))).bind fun x9 =>
  some x9
def F_image_nums.ann : List (Nat × Ann) := [(26, .loop ⟨[(0, false, [.own (.int .u8) 96 .fr]), (9, false, [.dat (.int .i64)])], [], [], [0], 97⟩ [(.exit 0, ⟨[(0, false, [.own (.int .u8) 96 .fr])], [], [], [0], 97⟩)])]
def F_image_nums.sig : Sig := ⟨[.own (.int .u8), .val false [.sl (.int .i64)]], [(false, [.own (.int .u8) 0 .fr])]⟩
noncomputable def F_image_nums.S : Summ := ⟨35, F_image_nums.sig, F_image_nums⟩
noncomputable def F_image_nums.G : List Summ := [F_code_Small.S]
theorem F_image_nums.eq : absF Try.prog F_image_nums.G F_image_nums.ann F_image_nums.sig Try.f35 = F_image_nums := by kernel_rfl
theorem F_image_nums.sound : Sound Try.prog F_image_nums.S := absF_sound (fn := Try.f35) (Γ := F_image_nums.G) (all_cons F_code_Small.sound all_nil) mix (by kernel_rfl) (by kernel_rfl) (fun m p => congrFun (congrFun F_image_nums.eq m) p)
/-! ### cloakroom/code.Text -/
noncomputable def F_code_Text (m : Fu) (p : List Int) : Option (List Int) :=
  let a0 := p
  (F_code_Small m (IntKind.u64.wrap (a0.length : Int))).bind fun x3 =>
  bif Nat.ble (x3.length + a0.length) 140737488351232 then
    some (x3 ++ a0)
  else none
def F_code_Text.ann : List (Nat × Ann) := []
def F_code_Text.sig : Sig := ⟨[.val false [.str]], [(false, [.own (.int .u8) 0 .wr])]⟩
noncomputable def F_code_Text.S : Summ := ⟨36, F_code_Text.sig, F_code_Text⟩
noncomputable def F_code_Text.G : List Summ := [F_code_Small.S]
theorem F_code_Text.eq : absF Try.prog F_code_Text.G F_code_Text.ann F_code_Text.sig Try.f36 = F_code_Text := by kernel_rfl
theorem F_code_Text.sound : Sound Try.prog F_code_Text.S := absF_sound (fn := Try.f36) (Γ := F_code_Text.G) (all_cons F_code_Small.sound all_nil) mix (by kernel_rfl) (by kernel_rfl) (fun m p => congrFun (congrFun F_code_Text.eq m) p)
/-! ### cloakroom/image.Write -/
noncomputable def F_image_Write.s30 (_ : Fu) (a5 : Bool) (x8 : List Int) : Option ((List Int)) :=
  bif a5 then
    bif Nat.ble (x8.length + 1) 140737488351232 then
      some (x8 ++ ([1] : List Int))
    else none
  else
    bif Nat.ble (x8.length + 1) 140737488351232 then
      some (x8 ++ ([0] : List Int))
    else none
noncomputable def F_image_Write.l506 (m : Fu) (a2 : List (Int × (List Int) × (List Int) × Int × Int × Int)) (x15 : Int) (x16 : (List Int) × Int) : Option (Step ((List Int) × Int) ((List Int))) :=
  bif decide (x16.2 < x15) then
    bif (decide ((0 : Int) ≤ x16.2)) && (decide (x16.2 < (a2.length : Int))) then
      let x18 := a2.getD x16.2.toNat (0, ([], ([], (0, (0, 0)))))
      (F_image_nums m (x16.1, ([x18.1]))).bind fun x20 =>
      (F_code_Text m x18.2.1).bind fun x21 =>
      bif Nat.ble (x20.length + x21.length) 140737488351232 then
        let x22 := x20 ++ x21
        (F_code_Text m x18.2.2.1).bind fun x23 =>
        bif Nat.ble (x22.length + x23.length) 140737488351232 then
          (F_image_nums m ((x22 ++ x23), ([(IntKind.i64.wrap x18.2.2.2.1), x18.2.2.2.2.1]))).bind fun x27 =>
          (F_code_Small m x18.2.2.2.2.2).bind fun x28 =>
          bif Nat.ble (x27.length + x28.length) 140737488351232 then
            some (.next ((x27 ++ x28), (IntKind.i64.wrap (x16.2 + (1 : Int)))))
          else none
        else none
      else none
    else none
  else some (.fin x16.1)
noncomputable def F_image_Write (m : Fu) (p : Int × (List Int) × (List (Int × (List Int) × (List Int) × Int × Int × Int)) × Int × Int × Bool) : Option ((List Int) × Int) :=
  let a0 := p.1
  let a1 := p.2.1
  let a2 := p.2.2.1
  let a3 := p.2.2.2.1
  let a4 := p.2.2.2.2.1
  let a5 := p.2.2.2.2.2
  (F_image_Check m (a0, a1, a2, a3, a4, a5)).bind fun x1 =>
  bif x1 != (0 : Int) then some (([] : List Int), x1) else
  (F_image_nums m (([] : List Int), ([a0, (a1.length : Int)]))).bind fun x5 =>
  (F_image_nums m (x5, a1)).bind fun x6 =>
  (F_image_nums m (x6, ([a3, a4]))).bind fun x8 =>
  (F_image_Write.s30 m a5 x8).bind fun x11 =>
  (F_image_nums m (x11, ([(a2.length : Int)]))).bind fun x14 =>
  (iter m (F_image_Write.l506 m a2 (a2.length : Int)) (x14, (0 : Int))).bind fun x31 =>
  bif decide ((65536 : Int) < (x31.length : Int)) then
    some (([] : List Int), (3 : Int))
  else some (x31, (0 : Int))
def F_image_Write.ann : List (Nat × Ann) := [(30, .jnt [(.normal, ⟨[(5, false, [.own (.int .u8) 416 .fr])], [], [], [384], 417⟩)]),
  (506, .loop ⟨[(5, false, [.own (.int .u8) 593 .fr]), (46, false, [.dat (.int .i64)])], [], [], [497], 594⟩ [(.exit 0, ⟨[(5, false, [.own (.int .u8) 593 .fr])], [], [], [497], 594⟩)])]
def F_image_Write.sig : Sig := ⟨[.val true [.int .i64, .sl (.int .i64), .sl (.pr (.int .i64) (.pr .str (.pr .str (.pr (.int .u32) (.pr (.int .i64) (.int .u64)))))), .int .i64, .int .i64, .bool]], [(false, [.own (.int .u8) 0 .fr]), (false, [.dat (.int .i64)])]⟩
noncomputable def F_image_Write.S : Summ := ⟨11, F_image_Write.sig, F_image_Write⟩
noncomputable def F_image_Write.G : List Summ := [F_image_Check.S, F_image_nums.S, F_code_Text.S, F_code_Small.S]
theorem F_image_Write.eq : absF Try.prog F_image_Write.G F_image_Write.ann F_image_Write.sig Try.f11 = F_image_Write := by kernel_rfl
theorem F_image_Write.sound : Sound Try.prog F_image_Write.S := absF_sound (fn := Try.f11) (Γ := F_image_Write.G) (all_cons F_image_Check.sound (all_cons F_image_nums.sound (all_cons F_code_Text.sound (all_cons F_code_Small.sound all_nil)))) mix (by kernel_rfl) (by kernel_rfl) (fun m p => congrFun (congrFun F_image_Write.eq m) p)
/-! ### bytes.Equal -/
noncomputable def F_bytes_Equal (_ : Fu) (p : (List Int) × (List Int)) : Option (Bool) :=
  let a0 := p.1
  let a1 := p.2
  some (a0 == a1)
def F_bytes_Equal.ann : List (Nat × Ann) := []
def F_bytes_Equal.sig : Sig := ⟨[.val false [.sl (.int .u8)], .val false [.sl (.int .u8)]], [(false, [.dat .bool])]⟩
noncomputable def F_bytes_Equal.S : Summ := ⟨45, F_bytes_Equal.sig, F_bytes_Equal⟩
noncomputable def F_bytes_Equal.G : List Summ := []
theorem F_bytes_Equal.eq : absF Try.prog F_bytes_Equal.G F_bytes_Equal.ann F_bytes_Equal.sig Try.f45 = F_bytes_Equal := by kernel_rfl
theorem F_bytes_Equal.sound : Sound Try.prog F_bytes_Equal.S := absF_sound (fn := Try.f45) (Γ := F_bytes_Equal.G) all_nil mix (by kernel_rfl) (by kernel_rfl) (fun m p => congrFun (congrFun F_bytes_Equal.eq m) p)
/-! ### cloakroom/image.Read -/
noncomputable def F_image_Read.l250 (m : Fu) (x4 : Int × (List Int) × Bool) (x5 : Int × (List Int) × Bool × Int × (List Int) × Int × Int × Bool) : Option (Step (Int × (List Int) × Bool × Int × (List Int) × Int × Int × Bool) (((List Int) × Bool × Int × (List Int) × Int × Int × Bool))) :=
  bif decide (x5.1 < x4.1) then
    (F_image_reader_num m (x5.2.1, x5.2.2.1, (16 : Int))).bind fun x7 =>
    let x8 := [x7.1]
    bif Nat.ble (x5.2.2.2.2.1.length + x8.length) 4294967296 then
      some (.next ((IntKind.i64.wrap (x5.1 + (1 : Int))), x7.2.1, x7.2.2, x5.2.2.2.1, (x5.2.2.2.2.1 ++ x8), x5.2.2.2.2.2))
    else none
  else some (.fin x5.2)
noncomputable def F_image_Read.l2042 (m : Fu) (x16 : Int × (List Int) × Bool) (x17 : Int × (List Int) × Bool × Int × (List Int) × (List (Int × (List Int) × (List Int) × Int × Int × Int)) × Int × Int × Bool) : Option (Step (Int × (List Int) × Bool × Int × (List Int) × (List (Int × (List Int) × (List Int) × Int × Int × Int)) × Int × Int × Bool) ((Int × Int × Int × Int × Bool) ⊕ ((List Int) × Bool × Int × (List Int) × (List (Int × (List Int) × (List Int) × Int × Int × Int)) × Int × Int × Bool))) :=
  bif decide (x17.1 < x16.1) then
    (F_image_reader_num m (x17.2.1, x17.2.2.1, (4 : Int))).bind fun x19 =>
    (F_image_reader_text m x19.2).bind fun x20 =>
    (F_image_reader_text m x20.2).bind fun x21 =>
    (F_image_reader_num m (x21.2.1, x21.2.2, (4294967295 : Int))).bind fun x22 =>
    (F_image_reader_num m (x22.2.1, x22.2.2, (1099511627776 : Int))).bind fun x24 =>
    (F_image_reader_wide m x24.2).bind fun x25 =>
    let x26 := [(x19.1, (x20.1, (x21.1, ((IntKind.u32.wrap x22.1), (x24.1, x25.1)))))]
    bif Nat.ble (x17.2.2.2.2.2.1.length + x26.length) 4294967296 then
      bif x25.2.2 then
        some (.fin (Sum.inl ((8 : Int), (0 : Int), (0 : Int), (0 : Int), false)))
      else some (.next ((IntKind.i64.wrap (x17.1 + (1 : Int))), x25.2.1, x25.2.2, x17.2.2.2.1, x17.2.2.2.2.1, (x17.2.2.2.2.2.1 ++ x26), x17.2.2.2.2.2.2))
    else none
  else some (.fin (Sum.inr x17.2))
noncomputable def F_image_Read (m : Fu) (p : List Int) : Option (Int × (List Int) × (List (Int × (List Int) × (List Int) × Int × Int × Int)) × Int × Int × Bool × Int) :=
  let a0 := p
  bif decide ((65536 : Int) < (a0.length : Int)) then some ((0 : Int), ([] : List Int), ([] : List (Int × (List Int) × (List Int) × Int × Int × Int)), (0 : Int), (0 : Int), false, (3 : Int)) else
  (F_image_reader_num m (a0, false, (1099511627776 : Int))).bind fun x3 =>
  (F_image_reader_num m (x3.2.1, x3.2.2, (4 : Int))).bind fun x4 =>
  (iter m (F_image_Read.l250 m x4) ((0 : Int), x4.2.1, x4.2.2, x3.1, ([] : List Int), (0 : Int), (0 : Int), false)).bind fun x11 =>
  (F_image_reader_num m (x11.1, x11.2.1, (2147483647 : Int))).bind fun x12 =>
  (F_image_reader_num m (x12.2.1, x12.2.2, (2147483647 : Int))).bind fun x13 =>
  (F_image_reader_num m (x13.2.1, x13.2.2, (255 : Int))).bind fun x14 =>
  (F_image_reader_num m (x14.2.1, x14.2.2, (1024 : Int))).bind fun x16 =>
  (iter m (F_image_Read.l2042 m x16) ((0 : Int), x16.2.1, x16.2.2, x11.2.2.1, x11.2.2.2.1, ([] : List (Int × (List Int) × (List Int) × Int × Int × Int)), x12.1, x13.1, (x14.1 == (1 : Int)))).bind fun x29 =>
  match x29 with
  | .inl x30 =>
    some (x30.2.1, ([] : List Int), ([] : List (Int × (List Int) × (List Int) × Int × Int × Int)), x30.2.2.1, x30.2.2.2.1, x30.2.2.2.2, x30.1)
  | .inr x31 =>
    (F_image_Write m x31.2.2).bind fun x32 =>
    bif x31.2.1 then some ((0 : Int), ([] : List Int), ([] : List (Int × (List Int) × (List Int) × Int × Int × Int)), (0 : Int), (0 : Int), false, (8 : Int)) else
    bif x32.2 != (0 : Int) then some ((0 : Int), ([] : List Int), ([] : List (Int × (List Int) × (List Int) × Int × Int × Int)), (0 : Int), (0 : Int), false, (8 : Int)) else
    (F_bytes_Equal m (x32.1, a0)).bind fun x34 =>
    bif !x34 then
      some ((0 : Int), ([] : List Int), ([] : List (Int × (List Int) × (List Int) × Int × Int × Int)), (0 : Int), (0 : Int), false, (8 : Int))
    else some (x31.2.2.1, x31.2.2.2.1, x31.2.2.2.2.1, x31.2.2.2.2.2.1, x31.2.2.2.2.2.2.1, x31.2.2.2.2.2.2.2, (0 : Int))
def F_image_Read.ann : List (Nat × Ann) := [(250, .loop ⟨[(21, false, [.dat (.int .i64)])], [(128, [.dat (.sl (.int .u8)), .dat .bool]), (208, [.dat (.int .i64), .own (.int .i64) 288 .wr, .cst .nils, .dat (.int .i64), .dat (.int .i64), .dat .bool])], [], [], 289⟩ [(.exit 0, ⟨[], [(128, [.dat (.sl (.int .u8)), .dat .bool]), (208, [.dat (.int .i64), .own (.int .i64) 288 .wr, .cst .nils, .dat (.int .i64), .dat (.int .i64), .dat .bool])], [], [], 289⟩)]),
  (2042, .loop ⟨[(43, false, [.dat (.int .i64)])], [(128, [.dat (.sl (.int .u8)), .dat .bool]), (208, [.dat (.int .i64), .own (.int .i64) 545 .wr, .own (.pr (.int .i64) (.pr .str (.pr .str (.pr (.int .u32) (.pr (.int .i64) (.int .u64)))))) 546 .wr, .dat (.int .i64), .dat (.int .i64), .dat .bool])], [], [288], 547⟩ [(.ret, ⟨[(3, false, [.dat (.int .i64)])], [(16, [.dat (.int .i64), .cst .nils, .cst .nils, .dat (.int .i64), .dat (.int .i64), .dat .bool])], [], [128, 208, 288], 545⟩), (.exit 2, ⟨[], [(128, [.dat (.sl (.int .u8)), .dat .bool]), (208, [.dat (.int .i64), .own (.int .i64) 545 .wr, .own (.pr (.int .i64) (.pr .str (.pr .str (.pr (.int .u32) (.pr (.int .i64) (.int .u64)))))) 546 .wr, .dat (.int .i64), .dat (.int .i64), .dat .bool])], [], [288], 547⟩)])]
def F_image_Read.sig : Sig := ⟨[.val false [.sl (.int .u8)]], [(true, [.dat (.int .i64), .own (.int .i64) 0 .fr, .own (.pr (.int .i64) (.pr .str (.pr .str (.pr (.int .u32) (.pr (.int .i64) (.int .u64)))))) 0 .fr, .dat (.int .i64), .dat (.int .i64), .dat .bool]), (false, [.dat (.int .i64)])]⟩
noncomputable def F_image_Read.S : Summ := ⟨19, F_image_Read.sig, F_image_Read⟩
noncomputable def F_image_Read.G : List Summ := [F_image_reader_num.S, F_image_reader_text.S, F_image_reader_wide.S, F_image_Write.S, F_bytes_Equal.S]
theorem F_image_Read.eq : absF Try.prog F_image_Read.G F_image_Read.ann F_image_Read.sig Try.f19 = F_image_Read := by kernel_rfl
theorem F_image_Read.sound : Sound Try.prog F_image_Read.S := absF_sound (fn := Try.f19) (Γ := F_image_Read.G) (all_cons F_image_reader_num.sound (all_cons F_image_reader_text.sound (all_cons F_image_reader_wide.sound (all_cons F_image_Write.sound (all_cons F_bytes_Equal.sound all_nil))))) mix (by kernel_rfl) (by kernel_rfl) (fun m p => congrFun (congrFun F_image_Read.eq m) p)
/-! ### cloakroom/numbers.may$4 -/
noncomputable def F_numbers_may_c4 (m : Fu) (p : Int × Int × Int × (List Int)) : Option (Bool × Int × Int × Int × (List Int)) :=
  let a0 := p.1
  let a1 := p.2.1
  let a2 := p.2.2.1
  let a3 := p.2.2.2
  (F_image_Read m a3).bind fun x1 =>
  some ((x1.2.2.2.2.2.2 == (0 : Int)), a0, a1, a2, a3)
def F_numbers_may_c4.ann : List (Nat × Ann) := []
def F_numbers_may_c4.sig : Sig := ⟨[.box [.int .u8, .int .i64, .int .i64, .sl (.int .u8)]], [(false, [.dat .bool])]⟩
noncomputable def F_numbers_may_c4.S : Summ := ⟨73, F_numbers_may_c4.sig, F_numbers_may_c4⟩
noncomputable def F_numbers_may_c4.G : List Summ := [F_image_Read.S]
theorem F_numbers_may_c4.eq : absF Try.prog F_numbers_may_c4.G F_numbers_may_c4.ann F_numbers_may_c4.sig Try.f73 = F_numbers_may_c4 := by kernel_rfl
theorem F_numbers_may_c4.sound : Sound Try.prog F_numbers_may_c4.S := absF_sound (fn := Try.f73) (Γ := F_numbers_may_c4.G) (all_cons F_image_Read.sound all_nil) mix (by kernel_rfl) (by kernel_rfl) (fun m p => congrFun (congrFun F_numbers_may_c4.eq m) p)
/-! ### cloakroom/numbers.may$3 -/
noncomputable def F_numbers_may_c3 (_ : Fu) (p : Int × Int × Int × (List Int)) : Option (Bool × Int × Int × Int × (List Int)) :=
  let a0 := p.1
  let a1 := p.2.1
  let a2 := p.2.2.1
  let a3 := p.2.2.2
  some (((a3.length : Int) == (0 : Int)), a0, a1, a2, a3)
def F_numbers_may_c3.ann : List (Nat × Ann) := []
def F_numbers_may_c3.sig : Sig := ⟨[.box [.int .u8, .int .i64, .int .i64, .sl (.int .u8)]], [(false, [.dat .bool])]⟩
noncomputable def F_numbers_may_c3.S : Summ := ⟨72, F_numbers_may_c3.sig, F_numbers_may_c3⟩
noncomputable def F_numbers_may_c3.G : List Summ := []
theorem F_numbers_may_c3.eq : absF Try.prog F_numbers_may_c3.G F_numbers_may_c3.ann F_numbers_may_c3.sig Try.f72 = F_numbers_may_c3 := by kernel_rfl
theorem F_numbers_may_c3.sound : Sound Try.prog F_numbers_may_c3.S := absF_sound (fn := Try.f72) (Γ := F_numbers_may_c3.G) all_nil mix (by kernel_rfl) (by kernel_rfl) (fun m p => congrFun (congrFun F_numbers_may_c3.eq m) p)
/-! ### cloakroom/numbers.may$2 -/
noncomputable def F_numbers_may_c2 (_ : Fu) (p : Int × Int × Int × (List Int)) : Option (Bool × Int × Int × Int × (List Int)) :=
  let a0 := p.1
  let a1 := p.2.1
  let a2 := p.2.2.1
  let a3 := p.2.2.2
  some (((a3.length : Int) == (0 : Int)), a0, a1, a2, a3)
def F_numbers_may_c2.ann : List (Nat × Ann) := []
def F_numbers_may_c2.sig : Sig := ⟨[.box [.int .u8, .int .i64, .int .i64, .sl (.int .u8)]], [(false, [.dat .bool])]⟩
noncomputable def F_numbers_may_c2.S : Summ := ⟨71, F_numbers_may_c2.sig, F_numbers_may_c2⟩
noncomputable def F_numbers_may_c2.G : List Summ := []
theorem F_numbers_may_c2.eq : absF Try.prog F_numbers_may_c2.G F_numbers_may_c2.ann F_numbers_may_c2.sig Try.f71 = F_numbers_may_c2 := by kernel_rfl
theorem F_numbers_may_c2.sound : Sound Try.prog F_numbers_may_c2.S := absF_sound (fn := Try.f71) (Γ := F_numbers_may_c2.G) all_nil mix (by kernel_rfl) (by kernel_rfl) (fun m p => congrFun (congrFun F_numbers_may_c2.eq m) p)
/-! ### (*cloakroom/code.reader).wide -/
noncomputable def F_code_reader_wide.s14 (_ : Fu) (a0 : List Int) (a1 : Bool) (x1 : Int × Int × Int) : Option (((List Int) × Bool)) :=
  bif a1 then
    some (a0, true)
  else some (a0, (x1.2.2 != (0 : Int)))
noncomputable def F_code_reader_wide (m : Fu) (p : (List Int) × Bool) : Option (Int × (List Int) × Bool) :=
  let a0 := p.1
  let a1 := p.2
  (F_code_Read m a0).bind fun x1 =>
  (F_code_reader_wide.s14 m a0 a1 x1).bind fun x3 =>
  bif (((decide ((0 : Int) ≤ x1.2.1)) && (decide (x1.2.1 ≤ (x3.1.length : Int)))) && (decide ((x3.1.length : Int) ≤ (x3.1.length : Int)))) && (decide ((x3.1.length : Int) ≤ (x3.1.length : Int))) then
    some (x1.1, ((x3.1.take ((x3.1.length : Int).toNat)).drop x1.2.1.toNat), x3.2)
  else none
def F_code_reader_wide.ann : List (Nat × Ann) := [(14, .jnt [(.normal, ⟨[], [(0, [.dat (.sl (.int .u8)), .dat .bool])], [], [], 224⟩)])]
def F_code_reader_wide.sig : Sig := ⟨[.box [.sl (.int .u8), .bool]], [(false, [.dat (.int .u64)])]⟩
noncomputable def F_code_reader_wide.S : Summ := ⟨93, F_code_reader_wide.sig, F_code_reader_wide⟩
noncomputable def F_code_reader_wide.G : List Summ := [F_code_Read.S]
theorem F_code_reader_wide.eq : absF Try.prog F_code_reader_wide.G F_code_reader_wide.ann F_code_reader_wide.sig Try.f93 = F_code_reader_wide := by kernel_rfl
theorem F_code_reader_wide.sound : Sound Try.prog F_code_reader_wide.S := absF_sound (fn := Try.f93) (Γ := F_code_reader_wide.G) (all_cons F_code_Read.sound all_nil) mix (by kernel_rfl) (by kernel_rfl) (fun m p => congrFun (congrFun F_code_reader_wide.eq m) p)
/-! ### (*cloakroom/code.reader).num -/
noncomputable def F_code_reader_num (m : Fu) (p : (List Int) × Bool × Int) : Option (Int × (List Int) × Bool) :=
  let a0 := p.1
  let a1 := p.2.1
  let a2 := p.2.2
  (F_code_reader_wide m (a0, a1)).bind fun x1 =>
  bif decide ((IntKind.u64.wrap a2) < x1.1) then
    some ((0 : Int), x1.2.1, true)
  else some ((IntKind.i64.wrap x1.1), x1.2)
def F_code_reader_num.ann : List (Nat × Ann) := []
def F_code_reader_num.sig : Sig := ⟨[.box [.sl (.int .u8), .bool], .val false [.int .i64]], [(false, [.dat (.int .i64)])]⟩
noncomputable def F_code_reader_num.S : Summ := ⟨83, F_code_reader_num.sig, F_code_reader_num⟩
noncomputable def F_code_reader_num.G : List Summ := [F_code_reader_wide.S]
theorem F_code_reader_num.eq : absF Try.prog F_code_reader_num.G F_code_reader_num.ann F_code_reader_num.sig Try.f83 = F_code_reader_num := by kernel_rfl
theorem F_code_reader_num.sound : Sound Try.prog F_code_reader_num.S := absF_sound (fn := Try.f83) (Γ := F_code_reader_num.G) (all_cons F_code_reader_wide.sound all_nil) mix (by kernel_rfl) (by kernel_rfl) (fun m p => congrFun (congrFun F_code_reader_num.eq m) p)
/-! ### (*cloakroom/code.reader).byte -/
noncomputable def F_code_reader_byte (_ : Fu) (p : (List Int) × Bool) : Option (Int × (List Int) × Bool) :=
  let a0 := p.1
  let a1 := p.2
  bif (a0.length : Int) == (0 : Int) then some ((0 : Int), a0, true) else
  bif decide ((0 : Int) < (a0.length : Int)) then
    bif ((decide ((1 : Int) ≤ (a0.length : Int))) && (decide ((a0.length : Int) ≤ (a0.length : Int)))) && (decide ((a0.length : Int) ≤ (a0.length : Int))) then
      some ((a0.getD 0 0), ((a0.take ((a0.length : Int).toNat)).drop 1), a1)
    else none
  else none
def F_code_reader_byte.ann : List (Nat × Ann) := []
def F_code_reader_byte.sig : Sig := ⟨[.box [.sl (.int .u8), .bool]], [(false, [.dat (.int .u8)])]⟩
noncomputable def F_code_reader_byte.S : Summ := ⟨94, F_code_reader_byte.sig, F_code_reader_byte⟩
noncomputable def F_code_reader_byte.G : List Summ := []
theorem F_code_reader_byte.eq : absF Try.prog F_code_reader_byte.G F_code_reader_byte.ann F_code_reader_byte.sig Try.f94 = F_code_reader_byte := by kernel_rfl
theorem F_code_reader_byte.sound : Sound Try.prog F_code_reader_byte.S := absF_sound (fn := Try.f94) (Γ := F_code_reader_byte.G) all_nil mix (by kernel_rfl) (by kernel_rfl) (fun m p => congrFun (congrFun F_code_reader_byte.eq m) p)
/-! ### cloakroom/code.cut -/
noncomputable def F_code_cut (m : Fu) (p : List Int) : Option ((List Int) × (List Int) × Int) :=
  let a0 := p
  (F_code_Read m a0).bind fun x1 =>
  bif x1.2.2 != (0 : Int) then some (([] : List Int), ([] : List Int), (8 : Int)) else
  bif decide ((IntKind.u64.wrap (IntKind.i64.wrap ((a0.length : Int) - x1.2.1))) < x1.1) then some (([] : List Int), ([] : List Int), (8 : Int)) else
  bif (((decide ((0 : Int) ≤ x1.2.1)) && (decide (x1.2.1 ≤ (a0.length : Int)))) && (decide ((a0.length : Int) ≤ (a0.length : Int)))) && (decide ((a0.length : Int) ≤ (a0.length : Int))) then
    let x7 := (a0.take ((a0.length : Int).toNat)).drop x1.2.1.toNat
    bif ((decide ((0 : Int) ≤ x1.1)) && (decide (x1.1 ≤ (x7.length : Int)))) && (decide ((x7.length : Int) ≤ (x7.length : Int))) then
      let x10 := IntKind.i64.wrap (x1.2.1 + (IntKind.i64.wrap x1.1))
      bif (((decide ((0 : Int) ≤ x10)) && (decide (x10 ≤ (a0.length : Int)))) && (decide ((a0.length : Int) ≤ (a0.length : Int)))) && (decide ((a0.length : Int) ≤ (a0.length : Int))) then
        some (((x7.take x1.1.toNat).drop 0), ((a0.take ((a0.length : Int).toNat)).drop x10.toNat), (0 : Int))
      else none
    else none
  else none
def F_code_cut.ann : List (Nat × Ann) := []
def F_code_cut.sig : Sig := ⟨[.val false [.sl (.int .u8)]], [(false, [.dat (.sl (.int .u8))]), (false, [.dat (.sl (.int .u8))]), (false, [.dat (.int .i64)])]⟩
noncomputable def F_code_cut.S : Summ := ⟨96, F_code_cut.sig, F_code_cut⟩
noncomputable def F_code_cut.G : List Summ := [F_code_Read.S]
theorem F_code_cut.eq : absF Try.prog F_code_cut.G F_code_cut.ann F_code_cut.sig Try.f96 = F_code_cut := by kernel_rfl
theorem F_code_cut.sound : Sound Try.prog F_code_cut.S := absF_sound (fn := Try.f96) (Γ := F_code_cut.G) (all_cons F_code_Read.sound all_nil) mix (by kernel_rfl) (by kernel_rfl) (fun m p => congrFun (congrFun F_code_cut.eq m) p)
/-! ### (*cloakroom/code.reader).text -/
noncomputable def F_code_reader_text (m : Fu) (p : (List Int) × Bool) : Option ((List Int) × (List Int) × Bool) :=
  let a0 := p.1
  let a1 := p.2
  (F_code_cut m a0).bind fun x1 =>
  bif x1.2.2 != (0 : Int) then
    some (([] : List Int), a0, true)
  else some (x1.1, x1.2.1, a1)
def F_code_reader_text.ann : List (Nat × Ann) := []
def F_code_reader_text.sig : Sig := ⟨[.box [.sl (.int .u8), .bool]], [(false, [.dat .str])]⟩
noncomputable def F_code_reader_text.S : Summ := ⟨95, F_code_reader_text.sig, F_code_reader_text⟩
noncomputable def F_code_reader_text.G : List Summ := [F_code_cut.S]
theorem F_code_reader_text.eq : absF Try.prog F_code_reader_text.G F_code_reader_text.ann F_code_reader_text.sig Try.f95 = F_code_reader_text := by kernel_rfl
theorem F_code_reader_text.sound : Sound Try.prog F_code_reader_text.S := absF_sound (fn := Try.f95) (Γ := F_code_reader_text.G) (all_cons F_code_cut.sound all_nil) mix (by kernel_rfl) (by kernel_rfl) (fun m p => congrFun (congrFun F_code_reader_text.eq m) p)
/-! ### (*cloakroom/code.reader).change -/
noncomputable def F_code_reader_change.s116 (_ : Fu) (x1 : Int × (List Int) × Bool) : Option (Bool) :=
  let x2 := x1.1 == (1 : Int)
  bif x2 then some x2 else
  let x3 := x1.1 == (2 : Int)
  bif x3 then some x3 else
  let x4 := x1.1 == (3 : Int)
  bif x4 then
    some x4
  else some (x1.1 == (5 : Int))
noncomputable def F_code_reader_change.s14 (m : Fu) (x1 : Int × (List Int) × Bool) : Option (((List Int) × Bool × Int × Int × (List Int) × (List Int) × Int × Int × Int × (List Int) × Int × Int × Bool)) :=
  (F_code_reader_change.s116 m x1).bind fun x6 =>
  bif x6 then
    (F_code_reader_num m (x1.2.1, x1.2.2, (4 : Int))).bind fun x7 =>
    some (x7.2.1, x7.2.2, x1.1, x7.1, ([] : List Int), ([] : List Int), (0 : Int), (0 : Int), (0 : Int), ([] : List Int), (0 : Int), (0 : Int), false)
  else some (x1.2.1, x1.2.2, x1.1, (0 : Int), ([] : List Int), ([] : List Int), (0 : Int), (0 : Int), (0 : Int), ([] : List Int), (0 : Int), (0 : Int), false)
noncomputable def F_code_reader_change.s3934 (_ : Fu) (x8 : ((List Int) × Bool × Int × Int × (List Int) × (List Int) × Int × Int × Int × (List Int) × Int × Int × Bool)) : Option (Bool) :=
  let x19 := x8.2.2.1 == (4 : Int)
  bif x19 then some x19 else
  let x20 := x8.2.2.1 == (5 : Int)
  bif x20 then some x20 else
  let x21 := x8.2.2.1 == (6 : Int)
  bif x21 then
    some x21
  else some (x8.2.2.1 == (7 : Int))
noncomputable def F_code_reader_change.s30 (m : Fu) (x8 : ((List Int) × Bool × Int × Int × (List Int) × (List Int) × Int × Int × Int × (List Int) × Int × Int × Bool)) : Option (((List Int) × Bool × Int × Int × (List Int) × (List Int) × Int × Int × Int × (List Int) × Int × Int × Bool)) :=
  bif x8.2.2.1 == (1 : Int) then
    (F_code_reader_text m (x8.1, x8.2.1)).bind fun x10 =>
    (F_code_reader_text m x10.2).bind fun x11 =>
    (F_code_reader_num m (x11.2.1, x11.2.2, (4294967295 : Int))).bind fun x12 =>
    (F_code_reader_num m (x12.2.1, x12.2.2, (1099511627776 : Int))).bind fun x14 =>
    (F_code_reader_wide m x14.2).bind fun x15 =>
    some (x15.2.1, x15.2.2, x8.2.2.1, x8.2.2.2.1, x10.1, x11.1, (IntKind.u32.wrap x12.1), x14.1, x15.1, x8.2.2.2.2.2.2.2.2.2)
  else
    bif x8.2.2.1 == (2 : Int) then
      (F_code_reader_text m (x8.1, x8.2.1)).bind fun x17 =>
      (F_code_reader_byte m x17.2).bind fun x18 =>
      some (x18.2.1, x18.2.2, x8.2.2.1, x8.2.2.2.1, x8.2.2.2.2.1, x8.2.2.2.2.2.1, x8.2.2.2.2.2.2.1, x8.2.2.2.2.2.2.2.1, x8.2.2.2.2.2.2.2.2.1, x17.1, x18.1, x8.2.2.2.2.2.2.2.2.2.2.2)
    else
      (F_code_reader_change.s3934 m x8).bind fun x23 =>
      bif x23 then
        (F_code_reader_num m (x8.1, x8.2.1, (1099511627776 : Int))).bind fun x24 =>
        some (x24.2.1, x24.2.2, x8.2.2.1, x8.2.2.2.1, x8.2.2.2.2.1, x8.2.2.2.2.2.1, x8.2.2.2.2.2.2.1, x8.2.2.2.2.2.2.2.1, x8.2.2.2.2.2.2.2.2.1, x8.2.2.2.2.2.2.2.2.2.1, x8.2.2.2.2.2.2.2.2.2.2.1, x24.1, x8.2.2.2.2.2.2.2.2.2.2.2.2)
      else some x8
noncomputable def F_code_reader_change.s62 (m : Fu) (x25 : ((List Int) × Bool × Int × Int × (List Int) × (List Int) × Int × Int × Int × (List Int) × Int × Int × Bool)) : Option (((List Int) × Bool × Int × Int × (List Int) × (List Int) × Int × Int × Int × (List Int) × Int × Int × Bool)) :=
  bif x25.2.2.1 == (6 : Int) then
    (F_code_reader_byte m (x25.1, x25.2.1)).bind fun x27 =>
    some (x27.2.1, x27.2.2, x25.2.2.1, x25.2.2.2.1, x25.2.2.2.2.1, x25.2.2.2.2.2.1, x25.2.2.2.2.2.2.1, x25.2.2.2.2.2.2.2.1, x25.2.2.2.2.2.2.2.2.1, x25.2.2.2.2.2.2.2.2.2.1, x25.2.2.2.2.2.2.2.2.2.2.1, x25.2.2.2.2.2.2.2.2.2.2.2.1, (x27.1 == (1 : Int)))
  else some x25
noncomputable def F_code_reader_change (m : Fu) (p : (List Int) × Bool) : Option (Int × Int × (List Int) × (List Int) × Int × Int × Int × (List Int) × Int × Int × Bool × (List Int) × Bool) :=
  let a0 := p.1
  let a1 := p.2
  (F_code_reader_byte m (a0, a1)).bind fun x1 =>
  (F_code_reader_change.s14 m x1).bind fun x8 =>
  (F_code_reader_change.s30 m x8).bind fun x25 =>
  (F_code_reader_change.s62 m x25).bind fun x29 =>
  some (x29.2.2.1, x29.2.2.2.1, x29.2.2.2.2.1, x29.2.2.2.2.2.1, x29.2.2.2.2.2.2.1, x29.2.2.2.2.2.2.2.1, x29.2.2.2.2.2.2.2.2.1, x29.2.2.2.2.2.2.2.2.2.1, x29.2.2.2.2.2.2.2.2.2.2.1, x29.2.2.2.2.2.2.2.2.2.2.2.1, x29.2.2.2.2.2.2.2.2.2.2.2.2, x29.1, x29.2.1)
def F_code_reader_change.ann : List (Nat × Ann) := [(14, .jnt [(.normal, ⟨[], [(0, [.dat (.sl (.int .u8)), .dat .bool]), (80, [.dat (.int .u8), .dat (.int .i64), .dat .str, .dat .str, .dat (.int .u32), .dat (.int .i64), .dat (.int .u64), .dat .str, .dat (.int .u8), .dat (.int .i64), .dat .bool])], [], [], 112⟩)]),
  (30, .jnt [(.normal, ⟨[], [(0, [.dat (.sl (.int .u8)), .dat .bool]), (80, [.dat (.int .u8), .dat (.int .i64), .dat .str, .dat .str, .dat (.int .u32), .dat (.int .i64), .dat (.int .u64), .dat .str, .dat (.int .u8), .dat (.int .i64), .dat .bool])], [], [], 112⟩)]),
  (62, .jnt [(.normal, ⟨[], [(0, [.dat (.sl (.int .u8)), .dat .bool]), (80, [.dat (.int .u8), .dat (.int .i64), .dat .str, .dat .str, .dat (.int .u32), .dat (.int .i64), .dat (.int .u64), .dat .str, .dat (.int .u8), .dat (.int .i64), .dat .bool])], [], [], 112⟩)]),
  (116, .jnt [(.normal, ⟨[(9, false, [.dat .bool])], [], [], [], 144⟩)]),
  (3934, .jnt [(.normal, ⟨[(42, false, [.dat .bool])], [], [], [], 208⟩)])]
def F_code_reader_change.sig : Sig := ⟨[.box [.sl (.int .u8), .bool]], [(true, [.dat (.int .u8), .dat (.int .i64), .dat .str, .dat .str, .dat (.int .u32), .dat (.int .i64), .dat (.int .u64), .dat .str, .dat (.int .u8), .dat (.int .i64), .dat .bool])]⟩
noncomputable def F_code_reader_change.S : Summ := ⟨84, F_code_reader_change.sig, F_code_reader_change⟩
noncomputable def F_code_reader_change.G : List Summ := [F_code_reader_byte.S, F_code_reader_num.S, F_code_reader_text.S, F_code_reader_wide.S]
theorem F_code_reader_change.eq : absF Try.prog F_code_reader_change.G F_code_reader_change.ann F_code_reader_change.sig Try.f84 = F_code_reader_change := by kernel_rfl
theorem F_code_reader_change.sound : Sound Try.prog F_code_reader_change.S := absF_sound (fn := Try.f84) (Γ := F_code_reader_change.G) (all_cons F_code_reader_byte.sound (all_cons F_code_reader_num.sound (all_cons F_code_reader_text.sound (all_cons F_code_reader_wide.sound all_nil)))) mix (by kernel_rfl) (by kernel_rfl) (fun m p => congrFun (congrFun F_code_reader_change.eq m) p)
/-! ### cloakroom/code.keyed -/
noncomputable def F_code_keyed (_ : Fu) (p : List Int) : Option (Bool) :=
  let a0 := p
  bif !(a0 == ([] : List Int)) then
    some (decide ((a0.length : Int) ≤ (32 : Int)))
  else some false
def F_code_keyed.ann : List (Nat × Ann) := []
def F_code_keyed.sig : Sig := ⟨[.val false [.str]], [(false, [.dat .bool])]⟩
noncomputable def F_code_keyed.S : Summ := ⟨89, F_code_keyed.sig, F_code_keyed⟩
noncomputable def F_code_keyed.G : List Summ := []
theorem F_code_keyed.eq : absF Try.prog F_code_keyed.G F_code_keyed.ann F_code_keyed.sig Try.f89 = F_code_keyed := by kernel_rfl
theorem F_code_keyed.sound : Sound Try.prog F_code_keyed.S := absF_sound (fn := Try.f89) (Γ := F_code_keyed.G) all_nil mix (by kernel_rfl) (by kernel_rfl) (fun m p => congrFun (congrFun F_code_keyed.eq m) p)
/-! ### cloakroom/code.in -/
noncomputable def F_code_in (_ : Fu) (p : Int × Int) : Option (Bool) :=
  let a0 := p.1
  let a1 := p.2
  bif decide ((0 : Int) ≤ a0) then
    some (decide (a0 ≤ a1))
  else some false
def F_code_in.ann : List (Nat × Ann) := []
def F_code_in.sig : Sig := ⟨[.val false [.int .i64], .val false [.int .i64]], [(false, [.dat .bool])]⟩
noncomputable def F_code_in.S : Summ := ⟨90, F_code_in.sig, F_code_in⟩
noncomputable def F_code_in.G : List Summ := []
theorem F_code_in.eq : absF Try.prog F_code_in.G F_code_in.ann F_code_in.sig Try.f90 = F_code_in := by kernel_rfl
theorem F_code_in.sound : Sound Try.prog F_code_in.S := absF_sound (fn := Try.f90) (Γ := F_code_in.G) all_nil mix (by kernel_rfl) (by kernel_rfl) (fun m p => congrFun (congrFun F_code_in.eq m) p)
/-! ### cloakroom/code.tenanted -/
noncomputable def F_code_tenanted (_ : Fu) (p : Int) : Option (Bool) :=
  let a0 := p
  bif decide ((0 : Int) ≤ a0) then
    some (decide (a0 < (4 : Int)))
  else some false
def F_code_tenanted.ann : List (Nat × Ann) := []
def F_code_tenanted.sig : Sig := ⟨[.val false [.int .i64]], [(false, [.dat .bool])]⟩
noncomputable def F_code_tenanted.S : Summ := ⟨91, F_code_tenanted.sig, F_code_tenanted⟩
noncomputable def F_code_tenanted.G : List Summ := []
theorem F_code_tenanted.eq : absF Try.prog F_code_tenanted.G F_code_tenanted.ann F_code_tenanted.sig Try.f91 = F_code_tenanted := by kernel_rfl
theorem F_code_tenanted.sound : Sound Try.prog F_code_tenanted.S := absF_sound (fn := Try.f91) (Γ := F_code_tenanted.G) all_nil mix (by kernel_rfl) (by kernel_rfl) (fun m p => congrFun (congrFun F_code_tenanted.eq m) p)
/-! ### cloakroom/code.may -/
noncomputable def F_code_may.s30 (m : Fu) (a0 : Int) (a1 : Int) (a2 : List Int) (a3 : List Int) (a4 : Int) (a5 : Int) (a6 : Int) (a7 : List Int) (a8 : Int) (a9 : Int) (a10 : Bool) : Option ((Bool × Int × Int × (List Int) × (List Int) × Int × Int × Int × (List Int) × Int × Int × Bool)) :=
  bif a0 == (1 : Int) then
    (F_code_keyed m a2).bind fun x2 =>
    bif x2 then
      bif decide ((a3.length : Int) ≤ (512 : Int)) then
        (F_code_in m (a5, (1099511627776 : Int))).bind fun x5 =>
        some (x5, a0, a1, a2, a3, a4, a5, a6, ([] : List Int), (0 : Int), (0 : Int), false)
      else some (false, a0, a1, a2, a3, a4, a5, a6, ([] : List Int), (0 : Int), (0 : Int), false)
    else some (false, a0, a1, a2, a3, a4, a5, a6, ([] : List Int), (0 : Int), (0 : Int), false)
  else
    bif a0 == (2 : Int) then
      (F_code_keyed m a7).bind fun x7 =>
      bif x7 then
        bif a8 == (1 : Int) then
          some (true, a0, a1, ([] : List Int), ([] : List Int), (0 : Int), (0 : Int), (0 : Int), a7, a8, (0 : Int), false)
        else some ((a8 == (2 : Int)), a0, a1, ([] : List Int), ([] : List Int), (0 : Int), (0 : Int), (0 : Int), a7, a8, (0 : Int), false)
      else some (false, a0, a1, ([] : List Int), ([] : List Int), (0 : Int), (0 : Int), (0 : Int), a7, a8, (0 : Int), false)
    else
      bif a0 == (3 : Int) then some (true, a0, a1, ([] : List Int), ([] : List Int), (0 : Int), (0 : Int), (0 : Int), ([] : List Int), (0 : Int), (0 : Int), false) else
      bif a0 == (4 : Int) then
        (F_code_in m (a9, (1099511627776 : Int))).bind fun x12 =>
        some (x12, a0, (0 : Int), ([] : List Int), ([] : List Int), (0 : Int), (0 : Int), (0 : Int), ([] : List Int), (0 : Int), a9, false)
      else
        bif a0 == (5 : Int) then
          (F_code_in m (a9, (16 : Int))).bind fun x14 =>
          some (x14, a0, a1, ([] : List Int), ([] : List Int), (0 : Int), (0 : Int), (0 : Int), ([] : List Int), (0 : Int), a9, false)
        else
          bif a0 == (6 : Int) then
            (F_code_in m (a9, (2147483647 : Int))).bind fun x16 =>
            some (x16, a0, (0 : Int), ([] : List Int), ([] : List Int), (0 : Int), (0 : Int), (0 : Int), ([] : List Int), (0 : Int), a9, a10)
          else
            bif a0 == (7 : Int) then
              (F_code_in m (a9, (2147483647 : Int))).bind fun x18 =>
              some (x18, a0, (0 : Int), ([] : List Int), ([] : List Int), (0 : Int), (0 : Int), (0 : Int), ([] : List Int), (0 : Int), a9, false)
            else some (false, a0, (0 : Int), ([] : List Int), ([] : List Int), (0 : Int), (0 : Int), (0 : Int), ([] : List Int), (0 : Int), (0 : Int), false)
noncomputable def F_code_may (m : Fu) (p : Int × Int × (List Int) × (List Int) × Int × Int × Int × (List Int) × Int × Int × Bool) : Option (Bool) :=
  let a0 := p.1
  let a1 := p.2.1
  let a2 := p.2.2.1
  let a3 := p.2.2.2.1
  let a4 := p.2.2.2.2.1
  let a5 := p.2.2.2.2.2.1
  let a6 := p.2.2.2.2.2.2.1
  let a7 := p.2.2.2.2.2.2.2.1
  let a8 := p.2.2.2.2.2.2.2.2.1
  let a9 := p.2.2.2.2.2.2.2.2.2.1
  let a10 := p.2.2.2.2.2.2.2.2.2.2
  (F_code_may.s30 m a0 a1 a2 a3 a4 a5 a6 a7 a8 a9 a10).bind fun x19 =>
  bif x19.1 then
    (F_code_tenanted m a1).bind fun x20 =>
    bif x20 then
      some ((x19.2.1 == a0) && ((x19.2.2.1 == a1) && (((x19.2.2.2.1 == a2) && ((x19.2.2.2.2.1 == a3) && ((x19.2.2.2.2.2.1 == a4) && ((x19.2.2.2.2.2.2.1 == a5) && ((x19.2.2.2.2.2.2.2.1 == a6) && true))))) && ((x19.2.2.2.2.2.2.2.2.1 == a7) && ((x19.2.2.2.2.2.2.2.2.2.1 == a8) && ((x19.2.2.2.2.2.2.2.2.2.2.1 == a9) && ((x19.2.2.2.2.2.2.2.2.2.2.2 == a10) && true)))))))
    else some false
  else some false
def F_code_may.ann : List (Nat × Ann) := [(30, .jnt [(.normal, ⟨[(4, false, [.dat .bool])], [(96, [.dat (.int .u8), .dat (.int .i64), .dat .str, .dat .str, .dat (.int .u32), .dat (.int .i64), .dat (.int .u64), .dat .str, .dat (.int .u8), .dat (.int .i64), .dat .bool])], [], [], 144⟩)])]
def F_code_may.sig : Sig := ⟨[.val true [.int .u8, .int .i64, .str, .str, .int .u32, .int .i64, .int .u64, .str, .int .u8, .int .i64, .bool]], [(false, [.dat .bool])]⟩
noncomputable def F_code_may.S : Summ := ⟨75, F_code_may.sig, F_code_may⟩
noncomputable def F_code_may.G : List Summ := [F_code_keyed.S, F_code_in.S, F_code_tenanted.S]
theorem F_code_may.eq : absF Try.prog F_code_may.G F_code_may.ann F_code_may.sig Try.f75 = F_code_may := by kernel_rfl
theorem F_code_may.sound : Sound Try.prog F_code_may.S := absF_sound (fn := Try.f75) (Γ := F_code_may.G) (all_cons F_code_keyed.sound (all_cons F_code_in.sound (all_cons F_code_tenanted.sound all_nil))) mix (by kernel_rfl) (by kernel_rfl) (fun m p => congrFun (congrFun F_code_may.eq m) p)
/-! ### cloakroom/code.nums -/
noncomputable def F_code_nums.l26 (m : Fu) (a1 : List Int) (x1 : Int) (x2 : (List Int) × Int) : Option (Step ((List Int) × Int) ((List Int))) :=
  bif decide (x2.2 < x1) then
    bif (decide ((0 : Int) ≤ x2.2)) && (decide (x2.2 < (a1.length : Int))) then
      (F_code_Small m (IntKind.u64.wrap (a1.getD x2.2.toNat 0))).bind fun x6 =>
      bif Nat.ble (x2.1.length + x6.length) 140737488351232 then
        some (.next ((x2.1 ++ x6), (IntKind.i64.wrap (x2.2 + (1 : Int)))))
      else none
    else none
  else some (.fin x2.1)
noncomputable def F_code_nums (m : Fu) (p : (List Int) × (List Int)) : Option (List Int) :=
  let a0 := p.1
  let a1 := p.2
  (iter m (F_code_nums.l26 m a1 (a1.length : Int)) (a0, (0 : Int))).bind fun x9 =>
  some x9
def F_code_nums.ann : List (Nat × Ann) := [(26, .loop ⟨[(0, false, [.own (.int .u8) 96 .fr]), (9, false, [.dat (.int .i64)])], [], [], [0], 97⟩ [(.exit 0, ⟨[(0, false, [.own (.int .u8) 96 .fr])], [], [], [0], 97⟩)])]
def F_code_nums.sig : Sig := ⟨[.own (.int .u8), .val false [.sl (.int .i64)]], [(false, [.own (.int .u8) 0 .fr])]⟩
noncomputable def F_code_nums.S : Summ := ⟨76, F_code_nums.sig, F_code_nums⟩
noncomputable def F_code_nums.G : List Summ := [F_code_Small.S]
theorem F_code_nums.eq : absF Try.prog F_code_nums.G F_code_nums.ann F_code_nums.sig Try.f76 = F_code_nums := by kernel_rfl
theorem F_code_nums.sound : Sound Try.prog F_code_nums.S := absF_sound (fn := Try.f76) (Γ := F_code_nums.G) (all_cons F_code_Small.sound all_nil) mix (by kernel_rfl) (by kernel_rfl) (fun m p => congrFun (congrFun F_code_nums.eq m) p)
/-! ### cloakroom/code.texts -/
noncomputable def F_code_texts.l26 (m : Fu) (a1 : List (List Int)) (x1 : Int) (x2 : (List Int) × Int) : Option (Step ((List Int) × Int) ((List Int))) :=
  bif decide (x2.2 < x1) then
    bif (decide ((0 : Int) ≤ x2.2)) && (decide (x2.2 < (a1.length : Int))) then
      (F_code_Text m (a1.getD x2.2.toNat [])).bind fun x5 =>
      bif Nat.ble (x2.1.length + x5.length) 140737488351232 then
        some (.next ((x2.1 ++ x5), (IntKind.i64.wrap (x2.2 + (1 : Int)))))
      else none
    else none
  else some (.fin x2.1)
noncomputable def F_code_texts (m : Fu) (p : (List Int) × (List (List Int))) : Option (List Int) :=
  let a0 := p.1
  let a1 := p.2
  (iter m (F_code_texts.l26 m a1 (a1.length : Int)) (a0, (0 : Int))).bind fun x8 =>
  some x8
def F_code_texts.ann : List (Nat × Ann) := [(26, .loop ⟨[(0, false, [.own (.int .u8) 96 .fr]), (9, false, [.dat (.int .i64)])], [], [], [0], 97⟩ [(.exit 0, ⟨[(0, false, [.own (.int .u8) 96 .fr])], [], [], [0], 97⟩)])]
def F_code_texts.sig : Sig := ⟨[.own (.int .u8), .val false [.sl .str]], [(false, [.own (.int .u8) 0 .fr])]⟩
noncomputable def F_code_texts.S : Summ := ⟨92, F_code_texts.sig, F_code_texts⟩
noncomputable def F_code_texts.G : List Summ := [F_code_Text.S]
theorem F_code_texts.eq : absF Try.prog F_code_texts.G F_code_texts.ann F_code_texts.sig Try.f92 = F_code_texts := by kernel_rfl
theorem F_code_texts.sound : Sound Try.prog F_code_texts.S := absF_sound (fn := Try.f92) (Γ := F_code_texts.G) (all_cons F_code_Text.sound all_nil) mix (by kernel_rfl) (by kernel_rfl) (fun m p => congrFun (congrFun F_code_texts.eq m) p)
/-! ### cloakroom/code.put -/
noncomputable def F_code_put.s116 (_ : Fu) (a1 : Int) : Option (Bool) :=
  let x3 := a1 == (1 : Int)
  bif x3 then some x3 else
  let x4 := a1 == (2 : Int)
  bif x4 then some x4 else
  let x5 := a1 == (3 : Int)
  bif x5 then
    some x5
  else some (a1 == (5 : Int))
noncomputable def F_code_put.s14 (m : Fu) (a1 : Int) (a2 : Int) (x2 : List Int) : Option ((List Int)) :=
  (F_code_put.s116 m a1).bind fun x7 =>
  bif x7 then
    (F_code_nums m (x2, ([a2]))).bind fun x9 =>
    some x9
  else some x2
noncomputable def F_code_put.s3934 (_ : Fu) (a1 : Int) : Option (Bool) :=
  let x24 := a1 == (4 : Int)
  bif x24 then some x24 else
  let x25 := a1 == (5 : Int)
  bif x25 then some x25 else
  let x26 := a1 == (6 : Int)
  bif x26 then
    some x26
  else some (a1 == (7 : Int))
noncomputable def F_code_put.s30 (m : Fu) (a1 : Int) (a3 : List Int) (a4 : List Int) (a5 : Int) (a6 : Int) (a7 : Int) (a8 : List Int) (a9 : Int) (a10 : Int) (x10 : (List Int)) : Option ((List Int) ⊕ (List Int)) :=
  bif a1 == (1 : Int) then
    (F_code_texts m (x10, ([a3, a4]))).bind fun x13 =>
    (F_code_nums m (x13, ([(IntKind.i64.wrap a5), a6]))).bind fun x16 =>
    (F_code_Small m a7).bind fun x17 =>
    bif Nat.ble (x16.length + x17.length) 140737488351232 then
      some (Sum.inl (x16 ++ x17))
    else none
  else
    bif a1 == (2 : Int) then
      (F_code_texts m (x10, ([a8]))).bind fun x21 =>
      let x22 := [a9]
      bif Nat.ble (x21.length + x22.length) 140737488351232 then
        some (Sum.inl (x21 ++ x22))
      else none
    else
      (F_code_put.s3934 m a1).bind fun x28 =>
      bif x28 then
        (F_code_nums m (x10, ([a10]))).bind fun x30 =>
        some (Sum.inr x30)
      else some (Sum.inr x10)
noncomputable def F_code_put (m : Fu) (p : (List Int) × Int × Int × (List Int) × (List Int) × Int × Int × Int × (List Int) × Int × Int × Bool) : Option (List Int) :=
  let a0 := p.1
  let a1 := p.2.1
  let a2 := p.2.2.1
  let a3 := p.2.2.2.1
  let a4 := p.2.2.2.2.1
  let a5 := p.2.2.2.2.2.1
  let a6 := p.2.2.2.2.2.2.1
  let a7 := p.2.2.2.2.2.2.2.1
  let a8 := p.2.2.2.2.2.2.2.2.1
  let a9 := p.2.2.2.2.2.2.2.2.2.1
  let a10 := p.2.2.2.2.2.2.2.2.2.2.1
  let a11 := p.2.2.2.2.2.2.2.2.2.2.2
  let x1 := [a1]
  bif Nat.ble (a0.length + x1.length) 140737488351232 then
    (F_code_put.s14 m a1 a2 (a0 ++ x1)).bind fun x10 =>
    (F_code_put.s30 m a1 a3 a4 a5 a6 a7 a8 a9 a10 x10).bind fun x31 =>
    match x31 with
    | .inl x32 =>
      some x32
    | .inr x33 =>
      bif a1 == (6 : Int) then
        bif a11 then
          bif Nat.ble (x33.length + 1) 140737488351232 then
            some (x33 ++ ([1] : List Int))
          else none
        else
          bif Nat.ble (x33.length + 1) 140737488351232 then
            some (x33 ++ ([0] : List Int))
          else none
      else some x33
  else none
def F_code_put.ann : List (Nat × Ann) := [(14, .jnt [(.normal, ⟨[(0, false, [.own (.int .u8) 160 .fr])], [], [], [128], 161⟩)]),
  (30, .jnt [(.ret, ⟨[(4, false, [.own (.int .u8) 161 .fr])], [], [], [160], 162⟩), (.normal, ⟨[(0, false, [.own (.int .u8) 161 .fr])], [], [], [160], 162⟩)]),
  (116, .jnt [(.normal, ⟨[(12, false, [.dat .bool])], [], [], [], 192⟩)]),
  (3934, .jnt [(.normal, ⟨[(61, false, [.dat .bool])], [], [], [], 257⟩)])]
def F_code_put.sig : Sig := ⟨[.own (.int .u8), .val true [.int .u8, .int .i64, .str, .str, .int .u32, .int .i64, .int .u64, .str, .int .u8, .int .i64, .bool]], [(false, [.own (.int .u8) 0 .fr])]⟩
noncomputable def F_code_put.S : Summ := ⟨77, F_code_put.sig, F_code_put⟩
noncomputable def F_code_put.G : List Summ := [F_code_nums.S, F_code_texts.S, F_code_Small.S]
theorem F_code_put.eq : absF Try.prog F_code_put.G F_code_put.ann F_code_put.sig Try.f77 = F_code_put := by kernel_rfl
theorem F_code_put.sound : Sound Try.prog F_code_put.S := absF_sound (fn := Try.f77) (Γ := F_code_put.G) (all_cons F_code_nums.sound (all_cons F_code_texts.sound (all_cons F_code_Small.sound all_nil))) mix (by kernel_rfl) (by kernel_rfl) (fun m p => congrFun (congrFun F_code_put.eq m) p)
/-! ### cloakroom/code.Changes -/
noncomputable def F_code_Changes.l58 (m : Fu) (a0 : List (Int × Int × ((List Int) × (List Int) × Int × Int × Int) × (List Int) × Int × Int × Bool)) (x3 : Int) (x4 : Int) : Option (Step Int (Int ⊕ Unit)) :=
  bif decide (x4 < x3) then
    bif (decide ((0 : Int) ≤ x4)) && (decide (x4 < (a0.length : Int))) then
      let x6 := a0.getD x4.toNat (0, (0, (([], ([], (0, (0, 0)))), ([], (0, (0, false))))))
      (F_code_may m (x6.1, x6.2.1, x6.2.2.1.1, x6.2.2.1.2.1, x6.2.2.1.2.2.1, x6.2.2.1.2.2.2.1, x6.2.2.1.2.2.2.2, x6.2.2.2)).bind fun x7 =>
      bif !x7 then
        some (.fin (Sum.inl (8 : Int)))
      else some (.next (IntKind.i64.wrap (x4 + (1 : Int))))
    else none
  else some (.fin (Sum.inr ()))
noncomputable def F_code_Changes.l250 (m : Fu) (a0 : List (Int × Int × ((List Int) × (List Int) × Int × Int × Int) × (List Int) × Int × Int × Bool)) (x16 : Int) (x17 : (List Int) × Int) : Option (Step ((List Int) × Int) (Int ⊕ (List Int))) :=
  bif decide (x17.2 < x16) then
    bif (decide ((0 : Int) ≤ x17.2)) && (decide (x17.2 < (a0.length : Int))) then
      let x19 := a0.getD x17.2.toNat (0, (0, (([], ([], (0, (0, 0)))), ([], (0, (0, false))))))
      (F_code_put m (x17.1, x19.1, x19.2.1, x19.2.2.1.1, x19.2.2.1.2.1, x19.2.2.1.2.2.1, x19.2.2.1.2.2.2.1, x19.2.2.1.2.2.2.2, x19.2.2.2)).bind fun x20 =>
      bif decide ((65536 : Int) < (x20.length : Int)) then
        some (.fin (Sum.inl (3 : Int)))
      else some (.next (x20, (IntKind.i64.wrap (x17.2 + (1 : Int)))))
    else none
  else some (.fin (Sum.inr x17.1))
noncomputable def F_code_Changes (m : Fu) (p : List (Int × Int × ((List Int) × (List Int) × Int × Int × Int) × (List Int) × Int × Int × Bool)) : Option ((List Int) × Int) :=
  let a0 := p
  bif decide ((4096 : Int) < (a0.length : Int)) then some (([] : List Int), (4 : Int)) else
  (iter m (F_code_Changes.l58 m a0 (a0.length : Int)) (0 : Int)).bind fun x10 =>
  match x10 with
  | .inl x11 =>
    some (([] : List Int), x11)
  | .inr _ =>
    (F_code_nums m (([] : List Int), ([(a0.length : Int)]))).bind fun x15 =>
    (iter m (F_code_Changes.l250 m a0 (a0.length : Int)) (x15, (0 : Int))).bind fun x24 =>
    match x24 with
    | .inl x25 =>
      some (([] : List Int), x25)
    | .inr x26 =>
      some (x26, (0 : Int))
def F_code_Changes.ann : List (Nat × Ann) := [(58, .loop ⟨[(14, false, [.dat (.int .i64)])], [], [], [], 144⟩ [(.ret, ⟨[(2, false, [.cst .nils]), (3, false, [.dat (.int .i64)])], [], [], [], 144⟩), (.exit 0, ⟨[], [], [], [], 144⟩)]),
  (250, .loop ⟨[(6, false, [.own (.int .u8) 272 .fr]), (28, false, [.dat (.int .i64)])], [], [], [192], 273⟩ [(.ret, ⟨[(2, false, [.cst .nils]), (3, false, [.dat (.int .i64)])], [], [], [192], 272⟩), (.exit 2, ⟨[(6, false, [.own (.int .u8) 272 .fr])], [], [], [192], 273⟩)])]
def F_code_Changes.sig : Sig := ⟨[.val false [.sl (.pr (.int .u8) (.pr (.int .i64) (.pr (.pr .str (.pr .str (.pr (.int .u32) (.pr (.int .i64) (.int .u64))))) (.pr .str (.pr (.int .u8) (.pr (.int .i64) .bool))))))]], [(false, [.own (.int .u8) 0 .fr]), (false, [.dat (.int .i64)])]⟩
noncomputable def F_code_Changes.S : Summ := ⟨51, F_code_Changes.sig, F_code_Changes⟩
noncomputable def F_code_Changes.G : List Summ := [F_code_may.S, F_code_nums.S, F_code_put.S]
theorem F_code_Changes.eq : absF Try.prog F_code_Changes.G F_code_Changes.ann F_code_Changes.sig Try.f51 = F_code_Changes := by kernel_rfl
theorem F_code_Changes.sound : Sound Try.prog F_code_Changes.S := absF_sound (fn := Try.f51) (Γ := F_code_Changes.G) (all_cons F_code_may.sound (all_cons F_code_nums.sound (all_cons F_code_put.sound all_nil))) mix (by kernel_rfl) (by kernel_rfl) (fun m p => congrFun (congrFun F_code_Changes.eq m) p)
/-! ### cloakroom/code.OfChanges -/
noncomputable def F_code_OfChanges.l250 (m : Fu) (x3 : Int × (List Int) × Bool) (x4 : (List (Int × Int × ((List Int) × (List Int) × Int × Int × Int) × (List Int) × Int × Int × Bool)) × Int × (List Int) × Bool) : Option (Step ((List (Int × Int × ((List Int) × (List Int) × Int × Int × Int) × (List Int) × Int × Int × Bool)) × Int × (List Int) × Bool) (Int ⊕ ((List (Int × Int × ((List Int) × (List Int) × Int × Int × Int) × (List Int) × Int × Int × Bool)) × (List Int) × Bool))) :=
  bif decide (x4.2.1 < x3.1) then
    (F_code_reader_change m x4.2.2).bind fun x6 =>
    let x7 := [(x6.1, (x6.2.1, ((x6.2.2.1, (x6.2.2.2.1, (x6.2.2.2.2.1, (x6.2.2.2.2.2.1, x6.2.2.2.2.2.2.1)))), (x6.2.2.2.2.2.2.2.1, (x6.2.2.2.2.2.2.2.2.1, (x6.2.2.2.2.2.2.2.2.2.1, x6.2.2.2.2.2.2.2.2.2.2.1))))))]
    bif Nat.ble (x4.1.length + x7.length) 4294967296 then
      bif x6.2.2.2.2.2.2.2.2.2.2.2.2 then
        some (.fin (Sum.inl (8 : Int)))
      else some (.next ((x4.1 ++ x7), (IntKind.i64.wrap (x4.2.1 + (1 : Int))), x6.2.2.2.2.2.2.2.2.2.2.2))
    else none
  else some (.fin (Sum.inr (x4.1, x4.2.2)))
noncomputable def F_code_OfChanges (m : Fu) (p : List Int) : Option ((List (Int × Int × ((List Int) × (List Int) × Int × Int × Int) × (List Int) × Int × Int × Bool)) × Int) :=
  let a0 := p
  bif decide ((65536 : Int) < (a0.length : Int)) then some (([] : List (Int × Int × ((List Int) × (List Int) × Int × Int × Int) × (List Int) × Int × Int × Bool)), (3 : Int)) else
  (F_code_reader_num m (a0, false, (4096 : Int))).bind fun x3 =>
  (iter m (F_code_OfChanges.l250 m x3) (([] : List (Int × Int × ((List Int) × (List Int) × Int × Int × Int) × (List Int) × Int × Int × Bool)), (0 : Int), x3.2)).bind fun x10 =>
  match x10 with
  | .inl x11 =>
    some (([] : List (Int × Int × ((List Int) × (List Int) × Int × Int × Int) × (List Int) × Int × Int × Bool)), x11)
  | .inr x12 =>
    (F_code_Changes m x12.1).bind fun x13 =>
    bif x12.2.2 then some (([] : List (Int × Int × ((List Int) × (List Int) × Int × Int × Int) × (List Int) × Int × Int × Bool)), (8 : Int)) else
    bif x13.2 != (0 : Int) then some (([] : List (Int × Int × ((List Int) × (List Int) × Int × Int × Int) × (List Int) × Int × Int × Bool)), (8 : Int)) else
    (F_bytes_Equal m (x13.1, a0)).bind fun x15 =>
    bif !x15 then
      some (([] : List (Int × Int × ((List Int) × (List Int) × Int × Int × Int) × (List Int) × Int × Int × Bool)), (8 : Int))
    else some (x12.1, (0 : Int))
def F_code_OfChanges.ann : List (Nat × Ann) := [(250, .loop ⟨[(5, false, [.own (.pr (.int .u8) (.pr (.int .i64) (.pr (.pr .str (.pr .str (.pr (.int .u32) (.pr (.int .i64) (.int .u64))))) (.pr .str (.pr (.int .u8) (.pr (.int .i64) .bool)))))) 224 .wr]), (16, false, [.dat (.int .i64)])], [(128, [.dat (.sl (.int .u8)), .dat .bool])], [], [], 225⟩ [(.ret, ⟨[(2, false, [.cst .nils]), (3, false, [.dat (.int .i64)])], [], [], [128], 224⟩), (.exit 0, ⟨[(5, false, [.own (.pr (.int .u8) (.pr (.int .i64) (.pr (.pr .str (.pr .str (.pr (.int .u32) (.pr (.int .i64) (.int .u64))))) (.pr .str (.pr (.int .u8) (.pr (.int .i64) .bool)))))) 224 .wr])], [(128, [.dat (.sl (.int .u8)), .dat .bool])], [], [], 225⟩)])]
def F_code_OfChanges.sig : Sig := ⟨[.val false [.sl (.int .u8)]], [(false, [.own (.pr (.int .u8) (.pr (.int .i64) (.pr (.pr .str (.pr .str (.pr (.int .u32) (.pr (.int .i64) (.int .u64))))) (.pr .str (.pr (.int .u8) (.pr (.int .i64) .bool)))))) 0 .fr]), (false, [.dat (.int .i64)])]⟩
noncomputable def F_code_OfChanges.S : Summ := ⟨57, F_code_OfChanges.sig, F_code_OfChanges⟩
noncomputable def F_code_OfChanges.G : List Summ := [F_code_reader_num.S, F_code_reader_change.S, F_code_Changes.S, F_bytes_Equal.S]
theorem F_code_OfChanges.eq : absF Try.prog F_code_OfChanges.G F_code_OfChanges.ann F_code_OfChanges.sig Try.f57 = F_code_OfChanges := by kernel_rfl
theorem F_code_OfChanges.sound : Sound Try.prog F_code_OfChanges.S := absF_sound (fn := Try.f57) (Γ := F_code_OfChanges.G) (all_cons F_code_reader_num.sound (all_cons F_code_reader_change.sound (all_cons F_code_Changes.sound (all_cons F_bytes_Equal.sound all_nil)))) mix (by kernel_rfl) (by kernel_rfl) (fun m p => congrFun (congrFun F_code_OfChanges.eq m) p)
/-! ### cloakroom/numbers.changes -/
noncomputable def F_numbers_changes (m : Fu) (p : List Int) : Option (Bool) :=
  let a0 := p
  (F_code_OfChanges m a0).bind fun x1 =>
  some (x1.2 == (0 : Int))
def F_numbers_changes.ann : List (Nat × Ann) := []
def F_numbers_changes.sig : Sig := ⟨[.val false [.sl (.int .u8)]], [(false, [.dat .bool])]⟩
noncomputable def F_numbers_changes.S : Summ := ⟨69, F_numbers_changes.sig, F_numbers_changes⟩
noncomputable def F_numbers_changes.G : List Summ := [F_code_OfChanges.S]
theorem F_numbers_changes.eq : absF Try.prog F_numbers_changes.G F_numbers_changes.ann F_numbers_changes.sig Try.f69 = F_numbers_changes := by kernel_rfl
theorem F_numbers_changes.sound : Sound Try.prog F_numbers_changes.S := absF_sound (fn := Try.f69) (Γ := F_numbers_changes.G) (all_cons F_code_OfChanges.sound all_nil) mix (by kernel_rfl) (by kernel_rfl) (fun m p => congrFun (congrFun F_numbers_changes.eq m) p)
/-! ### cloakroom/numbers.may$1 -/
noncomputable def F_numbers_may_c1 (m : Fu) (p : Int × Int × Int × (List Int)) : Option (Bool × Int × Int × Int × (List Int)) :=
  let a0 := p.1
  let a1 := p.2.1
  let a2 := p.2.2.1
  let a3 := p.2.2.2
  bif decide ((0 : Int) < a2) then
    (F_numbers_changes m a3).bind fun x2 =>
    some (x2, a0, a1, a2, a3)
  else some (false, a0, a1, a2, a3)
def F_numbers_may_c1.ann : List (Nat × Ann) := []
def F_numbers_may_c1.sig : Sig := ⟨[.box [.int .u8, .int .i64, .int .i64, .sl (.int .u8)]], [(false, [.dat .bool])]⟩
noncomputable def F_numbers_may_c1.S : Summ := ⟨70, F_numbers_may_c1.sig, F_numbers_may_c1⟩
noncomputable def F_numbers_may_c1.G : List Summ := [F_numbers_changes.S]
theorem F_numbers_may_c1.eq : absF Try.prog F_numbers_may_c1.G F_numbers_may_c1.ann F_numbers_may_c1.sig Try.f70 = F_numbers_may_c1 := by kernel_rfl
theorem F_numbers_may_c1.sound : Sound Try.prog F_numbers_may_c1.S := absF_sound (fn := Try.f70) (Γ := F_numbers_may_c1.G) (all_cons F_numbers_changes.sound all_nil) mix (by kernel_rfl) (by kernel_rfl) (fun m p => congrFun (congrFun F_numbers_may_c1.eq m) p)
/-! ### cloakroom/numbers.may -/
noncomputable def F_numbers_may (m : Fu) (p : Int × Int × Int × (List Int)) : Option (Bool) :=
  let a0 := p.1
  let a1 := p.2.1
  let a2 := p.2.2.1
  let a3 := p.2.2.2
  (F_numbers_in m a1).bind fun x1 =>
  bif x1 then
    (F_numbers_in m a2).bind fun x2 =>
    bif x2 then
      bif decide ((0 : Int) < a0) then
        bif decide ((IntKind.i64.wrap a0) < (5 : Int)) then
          bif a0 == (0 : Int) then none else
          bif a0 == (1 : Int) then
            (F_numbers_may_c1 m (a0, a1, a2, a3)).bind fun x9 =>
            some x9.1
          else
            bif a0 == (2 : Int) then
              (F_numbers_may_c2 m (a0, a1, a2, a3)).bind fun x8 =>
              some x8.1
            else
              bif a0 == (3 : Int) then
                (F_numbers_may_c3 m (a0, a1, a2, a3)).bind fun x7 =>
                some x7.1
              else
                bif a0 == (4 : Int) then
                  (F_numbers_may_c4 m (a0, a1, a2, a3)).bind fun x6 =>
                  some x6.1
                else none
        else some false
      else some false
    else some false
  else some false
def F_numbers_may.ann : List (Nat × Ann) := []
def F_numbers_may.sig : Sig := ⟨[.val true [.int .u8, .int .i64, .int .i64, .sl (.int .u8)]], [(false, [.dat .bool])]⟩
noncomputable def F_numbers_may.S : Summ := ⟨47, F_numbers_may.sig, F_numbers_may⟩
noncomputable def F_numbers_may.G : List Summ := [F_numbers_in.S, F_numbers_may_c4.S, F_numbers_may_c3.S, F_numbers_may_c2.S, F_numbers_may_c1.S]
theorem F_numbers_may.eq : absF Try.prog F_numbers_may.G F_numbers_may.ann F_numbers_may.sig Try.f47 = F_numbers_may := by kernel_rfl
theorem F_numbers_may.sound : Sound Try.prog F_numbers_may.S := absF_sound (fn := Try.f47) (Γ := F_numbers_may.G) (all_cons F_numbers_in.sound (all_cons F_numbers_may_c4.sound (all_cons F_numbers_may_c3.sound (all_cons F_numbers_may_c2.sound (all_cons F_numbers_may_c1.sound all_nil))))) mix (by kernel_rfl) (by kernel_rfl) (fun m p => congrFun (congrFun F_numbers_may.eq m) p)
/-! ### cloakroom/numbers.Write -/
noncomputable def F_numbers_Write.l122 (m : Fu) (x5 : List Int) (x6 : Int) (x7 : (List Int) × Int) : Option (Step ((List Int) × Int) ((List Int))) :=
  bif decide (x7.2 < x6) then
    bif (decide ((0 : Int) ≤ x7.2)) && (decide (x7.2 < (x5.length : Int))) then
      bif Nat.blt x7.2.toNat x5.length then
        (F_code_Small m (IntKind.u64.wrap (x5.getD x7.2.toNat 0))).bind fun x11 =>
        bif Nat.ble (x7.1.length + x11.length) 140737488351232 then
          some (.next ((x7.1 ++ x11), (IntKind.i64.wrap (x7.2 + (1 : Int)))))
        else none
      else none
    else none
  else some (.fin x7.1)
noncomputable def F_numbers_Write (m : Fu) (p : Int × Int × Int × (List Int)) : Option ((List Int) × Int) :=
  let a0 := p.1
  let a1 := p.2.1
  let a2 := p.2.2.1
  let a3 := p.2.2.2
  (F_numbers_may m (a0, a1, a2, a3)).bind fun x1 =>
  bif !x1 then some (([] : List Int), (8 : Int)) else
  let x5 := [a1, a2, (a3.length : Int)]
  (iter m (F_numbers_Write.l122 m x5 (x5.length : Int)) (([a0]), (0 : Int))).bind fun x14 =>
  bif Nat.ble (x14.length + a3.length) 140737488351232 then
    some ((x14 ++ a3), (0 : Int))
  else none
def F_numbers_Write.ann : List (Nat × Ann) := [(122, .loop ⟨[(4, false, [.own (.int .u8) 336 .wr]), (22, false, [.dat (.int .i64)])], [], [], [144], 337⟩ [(.exit 0, ⟨[(4, false, [.own (.int .u8) 336 .wr])], [], [], [144], 337⟩)])]
def F_numbers_Write.sig : Sig := ⟨[.val true [.int .u8, .int .i64, .int .i64, .sl (.int .u8)]], [(false, [.own (.int .u8) 0 .wr]), (false, [.dat (.int .i64)])]⟩
noncomputable def F_numbers_Write.S : Summ := ⟨28, F_numbers_Write.sig, F_numbers_Write⟩
noncomputable def F_numbers_Write.G : List Summ := [F_numbers_may.S, F_code_Small.S]
theorem F_numbers_Write.eq : absF Try.prog F_numbers_Write.G F_numbers_Write.ann F_numbers_Write.sig Try.f28 = F_numbers_Write := by kernel_rfl
theorem F_numbers_Write.sound : Sound Try.prog F_numbers_Write.S := absF_sound (fn := Try.f28) (Γ := F_numbers_Write.G) (all_cons F_numbers_may.sound (all_cons F_code_Small.sound all_nil)) mix (by kernel_rfl) (by kernel_rfl) (fun m p => congrFun (congrFun F_numbers_Write.eq m) p)
/-! ### cloakroom/follow.Hear$1 -/
noncomputable def F_follow_Hear_c1 (_ : Fu) (p : Int × Int × Int × Int × (List Int) × (List (Int × (List Int) × (List Int) × Int × Int × Int)) × Int × Int × Bool × (List (Int × Int × Int × (List Int)))) : Option (Int × Int × Int × (List Int) × (List (Int × (List Int) × (List Int) × Int × Int × Int)) × Int × Int × Bool × (List (Int × Int × Int × (List Int)))) :=
  let a0 := p.1
  let a1 := p.2.1
  let a2 := p.2.2.1
  let a3 := p.2.2.2.1
  let a4 := p.2.2.2.2.1
  let a5 := p.2.2.2.2.2.1
  let a6 := p.2.2.2.2.2.2.1
  let a7 := p.2.2.2.2.2.2.2.1
  let a8 := p.2.2.2.2.2.2.2.2.1
  some (a1, a2, a3, a4, a5, a6, a7, a8, ([(a0, (a1, (a2, ([] : List Int))))]))
def F_follow_Hear_c1.ann : List (Nat × Ann) := []
def F_follow_Hear_c1.sig : Sig := ⟨[.val false [.int .u8], .box [.int .i64, .int .i64, .int .i64, .sl (.int .i64), .sl (.pr (.int .i64) (.pr .str (.pr .str (.pr (.int .u32) (.pr (.int .i64) (.int .u64)))))), .int .i64, .int .i64, .bool], .box [.sl (.pr (.int .u8) (.pr (.int .i64) (.pr (.int .i64) (.sl (.int .u8)))))]], []⟩
noncomputable def F_follow_Hear_c1.S : Summ := ⟨30, F_follow_Hear_c1.sig, F_follow_Hear_c1⟩
noncomputable def F_follow_Hear_c1.G : List Summ := []
theorem F_follow_Hear_c1.eq : absF Try.prog F_follow_Hear_c1.G F_follow_Hear_c1.ann F_follow_Hear_c1.sig Try.f30 = F_follow_Hear_c1 := by kernel_rfl
theorem F_follow_Hear_c1.sound : Sound Try.prog F_follow_Hear_c1.S := absF_sound (fn := Try.f30) (Γ := F_follow_Hear_c1.G) all_nil mix (by kernel_rfl) (by kernel_rfl) (fun m p => congrFun (congrFun F_follow_Hear_c1.eq m) p)
/-! ### cloakroom/follow.record$1 -/
noncomputable def F_follow_record_c1 (_ : Fu) (p : Int × Int × (List Int) × (List Int) × Int × Int × Int × (List Int) × Int × Int × Bool) : Option (Bool) :=
  let a0 := p.1
  bif a0 == (6 : Int) then
    some true
  else some (a0 == (7 : Int))
def F_follow_record_c1.ann : List (Nat × Ann) := []
def F_follow_record_c1.sig : Sig := ⟨[.val true [.int .u8, .int .i64, .str, .str, .int .u32, .int .i64, .int .u64, .str, .int .u8, .int .i64, .bool]], [(false, [.dat .bool])]⟩
noncomputable def F_follow_record_c1.S : Summ := ⟨59, F_follow_record_c1.sig, F_follow_record_c1⟩
noncomputable def F_follow_record_c1.G : List Summ := []
theorem F_follow_record_c1.eq : absF Try.prog F_follow_record_c1.G F_follow_record_c1.ann F_follow_record_c1.sig Try.f59 = F_follow_record_c1 := by kernel_rfl
theorem F_follow_record_c1.sound : Sound Try.prog F_follow_record_c1.S := absF_sound (fn := Try.f59) (Γ := F_follow_record_c1.G) all_nil mix (by kernel_rfl) (by kernel_rfl) (fun m p => congrFun (congrFun F_follow_record_c1.eq m) p)
/-! ### slices.IndexFunc[[]cloakroom/api.Change,cloakroom/api.Change] -/
noncomputable def F_slices_IndexFunc_Change.l26 (m : Fu) (a0 : List (Int × Int × ((List Int) × (List Int) × Int × Int × Int) × (List Int) × Int × Int × Bool)) (x1 : Int) (x2 : Int) : Option (Step Int (Int ⊕ Unit)) :=
  bif decide (x2 < x1) then
    bif (decide ((0 : Int) ≤ x2)) && (decide (x2 < (a0.length : Int))) then
      let x4 := a0.getD x2.toNat (0, (0, (([], ([], (0, (0, 0)))), ([], (0, (0, false))))))
      (F_follow_record_c1 m (x4.1, x4.2.1, x4.2.2.1.1, x4.2.2.1.2.1, x4.2.2.1.2.2.1, x4.2.2.1.2.2.2.1, x4.2.2.1.2.2.2.2, x4.2.2.2)).bind fun x5 =>
      bif x5 then
        some (.fin (Sum.inl x2))
      else some (.next (IntKind.i64.wrap (x2 + (1 : Int))))
    else none
  else some (.fin (Sum.inr ()))
noncomputable def F_slices_IndexFunc_Change (m : Fu) (p : List (Int × Int × ((List Int) × (List Int) × Int × Int × Int) × (List Int) × Int × Int × Bool)) : Option (Int) :=
  let a0 := p
  (iter m (F_slices_IndexFunc_Change.l26 m a0 (a0.length : Int)) (0 : Int)).bind fun x7 =>
  match x7 with
  | .inl x8 =>
    some x8
  | .inr _ =>
    some (-1 : Int)
def F_slices_IndexFunc_Change.ann : List (Nat × Ann) := [(26, .loop ⟨[(8, false, [.dat (.int .i64)])], [], [], [], 96⟩ [(.ret, ⟨[(4, false, [.dat (.int .i64)])], [], [], [], 96⟩), (.exit 0, ⟨[], [], [], [], 96⟩)])]
def F_slices_IndexFunc_Change.sig : Sig := ⟨[.val false [.sl (.pr (.int .u8) (.pr (.int .i64) (.pr (.pr .str (.pr .str (.pr (.int .u32) (.pr (.int .i64) (.int .u64))))) (.pr .str (.pr (.int .u8) (.pr (.int .i64) .bool))))))], .fn 59 []], [(false, [.dat (.int .i64)])]⟩
noncomputable def F_slices_IndexFunc_Change.S : Summ := ⟨85, F_slices_IndexFunc_Change.sig, F_slices_IndexFunc_Change⟩
noncomputable def F_slices_IndexFunc_Change.G : List Summ := [F_follow_record_c1.S]
theorem F_slices_IndexFunc_Change.eq : absF Try.prog F_slices_IndexFunc_Change.G F_slices_IndexFunc_Change.ann F_slices_IndexFunc_Change.sig Try.f85 = F_slices_IndexFunc_Change := by kernel_rfl
theorem F_slices_IndexFunc_Change.sound : Sound Try.prog F_slices_IndexFunc_Change.S := absF_sound (fn := Try.f85) (Γ := F_slices_IndexFunc_Change.G) (all_cons F_follow_record_c1.sound all_nil) mix (by kernel_rfl) (by kernel_rfl) (fun m p => congrFun (congrFun F_slices_IndexFunc_Change.eq m) p)
/-! ### slices.ContainsFunc[[]cloakroom/api.Change,cloakroom/api.Change] -/
noncomputable def F_slices_ContainsFunc_Change (m : Fu) (p : List (Int × Int × ((List Int) × (List Int) × Int × Int × Int) × (List Int) × Int × Int × Bool)) : Option (Bool) :=
  let a0 := p
  (F_slices_IndexFunc_Change m a0).bind fun x1 =>
  some (decide ((0 : Int) ≤ x1))
def F_slices_ContainsFunc_Change.ann : List (Nat × Ann) := []
def F_slices_ContainsFunc_Change.sig : Sig := ⟨[.val false [.sl (.pr (.int .u8) (.pr (.int .i64) (.pr (.pr .str (.pr .str (.pr (.int .u32) (.pr (.int .i64) (.int .u64))))) (.pr .str (.pr (.int .u8) (.pr (.int .i64) .bool))))))], .fn 59 []], [(false, [.dat .bool])]⟩
noncomputable def F_slices_ContainsFunc_Change.S : Summ := ⟨58, F_slices_ContainsFunc_Change.sig, F_slices_ContainsFunc_Change⟩
noncomputable def F_slices_ContainsFunc_Change.G : List Summ := [F_slices_IndexFunc_Change.S]
theorem F_slices_ContainsFunc_Change.eq : absF Try.prog F_slices_ContainsFunc_Change.G F_slices_ContainsFunc_Change.ann F_slices_ContainsFunc_Change.sig Try.f58 = F_slices_ContainsFunc_Change := by kernel_rfl
theorem F_slices_ContainsFunc_Change.sound : Sound Try.prog F_slices_ContainsFunc_Change.S := absF_sound (fn := Try.f58) (Γ := F_slices_ContainsFunc_Change.G) (all_cons F_slices_IndexFunc_Change.sound all_nil) mix (by kernel_rfl) (by kernel_rfl) (fun m p => congrFun (congrFun F_slices_ContainsFunc_Change.eq m) p)
/-! ### (*cloakroom/image.state).do$1 -/
noncomputable def F_image_state_do_c1 (m : Fu) (p : Int × (List Int) × (List Int) × Int × Int × Int × Int × Int × (List Int) × (List Int) × Int × Int × Int × (List Int) × Int × Int × Bool) : Option (Bool × Int × Int × (List Int) × (List Int) × Int × Int × Int × (List Int) × Int × Int × Bool) :=
  let a1 := p.2.1
  let a2 := p.2.2.1
  let a3 := p.2.2.2.1
  let a4 := p.2.2.2.2.1
  let a5 := p.2.2.2.2.2.1
  let a6 := p.2.2.2.2.2.2.1
  let a7 := p.2.2.2.2.2.2.2.1
  let a8 := p.2.2.2.2.2.2.2.2.1
  let a9 := p.2.2.2.2.2.2.2.2.2.1
  let a10 := p.2.2.2.2.2.2.2.2.2.2.1
  let a11 := p.2.2.2.2.2.2.2.2.2.2.2.1
  let a12 := p.2.2.2.2.2.2.2.2.2.2.2.2.1
  let a13 := p.2.2.2.2.2.2.2.2.2.2.2.2.2.1
  let a14 := p.2.2.2.2.2.2.2.2.2.2.2.2.2.2.1
  let a15 := p.2.2.2.2.2.2.2.2.2.2.2.2.2.2.2.1
  let a16 := p.2.2.2.2.2.2.2.2.2.2.2.2.2.2.2.2
  (F_image_due m (a1, a2, a3, a4, a5, a15)).bind fun x1 =>
  some (x1, a6, a7, a8, a9, a10, a11, a12, a13, a14, a15, a16)
def F_image_state_do_c1.ann : List (Nat × Ann) := []
def F_image_state_do_c1.sig : Sig := ⟨[.val true [.int .i64, .str, .str, .int .u32, .int .i64, .int .u64], .box [.int .u8, .int .i64, .str, .str, .int .u32, .int .i64, .int .u64, .str, .int .u8, .int .i64, .bool]], [(false, [.dat .bool])]⟩
noncomputable def F_image_state_do_c1.S : Summ := ⟨79, F_image_state_do_c1.sig, F_image_state_do_c1⟩
noncomputable def F_image_state_do_c1.G : List Summ := [F_image_due.S]
theorem F_image_state_do_c1.eq : absF Try.prog F_image_state_do_c1.G F_image_state_do_c1.ann F_image_state_do_c1.sig Try.f79 = F_image_state_do_c1 := by kernel_rfl
theorem F_image_state_do_c1.sound : Sound Try.prog F_image_state_do_c1.S := absF_sound (fn := Try.f79) (Γ := F_image_state_do_c1.G) (all_cons F_image_due.sound all_nil) mix (by kernel_rfl) (by kernel_rfl) (fun m p => congrFun (congrFun F_image_state_do_c1.eq m) p)
/-! ### (*cloakroom/image.state).do$2 -/
noncomputable def F_image_state_do_c2 (_ : Fu) (p : Int × (List Int) × (List Int) × Int × Int × Int × Int × Int × (List Int) × (List Int) × Int × Int × Int × (List Int) × Int × Int × Bool) : Option (Bool × Int × Int × (List Int) × (List Int) × Int × Int × Int × (List Int) × Int × Int × Bool) :=
  let a0 := p.1
  let a6 := p.2.2.2.2.2.2.1
  let a7 := p.2.2.2.2.2.2.2.1
  let a8 := p.2.2.2.2.2.2.2.2.1
  let a9 := p.2.2.2.2.2.2.2.2.2.1
  let a10 := p.2.2.2.2.2.2.2.2.2.2.1
  let a11 := p.2.2.2.2.2.2.2.2.2.2.2.1
  let a12 := p.2.2.2.2.2.2.2.2.2.2.2.2.1
  let a13 := p.2.2.2.2.2.2.2.2.2.2.2.2.2.1
  let a14 := p.2.2.2.2.2.2.2.2.2.2.2.2.2.2.1
  let a15 := p.2.2.2.2.2.2.2.2.2.2.2.2.2.2.2.1
  let a16 := p.2.2.2.2.2.2.2.2.2.2.2.2.2.2.2.2
  some ((a0 == a7), a6, a7, a8, a9, a10, a11, a12, a13, a14, a15, a16)
def F_image_state_do_c2.ann : List (Nat × Ann) := []
def F_image_state_do_c2.sig : Sig := ⟨[.val true [.int .i64, .str, .str, .int .u32, .int .i64, .int .u64], .box [.int .u8, .int .i64, .str, .str, .int .u32, .int .i64, .int .u64, .str, .int .u8, .int .i64, .bool]], [(false, [.dat .bool])]⟩
noncomputable def F_image_state_do_c2.S : Summ := ⟨82, F_image_state_do_c2.sig, F_image_state_do_c2⟩
noncomputable def F_image_state_do_c2.G : List Summ := []
theorem F_image_state_do_c2.eq : absF Try.prog F_image_state_do_c2.G F_image_state_do_c2.ann F_image_state_do_c2.sig Try.f82 = F_image_state_do_c2 := by kernel_rfl
theorem F_image_state_do_c2.sound : Sound Try.prog F_image_state_do_c2.S := absF_sound (fn := Try.f82) (Γ := F_image_state_do_c2.G) all_nil mix (by kernel_rfl) (by kernel_rfl) (fun m p => congrFun (congrFun F_image_state_do_c2.eq m) p)
/-! ### cloakroom/image.Apply -/
noncomputable def F_image_Apply.i26s212 (_ : Fu) (x12 : Int × Int × (List Int) × (List (Int × (List Int) × (List Int) × Int × Int × Int)) × Int × Int × Bool × (List Bool) × (List ((Int × (List Int)) × Int)) × Int) (x14 : Int × Int × ((List Int) × (List Int) × Int × Int × Int) × (List Int) × Int × Int × Bool) : Option (Int ⊕ Unit) :=
  bif decide (x14.2.2.2.2.2.1 < x12.2.1) then
    some (Sum.inl (2 : Int))
  else some (Sum.inr ())
noncomputable def F_image_Apply.i27s50 (_ : Fu) (x22 : Bool) : Option (Unit ⊕ Unit) :=
  bif x22 then
    some (Sum.inl ())
  else some (Sum.inr ())
noncomputable def F_image_Apply.i27s818 (m : Fu) (x21 : Int × Int × (List Int) × Int × Int × Bool × (List Bool) × (List ((Int × (List Int)) × Int)) × Int × Int × Int × (List Int) × (List Int) × Int × Int × Int × (List Int) × Int × Int × Bool) (x25 : Int × (List Int) × (List Int) × Int × Int × Int) : Option ((Bool × Int × Int × (List Int) × (List Int) × Int × Int × Int × (List Int) × Int × Int × Bool)) :=
  bif (decide ((0 : Int) ≤ x21.1)) && (decide (x21.1 < (x21.2.2.2.2.2.2.1.length : Int))) then
    bif Nat.blt x21.1.toNat x21.2.2.2.2.2.2.1.length then
      bif !(x21.2.2.2.2.2.2.1.getD x21.1.toNat false) then
        (F_image_state_do_c1 m (x25.1, x25.2.1, x25.2.2.1, x25.2.2.2.1, x25.2.2.2.2.1, x25.2.2.2.2.2, x21.2.2.2.2.2.2.2.2.2)).bind fun x28 =>
        some x28
      else some (false, x21.2.2.2.2.2.2.2.2.2)
    else none
  else none
noncomputable def F_image_Apply.i30s1 (_ : Fu) (x21 : Int × Int × (List Int) × Int × Int × Bool × (List Bool) × (List ((Int × (List Int)) × Int)) × Int × Int × Int × (List Int) × (List Int) × Int × Int × Int × (List Int) × Int × Int × Bool) (x25 : Int × (List Int) × (List Int) × Int × Int × Int) : Option ((Int × (List Int) × Int × Int × Bool × (List Bool) × (List ((Int × (List Int)) × Int)) × Int)) :=
  let x30 := mget (keyEq (.pr (.int .i64) .str)) x21.2.2.2.2.2.2.2.1 (x25.1, x25.2.1)
  bif x30.isSome then
    bif (decide ((0 : Int) ≤ (x30.getD 0))) && (decide ((x30.getD 0) < (x21.2.2.2.2.2.2.1.length : Int))) then
      bif Nat.blt ((x30.getD 0).toNat) x21.2.2.2.2.2.2.1.length then
        some (x21.2.1, x21.2.2.1, x21.2.2.2.1, x21.2.2.2.2.1, x21.2.2.2.2.2.1, (x21.2.2.2.2.2.2.1.set ((x30.getD 0).toNat) true), (mdel (keyEq (.pr (.int .i64) .str)) x21.2.2.2.2.2.2.2.1 (x25.1, x25.2.1)), (IntKind.i64.wrap (x21.2.2.2.2.2.2.2.2.1 - (1 : Int))))
      else none
    else none
  else some (x21.2.1, x21.2.2.1, x21.2.2.2.1, x21.2.2.2.2.1, x21.2.2.2.2.2.1, x21.2.2.2.2.2.2.1, x21.2.2.2.2.2.2.2.1, x21.2.2.2.2.2.2.2.2.1)
noncomputable def F_image_Apply.i27l6 (m : Fu) (x12 : Int × Int × (List Int) × (List (Int × (List Int) × (List Int) × Int × Int × Int)) × Int × Int × Bool × (List Bool) × (List ((Int × (List Int)) × Int)) × Int) (x20 : Int) (x21 : Int × Int × (List Int) × Int × Int × Bool × (List Bool) × (List ((Int × (List Int)) × Int)) × Int × Int × Int × (List Int) × (List Int) × Int × Int × Int × (List Int) × Int × Int × Bool) : Option (Step (Int × Int × (List Int) × Int × Int × Bool × (List Bool) × (List ((Int × (List Int)) × Int)) × Int × Int × Int × (List Int) × (List Int) × Int × Int × Int × (List Int) × Int × Int × Bool) ((Int × (List Int) × (List (Int × (List Int) × (List Int) × Int × Int × Int)) × Int × Int × Bool × (List Bool) × (List ((Int × (List Int)) × Int)) × Int))) :=
  (F_image_Apply.i27s50 m (decide (x21.1 < x20))).bind fun x23 =>
  match x23 with
  | .inl _ =>
    bif (decide ((0 : Int) ≤ x21.1)) && (decide (x21.1 < (x12.2.2.2.1.length : Int))) then
      bif Nat.blt x21.1.toNat x12.2.2.2.1.length then
        let x25 := x12.2.2.2.1.getD x21.1.toNat (0, ([], ([], (0, (0, 0)))))
        (F_image_Apply.i27s818 m x21 x25).bind fun x29 =>
        bif x29.1 then
          (F_image_Apply.i30s1 m x21 x25).bind fun x34 =>
          some (.next ((IntKind.i64.wrap (x21.1 + (1 : Int))), x34.1, x34.2.1, x34.2.2.1, x34.2.2.2.1, x34.2.2.2.2.1, x34.2.2.2.2.2.1, x34.2.2.2.2.2.2.1, x34.2.2.2.2.2.2.2, x29.2))
        else some (.next ((IntKind.i64.wrap (x21.1 + (1 : Int))), x21.2.1, x21.2.2.1, x21.2.2.2.1, x21.2.2.2.2.1, x21.2.2.2.2.2.1, x21.2.2.2.2.2.2.1, x21.2.2.2.2.2.2.2.1, x21.2.2.2.2.2.2.2.2.1, x29.2))
      else none
    else none
  | .inr _ =>
    some (.fin (x21.2.1, x21.2.2.1, x12.2.2.2.1, x21.2.2.2.1, x21.2.2.2.2.1, x21.2.2.2.2.2.1, x21.2.2.2.2.2.2.1, x21.2.2.2.2.2.2.2.1, x21.2.2.2.2.2.2.2.2.1))
noncomputable def F_image_Apply.i26s860 (_ : Fu) (x12 : Int × Int × (List Int) × (List (Int × (List Int) × (List Int) × Int × Int × Int)) × Int × Int × Bool × (List Bool) × (List ((Int × (List Int)) × Int)) × Int) (x14 : Int × Int × ((List Int) × (List Int) × Int × Int × Int) × (List Int) × Int × Int × Bool) : Option (Int ⊕ Unit) :=
  bif decide (x14.2.2.2.2.2.1 < x12.2.2.2.2.1) then
    some (Sum.inl (2 : Int))
  else some (Sum.inr ())
noncomputable def F_image_Apply.i26s6 (m : Fu) (x12 : Int × Int × (List Int) × (List (Int × (List Int) × (List Int) × Int × Int × Int)) × Int × Int × Bool × (List Bool) × (List ((Int × (List Int)) × Int)) × Int) (x14 : Int × Int × ((List Int) × (List Int) × Int × Int × Int) × (List Int) × Int × Int × Bool) : Option ((Int × Int × (List Int) × (List (Int × (List Int) × (List Int) × Int × Int × Int)) × Int × Int × Bool × (List Bool) × (List ((Int × (List Int)) × Int)) × Int) ⊕ Unit) :=
  bif x14.1 == (4 : Int) then
    (F_image_Apply.i26s212 m x12 x14).bind fun x17 =>
    match x17 with
    | .inl x18 =>
      some (Sum.inl (x18, x12.2))
    | .inr _ =>
      (iter m (F_image_Apply.i27l6 m x12 (x12.2.2.2.1.length : Int)) ((0 : Int), x14.2.2.2.2.2.1, x12.2.2.1, x12.2.2.2.2.1, x12.2.2.2.2.2.1, x12.2.2.2.2.2.2.1, x12.2.2.2.2.2.2.2.1, x12.2.2.2.2.2.2.2.2.1, x12.2.2.2.2.2.2.2.2.2, x14.1, x14.2.1, x14.2.2.1.1, x14.2.2.1.2.1, x14.2.2.1.2.2.1, x14.2.2.1.2.2.2.1, x14.2.2.1.2.2.2.2, x14.2.2.2)).bind fun x38 =>
      some (Sum.inl ((0 : Int), x38))
  else
    bif x14.1 == (6 : Int) then
      (F_image_Apply.i26s860 m x12 x14).bind fun x41 =>
      match x41 with
      | .inl x42 =>
        some (Sum.inl (x42, x12.2))
      | .inr _ =>
        some (Sum.inl ((0 : Int), x12.2.1, x12.2.2.1, x12.2.2.2.1, x14.2.2.2.2.2.1, x12.2.2.2.2.2.1, x14.2.2.2.2.2.2, x12.2.2.2.2.2.2.2))
    else
      bif x14.1 == (7 : Int) then
        some (Sum.inl ((0 : Int), x12.2.1, x12.2.2.1, x12.2.2.2.1, x12.2.2.2.2.1, x14.2.2.2.2.2.1, x12.2.2.2.2.2.2))
      else some (Sum.inr ())
noncomputable def F_image_Apply.i26s14 (_ : Fu) (x12 : Int × Int × (List Int) × (List (Int × (List Int) × (List Int) × Int × Int × Int)) × Int × Int × Bool × (List Bool) × (List ((Int × (List Int)) × Int)) × Int) (x14 : Int × Int × ((List Int) × (List Int) × Int × Int × Int) × (List Int) × Int × Int × Bool) : Option (Int ⊕ Unit) :=
  bif decide ((x12.2.2.1.length : Int) ≤ x14.2.1) then
    some (Sum.inl (2 : Int))
  else some (Sum.inr ())
noncomputable def F_image_Apply.i31s6 (m : Fu) (x14 : Int × Int × ((List Int) × (List Int) × Int × Int × Int) × (List Int) × Int × Int × Bool) : Option (Int ⊕ Unit) :=
  (F_image_size m x14.2.2.1).bind fun x54 =>
  bif decide ((256 : Int) < x54) then
    some (Sum.inl (2 : Int))
  else some (Sum.inr ())
noncomputable def F_image_Apply.i32s1 (_ : Fu) (x12 : Int × Int × (List Int) × (List (Int × (List Int) × (List Int) × Int × Int × Int)) × Int × Int × Bool × (List Bool) × (List ((Int × (List Int)) × Int)) × Int) (x14 : Int × Int × ((List Int) × (List Int) × Int × Int × Int) × (List Int) × Int × Int × Bool) : Option ((Int × (List Int) × (List (Int × (List Int) × (List Int) × Int × Int × Int)) × Int × Int × Bool × (List Bool) × (List ((Int × (List Int)) × Int)) × Int)) :=
  let x59 := mget (keyEq (.pr (.int .i64) .str)) x12.2.2.2.2.2.2.2.2.1 (x14.2.1, x14.2.2.1.1)
  bif x59.isSome then
    bif (decide ((0 : Int) ≤ (x59.getD 0))) && (decide ((x59.getD 0) < (x12.2.2.2.2.2.2.2.1.length : Int))) then
      bif Nat.blt ((x59.getD 0).toNat) x12.2.2.2.2.2.2.2.1.length then
        some (x12.2.1, x12.2.2.1, x12.2.2.2.1, x12.2.2.2.2.1, x12.2.2.2.2.2.1, x12.2.2.2.2.2.2.1, (x12.2.2.2.2.2.2.2.1.set ((x59.getD 0).toNat) true), (mdel (keyEq (.pr (.int .i64) .str)) x12.2.2.2.2.2.2.2.2.1 (x14.2.1, x14.2.2.1.1)), (IntKind.i64.wrap (x12.2.2.2.2.2.2.2.2.2 - (1 : Int))))
      else none
    else none
  else some x12.2
noncomputable def F_image_Apply.i31s62 (m : Fu) (x14 : Int × Int × ((List Int) × (List Int) × Int × Int × Int) × (List Int) × Int × Int × Bool) (x63 : (Int × (List Int) × (List (Int × (List Int) × (List Int) × Int × Int × Int)) × Int × Int × Bool × (List Bool) × (List ((Int × (List Int)) × Int)) × Int)) : Option (Int ⊕ Unit) :=
  (F_image_due m (x14.2.2.1.1, x14.2.2.1.2.1, x14.2.2.1.2.2.1, x14.2.2.1.2.2.2.1, x14.2.2.1.2.2.2.2, x63.1)).bind fun x64 =>
  bif x64 then
    some (Sum.inl (0 : Int))
  else some (Sum.inr ())
noncomputable def F_image_Apply.i31s126 (_ : Fu) (x63 : (Int × (List Int) × (List (Int × (List Int) × (List Int) × Int × Int × Int)) × Int × Int × Bool × (List Bool) × (List ((Int × (List Int)) × Int)) × Int)) : Option (Int ⊕ Unit) :=
  bif x63.2.2.2.2.2.2.2.2 == (1024 : Int) then
    some (Sum.inl (9 : Int))
  else some (Sum.inr ())
noncomputable def F_image_Apply.i31s1 (m : Fu) (x12 : Int × Int × (List Int) × (List (Int × (List Int) × (List Int) × Int × Int × Int)) × Int × Int × Bool × (List Bool) × (List ((Int × (List Int)) × Int)) × Int) (x14 : Int × Int × ((List Int) × (List Int) × Int × Int × Int) × (List Int) × Int × Int × Bool) : Option ((Int × Int × (List Int) × (List (Int × (List Int) × (List Int) × Int × Int × Int)) × Int × Int × Bool × (List Bool) × (List ((Int × (List Int)) × Int)) × Int)) :=
  (F_image_Apply.i31s6 m x14).bind fun x56 =>
  match x56 with
  | .inl x57 =>
    some (x57, x12.2)
  | .inr _ =>
    (F_image_Apply.i32s1 m x12 x14).bind fun x63 =>
    (F_image_Apply.i31s62 m x14 x63).bind fun x65 =>
    match x65 with
    | .inl x66 =>
      some (x66, x63)
    | .inr _ =>
      (F_image_Apply.i31s126 m x63).bind fun x69 =>
      match x69 with
      | .inl x70 =>
        some (x70, x63)
      | .inr _ =>
        bif Nat.blt x63.2.2.2.2.2.2.2.1.length 4294967296 then
          let x74 := [(x14.2.1, x14.2.2.1)]
          bif Nat.ble (x63.2.2.1.length + x74.length) 4294967296 then
            let x76 := [false]
            bif Nat.ble (x63.2.2.2.2.2.2.1.length + x76.length) 140737488351232 then
              some ((0 : Int), x63.1, x63.2.1, (x63.2.2.1 ++ x74), x63.2.2.2.1, x63.2.2.2.2.1, x63.2.2.2.2.2.1, (x63.2.2.2.2.2.2.1 ++ x76), (mset (keyEq (.pr (.int .i64) .str)) x63.2.2.2.2.2.2.2.1 (x14.2.1, x14.2.2.1.1) (x63.2.2.1.length : Int)), (IntKind.i64.wrap (x63.2.2.2.2.2.2.2.2 + (1 : Int))))
            else none
          else none
        else none
noncomputable def F_image_Apply.i33s1 (_ : Fu) (x12 : Int × Int × (List Int) × (List (Int × (List Int) × (List Int) × Int × Int × Int)) × Int × Int × Bool × (List Bool) × (List ((Int × (List Int)) × Int)) × Int) (x14 : Int × Int × ((List Int) × (List Int) × Int × Int × Int) × (List Int) × Int × Int × Bool) : Option ((Int × (List Int) × (List (Int × (List Int) × (List Int) × Int × Int × Int)) × Int × Int × Bool × (List Bool) × (List ((Int × (List Int)) × Int)) × Int)) :=
  let x81 := mget (keyEq (.pr (.int .i64) .str)) x12.2.2.2.2.2.2.2.2.1 (x14.2.1, x14.2.2.2.1)
  bif x81.isSome then
    bif (decide ((0 : Int) ≤ (x81.getD 0))) && (decide ((x81.getD 0) < (x12.2.2.2.2.2.2.2.1.length : Int))) then
      bif Nat.blt ((x81.getD 0).toNat) x12.2.2.2.2.2.2.2.1.length then
        some (x12.2.1, x12.2.2.1, x12.2.2.2.1, x12.2.2.2.2.1, x12.2.2.2.2.2.1, x12.2.2.2.2.2.2.1, (x12.2.2.2.2.2.2.2.1.set ((x81.getD 0).toNat) true), (mdel (keyEq (.pr (.int .i64) .str)) x12.2.2.2.2.2.2.2.2.1 (x14.2.1, x14.2.2.2.1)), (IntKind.i64.wrap (x12.2.2.2.2.2.2.2.2.2 - (1 : Int))))
      else none
    else none
  else some x12.2
noncomputable def F_image_Apply.i34s50 (_ : Fu) (x89 : Bool) : Option (Unit ⊕ Unit) :=
  bif x89 then
    some (Sum.inl ())
  else some (Sum.inr ())
noncomputable def F_image_Apply.i34s818 (m : Fu) (x88 : Int × Int × (List Int) × Int × Int × Bool × (List Bool) × (List ((Int × (List Int)) × Int)) × Int × Int × Int × (List Int) × (List Int) × Int × Int × Int × (List Int) × Int × Int × Bool) (x92 : Int × (List Int) × (List Int) × Int × Int × Int) : Option ((Bool × Int × Int × (List Int) × (List Int) × Int × Int × Int × (List Int) × Int × Int × Bool)) :=
  bif (decide ((0 : Int) ≤ x88.1)) && (decide (x88.1 < (x88.2.2.2.2.2.2.1.length : Int))) then
    bif Nat.blt x88.1.toNat x88.2.2.2.2.2.2.1.length then
      bif !(x88.2.2.2.2.2.2.1.getD x88.1.toNat false) then
        (F_image_state_do_c2 m (x92.1, x92.2.1, x92.2.2.1, x92.2.2.2.1, x92.2.2.2.2.1, x92.2.2.2.2.2, x88.2.2.2.2.2.2.2.2.2)).bind fun x95 =>
        some x95
      else some (false, x88.2.2.2.2.2.2.2.2.2)
    else none
  else none
noncomputable def F_image_Apply.i37s1 (_ : Fu) (x88 : Int × Int × (List Int) × Int × Int × Bool × (List Bool) × (List ((Int × (List Int)) × Int)) × Int × Int × Int × (List Int) × (List Int) × Int × Int × Int × (List Int) × Int × Int × Bool) (x92 : Int × (List Int) × (List Int) × Int × Int × Int) : Option ((Int × (List Int) × Int × Int × Bool × (List Bool) × (List ((Int × (List Int)) × Int)) × Int)) :=
  let x97 := mget (keyEq (.pr (.int .i64) .str)) x88.2.2.2.2.2.2.2.1 (x92.1, x92.2.1)
  bif x97.isSome then
    bif (decide ((0 : Int) ≤ (x97.getD 0))) && (decide ((x97.getD 0) < (x88.2.2.2.2.2.2.1.length : Int))) then
      bif Nat.blt ((x97.getD 0).toNat) x88.2.2.2.2.2.2.1.length then
        some (x88.2.1, x88.2.2.1, x88.2.2.2.1, x88.2.2.2.2.1, x88.2.2.2.2.2.1, (x88.2.2.2.2.2.2.1.set ((x97.getD 0).toNat) true), (mdel (keyEq (.pr (.int .i64) .str)) x88.2.2.2.2.2.2.2.1 (x92.1, x92.2.1)), (IntKind.i64.wrap (x88.2.2.2.2.2.2.2.2.1 - (1 : Int))))
      else none
    else none
  else some (x88.2.1, x88.2.2.1, x88.2.2.2.1, x88.2.2.2.2.1, x88.2.2.2.2.2.1, x88.2.2.2.2.2.2.1, x88.2.2.2.2.2.2.2.1, x88.2.2.2.2.2.2.2.2.1)
noncomputable def F_image_Apply.i34l6 (m : Fu) (x12 : Int × Int × (List Int) × (List (Int × (List Int) × (List Int) × Int × Int × Int)) × Int × Int × Bool × (List Bool) × (List ((Int × (List Int)) × Int)) × Int) (x87 : Int) (x88 : Int × Int × (List Int) × Int × Int × Bool × (List Bool) × (List ((Int × (List Int)) × Int)) × Int × Int × Int × (List Int) × (List Int) × Int × Int × Int × (List Int) × Int × Int × Bool) : Option (Step (Int × Int × (List Int) × Int × Int × Bool × (List Bool) × (List ((Int × (List Int)) × Int)) × Int × Int × Int × (List Int) × (List Int) × Int × Int × Int × (List Int) × Int × Int × Bool) ((Int × (List Int) × (List (Int × (List Int) × (List Int) × Int × Int × Int)) × Int × Int × Bool × (List Bool) × (List ((Int × (List Int)) × Int)) × Int))) :=
  (F_image_Apply.i34s50 m (decide (x88.1 < x87))).bind fun x90 =>
  match x90 with
  | .inl _ =>
    bif (decide ((0 : Int) ≤ x88.1)) && (decide (x88.1 < (x12.2.2.2.1.length : Int))) then
      bif Nat.blt x88.1.toNat x12.2.2.2.1.length then
        let x92 := x12.2.2.2.1.getD x88.1.toNat (0, ([], ([], (0, (0, 0)))))
        (F_image_Apply.i34s818 m x88 x92).bind fun x96 =>
        bif x96.1 then
          (F_image_Apply.i37s1 m x88 x92).bind fun x101 =>
          some (.next ((IntKind.i64.wrap (x88.1 + (1 : Int))), x101.1, x101.2.1, x101.2.2.1, x101.2.2.2.1, x101.2.2.2.2.1, x101.2.2.2.2.2.1, x101.2.2.2.2.2.2.1, x101.2.2.2.2.2.2.2, x96.2))
        else some (.next ((IntKind.i64.wrap (x88.1 + (1 : Int))), x88.2.1, x88.2.2.1, x88.2.2.2.1, x88.2.2.2.2.1, x88.2.2.2.2.2.1, x88.2.2.2.2.2.2.1, x88.2.2.2.2.2.2.2.1, x88.2.2.2.2.2.2.2.2.1, x96.2))
      else none
    else none
  | .inr _ =>
    some (.fin (x88.2.1, x88.2.2.1, x12.2.2.2.1, x88.2.2.2.1, x88.2.2.2.2.1, x88.2.2.2.2.2.1, x88.2.2.2.2.2.2.1, x88.2.2.2.2.2.2.2.1, x88.2.2.2.2.2.2.2.2.1))
noncomputable def F_image_Apply.i26s1 (m : Fu) (x12 : Int × Int × (List Int) × (List (Int × (List Int) × (List Int) × Int × Int × Int)) × Int × Int × Bool × (List Bool) × (List ((Int × (List Int)) × Int)) × Int) (x14 : Int × Int × ((List Int) × (List Int) × Int × Int × Int) × (List Int) × Int × Int × Bool) : Option ((Int × Int × (List Int) × (List (Int × (List Int) × (List Int) × Int × Int × Int)) × Int × Int × Bool × (List Bool) × (List ((Int × (List Int)) × Int)) × Int)) :=
  (F_image_Apply.i26s6 m x12 x14).bind fun x45 =>
  match x45 with
  | .inl x46 =>
    some x46
  | .inr _ =>
    (F_image_Apply.i26s14 m x12 x14).bind fun x50 =>
    match x50 with
    | .inl x51 =>
      some (x51, x12.2)
    | .inr _ =>
      bif x14.1 == (1 : Int) then
        (F_image_Apply.i31s1 m x12 x14).bind fun x79 =>
        some x79
      else
        bif x14.1 == (2 : Int) then
          (F_image_Apply.i33s1 m x12 x14).bind fun x85 =>
          some ((0 : Int), x85)
        else
          bif x14.1 == (3 : Int) then
            (iter m (F_image_Apply.i34l6 m x12 (x12.2.2.2.1.length : Int)) ((0 : Int), x12.2.1, x12.2.2.1, x12.2.2.2.2.1, x12.2.2.2.2.2.1, x12.2.2.2.2.2.2.1, x12.2.2.2.2.2.2.2.1, x12.2.2.2.2.2.2.2.2.1, x12.2.2.2.2.2.2.2.2.2, x14.1, x14.2.1, x14.2.2.1.1, x14.2.2.1.2.1, x14.2.2.1.2.2.1, x14.2.2.1.2.2.2.1, x14.2.2.1.2.2.2.2, x14.2.2.2)).bind fun x105 =>
            some ((0 : Int), x105)
          else
            bif x14.1 == (5 : Int) then
              bif (decide ((0 : Int) ≤ x14.2.1)) && (decide (x14.2.1 < (x12.2.2.1.length : Int))) then
                bif Nat.blt x14.2.1.toNat x12.2.2.1.length then
                  some ((0 : Int), x12.2.1, (x12.2.2.1.set x14.2.1.toNat x14.2.2.2.2.2.1), x12.2.2.2)
                else none
              else none
            else some ((0 : Int), x12.2)
noncomputable def F_image_Apply.l250 (m : Fu) (a6 : List (Int × Int × ((List Int) × (List Int) × Int × Int × Int) × (List Int) × Int × Int × Bool)) (x11 : Int) (x12 : Int × Int × (List Int) × (List (Int × (List Int) × (List Int) × Int × Int × Int)) × Int × Int × Bool × (List Bool) × (List ((Int × (List Int)) × Int)) × Int) : Option (Step (Int × Int × (List Int) × (List (Int × (List Int) × (List Int) × Int × Int × Int)) × Int × Int × Bool × (List Bool) × (List ((Int × (List Int)) × Int)) × Int) ((Int × Int × Int × Int × Bool) ⊕ (Int × (List Int) × (List (Int × (List Int) × (List Int) × Int × Int × Int)) × Int × Int × Bool × (List Bool) × (List ((Int × (List Int)) × Int)) × Int))) :=
  bif decide (x12.1 < x11) then
    bif (decide ((0 : Int) ≤ x12.1)) && (decide (x12.1 < (a6.length : Int))) then
      (F_image_Apply.i26s1 m x12 (a6.getD x12.1.toNat (0, (0, (([], ([], (0, (0, 0)))), ([], (0, (0, false)))))))).bind fun x108 =>
      bif x108.1 != (0 : Int) then
        some (.fin (Sum.inl (x108.1, (0 : Int), (0 : Int), (0 : Int), false)))
      else some (.next ((IntKind.i64.wrap (x12.1 + (1 : Int))), x108.2))
    else none
  else some (.fin (Sum.inr x12.2))
noncomputable def F_image_Apply.i38s466 (_ : Fu) (x116 : Bool) : Option (Unit ⊕ Unit) :=
  bif x116 then
    some (Sum.inl ())
  else some (Sum.inr ())
noncomputable def F_image_Apply.i38l58 (m : Fu) (x113 : Int × (List Int) × (List (Int × (List Int) × (List Int) × Int × Int × Int)) × Int × Int × Bool × (List Bool) × (List ((Int × (List Int)) × Int)) × Int) (x114 : Int) (x115 : (List (Int × (List Int) × (List Int) × Int × Int × Int)) × Int) : Option (Step ((List (Int × (List Int) × (List Int) × Int × Int × Int)) × Int) ((List (Int × (List Int) × (List Int) × Int × Int × Int)))) :=
  (F_image_Apply.i38s466 m (decide (x115.2 < x114))).bind fun x117 =>
  match x117 with
  | .inl _ =>
    bif (decide ((0 : Int) ≤ x115.2)) && (decide (x115.2 < (x113.2.2.1.length : Int))) then
      bif Nat.blt x115.2.toNat x113.2.2.1.length then
        bif (decide ((0 : Int) ≤ x115.2)) && (decide (x115.2 < (x113.2.2.2.2.2.2.1.length : Int))) then
          bif Nat.blt x115.2.toNat x113.2.2.2.2.2.2.1.length then
            bif !(x113.2.2.2.2.2.2.1.getD x115.2.toNat false) then
              let x122 := [(x113.2.2.1.getD x115.2.toNat (0, ([], ([], (0, (0, 0))))))]
              bif Nat.ble (x115.1.length + x122.length) 4294967296 then
                some (.next ((x115.1 ++ x122), (IntKind.i64.wrap (x115.2 + (1 : Int)))))
              else none
            else some (.next (x115.1, (IntKind.i64.wrap (x115.2 + (1 : Int)))))
          else none
        else none
      else none
    else none
  | .inr _ =>
    some (.fin x115.1)
noncomputable def F_image_Apply (m : Fu) (p : Int × (List Int) × (List (Int × (List Int) × (List Int) × Int × Int × Int)) × Int × Int × Bool × (List (Int × Int × ((List Int) × (List Int) × Int × Int × Int) × (List Int) × Int × Int × Bool))) : Option (Int × (List Int) × (List (Int × (List Int) × (List Int) × Int × Int × Int)) × Int × Int × Bool × Int) :=
  let a0 := p.1
  let a1 := p.2.1
  let a2 := p.2.2.1
  let a3 := p.2.2.2.1
  let a4 := p.2.2.2.2.1
  let a5 := p.2.2.2.2.2.1
  let a6 := p.2.2.2.2.2.2
  (F_image_Check m (a0, a1, a2, a3, a4, a5)).bind fun x1 =>
  bif x1 != (0 : Int) then some ((0 : Int), ([] : List Int), ([] : List (Int × (List Int) × (List Int) × Int × Int × Int)), (0 : Int), (0 : Int), false, x1) else
  (F_code_Changes m a6).bind fun x3 =>
  bif x3.2 != (0 : Int) then some ((0 : Int), ([] : List Int), ([] : List (Int × (List Int) × (List Int) × Int × Int × Int)), (0 : Int), (0 : Int), false, x3.2) else
  (C_slices_Clone_int m a1).bind fun x5 =>
  (C_slices_Clone_Kept m a2).bind fun x6 =>
  let x7 := (x6.length : Int)
  bif ((decide ((0 : Int) ≤ x7)) && (decide (x7 ≤ x7))) && (decide (x7 ≤ (4294967296 : Int))) then
    (F_image_places m x6).bind fun x9 =>
    (iter m (F_image_Apply.l250 m a6 (a6.length : Int)) ((0 : Int), a0, x5, x6, a3, a4, a5, (List.replicate x7.toNat false), x9, (x6.length : Int))).bind fun x111 =>
    match x111 with
    | .inl x112 =>
      some (x112.2.1, ([] : List Int), ([] : List (Int × (List Int) × (List Int) × Int × Int × Int)), x112.2.2.1, x112.2.2.2.1, x112.2.2.2.2, x112.1)
    | .inr x113 =>
      (iter m (F_image_Apply.i38l58 m x113 (x113.2.2.1.length : Int)) (([] : List (Int × (List Int) × (List Int) × Int × Int × Int)), (0 : Int))).bind fun x127 =>
      some (x113.1, x113.2.1, x127, x113.2.2.2.1, x113.2.2.2.2.1, x113.2.2.2.2.2.1, (0 : Int))
  else none
def F_image_Apply.ann : List (Nat × Ann) := [(30, .inl [(1, [])]),
  (126, .inl [(1, [(58, .loop ⟨[(3, false, [.own (.pr (.int .i64) (.pr .str (.pr .str (.pr (.int .u32) (.pr (.int .i64) (.int .u64)))))) 964 .wr]), (12, false, [.dat (.int .i64)])], [], [], [], 965⟩ [(.exit 0, ⟨[(3, false, [.own (.pr (.int .i64) (.pr .str (.pr .str (.pr (.int .u32) (.pr (.int .i64) (.int .u64)))))) 964 .wr])], [], [], [], 965⟩)]), (466, .jnt [(.normal, ⟨[], [], [], [], 981⟩), (.exit 0, ⟨[], [], [], [], 981⟩)])])]),
  (250, .loop ⟨[(32, false, [.dat (.int .i64)])], [(704, [.dat (.int .i64), .own (.int .i64) 800 .wr, .own (.pr (.int .i64) (.pr .str (.pr .str (.pr (.int .u32) (.pr (.int .i64) (.int .u64)))))) 801 .wr, .dat (.int .i64), .dat (.int .i64), .dat .bool, .own .bool 802 .wr, .own (.pr (.pr (.int .i64) .str) (.int .i64)) 803 (.mp true false), .dat (.int .i64)])], [], [384, 432, 576, 624], 804⟩ [(.ret, ⟨[(5, false, [.dat (.int .i64)])], [(48, [.dat (.int .i64), .cst .nils, .cst .nils, .dat (.int .i64), .dat (.int .i64), .dat .bool])], [], [384, 432, 576, 624, 704], 800⟩), (.exit 0, ⟨[], [(704, [.dat (.int .i64), .own (.int .i64) 800 .wr, .own (.pr (.int .i64) (.pr .str (.pr .str (.pr (.int .u32) (.pr (.int .i64) (.int .u64)))))) 801 .wr, .dat (.int .i64), .dat (.int .i64), .dat .bool, .own .bool 802 .wr, .own (.pr (.pr (.int .i64) .str) (.int .i64)) 803 (.mp true false), .dat (.int .i64)])], [], [384, 432, 576, 624], 804⟩)]),
  (32050, .inl [(2, [(1, .jnt [(.ret, ⟨[(4, false, [.dat (.int .i64)])], [(704, [.dat (.int .i64), .own (.int .i64) 916 .wr, .own (.pr (.int .i64) (.pr .str (.pr .str (.pr (.int .u32) (.pr (.int .i64) (.int .u64)))))) 917 .wr, .dat (.int .i64), .dat (.int .i64), .dat .bool, .own .bool 918 .wr, .own (.pr (.pr (.int .i64) .str) (.int .i64)) 919 (.mp true false), .dat (.int .i64)])], [], [800, 801, 802, 803], 920⟩)]), (6, .jnt [(.ret, ⟨[(4, false, [.dat (.int .i64)])], [(704, [.dat (.int .i64), .own (.int .i64) 948 .wr, .own (.pr (.int .i64) (.pr .str (.pr .str (.pr (.int .u32) (.pr (.int .i64) (.int .u64)))))) 949 .wr, .dat (.int .i64), .dat (.int .i64), .dat .bool, .own .bool 950 .wr, .own (.pr (.pr (.int .i64) .str) (.int .i64)) 951 (.mp true false), .dat (.int .i64)])], [], [800, 801, 802, 803, 916], 952⟩), (.normal, ⟨[], [], [], [], 948⟩)]), (14, .jnt [(.ret, ⟨[(4, false, [.dat (.int .i64)])], [], [], [], 948⟩), (.normal, ⟨[], [], [], [], 948⟩)]), (212, .jnt [(.ret, ⟨[(4, false, [.dat (.int .i64)])], [], [], [], 1012⟩), (.normal, ⟨[], [], [], [], 1012⟩)]), (854, .inl [(2, [(6, .loop ⟨[(12, false, [.dat (.int .i64)])], [(704, [.dat (.int .i64), .own (.int .i64) 1268 .wr, .cst (.own (.pr (.int .i64) (.pr .str (.pr .str (.pr (.int .u32) (.pr (.int .i64) (.int .u64)))))) 801), .dat (.int .i64), .dat (.int .i64), .dat .bool, .own .bool 1269 .wr, .own (.pr (.pr (.int .i64) .str) (.int .i64)) 1270 (.mp true false), .dat (.int .i64)]), (916, [.dat (.int .u8), .dat (.int .i64), .dat .str, .dat .str, .dat (.int .u32), .dat (.int .i64), .dat (.int .u64), .dat .str, .dat (.int .u8), .dat (.int .i64), .dat .bool])], [], [800, 802, 803], 1271⟩ [(.exit 0, ⟨[], [(704, [.dat (.int .i64), .own (.int .i64) 1268 .wr, .own (.pr (.int .i64) (.pr .str (.pr .str (.pr (.int .u32) (.pr (.int .i64) (.int .u64)))))) 1269 .wr, .dat (.int .i64), .dat (.int .i64), .dat .bool, .own .bool 1270 .wr, .own (.pr (.pr (.int .i64) .str) (.int .i64)) 1271 (.mp true false), .dat (.int .i64)])], [], [800, 801, 802, 803, 916], 1272⟩)]), (50, .jnt [(.normal, ⟨[], [], [], [], 1287⟩), (.exit 0, ⟨[], [], [], [], 1287⟩)]), (818, .jnt [(.normal, ⟨[(29, false, [.dat .bool])], [(916, [.dat (.int .u8), .dat (.int .i64), .dat .str, .dat .str, .dat (.int .u32), .dat (.int .i64), .dat (.int .u64), .dat .str, .dat (.int .u8), .dat (.int .i64), .dat .bool])], [], [], 1383⟩)]), (1638, .inl [(7, [(1, .jnt [(.normal, ⟨[], [(704, [.dat (.int .i64), .own (.int .i64) 1495 .wr, .cst (.own (.pr (.int .i64) (.pr .str (.pr .str (.pr (.int .u32) (.pr (.int .i64) (.int .u64)))))) 801), .dat (.int .i64), .dat (.int .i64), .dat .bool, .own .bool 1496 .wr, .own (.pr (.pr (.int .i64) .str) (.int .i64)) 1497 (.mp true false), .dat (.int .i64)])], [], [1268, 1269, 1270], 1498⟩)])])])])]), (860, .jnt [(.ret, ⟨[(4, false, [.dat (.int .i64)])], [], [], [], 1044⟩), (.normal, ⟨[], [], [], [], 1044⟩)]), (980, .inl [(5, [(1, .jnt [(.ret, ⟨[(6, false, [.dat (.int .i64)])], [(704, [.dat (.int .i64), .own (.int .i64) 1092 .wr, .own (.pr (.int .i64) (.pr .str (.pr .str (.pr (.int .u32) (.pr (.int .i64) (.int .u64)))))) 1093 .wr, .dat (.int .i64), .dat (.int .i64), .dat .bool, .own .bool 1094 .wr, .own (.pr (.pr (.int .i64) .str) (.int .i64)) 1095 (.mp true false), .dat (.int .i64)])], [], [800, 801, 802, 803], 1096⟩)]), (6, .jnt [(.ret, ⟨[(6, false, [.dat (.int .i64)])], [], [], [], 1124⟩), (.normal, ⟨[], [], [], [], 1124⟩)]), (30, .inl [(2, [(1, .jnt [(.normal, ⟨[], [(704, [.dat (.int .i64), .own (.int .i64) 1252 .wr, .own (.pr (.int .i64) (.pr .str (.pr .str (.pr (.int .u32) (.pr (.int .i64) (.int .u64)))))) 1253 .wr, .dat (.int .i64), .dat (.int .i64), .dat .bool, .own .bool 1254 .wr, .own (.pr (.pr (.int .i64) .str) (.int .i64)) 1255 (.mp true false), .dat (.int .i64)])], [], [800, 801, 802, 803], 1256⟩)])])]), (62, .jnt [(.ret, ⟨[(6, false, [.dat (.int .i64)])], [], [], [], 1256⟩), (.normal, ⟨[], [], [], [], 1256⟩)]), (126, .jnt [(.ret, ⟨[(6, false, [.dat (.int .i64)])], [], [], [], 1256⟩), (.normal, ⟨[], [], [], [], 1256⟩)])])]), (1966, .inl [(6, [(1, .jnt [(.normal, ⟨[], [(704, [.dat (.int .i64), .own (.int .i64) 1140 .wr, .own (.pr (.int .i64) (.pr .str (.pr .str (.pr (.int .u32) (.pr (.int .i64) (.int .u64)))))) 1141 .wr, .dat (.int .i64), .dat (.int .i64), .dat .bool, .own .bool 1142 .wr, .own (.pr (.pr (.int .i64) .str) (.int .i64)) 1143 (.mp true false), .dat (.int .i64)])], [], [800, 801, 802, 803], 1144⟩)])])]), (7870, .inl [(2, [(6, .loop ⟨[(12, false, [.dat (.int .i64)])], [(704, [.dat (.int .i64), .own (.int .i64) 1220 .wr, .cst (.own (.pr (.int .i64) (.pr .str (.pr .str (.pr (.int .u32) (.pr (.int .i64) (.int .u64)))))) 801), .dat (.int .i64), .dat (.int .i64), .dat .bool, .own .bool 1221 .wr, .own (.pr (.pr (.int .i64) .str) (.int .i64)) 1222 (.mp true false), .dat (.int .i64)]), (916, [.dat (.int .u8), .dat (.int .i64), .dat .str, .dat .str, .dat (.int .u32), .dat (.int .i64), .dat (.int .u64), .dat .str, .dat (.int .u8), .dat (.int .i64), .dat .bool])], [], [800, 802, 803], 1223⟩ [(.exit 0, ⟨[], [(704, [.dat (.int .i64), .own (.int .i64) 1220 .wr, .own (.pr (.int .i64) (.pr .str (.pr .str (.pr (.int .u32) (.pr (.int .i64) (.int .u64)))))) 1221 .wr, .dat (.int .i64), .dat (.int .i64), .dat .bool, .own .bool 1222 .wr, .own (.pr (.pr (.int .i64) .str) (.int .i64)) 1223 (.mp true false), .dat (.int .i64)])], [], [800, 801, 802, 803, 916], 1224⟩)]), (50, .jnt [(.normal, ⟨[], [], [], [], 1239⟩), (.exit 0, ⟨[], [], [], [], 1239⟩)]), (818, .jnt [(.normal, ⟨[(29, false, [.dat .bool])], [(916, [.dat (.int .u8), .dat (.int .i64), .dat .str, .dat .str, .dat (.int .u32), .dat (.int .i64), .dat (.int .u64), .dat .str, .dat (.int .u8), .dat (.int .i64), .dat .bool])], [], [], 1335⟩)]), (1638, .inl [(7, [(1, .jnt [(.normal, ⟨[], [(704, [.dat (.int .i64), .own (.int .i64) 1447 .wr, .cst (.own (.pr (.int .i64) (.pr .str (.pr .str (.pr (.int .u32) (.pr (.int .i64) (.int .u64)))))) 801), .dat (.int .i64), .dat (.int .i64), .dat .bool, .own .bool 1448 .wr, .own (.pr (.pr (.int .i64) .str) (.int .i64)) 1449 (.mp true false), .dat (.int .i64)])], [], [1220, 1221, 1222], 1450⟩)])])])])])])])]
def F_image_Apply.sig : Sig := ⟨[.val true [.int .i64, .sl (.int .i64), .sl (.pr (.int .i64) (.pr .str (.pr .str (.pr (.int .u32) (.pr (.int .i64) (.int .u64)))))), .int .i64, .int .i64, .bool], .val false [.sl (.pr (.int .u8) (.pr (.int .i64) (.pr (.pr .str (.pr .str (.pr (.int .u32) (.pr (.int .i64) (.int .u64))))) (.pr .str (.pr (.int .u8) (.pr (.int .i64) .bool))))))]], [(true, [.dat (.int .i64), .own (.int .i64) 0 .wr, .own (.pr (.int .i64) (.pr .str (.pr .str (.pr (.int .u32) (.pr (.int .i64) (.int .u64)))))) 0 .wr, .dat (.int .i64), .dat (.int .i64), .dat .bool]), (false, [.dat (.int .i64)])]⟩
noncomputable def F_image_Apply.S : Summ := ⟨25, F_image_Apply.sig, F_image_Apply⟩
noncomputable def F_image_Apply.G : List Summ := [F_image_Check.S, F_code_Changes.S, C_slices_Clone_int.S, C_slices_Clone_Kept.S, F_image_places.S, F_image_state_do_c1.S, F_image_size.S, F_image_due.S, F_image_state_do_c2.S]
theorem F_image_Apply.eq : absF Try.prog F_image_Apply.G F_image_Apply.ann F_image_Apply.sig Try.f25 = F_image_Apply := by kernel_rfl
theorem F_image_Apply.sound : Sound Try.prog F_image_Apply.S := absF_sound (fn := Try.f25) (Γ := F_image_Apply.G) (all_cons F_image_Check.sound (all_cons F_code_Changes.sound (all_cons C_slices_Clone_int.sound (all_cons C_slices_Clone_Kept.sound (all_cons F_image_places.sound (all_cons F_image_state_do_c1.sound (all_cons F_image_size.sound (all_cons F_image_due.sound (all_cons F_image_state_do_c2.sound all_nil))))))))) mix (by kernel_rfl) (by kernel_rfl) (fun m p => congrFun (congrFun F_image_Apply.eq m) p)
/-! ### cloakroom/follow.record -/
noncomputable def F_follow_record (m : Fu) (p : Int × (List Int) × (List (Int × (List Int) × (List Int) × Int × Int × Int)) × Int × Int × Bool × (List Int)) : Option (Int × (List Int) × (List (Int × (List Int) × (List Int) × Int × Int × Int)) × Int × Int × Bool × Bool) :=
  let a0 := p.1
  let a1 := p.2.1
  let a2 := p.2.2.1
  let a3 := p.2.2.2.1
  let a4 := p.2.2.2.2.1
  let a5 := p.2.2.2.2.2.1
  let a6 := p.2.2.2.2.2.2
  (F_code_OfChanges m a6).bind fun x1 =>
  bif x1.2 != (0 : Int) then some (a0, a1, a2, a3, a4, a5, false) else
  (F_slices_ContainsFunc_Change m x1.1).bind fun x3 =>
  bif x3 then some (a0, a1, a2, a3, a4, a5, false) else
  (F_image_Apply m (a0, a1, a2, a3, a4, a5, x1.1)).bind fun x4 =>
  some (x4.1, x4.2.1, x4.2.2.1, x4.2.2.2.1, x4.2.2.2.2.1, x4.2.2.2.2.2.1, (x4.2.2.2.2.2.2 == (0 : Int)))
def F_follow_record.ann : List (Nat × Ann) := []
def F_follow_record.sig : Sig := ⟨[.val true [.int .i64, .sl (.int .i64), .sl (.pr (.int .i64) (.pr .str (.pr .str (.pr (.int .u32) (.pr (.int .i64) (.int .u64)))))), .int .i64, .int .i64, .bool], .val false [.sl (.int .u8)]], [(true, [.dat (.int .i64), .dat (.sl (.int .i64)), .dat (.sl (.pr (.int .i64) (.pr .str (.pr .str (.pr (.int .u32) (.pr (.int .i64) (.int .u64))))))), .dat (.int .i64), .dat (.int .i64), .dat .bool]), (false, [.dat .bool])]⟩
noncomputable def F_follow_record.S : Summ := ⟨31, F_follow_record.sig, F_follow_record⟩
noncomputable def F_follow_record.G : List Summ := [F_code_OfChanges.S, F_slices_ContainsFunc_Change.S, F_image_Apply.S]
theorem F_follow_record.eq : absF Try.prog F_follow_record.G F_follow_record.ann F_follow_record.sig Try.f31 = F_follow_record := by kernel_rfl
theorem F_follow_record.sound : Sound Try.prog F_follow_record.S := absF_sound (fn := Try.f31) (Γ := F_follow_record.G) (all_cons F_code_OfChanges.sound (all_cons F_slices_ContainsFunc_Change.sound (all_cons F_image_Apply.sound all_nil))) mix (by kernel_rfl) (by kernel_rfl) (fun m p => congrFun (congrFun F_follow_record.eq m) p)
/-! ### cloakroom/follow.Hear -/
noncomputable def F_follow_Hear.s16342 (_ : Fu) (a1 : Int) (a10 : Int) (x7 : Bool) : Option (Bool) :=
  bif x7 then
    some (decide (a10 ≤ a1))
  else some false
noncomputable def F_follow_Hear.s261502 (_ : Fu) (a1 : Int) (a10 : Int) (x7 : Bool) : Option (Bool) :=
  bif !x7 then
    some true
  else some (decide ((IntKind.i64.wrap (a1 + (1 : Int))) < a10))
noncomputable def F_follow_Hear.s510 (m : Fu) (a0 : Int) (a1 : Int) (a8 : Int) (a9 : Int) (a10 : Int) (a11 : List Int) (x6 : Int × (List Int) × (List (Int × (List Int) × (List Int) × Int × Int × Int)) × Int × Int × Bool) : Option ((Int × Int × Int × Int × (List Int) × (List (Int × (List Int) × (List Int) × Int × Int × Int)) × Int × Int × Bool × (List (Int × Int × Int × (List Int)))) ⊕ (Int × Int × Int × Int × Int × Int × Int × Bool)) :=
  let x7 := a9 == a0
  bif a8 != (1 : Int) then
    bif a8 != (4 : Int) then some (Sum.inl ((0 : Int), a0, a1, x6.1, x6.2.1, x6.2.2.1, x6.2.2.2.1, x6.2.2.2.2.1, x6.2.2.2.2.2, ([] : List (Int × Int × Int × (List Int))))) else
    (F_follow_Hear.s16342 m a1 a10 x7).bind fun x11 =>
    bif x11 then
      (F_follow_Hear_c1 m ((2 : Int), a0, a1, x6.1, x6.2.1, x6.2.2.1, x6.2.2.2.1, x6.2.2.2.2.1, x6.2.2.2.2.2, ([] : List (Int × Int × Int × (List Int))))).bind fun x12 =>
      some (Sum.inl ((0 : Int), x12))
    else
      bif a8 == (4 : Int) then
        (F_image_Read m a11).bind fun x14 =>
        bif x14.2.2.2.2.2.2 != (0 : Int) then some (Sum.inr ((0 : Int), (8 : Int), (0 : Int), (0 : Int), (0 : Int), (0 : Int), (0 : Int), false)) else
        (F_follow_twin m (x14.1, x14.2.1, x14.2.2.1, x14.2.2.2.1, x14.2.2.2.2.1, x14.2.2.2.2.2.1, a9, a10)).bind fun x16 =>
        (F_follow_Hear_c1 m ((2 : Int), a9, a10, x16.1, x16.2.1, x16.2.2.1, x16.2.2.2.1, x16.2.2.2.2.1, x16.2.2.2.2.2, ([] : List (Int × Int × Int × (List Int))))).bind fun x17 =>
        some (Sum.inl ((2 : Int), x17))
      else
        (F_follow_Hear.s261502 m a1 a10 x7).bind fun x21 =>
        bif x21 then
          (F_follow_Hear_c1 m ((3 : Int), a0, a1, x6.1, x6.2.1, x6.2.2.1, x6.2.2.2.1, x6.2.2.2.2.1, x6.2.2.2.2.2, ([] : List (Int × Int × Int × (List Int))))).bind fun x22 =>
          some (Sum.inl ((0 : Int), x22))
        else
          (F_follow_record m (x6.1, x6.2.1, x6.2.2.1, x6.2.2.2.1, x6.2.2.2.2.1, x6.2.2.2.2.2, a11)).bind fun x23 =>
          bif x23.2.2.2.2.2.2 then
            (F_follow_Hear_c1 m ((2 : Int), a0, a10, x23.1, x23.2.1, x23.2.2.1, x23.2.2.2.1, a10, x23.2.2.2.2.2.1, ([] : List (Int × Int × Int × (List Int))))).bind fun x24 =>
            some (Sum.inl ((1 : Int), x24))
          else some (Sum.inl ((0 : Int), a0, a1, x6.1, x6.2.1, x6.2.2.1, x6.2.2.2.1, x6.2.2.2.2.1, x6.2.2.2.2.2, ([] : List (Int × Int × Int × (List Int)))))
  else
    (F_follow_Hear.s16342 m a1 a10 x7).bind fun x26 =>
    bif x26 then
      (F_follow_Hear_c1 m ((2 : Int), a0, a1, x6.1, x6.2.1, x6.2.2.1, x6.2.2.2.1, x6.2.2.2.2.1, x6.2.2.2.2.2, ([] : List (Int × Int × Int × (List Int))))).bind fun x27 =>
      some (Sum.inl ((0 : Int), x27))
    else
      bif a8 == (4 : Int) then
        (F_image_Read m a11).bind fun x29 =>
        bif x29.2.2.2.2.2.2 != (0 : Int) then some (Sum.inr ((0 : Int), (8 : Int), (0 : Int), (0 : Int), (0 : Int), (0 : Int), (0 : Int), false)) else
        (F_follow_twin m (x29.1, x29.2.1, x29.2.2.1, x29.2.2.2.1, x29.2.2.2.2.1, x29.2.2.2.2.2.1, a9, a10)).bind fun x31 =>
        (F_follow_Hear_c1 m ((2 : Int), a9, a10, x31.1, x31.2.1, x31.2.2.1, x31.2.2.2.1, x31.2.2.2.2.1, x31.2.2.2.2.2, ([] : List (Int × Int × Int × (List Int))))).bind fun x32 =>
        some (Sum.inl ((2 : Int), x32))
      else
        (F_follow_Hear.s261502 m a1 a10 x7).bind fun x36 =>
        bif x36 then
          (F_follow_Hear_c1 m ((3 : Int), a0, a1, x6.1, x6.2.1, x6.2.2.1, x6.2.2.2.1, x6.2.2.2.2.1, x6.2.2.2.2.2, ([] : List (Int × Int × Int × (List Int))))).bind fun x37 =>
          some (Sum.inl ((0 : Int), x37))
        else
          (F_follow_record m (x6.1, x6.2.1, x6.2.2.1, x6.2.2.2.1, x6.2.2.2.2.1, x6.2.2.2.2.2, a11)).bind fun x38 =>
          bif x38.2.2.2.2.2.2 then
            (F_follow_Hear_c1 m ((2 : Int), a0, a10, x38.1, x38.2.1, x38.2.2.1, x38.2.2.2.1, a10, x38.2.2.2.2.2.1, ([] : List (Int × Int × Int × (List Int))))).bind fun x39 =>
            some (Sum.inl ((1 : Int), x39))
          else some (Sum.inl ((0 : Int), a0, a1, x6.1, x6.2.1, x6.2.2.1, x6.2.2.2.1, x6.2.2.2.2.1, x6.2.2.2.2.2, ([] : List (Int × Int × Int × (List Int)))))
noncomputable def F_follow_Hear (m : Fu) (p : Int × Int × Int × (List Int) × (List (Int × (List Int) × (List Int) × Int × Int × Int)) × Int × Int × Bool × Int × Int × Int × (List Int)) : Option (Int × Int × Int × (List Int) × (List (Int × (List Int) × (List Int) × Int × Int × Int)) × Int × Int × Bool × Int × (List (Int × Int × Int × (List Int))) × Int) :=
  let a0 := p.1
  let a1 := p.2.1
  let a2 := p.2.2.1
  let a3 := p.2.2.2.1
  let a4 := p.2.2.2.2.1
  let a5 := p.2.2.2.2.2.1
  let a6 := p.2.2.2.2.2.2.1
  let a7 := p.2.2.2.2.2.2.2.1
  let a8 := p.2.2.2.2.2.2.2.2.1
  let a9 := p.2.2.2.2.2.2.2.2.2.1
  let a10 := p.2.2.2.2.2.2.2.2.2.2.1
  let a11 := p.2.2.2.2.2.2.2.2.2.2.2
  (F_follow_Check m (a0, a1, a2, a3, a4, a5, a6, a7)).bind fun x1 =>
  bif x1 != (0 : Int) then some ((0 : Int), (0 : Int), (0 : Int), ([] : List Int), ([] : List (Int × (List Int) × (List Int) × Int × Int × Int)), (0 : Int), (0 : Int), false, (0 : Int), ([] : List (Int × Int × Int × (List Int))), x1) else
  (F_numbers_Write m (a8, a9, a10, a11)).bind fun x3 =>
  bif x3.2 != (0 : Int) then some ((0 : Int), (0 : Int), (0 : Int), ([] : List Int), ([] : List (Int × (List Int) × (List Int) × Int × Int × Int)), (0 : Int), (0 : Int), false, (0 : Int), ([] : List (Int × Int × Int × (List Int))), (8 : Int)) else
  bif decide (a9 < a0) then some ((0 : Int), (0 : Int), (0 : Int), ([] : List Int), ([] : List (Int × (List Int) × (List Int) × Int × Int × Int)), (0 : Int), (0 : Int), false, (0 : Int), ([] : List (Int × Int × Int × (List Int))), (250 : Int)) else
  (F_follow_twin m (a2, a3, a4, a5, a6, a7, a0, a1)).bind fun x6 =>
  (F_follow_Hear.s510 m a0 a1 a8 a9 a10 a11 x6).bind fun x40 =>
  match x40 with
  | .inl x41 =>
    some (x41.2.1, x41.2.2.1, x41.2.2.2.1, x41.2.2.2.2.1, x41.2.2.2.2.2.1, x41.2.2.2.2.2.2.1, x41.2.2.2.2.2.2.2.1, x41.2.2.2.2.2.2.2.2.1, x41.1, x41.2.2.2.2.2.2.2.2.2, (0 : Int))
  | .inr x42 =>
    some (x42.2.2.1, x42.2.2.2.1, x42.2.2.2.2.1, ([] : List Int), ([] : List (Int × (List Int) × (List Int) × Int × Int × Int)), x42.2.2.2.2.2.1, x42.2.2.2.2.2.2.1, x42.2.2.2.2.2.2.2, x42.1, ([] : List (Int × Int × Int × (List Int))), x42.2.1)
def F_follow_Hear.ann : List (Nat × Ann) := [(510, .jnt [(.normal, ⟨[(5, false, [.dat (.int .u8)])], [(64, [.dat (.int .i64), .dat (.int .i64), .dat (.int .i64), .dat (.sl (.int .i64)), .dat (.sl (.pr (.int .i64) (.pr .str (.pr .str (.pr (.int .u32) (.pr (.int .i64) (.int .u64))))))), .dat (.int .i64), .dat (.int .i64), .dat .bool]), (96, [.dat (.sl (.pr (.int .u8) (.pr (.int .i64) (.pr (.int .i64) (.sl (.int .u8))))))])], [], [560, 561], 640⟩), (.ret, ⟨[(5, false, [.dat (.int .u8)]), (7, false, [.dat (.int .i64)])], [(64, [.dat (.int .i64), .dat (.int .i64), .dat (.int .i64), .cst .nils, .cst .nils, .dat (.int .i64), .dat (.int .i64), .dat .bool]), (96, [.cst .nils])], [], [], 640⟩)]),
  (16342, .jnt [(.normal, ⟨[(80, false, [.dat .bool])], [], [], [], 880⟩)]),
  (261502, .jnt [(.normal, ⟨[(117, false, [.dat .bool])], [], [], [], 944⟩)])]
def F_follow_Hear.sig : Sig := ⟨[.val true [.int .i64, .int .i64, .int .i64, .sl (.int .i64), .sl (.pr (.int .i64) (.pr .str (.pr .str (.pr (.int .u32) (.pr (.int .i64) (.int .u64)))))), .int .i64, .int .i64, .bool], .val true [.int .u8, .int .i64, .int .i64, .sl (.int .u8)]], [(true, [.dat (.int .i64), .dat (.int .i64), .dat (.int .i64), .dat (.sl (.int .i64)), .dat (.sl (.pr (.int .i64) (.pr .str (.pr .str (.pr (.int .u32) (.pr (.int .i64) (.int .u64))))))), .dat (.int .i64), .dat (.int .i64), .dat .bool]), (false, [.dat (.int .u8)]), (false, [.dat (.sl (.pr (.int .u8) (.pr (.int .i64) (.pr (.int .i64) (.sl (.int .u8))))))]), (false, [.dat (.int .i64)])]⟩
noncomputable def F_follow_Hear.S : Summ := ⟨7, F_follow_Hear.sig, F_follow_Hear⟩
noncomputable def F_follow_Hear.G : List Summ := [F_follow_Check.S, F_numbers_Write.S, F_follow_twin.S, F_follow_Hear_c1.S, F_image_Read.S, F_follow_record.S]
theorem F_follow_Hear.eq : absF Try.prog F_follow_Hear.G F_follow_Hear.ann F_follow_Hear.sig Try.f7 = F_follow_Hear := by kernel_rfl
theorem F_follow_Hear.sound : Sound Try.prog F_follow_Hear.S := absF_sound (fn := Try.f7) (Γ := F_follow_Hear.G) (all_cons F_follow_Check.sound (all_cons F_numbers_Write.sound (all_cons F_follow_twin.sound (all_cons F_follow_Hear_c1.sound (all_cons F_image_Read.sound (all_cons F_follow_record.sound all_nil)))))) mix (by kernel_rfl) (by kernel_rfl) (fun m p => congrFun (congrFun F_follow_Hear.eq m) p)
/-! ### cloakroom/follow.Ask -/
noncomputable def F_follow_Ask (m : Fu) (p : Int × Int × Int × (List Int) × (List (Int × (List Int) × (List Int) × Int × Int × Int)) × Int × Int × Bool) : Option (Int × Int × Int × (List Int) × Int) :=
  let a0 := p.1
  let a1 := p.2.1
  let a2 := p.2.2.1
  let a3 := p.2.2.2.1
  let a4 := p.2.2.2.2.1
  let a5 := p.2.2.2.2.2.1
  let a6 := p.2.2.2.2.2.2.1
  let a7 := p.2.2.2.2.2.2.2
  (F_follow_Check m (a0, a1, a2, a3, a4, a5, a6, a7)).bind fun x1 =>
  bif x1 != (0 : Int) then
    some ((0 : Int), (0 : Int), (0 : Int), ([] : List Int), x1)
  else some ((3 : Int), a0, a1, ([] : List Int), (0 : Int))
def F_follow_Ask.ann : List (Nat × Ann) := []
def F_follow_Ask.sig : Sig := ⟨[.val true [.int .i64, .int .i64, .int .i64, .sl (.int .i64), .sl (.pr (.int .i64) (.pr .str (.pr .str (.pr (.int .u32) (.pr (.int .i64) (.int .u64)))))), .int .i64, .int .i64, .bool]], [(true, [.dat (.int .u8), .dat (.int .i64), .dat (.int .i64), .dat (.sl (.int .u8))]), (false, [.dat (.int .i64)])]⟩
noncomputable def F_follow_Ask.S : Summ := ⟨13, F_follow_Ask.sig, F_follow_Ask⟩
noncomputable def F_follow_Ask.G : List Summ := [F_follow_Check.S]
theorem F_follow_Ask.eq : absF Try.prog F_follow_Ask.G F_follow_Ask.ann F_follow_Ask.sig Try.f13 = F_follow_Ask := by kernel_rfl
theorem F_follow_Ask.sound : Sound Try.prog F_follow_Ask.S := absF_sound (fn := Try.f13) (Γ := F_follow_Ask.G) (all_cons F_follow_Check.sound all_nil) mix (by kernel_rfl) (by kernel_rfl) (fun m p => congrFun (congrFun F_follow_Ask.eq m) p)
/-! ### cloakroom/cloakroomref24.SameMessage -/
noncomputable def F_ref24_SameMessage (_ : Fu) (p : Int × Int × Int × (List Int) × Int × Int × Int × (List Int)) : Option (Bool) :=
  let a0 := p.1
  let a1 := p.2.1
  let a2 := p.2.2.1
  let a3 := p.2.2.2.1
  let a4 := p.2.2.2.2.1
  let a5 := p.2.2.2.2.2.1
  let a6 := p.2.2.2.2.2.2.1
  let a7 := p.2.2.2.2.2.2.2
  bif a0 == a4 then
    bif a1 == a5 then
      bif a2 == a6 then
        some (a3 == a7)
      else some false
    else some false
  else some false
def F_ref24_SameMessage.ann : List (Nat × Ann) := []
def F_ref24_SameMessage.sig : Sig := ⟨[.val true [.int .u8, .int .i64, .int .i64, .sl (.int .u8)], .val true [.int .u8, .int .i64, .int .i64, .sl (.int .u8)]], [(false, [.dat .bool])]⟩
noncomputable def F_ref24_SameMessage.S : Summ := ⟨39, F_ref24_SameMessage.sig, F_ref24_SameMessage⟩
noncomputable def F_ref24_SameMessage.G : List Summ := []
theorem F_ref24_SameMessage.eq : absF Try.prog F_ref24_SameMessage.G F_ref24_SameMessage.ann F_ref24_SameMessage.sig Try.f39 = F_ref24_SameMessage := by kernel_rfl
theorem F_ref24_SameMessage.sound : Sound Try.prog F_ref24_SameMessage.S := absF_sound (fn := Try.f39) (Γ := F_ref24_SameMessage.G) all_nil mix (by kernel_rfl) (by kernel_rfl) (fun m p => congrFun (congrFun F_ref24_SameMessage.eq m) p)
/-! ### cloakroom/cloakroomlaw25.says -/
noncomputable def F_law25_says (m : Fu) (p : (List (Int × Int × Int × (List Int))) × Int × Int × Int) : Option (Bool) :=
  let a0 := p.1
  let a1 := p.2.1
  let a2 := p.2.2.1
  let a3 := p.2.2.2
  bif (a0.length : Int) == (1 : Int) then
    bif decide ((0 : Int) < (a0.length : Int)) then
      let x3 := a0.getD 0 (0, (0, (0, [])))
      (F_ref24_SameMessage m (x3.1, x3.2.1, x3.2.2.1, x3.2.2.2, a1, a2, a3, ([] : List Int))).bind fun x4 =>
      some x4
    else none
  else some false
def F_law25_says.ann : List (Nat × Ann) := []
def F_law25_says.sig : Sig := ⟨[.val false [.sl (.pr (.int .u8) (.pr (.int .i64) (.pr (.int .i64) (.sl (.int .u8)))))], .val false [.int .u8], .val false [.int .i64], .val false [.int .i64]], [(false, [.dat .bool])]⟩
noncomputable def F_law25_says.S : Summ := ⟨14, F_law25_says.sig, F_law25_says⟩
noncomputable def F_law25_says.G : List Summ := [F_ref24_SameMessage.S]
theorem F_law25_says.eq : absF Try.prog F_law25_says.G F_law25_says.ann F_law25_says.sig Try.f14 = F_law25_says := by kernel_rfl
theorem F_law25_says.sound : Sound Try.prog F_law25_says.S := absF_sound (fn := Try.f14) (Γ := F_law25_says.G) (all_cons F_ref24_SameMessage.sound all_nil) mix (by kernel_rfl) (by kernel_rfl) (fun m p => congrFun (congrFun F_law25_says.eq m) p)
/-! ### cloakroom/cloakroomlaw25.alive -/
noncomputable def F_law25_alive (m : Fu) (_ : Unit) : Option (Bool) :=
  (F_law25_five m ()).bind fun x1 =>
  (F_law25_clock m ((0 : Int), (6 : Int), (7 : Int))).bind fun x2 =>
  (F_follow_Hear m (x1.1, x1.2.1, x1.2.2.1, x1.2.2.2.1, x1.2.2.2.2.1, x1.2.2.2.2.2.1, x1.2.2.2.2.2.2.1, x1.2.2.2.2.2.2.2, x2)).bind fun x3 =>
  bif x3.2.2.2.2.2.2.2.2.2.2 == (0 : Int) then
    bif x3.2.2.2.2.2.2.2.2.1 == (1 : Int) then
      bif x3.2.1 == (6 : Int) then
        bif x3.2.2.1 == (7 : Int) then
          (F_law25_says m (x3.2.2.2.2.2.2.2.2.2.1, (2 : Int), (0 : Int), (6 : Int))).bind fun x8 =>
          some x8
        else some false
      else some false
    else some false
  else some false
def F_law25_alive.ann : List (Nat × Ann) := []
def F_law25_alive.sig : Sig := ⟨[], [(false, [.dat .bool])]⟩
noncomputable def F_law25_alive.S : Summ := ⟨15, F_law25_alive.sig, F_law25_alive⟩
noncomputable def F_law25_alive.G : List Summ := [F_law25_five.S, F_law25_clock.S, F_follow_Hear.S, F_law25_says.S]
theorem F_law25_alive.eq : absF Try.prog F_law25_alive.G F_law25_alive.ann F_law25_alive.sig Try.f15 = F_law25_alive := by kernel_rfl
theorem F_law25_alive.sound : Sound Try.prog F_law25_alive.S := absF_sound (fn := Try.f15) (Γ := F_law25_alive.G) (all_cons F_law25_five.sound (all_cons F_law25_clock.sound (all_cons F_follow_Hear.sound (all_cons F_law25_says.sound all_nil)))) mix (by kernel_rfl) (by kernel_rfl) (fun m p => congrFun (congrFun F_law25_alive.eq m) p)
/-! ### cloakroom/cloakroomlaw25.FollowNames -/
noncomputable def F_law25_FollowNames.s4094 (m : Fu) (x3 : Int × Int × Int × (List Int) × (List (Int × (List Int) × (List Int) × Int × Int × Int)) × Int × Int × Bool × Int × (List (Int × Int × Int × (List Int))) × Int) (x6 : Int × Int × Int × (List Int) × (List (Int × (List Int) × (List Int) × Int × Int × Int)) × Int × Int × Bool × Int × (List (Int × Int × Int × (List Int))) × Int) (x9 : Int × Int × Int × (List Int) × (List (Int × (List Int) × (List Int) × Int × Int × Int)) × Int × Int × Bool × Int × (List (Int × Int × Int × (List Int))) × Int) : Option (Bool) :=
  bif x3.2.2.2.2.2.2.2.2.1 == (0 : Int) then
    bif x3.2.2.2.2.2.2.2.2.2.2 == (0 : Int) then
      (F_law25_says m (x3.2.2.2.2.2.2.2.2.2.1, (2 : Int), (0 : Int), (5 : Int))).bind fun x21 =>
      bif x21 then
        bif x6.2.2.2.2.2.2.2.2.1 == (0 : Int) then
          bif x6.2.2.2.2.2.2.2.2.2.2 == (0 : Int) then
            (F_law25_says m (x6.2.2.2.2.2.2.2.2.2.1, (3 : Int), (0 : Int), (5 : Int))).bind fun x24 =>
            bif x24 then
              bif x9.2.2.2.2.2.2.2.2.1 == (0 : Int) then
                bif x9.2.2.2.2.2.2.2.2.2.2 == (0 : Int) then
                  (F_law25_says m (x9.2.2.2.2.2.2.2.2.2.1, (3 : Int), (0 : Int), (5 : Int))).bind fun x27 =>
                  some x27
                else some false
              else some false
            else some false
          else some false
        else some false
      else some false
    else some false
  else some false
noncomputable def F_law25_FollowNames (m : Fu) (_ : Unit) : Option (Bool) :=
  (F_law25_five m ()).bind fun x1 =>
  (F_law25_clock m ((0 : Int), (5 : Int), (7 : Int))).bind fun x2 =>
  (F_follow_Hear m (x1.1, x1.2.1, x1.2.2.1, x1.2.2.2.1, x1.2.2.2.2.1, x1.2.2.2.2.2.1, x1.2.2.2.2.2.2.1, x1.2.2.2.2.2.2.2, x2)).bind fun x3 =>
  (F_law25_five m ()).bind fun x4 =>
  (F_law25_clock m ((0 : Int), (7 : Int), (7 : Int))).bind fun x5 =>
  (F_follow_Hear m (x4.1, x4.2.1, x4.2.2.1, x4.2.2.2.1, x4.2.2.2.2.1, x4.2.2.2.2.2.1, x4.2.2.2.2.2.2.1, x4.2.2.2.2.2.2.2, x5)).bind fun x6 =>
  (F_law25_five m ()).bind fun x7 =>
  (F_law25_clock m ((2 : Int), (6 : Int), (7 : Int))).bind fun x8 =>
  (F_follow_Hear m (x7.1, x7.2.1, x7.2.2.1, x7.2.2.2.1, x7.2.2.2.2.1, x7.2.2.2.2.2.1, x7.2.2.2.2.2.2.1, x7.2.2.2.2.2.2.2, x8)).bind fun x9 =>
  (F_image_New m ([3] : List Int)).bind fun x10 =>
  (F_image_Write m (x10.1, x10.2.1, x10.2.2.1, x10.2.2.2.1, x10.2.2.2.2.1, x10.2.2.2.2.2.1)).bind fun x11 =>
  (F_law25_five m ()).bind fun x12 =>
  (F_follow_Hear m (x12.1, x12.2.1, x12.2.2.1, x12.2.2.2.1, x12.2.2.2.2.1, x12.2.2.2.2.2.1, x12.2.2.2.2.2.2.1, x12.2.2.2.2.2.2.2, (4 : Int), (2 : Int), (3 : Int), x11.1)).bind fun x13 =>
  (F_law25_clock m ((0 : Int), (4 : Int), (7 : Int))).bind fun x14 =>
  (F_follow_Hear m (x13.1, x13.2.1, x13.2.2.1, x13.2.2.2.1, x13.2.2.2.2.1, x13.2.2.2.2.2.1, x13.2.2.2.2.2.2.1, x13.2.2.2.2.2.2.2.1, x14)).bind fun x15 =>
  (F_follow_New m (x10.1, x10.2.1, x10.2.2.1, x10.2.2.2.1, x10.2.2.2.2.1, x10.2.2.2.2.2.1, (-1 : Int))).bind fun x16 =>
  (F_law25_five m ()).bind fun x17 =>
  (F_follow_Ask m x17).bind fun x18 =>
  (F_law25_FollowNames.s4094 m x3 x6 x9).bind fun x28 =>
  (F_law25_alive m ()).bind fun x29 =>
  bif x29 then
    bif x28 then
      bif x13.2.2.2.2.2.2.2.2.1 == (2 : Int) then
        bif x13.2.2.2.2.2.2.2.2.2.2 == (0 : Int) then
          bif x13.1 == (2 : Int) then
            bif x13.2.1 == (3 : Int) then
              bif (x13.2.2.2.1.length : Int) == (1 : Int) then
                bif decide ((0 : Int) < (x13.2.2.2.1.length : Int)) then
                  bif (x13.2.2.2.1.getD 0 0) == (3 : Int) then
                    bif x13.2.2.2.2.2.1 == (2 : Int) then
                      (F_law25_says m (x13.2.2.2.2.2.2.2.2.2.1, (2 : Int), (2 : Int), (3 : Int))).bind fun x39 =>
                      bif x39 then
                        bif x15.2.2.2.2.2.2.2.2.2.2 == (250 : Int) then
                          bif x16.2.2.2.2.2.2.2.2 == (2 : Int) then
                            bif x18.2.2.2.2 == (0 : Int) then
                              bif x18.1 == (3 : Int) then
                                bif x18.2.2.1 == (5 : Int) then
                                  (F_follow_Check m ((0 : Int), (0 : Int), (0 : Int), ([] : List Int), ([] : List (Int × (List Int) × (List Int) × Int × Int × Int)), (0 : Int), (0 : Int), false)).bind fun x45 =>
                                  some (x45 == (8 : Int))
                                else some false
                              else some false
                            else some false
                          else some false
                        else some false
                      else some false
                    else some false
                  else some false
                else none
              else some false
            else some false
          else some false
        else some false
      else some false
    else some false
  else some false
def F_law25_FollowNames.ann : List (Nat × Ann) := [(4094, .jnt [(.normal, ⟨[(29, false, [.dat .bool])], [], [], [], 1568⟩)])]
def F_law25_FollowNames.sig : Sig := ⟨[], [(false, [.dat .bool])]⟩
noncomputable def F_law25_FollowNames.S : Summ := ⟨3, F_law25_FollowNames.sig, F_law25_FollowNames⟩
noncomputable def F_law25_FollowNames.G : List Summ := [F_law25_five.S, F_law25_clock.S, F_follow_Hear.S, F_image_New.S, F_image_Write.S, F_follow_New.S, F_follow_Ask.S, F_law25_says.S, F_law25_alive.S, F_follow_Check.S]
theorem F_law25_FollowNames.eq : absF Try.prog F_law25_FollowNames.G F_law25_FollowNames.ann F_law25_FollowNames.sig Try.f3 = F_law25_FollowNames := by kernel_rfl
theorem F_law25_FollowNames.sound : Sound Try.prog F_law25_FollowNames.S := absF_sound (fn := Try.f3) (Γ := F_law25_FollowNames.G) (all_cons F_law25_five.sound (all_cons F_law25_clock.sound (all_cons F_follow_Hear.sound (all_cons F_image_New.sound (all_cons F_image_Write.sound (all_cons F_follow_New.sound (all_cons F_follow_Ask.sound (all_cons F_law25_says.sound (all_cons F_law25_alive.sound (all_cons F_follow_Check.sound all_nil)))))))))) mix (by kernel_rfl) (by kernel_rfl) (fun m p => congrFun (congrFun F_law25_FollowNames.eq m) p)
/-! ### cloakroom/cloakroomref21.Great -/
noncomputable def F_ref21_Great.s232 (_ : Fu) (a2 : List (Int × (List Int) × (List Int) × Int × Int × Int)) (x1 : Int × Int) : Option (Unit ⊕ Unit) :=
  bif decide (x1.2 < (a2.length : Int)) then
    bif decide (x1.2 < (3000 : Int)) then
      some (Sum.inl ())
    else some (Sum.inr ())
  else some (Sum.inr ())
noncomputable def F_ref21_Great.l58 (m : Fu) (a2 : List (Int × (List Int) × (List Int) × Int × Int × Int)) (x1 : Int × Int) : Option (Step (Int × Int) Int) :=
  (F_ref21_Great.s232 m a2 x1).bind fun x5 =>
  match x5 with
  | .inl _ =>
    bif (decide ((0 : Int) ≤ x1.2)) && (decide (x1.2 < (a2.length : Int))) then
      bif (decide ((0 : Int) ≤ x1.2)) && (decide (x1.2 < (a2.length : Int))) then
        some (.next ((IntKind.i64.wrap ((IntKind.i64.wrap (x1.1 + (mnI ((((a2.getD x1.2.toNat (0, ([], ([], (0, (0, 0)))))).2).1).length : Int) (100000 : Int)))) + (mnI (((((a2.getD x1.2.toNat (0, ([], ([], (0, (0, 0)))))).2).2).1).length : Int) (100000 : Int)))), (IntKind.i64.wrap (x1.2 + (1 : Int)))))
      else none
    else none
  | .inr _ =>
    some (.fin x1.1)
noncomputable def F_ref21_Great (m : Fu) (p : Int × (List Int) × (List (Int × (List Int) × (List Int) × Int × Int × Int)) × Int × Int × Bool) : Option (Bool) :=
  let a1 := p.2.1
  let a2 := p.2.2.1
  (iter m (F_ref21_Great.l58 m a2) ((0 : Int), (0 : Int))).bind fun x17 =>
  bif decide ((40 : Int) < (a1.length : Int)) then some true else
  bif decide ((1100 : Int) < (a2.length : Int)) then
    some true
  else some (decide ((400000 : Int) < x17))
def F_ref21_Great.ann : List (Nat × Ann) := [(58, .loop ⟨[(3, false, [.dat (.int .i64)]), (4, false, [.dat (.int .i64)])], [], [], [], 80⟩ [(.exit 0, ⟨[(3, false, [.dat (.int .i64)])], [], [], [], 80⟩)]),
  (232, .jnt [(.normal, ⟨[], [], [], [], 80⟩), (.exit 0, ⟨[], [], [], [], 80⟩)])]
def F_ref21_Great.sig : Sig := ⟨[.val true [.int .i64, .sl (.int .i64), .sl (.pr (.int .i64) (.pr .str (.pr .str (.pr (.int .u32) (.pr (.int .i64) (.int .u64)))))), .int .i64, .int .i64, .bool]], [(false, [.dat .bool])]⟩
noncomputable def F_ref21_Great.S : Summ := ⟨17, F_ref21_Great.sig, F_ref21_Great⟩
noncomputable def F_ref21_Great.G : List Summ := []
theorem F_ref21_Great.eq : absF Try.prog F_ref21_Great.G F_ref21_Great.ann F_ref21_Great.sig Try.f17 = F_ref21_Great := by kernel_rfl
theorem F_ref21_Great.sound : Sound Try.prog F_ref21_Great.S := absF_sound (fn := Try.f17) (Γ := F_ref21_Great.G) all_nil mix (by kernel_rfl) (by kernel_rfl) (fun m p => congrFun (congrFun F_ref21_Great.eq m) p)
/-! ### slices.Equal[[]int,int] -/
noncomputable def F_slices_Equal_int.l58 (_ : Fu) (a0 : List Int) (a1 : List Int) (x4 : Int) (x5 : Int) : Option (Step Int (Bool ⊕ Unit)) :=
  bif decide (x5 < x4) then
    bif (decide ((0 : Int) ≤ x5)) && (decide (x5 < (a0.length : Int))) then
      bif (decide ((0 : Int) ≤ x5)) && (decide (x5 < (a1.length : Int))) then
        bif (a0.getD x5.toNat 0) != (a1.getD x5.toNat 0) then
          some (.fin (Sum.inl false))
        else some (.next (IntKind.i64.wrap (x5 + (1 : Int))))
      else none
    else none
  else some (.fin (Sum.inr ()))
noncomputable def F_slices_Equal_int (m : Fu) (p : (List Int) × (List Int)) : Option (Bool) :=
  let a0 := p.1
  let a1 := p.2
  bif (a0.length : Int) != (a1.length : Int) then some false else
  (iter m (F_slices_Equal_int.l58 m a0 a1 (a0.length : Int)) (0 : Int)).bind fun x11 =>
  match x11 with
  | .inl x12 =>
    some x12
  | .inr _ =>
    some true
def F_slices_Equal_int.ann : List (Nat × Ann) := [(58, .loop ⟨[(13, false, [.dat (.int .i64)])], [], [], [], 176⟩ [(.ret, ⟨[(4, false, [.dat .bool])], [], [], [], 176⟩), (.exit 0, ⟨[], [], [], [], 176⟩)])]
def F_slices_Equal_int.sig : Sig := ⟨[.val false [.sl (.int .i64)], .val false [.sl (.int .i64)]], [(false, [.dat .bool])]⟩
noncomputable def F_slices_Equal_int.S : Summ := ⟨40, F_slices_Equal_int.sig, F_slices_Equal_int⟩
noncomputable def F_slices_Equal_int.G : List Summ := []
theorem F_slices_Equal_int.eq : absF Try.prog F_slices_Equal_int.G F_slices_Equal_int.ann F_slices_Equal_int.sig Try.f40 = F_slices_Equal_int := by kernel_rfl
theorem F_slices_Equal_int.sound : Sound Try.prog F_slices_Equal_int.S := absF_sound (fn := Try.f40) (Γ := F_slices_Equal_int.G) all_nil mix (by kernel_rfl) (by kernel_rfl) (fun m p => congrFun (congrFun F_slices_Equal_int.eq m) p)
/-! ### slices.Equal[[]cloakroom/api.Kept,cloakroom/api.Kept] -/
noncomputable def F_slices_Equal_Kept.l58 (_ : Fu) (a0 : List (Int × (List Int) × (List Int) × Int × Int × Int)) (a1 : List (Int × (List Int) × (List Int) × Int × Int × Int)) (x4 : Int) (x5 : Int) : Option (Step Int (Bool ⊕ Unit)) :=
  bif decide (x5 < x4) then
    bif (decide ((0 : Int) ≤ x5)) && (decide (x5 < (a0.length : Int))) then
      let x7 := a0.getD x5.toNat (0, ([], ([], (0, (0, 0)))))
      bif (decide ((0 : Int) ≤ x5)) && (decide (x5 < (a1.length : Int))) then
        let x8 := a1.getD x5.toNat (0, ([], ([], (0, (0, 0)))))
        bif !((x7.1 == x8.1) && (((x7.2.1 == x8.2.1) && ((x7.2.2.1 == x8.2.2.1) && ((x7.2.2.2.1 == x8.2.2.2.1) && ((x7.2.2.2.2.1 == x8.2.2.2.2.1) && ((x7.2.2.2.2.2 == x8.2.2.2.2.2) && true))))) && true)) then
          some (.fin (Sum.inl false))
        else some (.next (IntKind.i64.wrap (x5 + (1 : Int))))
      else none
    else none
  else some (.fin (Sum.inr ()))
noncomputable def F_slices_Equal_Kept (m : Fu) (p : (List (Int × (List Int) × (List Int) × Int × Int × Int)) × (List (Int × (List Int) × (List Int) × Int × Int × Int))) : Option (Bool) :=
  let a0 := p.1
  let a1 := p.2
  bif (a0.length : Int) != (a1.length : Int) then some false else
  (iter m (F_slices_Equal_Kept.l58 m a0 a1 (a0.length : Int)) (0 : Int)).bind fun x11 =>
  match x11 with
  | .inl x12 =>
    some x12
  | .inr _ =>
    some true
def F_slices_Equal_Kept.ann : List (Nat × Ann) := [(58, .loop ⟨[(13, false, [.dat (.int .i64)])], [], [], [], 176⟩ [(.ret, ⟨[(4, false, [.dat .bool])], [], [], [], 176⟩), (.exit 0, ⟨[], [], [], [], 176⟩)])]
def F_slices_Equal_Kept.sig : Sig := ⟨[.val false [.sl (.pr (.int .i64) (.pr .str (.pr .str (.pr (.int .u32) (.pr (.int .i64) (.int .u64))))))], .val false [.sl (.pr (.int .i64) (.pr .str (.pr .str (.pr (.int .u32) (.pr (.int .i64) (.int .u64))))))]], [(false, [.dat .bool])]⟩
noncomputable def F_slices_Equal_Kept.S : Summ := ⟨41, F_slices_Equal_Kept.sig, F_slices_Equal_Kept⟩
noncomputable def F_slices_Equal_Kept.G : List Summ := []
theorem F_slices_Equal_Kept.eq : absF Try.prog F_slices_Equal_Kept.G F_slices_Equal_Kept.ann F_slices_Equal_Kept.sig Try.f41 = F_slices_Equal_Kept := by kernel_rfl
theorem F_slices_Equal_Kept.sound : Sound Try.prog F_slices_Equal_Kept.S := absF_sound (fn := Try.f41) (Γ := F_slices_Equal_Kept.G) all_nil mix (by kernel_rfl) (by kernel_rfl) (fun m p => congrFun (congrFun F_slices_Equal_Kept.eq m) p)
/-! ### cloakroom/image.Same -/
noncomputable def F_image_Same (m : Fu) (p : Int × (List Int) × (List (Int × (List Int) × (List Int) × Int × Int × Int)) × Int × Int × Bool × Int × (List Int) × (List (Int × (List Int) × (List Int) × Int × Int × Int)) × Int × Int × Bool) : Option (Bool) :=
  let a0 := p.1
  let a1 := p.2.1
  let a2 := p.2.2.1
  let a3 := p.2.2.2.1
  let a4 := p.2.2.2.2.1
  let a5 := p.2.2.2.2.2.1
  let a6 := p.2.2.2.2.2.2.1
  let a7 := p.2.2.2.2.2.2.2.1
  let a8 := p.2.2.2.2.2.2.2.2.1
  let a9 := p.2.2.2.2.2.2.2.2.2.1
  let a10 := p.2.2.2.2.2.2.2.2.2.2.1
  let a11 := p.2.2.2.2.2.2.2.2.2.2.2
  bif a0 == a6 then
    bif a3 == a9 then
      bif a4 == a10 then
        bif a5 == a11 then
          (F_slices_Equal_int m (a1, a7)).bind fun x5 =>
          bif x5 then
            (F_slices_Equal_Kept m (a2, a8)).bind fun x6 =>
            some x6
          else some false
        else some false
      else some false
    else some false
  else some false
def F_image_Same.ann : List (Nat × Ann) := []
def F_image_Same.sig : Sig := ⟨[.val true [.int .i64, .sl (.int .i64), .sl (.pr (.int .i64) (.pr .str (.pr .str (.pr (.int .u32) (.pr (.int .i64) (.int .u64)))))), .int .i64, .int .i64, .bool], .val true [.int .i64, .sl (.int .i64), .sl (.pr (.int .i64) (.pr .str (.pr .str (.pr (.int .u32) (.pr (.int .i64) (.int .u64)))))), .int .i64, .int .i64, .bool]], [(false, [.dat .bool])]⟩
noncomputable def F_image_Same.S : Summ := ⟨18, F_image_Same.sig, F_image_Same⟩
noncomputable def F_image_Same.G : List Summ := [F_slices_Equal_int.S, F_slices_Equal_Kept.S]
theorem F_image_Same.eq : absF Try.prog F_image_Same.G F_image_Same.ann F_image_Same.sig Try.f18 = F_image_Same := by kernel_rfl
theorem F_image_Same.sound : Sound Try.prog F_image_Same.S := absF_sound (fn := Try.f18) (Γ := F_image_Same.G) (all_cons F_slices_Equal_int.sound (all_cons F_slices_Equal_Kept.sound all_nil)) mix (by kernel_rfl) (by kernel_rfl) (fun m p => congrFun (congrFun F_image_Same.eq m) p)
/-! ### cloakroom/cloakroomlaw25.FollowNever -/
noncomputable def F_law25_FollowNever.s254 (m : Fu) (a0 : Int) (a1 : Int) (a9 : Int) (x8 : Int × Int × Int × (List Int) × (List (Int × (List Int) × (List Int) × Int × Int × Int)) × Int × Int × Bool × Int × (List (Int × Int × Int × (List Int))) × Int) : Option (Bool ⊕ Unit) :=
  (F_follow_Check m (x8.1, x8.2.1, x8.2.2.1, x8.2.2.2.1, x8.2.2.2.2.1, x8.2.2.2.2.2.1, x8.2.2.2.2.2.2.1, x8.2.2.2.2.2.2.2.1)).bind fun x16 =>
  bif x16 != (0 : Int) then some (Sum.inl false) else
  bif decide (x8.1 < a0) then some (Sum.inl false) else
  bif x8.1 == a0 then
    bif decide (x8.2.1 < a1) then some (Sum.inl false) else
    bif decide ((1 : Int) < (x8.2.2.2.2.2.2.2.2.2.1.length : Int)) then some (Sum.inl false) else
    bif decide (a9 < a0) then
      some (Sum.inl false)
    else some (Sum.inr ())
  else
    bif decide ((1 : Int) < (x8.2.2.2.2.2.2.2.2.2.1.length : Int)) then some (Sum.inl false) else
    bif decide (a9 < a0) then
      some (Sum.inl false)
    else some (Sum.inr ())
noncomputable def F_law25_FollowNever.l2042 (_ : Fu) (x8 : Int × Int × Int × (List Int) × (List (Int × (List Int) × (List Int) × Int × Int × Int)) × Int × Int × Bool × Int × (List (Int × Int × Int × (List Int))) × Int) (x30 : Int) : Option (Step Int (Bool ⊕ Unit)) :=
  bif decide (x30 < (x8.2.2.2.2.2.2.2.2.2.1.length : Int)) then
    bif (decide ((0 : Int) ≤ x30)) && (decide (x30 < (x8.2.2.2.2.2.2.2.2.2.1.length : Int))) then
      bif (((x8.2.2.2.2.2.2.2.2.2.1.getD x30.toNat (0, (0, (0, [])))).2).1) != x8.1 then some (.fin (Sum.inl false)) else
      bif (decide ((0 : Int) ≤ x30)) && (decide (x30 < (x8.2.2.2.2.2.2.2.2.2.1.length : Int))) then
        bif ((((x8.2.2.2.2.2.2.2.2.2.1.getD x30.toNat (0, (0, (0, [])))).2).2).1) != x8.2.1 then some (.fin (Sum.inl false)) else
        bif (decide ((0 : Int) ≤ x30)) && (decide (x30 < (x8.2.2.2.2.2.2.2.2.2.1.length : Int))) then
          bif ((x8.2.2.2.2.2.2.2.2.2.1.getD x30.toNat (0, (0, (0, [])))).1) != (2 : Int) then
            bif (decide ((0 : Int) ≤ x30)) && (decide (x30 < (x8.2.2.2.2.2.2.2.2.2.1.length : Int))) then
              bif ((x8.2.2.2.2.2.2.2.2.2.1.getD x30.toNat (0, (0, (0, [])))).1) != (3 : Int) then some (.fin (Sum.inl false)) else
              bif (decide ((0 : Int) ≤ x30)) && (decide (x30 < (x8.2.2.2.2.2.2.2.2.2.1.length : Int))) then
                bif (((((x8.2.2.2.2.2.2.2.2.2.1.getD x30.toNat (0, (0, (0, [])))).2).2).2).length : Int) != (0 : Int) then
                  some (.fin (Sum.inl false))
                else some (.next (IntKind.i64.wrap (x30 + (1 : Int))))
              else none
            else none
          else
            bif (decide ((0 : Int) ≤ x30)) && (decide (x30 < (x8.2.2.2.2.2.2.2.2.2.1.length : Int))) then
              bif (((((x8.2.2.2.2.2.2.2.2.2.1.getD x30.toNat (0, (0, (0, [])))).2).2).2).length : Int) != (0 : Int) then
                some (.fin (Sum.inl false))
              else some (.next (IntKind.i64.wrap (x30 + (1 : Int))))
            else none
        else none
      else none
    else none
  else some (.fin (Sum.inr ()))
noncomputable def F_law25_FollowNever (m : Fu) (p : Int × Int × Int × (List Int) × (List (Int × (List Int) × (List Int) × Int × Int × Int)) × Int × Int × Bool × Int × Int × Int × (List Int)) : Option (Bool) :=
  let a0 := p.1
  let a1 := p.2.1
  let a2 := p.2.2.1
  let a3 := p.2.2.2.1
  let a4 := p.2.2.2.2.1
  let a5 := p.2.2.2.2.2.1
  let a6 := p.2.2.2.2.2.2.1
  let a7 := p.2.2.2.2.2.2.2.1
  let a8 := p.2.2.2.2.2.2.2.2.1
  let a9 := p.2.2.2.2.2.2.2.2.2.1
  let a10 := p.2.2.2.2.2.2.2.2.2.2.1
  let a11 := p.2.2.2.2.2.2.2.2.2.2.2
  (F_law25_alive m ()).bind fun x1 =>
  bif !x1 then some false else
  (F_ref21_Great m (a2, a3, a4, a5, a6, a7)).bind fun x3 =>
  bif x3 then some x1 else
  bif decide ((100000 : Int) < (a11.length : Int)) then some x1 else
  (F_follow_Check m (a0, a1, a2, a3, a4, a5, a6, a7)).bind fun x6 =>
  bif x6 != (0 : Int) then some x1 else
  (F_follow_Hear m (a0, a1, a2, a3, a4, a5, a6, a7, a8, a9, a10, a11)).bind fun x8 =>
  bif x8.2.2.2.2.2.2.2.2.2.2 != (0 : Int) then
    bif x1 then
      bif (x8.2.2.2.2.2.2.2.2.2.1.length : Int) == (0 : Int) then
        bif x8.2.2.2.2.2.2.2.2.1 == (0 : Int) then
          bif x8.2.2.2.2.2.2.2.2.2.2 == (8 : Int) then some true else
          bif x8.2.2.2.2.2.2.2.2.2.2 == (250 : Int) then
            some (decide (a9 < a0))
          else some false
        else some false
      else some false
    else some false
  else
    (F_law25_FollowNever.s254 m a0 a1 a9 x8).bind fun x27 =>
    match x27 with
    | .inl x28 =>
      some x28
    | .inr _ =>
      (iter m (F_law25_FollowNever.l2042 m x8) (0 : Int)).bind fun x49 =>
      match x49 with
      | .inl x50 =>
        some x50
      | .inr _ =>
        bif x8.2.2.2.2.2.2.2.2.1 == (0 : Int) then
          bif x1 then
            bif x8.1 == a0 then
              bif x8.2.1 == a1 then
                (F_image_Same m (x8.2.2.1, x8.2.2.2.1, x8.2.2.2.2.1, x8.2.2.2.2.2.1, x8.2.2.2.2.2.2.1, x8.2.2.2.2.2.2.2.1, a2, a3, a4, a5, a6, a7)).bind fun x55 =>
                some x55
              else some false
            else some false
          else some false
        else
          bif x8.2.2.2.2.2.2.2.2.1 == (1 : Int) then
            bif x1 then
              bif x8.1 == a0 then
                bif x8.2.1 == (IntKind.i64.wrap (a1 + (1 : Int))) then
                  bif a8 == (1 : Int) then
                    bif a9 == a0 then
                      some (a10 == x8.2.1)
                    else some false
                  else some false
                else some false
              else some false
            else some false
          else
            (F_image_Read m a11).bind fun x63 =>
            bif x1 then
              bif x8.2.2.2.2.2.2.2.2.1 == (2 : Int) then
                bif x63.2.2.2.2.2.2 == (0 : Int) then
                  bif a8 == (4 : Int) then
                    bif x8.1 == a9 then
                      bif x8.2.1 == a10 then
                        (F_image_Same m (x8.2.2.1, x8.2.2.2.1, x8.2.2.2.2.1, x8.2.2.2.2.2.1, x8.2.2.2.2.2.2.1, x8.2.2.2.2.2.2.2.1, x63.1, x63.2.1, x63.2.2.1, a9, a10, false)).bind fun x69 =>
                        some x69
                      else some false
                    else some false
                  else some false
                else some false
              else some false
            else some false
def F_law25_FollowNever.ann : List (Nat × Ann) := [(254, .jnt [(.ret, ⟨[(4, false, [.dat .bool])], [], [], [], 608⟩), (.normal, ⟨[], [], [], [], 608⟩)]),
  (2042, .loop ⟨[(10, false, [.dat (.int .i64)])], [], [], [], 624⟩ [(.ret, ⟨[(4, false, [.dat .bool])], [], [], [], 624⟩), (.exit 0, ⟨[], [], [], [], 624⟩)])]
def F_law25_FollowNever.sig : Sig := ⟨[.val true [.int .i64, .int .i64, .int .i64, .sl (.int .i64), .sl (.pr (.int .i64) (.pr .str (.pr .str (.pr (.int .u32) (.pr (.int .i64) (.int .u64)))))), .int .i64, .int .i64, .bool], .val true [.int .u8, .int .i64, .int .i64, .sl (.int .u8)]], [(false, [.dat .bool])]⟩
noncomputable def F_law25_FollowNever.S : Summ := ⟨4, F_law25_FollowNever.sig, F_law25_FollowNever⟩
noncomputable def F_law25_FollowNever.G : List Summ := [F_law25_alive.S, F_ref21_Great.S, F_follow_Check.S, F_follow_Hear.S, F_image_Same.S, F_image_Read.S]
theorem F_law25_FollowNever.eq : absF Try.prog F_law25_FollowNever.G F_law25_FollowNever.ann F_law25_FollowNever.sig Try.f4 = F_law25_FollowNever := by kernel_rfl
theorem F_law25_FollowNever.sound : Sound Try.prog F_law25_FollowNever.S := absF_sound (fn := Try.f4) (Γ := F_law25_FollowNever.G) (all_cons F_law25_alive.sound (all_cons F_ref21_Great.sound (all_cons F_follow_Check.sound (all_cons F_follow_Hear.sound (all_cons F_image_Same.sound (all_cons F_image_Read.sound all_nil)))))) mix (by kernel_rfl) (by kernel_rfl) (fun m p => congrFun (congrFun F_law25_FollowNever.eq m) p)
/-! ### cloakroom/cloakroomref24.Great -/
noncomputable def F_ref24_Great.s232 (_ : Fu) (a3 : List (List Int)) (x1 : Int × Int) : Option (Unit ⊕ Unit) :=
  bif decide (x1.2 < (a3.length : Int)) then
    bif decide (x1.2 < (200 : Int)) then
      some (Sum.inl ())
    else some (Sum.inr ())
  else some (Sum.inr ())
noncomputable def F_ref24_Great.l58 (m : Fu) (a3 : List (List Int)) (x1 : Int × Int) : Option (Step (Int × Int) Int) :=
  (F_ref24_Great.s232 m a3 x1).bind fun x5 =>
  match x5 with
  | .inl _ =>
    bif (decide ((0 : Int) ≤ x1.2)) && (decide (x1.2 < (a3.length : Int))) then
      some (.next ((IntKind.i64.wrap (x1.1 + (mnI ((a3.getD x1.2.toNat []).length : Int) (200000 : Int)))), (IntKind.i64.wrap (x1.2 + (1 : Int)))))
    else none
  | .inr _ =>
    some (.fin x1.1)
noncomputable def F_ref24_Great (m : Fu) (p : Int × Int × Int × (List (List Int))) : Option (Bool) :=
  let a3 := p.2.2.2
  (iter m (F_ref24_Great.l58 m a3) ((0 : Int), (0 : Int))).bind fun x13 =>
  bif decide ((100 : Int) < (a3.length : Int)) then
    some true
  else some (decide ((200000 : Int) < x13))
def F_ref24_Great.ann : List (Nat × Ann) := [(58, .loop ⟨[(3, false, [.dat (.int .i64)]), (4, false, [.dat (.int .i64)])], [], [], [], 80⟩ [(.exit 0, ⟨[(3, false, [.dat (.int .i64)])], [], [], [], 80⟩)]),
  (232, .jnt [(.normal, ⟨[], [], [], [], 80⟩), (.exit 0, ⟨[], [], [], [], 80⟩)])]
def F_ref24_Great.sig : Sig := ⟨[.val true [.int .i64, .int .i64, .int .i64, .sl (.sl (.int .u8))]], [(false, [.dat .bool])]⟩
noncomputable def F_ref24_Great.S : Summ := ⟨20, F_ref24_Great.sig, F_ref24_Great⟩
noncomputable def F_ref24_Great.G : List Summ := []
theorem F_ref24_Great.eq : absF Try.prog F_ref24_Great.G F_ref24_Great.ann F_ref24_Great.sig Try.f20 = F_ref24_Great := by kernel_rfl
theorem F_ref24_Great.sound : Sound Try.prog F_ref24_Great.S := absF_sound (fn := Try.f20) (Γ := F_ref24_Great.G) all_nil mix (by kernel_rfl) (by kernel_rfl) (fun m p => congrFun (congrFun F_ref24_Great.eq m) p)
/-! ### cloakroom/numbers.Check$1 -/
noncomputable def F_numbers_Check_c1 (m : Fu) (p : List Int) : Option (Bool) :=
  let a0 := p
  (F_numbers_changes m a0).bind fun x1 =>
  some (!x1)
def F_numbers_Check_c1.ann : List (Nat × Ann) := []
def F_numbers_Check_c1.sig : Sig := ⟨[.val false [.sl (.int .u8)]], [(false, [.dat .bool])]⟩
noncomputable def F_numbers_Check_c1.S : Summ := ⟨68, F_numbers_Check_c1.sig, F_numbers_Check_c1⟩
noncomputable def F_numbers_Check_c1.G : List Summ := [F_numbers_changes.S]
theorem F_numbers_Check_c1.eq : absF Try.prog F_numbers_Check_c1.G F_numbers_Check_c1.ann F_numbers_Check_c1.sig Try.f68 = F_numbers_Check_c1 := by kernel_rfl
theorem F_numbers_Check_c1.sound : Sound Try.prog F_numbers_Check_c1.S := absF_sound (fn := Try.f68) (Γ := F_numbers_Check_c1.G) (all_cons F_numbers_changes.sound all_nil) mix (by kernel_rfl) (by kernel_rfl) (fun m p => congrFun (congrFun F_numbers_Check_c1.eq m) p)
/-! ### slices.IndexFunc[[][]byte,[]byte] -/
noncomputable def F_slices_IndexFunc_byte.l26 (m : Fu) (a0 : List (List Int)) (x1 : Int) (x2 : Int) : Option (Step Int (Int ⊕ Unit)) :=
  bif decide (x2 < x1) then
    bif (decide ((0 : Int) ≤ x2)) && (decide (x2 < (a0.length : Int))) then
      (F_numbers_Check_c1 m (a0.getD x2.toNat [])).bind fun x5 =>
      bif x5 then
        some (.fin (Sum.inl x2))
      else some (.next (IntKind.i64.wrap (x2 + (1 : Int))))
    else none
  else some (.fin (Sum.inr ()))
noncomputable def F_slices_IndexFunc_byte (m : Fu) (p : List (List Int)) : Option (Int) :=
  let a0 := p
  (iter m (F_slices_IndexFunc_byte.l26 m a0 (a0.length : Int)) (0 : Int)).bind fun x7 =>
  match x7 with
  | .inl x8 =>
    some x8
  | .inr _ =>
    some (-1 : Int)
def F_slices_IndexFunc_byte.ann : List (Nat × Ann) := [(26, .loop ⟨[(8, false, [.dat (.int .i64)])], [], [], [], 96⟩ [(.ret, ⟨[(4, false, [.dat (.int .i64)])], [], [], [], 96⟩), (.exit 0, ⟨[], [], [], [], 96⟩)])]
def F_slices_IndexFunc_byte.sig : Sig := ⟨[.val false [.sl (.sl (.int .u8))], .fn 68 []], [(false, [.dat (.int .i64)])]⟩
noncomputable def F_slices_IndexFunc_byte.S : Summ := ⟨88, F_slices_IndexFunc_byte.sig, F_slices_IndexFunc_byte⟩
noncomputable def F_slices_IndexFunc_byte.G : List Summ := [F_numbers_Check_c1.S]
theorem F_slices_IndexFunc_byte.eq : absF Try.prog F_slices_IndexFunc_byte.G F_slices_IndexFunc_byte.ann F_slices_IndexFunc_byte.sig Try.f88 = F_slices_IndexFunc_byte := by kernel_rfl
theorem F_slices_IndexFunc_byte.sound : Sound Try.prog F_slices_IndexFunc_byte.S := absF_sound (fn := Try.f88) (Γ := F_slices_IndexFunc_byte.G) (all_cons F_numbers_Check_c1.sound all_nil) mix (by kernel_rfl) (by kernel_rfl) (fun m p => congrFun (congrFun F_slices_IndexFunc_byte.eq m) p)
/-! ### slices.ContainsFunc[[][]byte,[]byte] -/
noncomputable def F_slices_ContainsFunc_byte (m : Fu) (p : List (List Int)) : Option (Bool) :=
  let a0 := p
  (F_slices_IndexFunc_byte m a0).bind fun x1 =>
  some (decide ((0 : Int) ≤ x1))
def F_slices_ContainsFunc_byte.ann : List (Nat × Ann) := []
def F_slices_ContainsFunc_byte.sig : Sig := ⟨[.val false [.sl (.sl (.int .u8))], .fn 68 []], [(false, [.dat .bool])]⟩
noncomputable def F_slices_ContainsFunc_byte.S : Summ := ⟨67, F_slices_ContainsFunc_byte.sig, F_slices_ContainsFunc_byte⟩
noncomputable def F_slices_ContainsFunc_byte.G : List Summ := [F_slices_IndexFunc_byte.S]
theorem F_slices_ContainsFunc_byte.eq : absF Try.prog F_slices_ContainsFunc_byte.G F_slices_ContainsFunc_byte.ann F_slices_ContainsFunc_byte.sig Try.f67 = F_slices_ContainsFunc_byte := by kernel_rfl
theorem F_slices_ContainsFunc_byte.sound : Sound Try.prog F_slices_ContainsFunc_byte.S := absF_sound (fn := Try.f67) (Γ := F_slices_ContainsFunc_byte.G) (all_cons F_slices_IndexFunc_byte.sound all_nil) mix (by kernel_rfl) (by kernel_rfl) (fun m p => congrFun (congrFun F_slices_ContainsFunc_byte.eq m) p)
/-! ### cloakroom/numbers.Check -/
noncomputable def F_numbers_Check (m : Fu) (p : Int × Int × Int × (List (List Int))) : Option (Int) :=
  let a0 := p.1
  let a1 := p.2.1
  let a2 := p.2.2.1
  let a3 := p.2.2.2
  (F_numbers_in m a0).bind fun x1 =>
  bif !x1 then some (8 : Int) else
  (F_numbers_in m a1).bind fun x3 =>
  bif !x3 then some (8 : Int) else
  bif decide (a2 < (0 : Int)) then some (8 : Int) else
  bif decide (a1 < a2) then some (8 : Int) else
  bif decide ((mnI (32 : Int) a1) < (a3.length : Int)) then some (8 : Int) else
  (F_slices_ContainsFunc_byte m a3).bind fun x10 =>
  bif x10 then
    some (8 : Int)
  else some (0 : Int)
def F_numbers_Check.ann : List (Nat × Ann) := []
def F_numbers_Check.sig : Sig := ⟨[.val true [.int .i64, .int .i64, .int .i64, .sl (.sl (.int .u8))]], [(false, [.dat (.int .i64)])]⟩
noncomputable def F_numbers_Check.S : Summ := ⟨46, F_numbers_Check.sig, F_numbers_Check⟩
noncomputable def F_numbers_Check.G : List Summ := [F_numbers_in.S, F_slices_ContainsFunc_byte.S]
theorem F_numbers_Check.eq : absF Try.prog F_numbers_Check.G F_numbers_Check.ann F_numbers_Check.sig Try.f46 = F_numbers_Check := by kernel_rfl
theorem F_numbers_Check.sound : Sound Try.prog F_numbers_Check.S := absF_sound (fn := Try.f46) (Γ := F_numbers_Check.G) (all_cons F_numbers_in.sound (all_cons F_slices_ContainsFunc_byte.sound all_nil)) mix (by kernel_rfl) (by kernel_rfl) (fun m p => congrFun (congrFun F_numbers_Check.eq m) p)
/-! ### bytes.Clone -/
noncomputable def F_bytes_Clone (_ : Fu) (p : List Int) : Option (List Int) :=
  let a0 := p
  match a0 with
  | [] => same2
   (
    some ([] : List Int))
   (
    bif Nat.ble (0 + a0.length) 140737488351232 then
      some (([] : List Int) ++ a0)
    else none)
  | _ :: _ =>
    bif Nat.ble (0 + a0.length) 140737488351232 then
      some (([] : List Int) ++ a0)
    else none
def F_bytes_Clone.ann : List (Nat × Ann) := []
def F_bytes_Clone.sig : Sig := ⟨[.val false [.sl (.int .u8)]], [(false, [.own (.int .u8) 0 .wr])]⟩
noncomputable def F_bytes_Clone.S : Summ := ⟨74, F_bytes_Clone.sig, F_bytes_Clone⟩
noncomputable def F_bytes_Clone.G : List Summ := []
theorem F_bytes_Clone.eq : absF Try.prog F_bytes_Clone.G F_bytes_Clone.ann F_bytes_Clone.sig Try.f74 = F_bytes_Clone := by kernel_rfl
theorem F_bytes_Clone.sound : Sound Try.prog F_bytes_Clone.S := absF_sound (fn := Try.f74) (Γ := F_bytes_Clone.G) all_nil mix (by kernel_rfl) (by kernel_rfl) (fun m p => congrFun (congrFun F_bytes_Clone.eq m) p)
noncomputable def C_bytes_Clone (m : Fu) (p : List Int) : Option (List Int) := bif Nat.ble p.length 140737488351232 then some p else none
theorem C_bytes_Clone.is : F_bytes_Clone = C_bytes_Clone := by
  funext m p
  have h0 : Nat.ble 0 140737488351232 = true := rfl
  cases p <;> simp [F_bytes_Clone, C_bytes_Clone, same2_self, h0]
noncomputable def C_bytes_Clone.S : Summ := ⟨74, F_bytes_Clone.sig, C_bytes_Clone⟩
theorem C_bytes_Clone.sound : Sound Try.prog C_bytes_Clone.S := by
  have h := F_bytes_Clone.sound
  unfold F_bytes_Clone.S at h
  rw [C_bytes_Clone.is] at h
  exact h
/-! ### cloakroom/numbers.twin -/
noncomputable def F_numbers_twin.l122 (m : Fu) (a3 : List (List Int)) (x1 : Int) (x2 : Int × Int × Int × Int × (List (List Int))) : Option (Step (Int × Int × Int × Int × (List (List Int))) ((Int × Int × Int × (List (List Int))))) :=
  bif decide (x2.1 < x1) then
    bif (decide ((0 : Int) ≤ x2.1)) && (decide (x2.1 < (a3.length : Int))) then
      (C_bytes_Clone m (a3.getD x2.1.toNat [])).bind fun x5 =>
      let x6 := [x5]
      bif Nat.ble (x2.2.2.2.2.length + x6.length) 4294967296 then
        some (.next ((IntKind.i64.wrap (x2.1 + (1 : Int))), x2.2.1, x2.2.2.1, x2.2.2.2.1, (x2.2.2.2.2 ++ x6)))
      else none
    else none
  else some (.fin x2.2)
noncomputable def F_numbers_twin (m : Fu) (p : Int × Int × Int × (List (List Int))) : Option (Int × Int × Int × (List (List Int))) :=
  let a0 := p.1
  let a1 := p.2.1
  let a2 := p.2.2.1
  let a3 := p.2.2.2
  (iter m (F_numbers_twin.l122 m a3 (a3.length : Int)) ((0 : Int), a0, a1, a2, ([] : List (List Int)))).bind fun x9 =>
  some x9
def F_numbers_twin.ann : List (Nat × Ann) := [(122, .loop ⟨[(11, false, [.dat (.int .i64)])], [(16, [.dat (.int .i64), .dat (.int .i64), .dat (.int .i64), .own (.sl (.int .u8)) 176 .wr])], [], [], 177⟩ [(.exit 0, ⟨[], [(16, [.dat (.int .i64), .dat (.int .i64), .dat (.int .i64), .own (.sl (.int .u8)) 176 .wr])], [], [], 177⟩)])]
def F_numbers_twin.sig : Sig := ⟨[.val true [.int .i64, .int .i64, .int .i64, .sl (.sl (.int .u8))]], [(true, [.dat (.int .i64), .dat (.int .i64), .dat (.int .i64), .own (.sl (.int .u8)) 0 .wr])]⟩
noncomputable def F_numbers_twin.S : Summ := ⟨48, F_numbers_twin.sig, F_numbers_twin⟩
noncomputable def F_numbers_twin.G : List Summ := [C_bytes_Clone.S]
theorem F_numbers_twin.eq : absF Try.prog F_numbers_twin.G F_numbers_twin.ann F_numbers_twin.sig Try.f48 = F_numbers_twin := by kernel_rfl
theorem F_numbers_twin.sound : Sound Try.prog F_numbers_twin.S := absF_sound (fn := Try.f48) (Γ := F_numbers_twin.G) (all_cons C_bytes_Clone.sound all_nil) mix (by kernel_rfl) (by kernel_rfl) (fun m p => congrFun (congrFun F_numbers_twin.eq m) p)
/-! ### cloakroom/numbers.message -/
noncomputable def F_numbers_message (m : Fu) (p : Int × Int × Int × (List (List Int)) × Int) : Option (Int × Int × Int × (List Int)) :=
  let a0 := p.1
  let a1 := p.2.1
  let a3 := p.2.2.2.1
  let a4 := p.2.2.2.2
  let x4 := IntKind.i64.wrap ((IntKind.i64.wrap ((a3.length : Int) - (1 : Int))) - (IntKind.i64.wrap (a1 - a4)))
  bif (decide ((0 : Int) ≤ x4)) && (decide (x4 < (a3.length : Int))) then
    (C_bytes_Clone m (a3.getD x4.toNat [])).bind fun x6 =>
    some ((1 : Int), a0, a4, x6)
  else none
def F_numbers_message.ann : List (Nat × Ann) := []
def F_numbers_message.sig : Sig := ⟨[.val true [.int .i64, .int .i64, .int .i64, .sl (.sl (.int .u8))], .val false [.int .i64]], [(true, [.dat (.int .u8), .dat (.int .i64), .dat (.int .i64), .own (.int .u8) 0 .wr])]⟩
noncomputable def F_numbers_message.S : Summ := ⟨55, F_numbers_message.sig, F_numbers_message⟩
noncomputable def F_numbers_message.G : List Summ := [C_bytes_Clone.S]
theorem F_numbers_message.eq : absF Try.prog F_numbers_message.G F_numbers_message.ann F_numbers_message.sig Try.f55 = F_numbers_message := by kernel_rfl
theorem F_numbers_message.sound : Sound Try.prog F_numbers_message.S := absF_sound (fn := Try.f55) (Γ := F_numbers_message.G) (all_cons C_bytes_Clone.sound all_nil) mix (by kernel_rfl) (by kernel_rfl) (fun m p => congrFun (congrFun F_numbers_message.eq m) p)
/-! ### cloakroom/numbers.behind -/
noncomputable def F_numbers_behind.l26 (m : Fu) (a0 : Int) (a1 : Int) (a2 : Int) (a3 : List (List Int)) (x5 : Int × (List (Int × Int × Int × (List Int)))) : Option (Step (Int × (List (Int × Int × Int × (List Int)))) ((List (Int × Int × Int × (List Int))))) :=
  bif decide (x5.1 ≤ a1) then
    (F_numbers_message m (a0, a1, a2, a3, x5.1)).bind fun x7 =>
    let x8 := [x7]
    bif Nat.ble (x5.2.length + x8.length) 4294967296 then
      some (.next ((IntKind.i64.wrap (x5.1 + (1 : Int))), (x5.2 ++ x8)))
    else none
  else some (.fin x5.2)
noncomputable def F_numbers_behind (m : Fu) (p : Int × Int × Int × (List (List Int)) × Int) : Option (List (Int × Int × Int × (List Int))) :=
  let a0 := p.1
  let a1 := p.2.1
  let a2 := p.2.2.1
  let a3 := p.2.2.2.1
  let a4 := p.2.2.2.2
  (iter m (F_numbers_behind.l26 m a0 a1 a2 a3) ((IntKind.i64.wrap ((mxI a4 (IntKind.i64.wrap (a1 - (a3.length : Int)))) + (1 : Int))), ([] : List (Int × Int × Int × (List Int))))).bind fun x11 =>
  some x11
def F_numbers_behind.ann : List (Nat × Ann) := [(26, .loop ⟨[(1, false, [.dat (.int .i64)]), (4, false, [.own (.pr (.int .u8) (.pr (.int .i64) (.pr (.int .i64) (.sl (.int .u8))))) 224 .wr])], [], [], [], 225⟩ [(.exit 0, ⟨[(4, false, [.own (.pr (.int .u8) (.pr (.int .i64) (.pr (.int .i64) (.sl (.int .u8))))) 224 .wr])], [], [], [], 225⟩)])]
def F_numbers_behind.sig : Sig := ⟨[.val true [.int .i64, .int .i64, .int .i64, .sl (.sl (.int .u8))], .val false [.int .i64]], [(false, [.own (.pr (.int .u8) (.pr (.int .i64) (.pr (.int .i64) (.sl (.int .u8))))) 0 .wr])]⟩
noncomputable def F_numbers_behind.S : Summ := ⟨49, F_numbers_behind.sig, F_numbers_behind⟩
noncomputable def F_numbers_behind.G : List Summ := [F_numbers_message.S]
theorem F_numbers_behind.eq : absF Try.prog F_numbers_behind.G F_numbers_behind.ann F_numbers_behind.sig Try.f49 = F_numbers_behind := by kernel_rfl
theorem F_numbers_behind.sound : Sound Try.prog F_numbers_behind.S := absF_sound (fn := Try.f49) (Γ := F_numbers_behind.G) (all_cons F_numbers_message.sound all_nil) mix (by kernel_rfl) (by kernel_rfl) (fun m p => congrFun (congrFun F_numbers_behind.eq m) p)
/-! ### cloakroom/numbers.Hear -/
noncomputable def F_numbers_Hear.s126 (_ : Fu) (a11 : Int) (a12 : Int) (x7 : Int × Int × Int × (List (List Int))) : Option (Bool) :=
  bif a11 == x7.1 then
    some (decide (a12 ≤ x7.2.1))
  else some false
noncomputable def F_numbers_Hear.s65208 (_ : Fu) (a12 : Int) (x7 : Int × Int × Int × (List (List Int))) (x10 : Bool) : Option (Bool) :=
  bif x10 then
    some (decide ((IntKind.i64.wrap (x7.2.1 - (x7.2.2.2.length : Int))) ≤ a12))
  else some false
noncomputable def F_numbers_Hear.s32604 (m : Fu) (a12 : Int) (x7 : Int × Int × Int × (List (List Int))) (x10 : Bool) : Option (((List (Int × Int × Int × (List Int))) × Int × Int × Int × Int × (List (List Int))) ⊕ Unit) :=
  (F_numbers_Hear.s65208 m a12 x7 x10).bind fun x17 =>
  bif x17 then
    (F_numbers_behind m (x7.1, x7.2.1, x7.2.2.1, x7.2.2.2, a12)).bind fun x18 =>
    some (Sum.inl (x18, (0 : Int), x7))
  else some (Sum.inr ())
noncomputable def F_numbers_Hear.s254 (m : Fu) (a4 : Int) (a5 : List Int) (a6 : List (Int × (List Int) × (List Int) × Int × Int × Int)) (a7 : Int) (a8 : Int) (a9 : Bool) (a10 : Int) (a12 : Int) (x7 : Int × Int × Int × (List (List Int))) (x10 : Bool) : Option ((Int × Int × Int × (List (List Int))) ⊕ ((List (Int × Int × Int × (List Int))) × Int × Int × Int × Int × (List (List Int)))) :=
  bif a10 == (2 : Int) then
    bif x10 then
      some (Sum.inl (x7.1, x7.2.1, (mxI x7.2.2.1 a12), x7.2.2.2))
    else some (Sum.inl x7)
  else
    bif a10 == (3 : Int) then
      (F_numbers_Hear.s32604 m a12 x7 x10).bind fun x19 =>
      match x19 with
      | .inl x20 =>
        some (Sum.inr x20)
      | .inr _ =>
        (F_image_Write m (a4, a5, a6, a7, a8, a9)).bind fun x22 =>
        bif x22.2 != (0 : Int) then
          some (Sum.inr (([] : List (Int × Int × Int × (List Int))), x22.2, (0 : Int), (0 : Int), (0 : Int), ([] : List (List Int))))
        else some (Sum.inr (([((4 : Int), (x7.1, (x7.2.1, x22.1)))]), (0 : Int), x7))
    else some (Sum.inl x7)
noncomputable def F_numbers_Hear (m : Fu) (p : Int × Int × Int × (List (List Int)) × Int × (List Int) × (List (Int × (List Int) × (List Int) × Int × Int × Int)) × Int × Int × Bool × Int × Int × Int × (List Int)) : Option (Int × Int × Int × (List (List Int)) × (List (Int × Int × Int × (List Int))) × Int) :=
  let a0 := p.1
  let a1 := p.2.1
  let a2 := p.2.2.1
  let a3 := p.2.2.2.1
  let a4 := p.2.2.2.2.1
  let a5 := p.2.2.2.2.2.1
  let a6 := p.2.2.2.2.2.2.1
  let a7 := p.2.2.2.2.2.2.2.1
  let a8 := p.2.2.2.2.2.2.2.2.1
  let a9 := p.2.2.2.2.2.2.2.2.2.1
  let a10 := p.2.2.2.2.2.2.2.2.2.2.1
  let a11 := p.2.2.2.2.2.2.2.2.2.2.2.1
  let a12 := p.2.2.2.2.2.2.2.2.2.2.2.2.1
  let a13 := p.2.2.2.2.2.2.2.2.2.2.2.2.2
  (F_numbers_Check m (a0, a1, a2, a3)).bind fun x1 =>
  bif x1 != (0 : Int) then some ((0 : Int), (0 : Int), (0 : Int), ([] : List (List Int)), ([] : List (Int × Int × Int × (List Int))), x1) else
  (F_image_Check m (a4, a5, a6, a7, a8, a9)).bind fun x3 =>
  bif x3 != (0 : Int) then some ((0 : Int), (0 : Int), (0 : Int), ([] : List (List Int)), ([] : List (Int × Int × Int × (List Int))), x3) else
  (F_numbers_may m (a10, a11, a12, a13)).bind fun x5 =>
  bif !x5 then some ((0 : Int), (0 : Int), (0 : Int), ([] : List (List Int)), ([] : List (Int × Int × Int × (List Int))), (8 : Int)) else
  (F_numbers_twin m (a0, a1, a2, a3)).bind fun x7 =>
  (F_numbers_Hear.s126 m a11 a12 x7).bind fun x10 =>
  (F_numbers_Hear.s254 m a4 a5 a6 a7 a8 a9 a10 a12 x7 x10).bind fun x25 =>
  match x25 with
  | .inl x26 =>
    some (x26.1, x26.2.1, x26.2.2.1, x26.2.2.2, ([] : List (Int × Int × Int × (List Int))), (0 : Int))
  | .inr x27 =>
    some (x27.2.2.1, x27.2.2.2.1, x27.2.2.2.2.1, x27.2.2.2.2.2, x27.1, x27.2.1)
def F_numbers_Hear.ann : List (Nat × Ann) := [(126, .jnt [(.normal, ⟨[(11, false, [.dat .bool])], [], [], [], 400⟩)]),
  (254, .jnt [(.normal, ⟨[], [(48, [.dat (.int .i64), .dat (.int .i64), .dat (.int .i64), .own (.sl (.int .u8)) 400 .wr])], [], [368], 401⟩), (.ret, ⟨[(7, false, [.own (.pr (.int .u8) (.pr (.int .i64) (.pr (.int .i64) (.sl (.int .u8))))) 400 .wr]), (8, false, [.dat (.int .i64)])], [(96, [.dat (.int .i64), .dat (.int .i64), .dat (.int .i64), .own (.sl (.int .u8)) 401 .fr])], [], [368], 402⟩)]),
  (32604, .jnt [(.ret, ⟨[(7, false, [.own (.pr (.int .u8) (.pr (.int .i64) (.pr (.int .i64) (.sl (.int .u8))))) 496 .wr]), (8, false, [.dat (.int .i64)])], [(96, [.dat (.int .i64), .dat (.int .i64), .dat (.int .i64), .own (.sl (.int .u8)) 497 .fr])], [], [368], 498⟩), (.normal, ⟨[], [], [], [], 496⟩)]),
  (65208, .jnt [(.normal, ⟨[(68, false, [.dat .bool])], [], [], [], 496⟩)])]
def F_numbers_Hear.sig : Sig := ⟨[.val true [.int .i64, .int .i64, .int .i64, .sl (.sl (.int .u8))], .val true [.int .i64, .sl (.int .i64), .sl (.pr (.int .i64) (.pr .str (.pr .str (.pr (.int .u32) (.pr (.int .i64) (.int .u64)))))), .int .i64, .int .i64, .bool], .val true [.int .u8, .int .i64, .int .i64, .sl (.int .u8)]], [(true, [.dat (.int .i64), .dat (.int .i64), .dat (.int .i64), .own (.sl (.int .u8)) 0 .fr]), (false, [.own (.pr (.int .u8) (.pr (.int .i64) (.pr (.int .i64) (.sl (.int .u8))))) 0 .wr]), (false, [.dat (.int .i64)])]⟩
noncomputable def F_numbers_Hear.S : Summ := ⟨21, F_numbers_Hear.sig, F_numbers_Hear⟩
noncomputable def F_numbers_Hear.G : List Summ := [F_numbers_Check.S, F_image_Check.S, F_numbers_may.S, F_numbers_twin.S, F_numbers_behind.S, F_image_Write.S]
theorem F_numbers_Hear.eq : absF Try.prog F_numbers_Hear.G F_numbers_Hear.ann F_numbers_Hear.sig Try.f21 = F_numbers_Hear := by kernel_rfl
theorem F_numbers_Hear.sound : Sound Try.prog F_numbers_Hear.S := absF_sound (fn := Try.f21) (Γ := F_numbers_Hear.G) (all_cons F_numbers_Check.sound (all_cons F_image_Check.sound (all_cons F_numbers_may.sound (all_cons F_numbers_twin.sound (all_cons F_numbers_behind.sound (all_cons F_image_Write.sound all_nil)))))) mix (by kernel_rfl) (by kernel_rfl) (fun m p => congrFun (congrFun F_numbers_Hear.eq m) p)
/-! ### cloakroom/cloakroomlaw25.FollowCatches -/
noncomputable def F_law25_FollowCatches.s30 (m : Fu) (a0 : Int) (a1 : Int) (a2 : Int) (a3 : List (List Int)) (a4 : Int) (a5 : List Int) (a6 : List (Int × (List Int) × (List Int) × Int × Int × Int)) (a7 : Int) (a8 : Int) (a9 : Bool) (a10 : Int) (a11 : Int) (a12 : Int) (a13 : List Int) (a14 : List (Int × (List Int) × (List Int) × Int × Int × Int)) (a15 : Int) (a16 : Int) (a17 : Bool) (x1 : Bool) : Option (Bool ⊕ Unit) :=
  (F_ref24_Great m (a0, a1, a2, a3)).bind fun x3 =>
  bif x3 then some (Sum.inl x1) else
  (F_ref21_Great m (a4, a5, a6, a7, a8, a9)).bind fun x4 =>
  bif x4 then some (Sum.inl x1) else
  (F_ref21_Great m (a12, a13, a14, a15, a16, a17)).bind fun x5 =>
  bif x5 then some (Sum.inl x1) else
  bif decide (a0 < a10) then some (Sum.inl x1) else
  bif a10 == a0 then
    bif decide (a1 < a11) then
      some (Sum.inl x1)
    else some (Sum.inr ())
  else some (Sum.inr ())
noncomputable def F_law25_FollowCatches.l2042 (m : Fu) (x1 : Bool) (x13 : Int × Int × Int × (List (List Int)) × (List (Int × Int × Int × (List Int))) × Int) (x16 : Int × Int × Int × Int × (List Int) × (List (Int × (List Int) × (List Int) × Int × Int × Int)) × Int × Int × Bool) : Option (Step (Int × Int × Int × Int × (List Int) × (List (Int × (List Int) × (List Int) × Int × Int × Int)) × Int × Int × Bool) (Bool ⊕ (Int × Int × Int × (List Int) × (List (Int × (List Int) × (List Int) × Int × Int × Int)) × Int × Int × Bool))) :=
  bif decide (x16.1 < (x13.2.2.2.2.1.length : Int)) then
    bif (decide ((0 : Int) ≤ x16.1)) && (decide (x16.1 < (x13.2.2.2.2.1.length : Int))) then
      bif Nat.blt x16.1.toNat x13.2.2.2.2.1.length then
        (F_follow_Hear m (x16.2.1, x16.2.2.1, x16.2.2.2.1, x16.2.2.2.2.1, x16.2.2.2.2.2.1, x16.2.2.2.2.2.2.1, x16.2.2.2.2.2.2.2.1, x16.2.2.2.2.2.2.2.2, (x13.2.2.2.2.1.getD x16.1.toNat (0, (0, (0, [])))))).bind fun x20 =>
        bif x20.2.2.2.2.2.2.2.2.2.2 != (0 : Int) then some (.fin (Sum.inl false)) else
        bif x20.2.2.2.2.2.2.2.2.1 == (0 : Int) then
          bif x1 then
            bif (decide ((0 : Int) ≤ x16.1)) && (decide (x16.1 < (x13.2.2.2.2.1.length : Int))) then
              bif Nat.blt x16.1.toNat x13.2.2.2.2.1.length then
                bif ((x13.2.2.2.2.1.getD x16.1.toNat (0, (0, (0, [])))).1) == (1 : Int) then some (.fin (Sum.inl true)) else
                (F_law25_says m (x20.2.2.2.2.2.2.2.2.2.1, (2 : Int), x16.2.1, x16.2.2.1)).bind fun x25 =>
                some (.fin (Sum.inl x25))
              else none
            else none
          else some (.fin (Sum.inl false))
        else
          (F_law25_says m (x20.2.2.2.2.2.2.2.2.2.1, (2 : Int), x20.1, x20.2.1)).bind fun x26 =>
          bif !x26 then
            some (.fin (Sum.inl false))
          else some (.next ((IntKind.i64.wrap (x16.1 + (1 : Int))), x20.1, x20.2.1, x20.2.2.1, x20.2.2.2.1, x20.2.2.2.2.1, x20.2.2.2.2.2.1, x20.2.2.2.2.2.2.1, x20.2.2.2.2.2.2.2.1))
      else none
    else none
  else some (.fin (Sum.inr x16.2))
noncomputable def F_law25_FollowCatches (m : Fu) (p : Int × Int × Int × (List (List Int)) × Int × (List Int) × (List (Int × (List Int) × (List Int) × Int × Int × Int)) × Int × Int × Bool × Int × Int × Int × (List Int) × (List (Int × (List Int) × (List Int) × Int × Int × Int)) × Int × Int × Bool) : Option (Bool) :=
  let a0 := p.1
  let a1 := p.2.1
  let a2 := p.2.2.1
  let a3 := p.2.2.2.1
  let a4 := p.2.2.2.2.1
  let a5 := p.2.2.2.2.2.1
  let a6 := p.2.2.2.2.2.2.1
  let a7 := p.2.2.2.2.2.2.2.1
  let a8 := p.2.2.2.2.2.2.2.2.1
  let a9 := p.2.2.2.2.2.2.2.2.2.1
  let a10 := p.2.2.2.2.2.2.2.2.2.2.1
  let a11 := p.2.2.2.2.2.2.2.2.2.2.2.1
  let a12 := p.2.2.2.2.2.2.2.2.2.2.2.2.1
  let a13 := p.2.2.2.2.2.2.2.2.2.2.2.2.2.1
  let a14 := p.2.2.2.2.2.2.2.2.2.2.2.2.2.2.1
  let a15 := p.2.2.2.2.2.2.2.2.2.2.2.2.2.2.2.1
  let a16 := p.2.2.2.2.2.2.2.2.2.2.2.2.2.2.2.2.1
  let a17 := p.2.2.2.2.2.2.2.2.2.2.2.2.2.2.2.2.2
  (F_law25_alive m ()).bind fun x1 =>
  bif !x1 then some false else
  (F_law25_FollowCatches.s30 m a0 a1 a2 a3 a4 a5 a6 a7 a8 a9 a10 a11 a12 a13 a14 a15 a16 a17 x1).bind fun x9 =>
  match x9 with
  | .inl x10 =>
    some x10
  | .inr _ =>
    (F_follow_Ask m (a10, a11, a12, a13, a14, a15, a16, a17)).bind fun x12 =>
    (F_numbers_Hear m (a0, a1, a2, a3, a4, a5, a6, a7, a8, a9, x12.1, x12.2.1, x12.2.2.1, x12.2.2.2.1)).bind fun x13 =>
    bif x12.2.2.2.2 != (0 : Int) then some x1 else
    bif x13.2.2.2.2.2 != (0 : Int) then some x1 else
    (iter m (F_law25_FollowCatches.l2042 m x1 x13) ((0 : Int), a10, a11, a12, a13, a14, a15, a16, a17)).bind fun x29 =>
    match x29 with
    | .inl x30 =>
      some x30
    | .inr x31 =>
      bif x1 then
        bif x31.1 == a0 then
          some (x31.2.1 == a1)
        else some false
      else some false
def F_law25_FollowCatches.ann : List (Nat × Ann) := [(30, .jnt [(.ret, ⟨[(6, false, [.dat .bool])], [], [], [], 176⟩), (.normal, ⟨[], [], [], [], 176⟩)]),
  (2042, .loop ⟨[(13, false, [.dat (.int .i64)])], [(80, [.dat (.int .i64), .dat (.int .i64), .dat (.int .i64), .dat (.sl (.int .i64)), .dat (.sl (.pr (.int .i64) (.pr .str (.pr .str (.pr (.int .u32) (.pr (.int .i64) (.int .u64))))))), .dat (.int .i64), .dat (.int .i64), .dat .bool])], [], [], 608⟩ [(.ret, ⟨[(6, false, [.dat .bool])], [], [], [80], 608⟩), (.exit 0, ⟨[], [(80, [.dat (.int .i64), .dat (.int .i64), .dat (.int .i64), .dat (.sl (.int .i64)), .dat (.sl (.pr (.int .i64) (.pr .str (.pr .str (.pr (.int .u32) (.pr (.int .i64) (.int .u64))))))), .dat (.int .i64), .dat (.int .i64), .dat .bool])], [], [], 608⟩)])]
def F_law25_FollowCatches.sig : Sig := ⟨[.val true [.int .i64, .int .i64, .int .i64, .sl (.sl (.int .u8))], .val true [.int .i64, .sl (.int .i64), .sl (.pr (.int .i64) (.pr .str (.pr .str (.pr (.int .u32) (.pr (.int .i64) (.int .u64)))))), .int .i64, .int .i64, .bool], .val true [.int .i64, .int .i64, .int .i64, .sl (.int .i64), .sl (.pr (.int .i64) (.pr .str (.pr .str (.pr (.int .u32) (.pr (.int .i64) (.int .u64)))))), .int .i64, .int .i64, .bool]], [(false, [.dat .bool])]⟩
noncomputable def F_law25_FollowCatches.S : Summ := ⟨5, F_law25_FollowCatches.sig, F_law25_FollowCatches⟩
noncomputable def F_law25_FollowCatches.G : List Summ := [F_law25_alive.S, F_ref24_Great.S, F_ref21_Great.S, F_follow_Ask.S, F_numbers_Hear.S, F_follow_Hear.S, F_law25_says.S]
theorem F_law25_FollowCatches.eq : absF Try.prog F_law25_FollowCatches.G F_law25_FollowCatches.ann F_law25_FollowCatches.sig Try.f5 = F_law25_FollowCatches := by kernel_rfl
theorem F_law25_FollowCatches.sound : Sound Try.prog F_law25_FollowCatches.S := absF_sound (fn := Try.f5) (Γ := F_law25_FollowCatches.G) (all_cons F_law25_alive.sound (all_cons F_ref24_Great.sound (all_cons F_ref21_Great.sound (all_cons F_follow_Ask.sound (all_cons F_numbers_Hear.sound (all_cons F_follow_Hear.sound (all_cons F_law25_says.sound all_nil))))))) mix (by kernel_rfl) (by kernel_rfl) (fun m p => congrFun (congrFun F_law25_FollowCatches.eq m) p)
/-! ### cloakroom/numbers.New -/
noncomputable def F_numbers_New (m : Fu) (p : Int × Int) : Option (Int × Int × Int × (List (List Int)) × Int) :=
  let a0 := p.1
  let a1 := p.2
  (F_numbers_in m a0).bind fun x1 =>
  bif !x1 then some ((0 : Int), (0 : Int), (0 : Int), ([] : List (List Int)), (2 : Int)) else
  (F_numbers_in m a1).bind fun x3 =>
  bif !x3 then
    some ((0 : Int), (0 : Int), (0 : Int), ([] : List (List Int)), (2 : Int))
  else some (a0, a1, (0 : Int), ([] : List (List Int)), (0 : Int))
def F_numbers_New.ann : List (Nat × Ann) := []
def F_numbers_New.sig : Sig := ⟨[.val false [.int .i64], .val false [.int .i64]], [(true, [.dat (.int .i64), .dat (.int .i64), .dat (.int .i64), .dat (.sl (.sl (.int .u8)))]), (false, [.dat (.int .i64)])]⟩
noncomputable def F_numbers_New.S : Summ := ⟨22, F_numbers_New.sig, F_numbers_New⟩
noncomputable def F_numbers_New.G : List Summ := [F_numbers_in.S]
theorem F_numbers_New.eq : absF Try.prog F_numbers_New.G F_numbers_New.ann F_numbers_New.sig Try.f22 = F_numbers_New := by kernel_rfl
theorem F_numbers_New.sound : Sound Try.prog F_numbers_New.S := absF_sound (fn := Try.f22) (Γ := F_numbers_New.G) (all_cons F_numbers_in.sound all_nil) mix (by kernel_rfl) (by kernel_rfl) (fun m p => congrFun (congrFun F_numbers_New.eq m) p)
/-! ### cloakroom/cloakroomref01.Heavy -/
noncomputable def F_ref01_Heavy.s232 (_ : Fu) (a0 : List (Int × Int × ((List Int) × (List Int) × Int × Int × Int) × (List Int) × Int × Int × Bool)) (x1 : Int × Int) : Option (Unit ⊕ Unit) :=
  bif decide (x1.2 < (a0.length : Int)) then
    bif decide (x1.2 < (10000 : Int)) then
      some (Sum.inl ())
    else some (Sum.inr ())
  else some (Sum.inr ())
noncomputable def F_ref01_Heavy.l58 (m : Fu) (a0 : List (Int × Int × ((List Int) × (List Int) × Int × Int × Int) × (List Int) × Int × Int × Bool)) (x1 : Int × Int) : Option (Step (Int × Int) Int) :=
  (F_ref01_Heavy.s232 m a0 x1).bind fun x5 =>
  match x5 with
  | .inl _ =>
    bif (decide ((0 : Int) ≤ x1.2)) && (decide (x1.2 < (a0.length : Int))) then
      bif (decide ((0 : Int) ≤ x1.2)) && (decide (x1.2 < (a0.length : Int))) then
        bif (decide ((0 : Int) ≤ x1.2)) && (decide (x1.2 < (a0.length : Int))) then
          some (.next ((IntKind.i64.wrap ((IntKind.i64.wrap ((IntKind.i64.wrap (x1.1 + (mnI ((((((a0.getD x1.2.toNat (0, (0, (([], ([], (0, (0, 0)))), ([], (0, (0, false))))))).2).2).1).1).length : Int) (100000 : Int)))) + (mnI (((((((a0.getD x1.2.toNat (0, (0, (([], ([], (0, (0, 0)))), ([], (0, (0, false))))))).2).2).1).2).1).length : Int) (100000 : Int)))) + (mnI ((((((a0.getD x1.2.toNat (0, (0, (([], ([], (0, (0, 0)))), ([], (0, (0, false))))))).2).2).2).1).length : Int) (100000 : Int)))), (IntKind.i64.wrap (x1.2 + (1 : Int)))))
        else none
      else none
    else none
  | .inr _ =>
    some (.fin x1.1)
noncomputable def F_ref01_Heavy (m : Fu) (p : List (Int × Int × ((List Int) × (List Int) × Int × Int × Int) × (List Int) × Int × Int × Bool)) : Option (Bool) :=
  let a0 := p
  (iter m (F_ref01_Heavy.l58 m a0) ((0 : Int), (0 : Int))).bind fun x21 =>
  bif decide ((5000 : Int) < (a0.length : Int)) then
    some true
  else some (decide ((200000 : Int) < x21))
def F_ref01_Heavy.ann : List (Nat × Ann) := [(58, .loop ⟨[(3, false, [.dat (.int .i64)]), (4, false, [.dat (.int .i64)])], [], [], [], 64⟩ [(.exit 0, ⟨[(3, false, [.dat (.int .i64)])], [], [], [], 64⟩)]),
  (232, .jnt [(.normal, ⟨[], [], [], [], 64⟩), (.exit 0, ⟨[], [], [], [], 64⟩)])]
def F_ref01_Heavy.sig : Sig := ⟨[.val false [.sl (.pr (.int .u8) (.pr (.int .i64) (.pr (.pr .str (.pr .str (.pr (.int .u32) (.pr (.int .i64) (.int .u64))))) (.pr .str (.pr (.int .u8) (.pr (.int .i64) .bool))))))]], [(false, [.dat .bool])]⟩
noncomputable def F_ref01_Heavy.S : Summ := ⟨23, F_ref01_Heavy.sig, F_ref01_Heavy⟩
noncomputable def F_ref01_Heavy.G : List Summ := []
theorem F_ref01_Heavy.eq : absF Try.prog F_ref01_Heavy.G F_ref01_Heavy.ann F_ref01_Heavy.sig Try.f23 = F_ref01_Heavy := by kernel_rfl
theorem F_ref01_Heavy.sound : Sound Try.prog F_ref01_Heavy.S := absF_sound (fn := Try.f23) (Γ := F_ref01_Heavy.G) all_nil mix (by kernel_rfl) (by kernel_rfl) (fun m p => congrFun (congrFun F_ref01_Heavy.eq m) p)
/-! ### cloakroom/cloakroomlaw25.termed -/
noncomputable def F_law25_termed.l26 (_ : Fu) (a0 : List (Int × Int × ((List Int) × (List Int) × Int × Int × Int) × (List Int) × Int × Int × Bool)) (x1 : Int) : Option (Step Int (Bool ⊕ Unit)) :=
  bif decide (x1 < (a0.length : Int)) then
    bif (decide ((0 : Int) ≤ x1)) && (decide (x1 < (a0.length : Int))) then
      bif ((a0.getD x1.toNat (0, (0, (([], ([], (0, (0, 0)))), ([], (0, (0, false))))))).1) == (6 : Int) then some (.fin (Sum.inl true)) else
      bif (decide ((0 : Int) ≤ x1)) && (decide (x1 < (a0.length : Int))) then
        bif ((a0.getD x1.toNat (0, (0, (([], ([], (0, (0, 0)))), ([], (0, (0, false))))))).1) == (7 : Int) then
          some (.fin (Sum.inl true))
        else some (.next (IntKind.i64.wrap (x1 + (1 : Int))))
      else none
    else none
  else some (.fin (Sum.inr ()))
noncomputable def F_law25_termed (m : Fu) (p : List (Int × Int × ((List Int) × (List Int) × Int × Int × Int) × (List Int) × Int × Int × Bool)) : Option (Bool) :=
  let a0 := p
  (iter m (F_law25_termed.l26 m a0) (0 : Int)).bind fun x9 =>
  match x9 with
  | .inl x10 =>
    some x10
  | .inr _ =>
    some false
def F_law25_termed.ann : List (Nat × Ann) := [(26, .loop ⟨[(3, false, [.dat (.int .i64)])], [], [], [], 48⟩ [(.ret, ⟨[(2, false, [.dat .bool])], [], [], [], 48⟩), (.exit 0, ⟨[], [], [], [], 48⟩)])]
def F_law25_termed.sig : Sig := ⟨[.val false [.sl (.pr (.int .u8) (.pr (.int .i64) (.pr (.pr .str (.pr .str (.pr (.int .u32) (.pr (.int .i64) (.int .u64))))) (.pr .str (.pr (.int .u8) (.pr (.int .i64) .bool))))))]], [(false, [.dat .bool])]⟩
noncomputable def F_law25_termed.S : Summ := ⟨24, F_law25_termed.sig, F_law25_termed⟩
noncomputable def F_law25_termed.G : List Summ := []
theorem F_law25_termed.eq : absF Try.prog F_law25_termed.G F_law25_termed.ann F_law25_termed.sig Try.f24 = F_law25_termed := by kernel_rfl
theorem F_law25_termed.sound : Sound Try.prog F_law25_termed.S := absF_sound (fn := Try.f24) (Γ := F_law25_termed.G) all_nil mix (by kernel_rfl) (by kernel_rfl) (fun m p => congrFun (congrFun F_law25_termed.eq m) p)
/-! ### cloakroom/numbers.Send -/
noncomputable def F_numbers_Send (m : Fu) (p : Int × Int × Int × (List (List Int)) × (List (Int × Int × ((List Int) × (List Int) × Int × Int × Int) × (List Int) × Int × Int × Bool))) : Option (Int × Int × Int × (List (List Int)) × Int × Int × Int × (List Int) × Int) :=
  let a0 := p.1
  let a1 := p.2.1
  let a2 := p.2.2.1
  let a3 := p.2.2.2.1
  let a4 := p.2.2.2.2
  (F_numbers_Check m (a0, a1, a2, a3)).bind fun x1 =>
  bif x1 != (0 : Int) then some ((0 : Int), (0 : Int), (0 : Int), ([] : List (List Int)), (0 : Int), (0 : Int), (0 : Int), ([] : List Int), x1) else
  (F_code_Changes m a4).bind fun x3 =>
  bif x3.2 != (0 : Int) then some ((0 : Int), (0 : Int), (0 : Int), ([] : List (List Int)), (0 : Int), (0 : Int), (0 : Int), ([] : List Int), x3.2) else
  bif a1 == (2147483647 : Int) then some ((0 : Int), (0 : Int), (0 : Int), ([] : List (List Int)), (0 : Int), (0 : Int), (0 : Int), ([] : List Int), (9 : Int)) else
  (F_numbers_twin m (a0, a1, a2, a3)).bind fun x6 =>
  let x7 := IntKind.i64.wrap (x6.2.1 + (1 : Int))
  let x8 := [x3.1]
  bif Nat.ble (x6.2.2.2.length + x8.length) 4294967296 then
    let x9 := x6.2.2.2 ++ x8
    let x12 := mxI (0 : Int) (IntKind.i64.wrap ((x9.length : Int) - (32 : Int)))
    bif (((decide ((0 : Int) ≤ x12)) && (decide (x12 ≤ (x9.length : Int)))) && (decide ((x9.length : Int) ≤ (x9.length : Int)))) && (decide ((x9.length : Int) ≤ (x9.length : Int))) then
      let x13 := (x9.take ((x9.length : Int).toNat)).drop x12.toNat
      (F_numbers_message m (x6.1, x7, x6.2.2.1, x13, x7)).bind fun x14 =>
      some (x6.1, x7, x6.2.2.1, x13, x14.1, x14.2.1, x14.2.2.1, x14.2.2.2, (0 : Int))
    else none
  else none
def F_numbers_Send.ann : List (Nat × Ann) := []
def F_numbers_Send.sig : Sig := ⟨[.val true [.int .i64, .int .i64, .int .i64, .sl (.sl (.int .u8))], .val false [.sl (.pr (.int .u8) (.pr (.int .i64) (.pr (.pr .str (.pr .str (.pr (.int .u32) (.pr (.int .i64) (.int .u64))))) (.pr .str (.pr (.int .u8) (.pr (.int .i64) .bool))))))]], [(true, [.dat (.int .i64), .dat (.int .i64), .dat (.int .i64), .dat (.sl (.sl (.int .u8)))]), (true, [.dat (.int .u8), .dat (.int .i64), .dat (.int .i64), .own (.int .u8) 0 .wr]), (false, [.dat (.int .i64)])]⟩
noncomputable def F_numbers_Send.S : Summ := ⟨26, F_numbers_Send.sig, F_numbers_Send⟩
noncomputable def F_numbers_Send.G : List Summ := [F_numbers_Check.S, F_code_Changes.S, F_numbers_twin.S, F_numbers_message.S]
theorem F_numbers_Send.eq : absF Try.prog F_numbers_Send.G F_numbers_Send.ann F_numbers_Send.sig Try.f26 = F_numbers_Send := by kernel_rfl
theorem F_numbers_Send.sound : Sound Try.prog F_numbers_Send.S := absF_sound (fn := Try.f26) (Γ := F_numbers_Send.G) (all_cons F_numbers_Check.sound (all_cons F_code_Changes.sound (all_cons F_numbers_twin.sound (all_cons F_numbers_message.sound all_nil)))) mix (by kernel_rfl) (by kernel_rfl) (fun m p => congrFun (congrFun F_numbers_Send.eq m) p)
/-! ### cloakroom/cloakroomlaw25.step -/
noncomputable def F_law25_step (m : Fu) (p : Int × Int × Int × (List Int) × (List (Int × (List Int) × (List Int) × Int × Int × Int)) × Int × Int × Bool × (List (Int × Int × Int × (List Int))) × Int) : Option (Int × Int × Int × (List Int) × (List (Int × (List Int) × (List Int) × Int × Int × Int)) × Int × Int × Bool × Bool) :=
  let a0 := p.1
  let a1 := p.2.1
  let a2 := p.2.2.1
  let a3 := p.2.2.2.1
  let a4 := p.2.2.2.2.1
  let a5 := p.2.2.2.2.2.1
  let a6 := p.2.2.2.2.2.2.1
  let a7 := p.2.2.2.2.2.2.2.1
  let a8 := p.2.2.2.2.2.2.2.2.1
  let a9 := p.2.2.2.2.2.2.2.2.2
  bif (a8.length : Int) == (0 : Int) then some (a0, a1, a2, a3, a4, a5, a6, a7, true) else
  bif decide (a9 < (0 : Int)) then some (a0, a1, a2, a3, a4, a5, a6, a7, true) else
  let x4 := (a8.length : Int)
  bif x4 == 0 then none else
  let x5 := a9.tmod x4
  bif (decide ((0 : Int) ≤ x5)) && (decide (x5 < (a8.length : Int))) then
    (F_follow_Hear m (a0, a1, a2, a3, a4, a5, a6, a7, (a8.getD x5.toNat (0, (0, (0, [])))))).bind fun x7 =>
    bif x7.2.2.2.2.2.2.2.2.2.2 != (0 : Int) then
      some (a0, a1, a2, a3, a4, a5, a6, a7, false)
    else some (x7.1, x7.2.1, x7.2.2.1, x7.2.2.2.1, x7.2.2.2.2.1, x7.2.2.2.2.2.1, x7.2.2.2.2.2.2.1, x7.2.2.2.2.2.2.2.1, true)
  else none
def F_law25_step.ann : List (Nat × Ann) := []
def F_law25_step.sig : Sig := ⟨[.val true [.int .i64, .int .i64, .int .i64, .sl (.int .i64), .sl (.pr (.int .i64) (.pr .str (.pr .str (.pr (.int .u32) (.pr (.int .i64) (.int .u64)))))), .int .i64, .int .i64, .bool], .val false [.sl (.pr (.int .u8) (.pr (.int .i64) (.pr (.int .i64) (.sl (.int .u8)))))], .val false [.int .i64]], [(true, [.dat (.int .i64), .dat (.int .i64), .dat (.int .i64), .dat (.sl (.int .i64)), .dat (.sl (.pr (.int .i64) (.pr .str (.pr .str (.pr (.int .u32) (.pr (.int .i64) (.int .u64))))))), .dat (.int .i64), .dat (.int .i64), .dat .bool]), (false, [.dat .bool])]⟩
noncomputable def F_law25_step.S : Summ := ⟨27, F_law25_step.sig, F_law25_step⟩
noncomputable def F_law25_step.G : List Summ := [F_follow_Hear.S]
theorem F_law25_step.eq : absF Try.prog F_law25_step.G F_law25_step.ann F_law25_step.sig Try.f27 = F_law25_step := by kernel_rfl
theorem F_law25_step.sound : Sound Try.prog F_law25_step.S := absF_sound (fn := Try.f27) (Γ := F_law25_step.G) (all_cons F_follow_Hear.sound all_nil) mix (by kernel_rfl) (by kernel_rfl) (fun m p => congrFun (congrFun F_law25_step.eq m) p)
/-! ### cloakroom/cloakroomlaw25.FollowPrefix -/
noncomputable def F_law25_FollowPrefix.s4191390 (_ : Fu) (x26 : Int × (List Int) × (List (Int × (List Int) × (List Int) × Int × Int × Int)) × Int × Int × Bool × Int) (x28 : Int × Int × Int × (List (List Int)) × Int × Int × Int × (List Int) × Int) : Option (Unit ⊕ Unit) :=
  bif x26.2.2.2.2.2.2 != (0 : Int) then some (Sum.inl ()) else
  bif x28.2.2.2.2.2.2.2.2 != (0 : Int) then
    some (Sum.inl ())
  else some (Sum.inr ())
noncomputable def F_law25_FollowPrefix.s134124542 (_ : Fu) (a7 : List Bool) (x15 : (List (Int × (List Int) × (List (Int × (List Int) × (List Int) × Int × Int × Int)) × Int × Int × Bool)) × (List (Int × Int × Int × (List Int))) × Int × Int × Int × Int × (List (List Int))) : Option (Bool) :=
  bif decide (x15.2.2.1 < (a7.length : Int)) then
    bif (decide ((0 : Int) ≤ x15.2.2.1)) && (decide (x15.2.2.1 < (a7.length : Int))) then
      some (a7.getD x15.2.2.1.toNat false)
    else none
  else some false
noncomputable def F_law25_FollowPrefix.l8186 (m : Fu) (a6 : List (List (Int × Int × ((List Int) × (List Int) × Int × Int × Int) × (List Int) × Int × Int × Bool))) (a7 : List Bool) (x1 : Bool) (x15 : (List (Int × (List Int) × (List (Int × (List Int) × (List Int) × Int × Int × Int)) × Int × Int × Bool)) × (List (Int × Int × Int × (List Int))) × Int × Int × Int × Int × (List (List Int))) : Option (Step ((List (Int × (List Int) × (List (Int × (List Int) × (List Int) × Int × Int × Int)) × Int × Int × Bool)) × (List (Int × Int × Int × (List Int))) × Int × Int × Int × Int × (List (List Int))) (Bool ⊕ ((List (Int × (List Int) × (List (Int × (List Int) × (List Int) × Int × Int × Int)) × Int × Int × Bool)) × (List (Int × Int × Int × (List Int)))))) :=
  bif decide (x15.2.2.1 < (a6.length : Int)) then
    bif (decide ((0 : Int) ≤ x15.2.2.1)) && (decide (x15.2.2.1 < (a6.length : Int))) then
      (F_ref01_Heavy m (a6.getD x15.2.2.1.toNat [])).bind fun x19 =>
      bif x19 then some (.fin (Sum.inl x1)) else
      bif (decide ((0 : Int) ≤ x15.2.2.1)) && (decide (x15.2.2.1 < (a6.length : Int))) then
        (F_law25_termed m (a6.getD x15.2.2.1.toNat [])).bind fun x21 =>
        bif x21 then some (.fin (Sum.inl x1)) else
        let x23 := IntKind.i64.wrap ((x15.1.length : Int) - (1 : Int))
        bif (decide ((0 : Int) ≤ x23)) && (decide (x23 < (x15.1.length : Int))) then
          bif Nat.blt x23.toNat x15.1.length then
            let x24 := x15.1.getD x23.toNat (0, ([], ([], (0, (0, false)))))
            bif (decide ((0 : Int) ≤ x15.2.2.1)) && (decide (x15.2.2.1 < (a6.length : Int))) then
              (F_image_Apply m (x24.1, x24.2.1, x24.2.2.1, x24.2.2.2.1, x24.2.2.2.2.1, x24.2.2.2.2.2, (a6.getD x15.2.2.1.toNat []))).bind fun x26 =>
              bif (decide ((0 : Int) ≤ x15.2.2.1)) && (decide (x15.2.2.1 < (a6.length : Int))) then
                (F_numbers_Send m (x15.2.2.2.1, x15.2.2.2.2.1, x15.2.2.2.2.2.1, x15.2.2.2.2.2.2, (a6.getD x15.2.2.1.toNat []))).bind fun x28 =>
                (F_law25_FollowPrefix.s4191390 m x26 x28).bind fun x31 =>
                match x31 with
                | .inl _ =>
                  some (.next (x15.1, x15.2.1, (IntKind.i64.wrap (x15.2.2.1 + (1 : Int))), x15.2.2.2))
                | .inr _ =>
                  let x35 := (x15.1.length : Int)
                  let x36 := [(x26.1, (x26.2.1, (x26.2.2.1, (x26.2.2.2.1, (x35, x26.2.2.2.2.2.1)))))]
                  bif Nat.ble (x15.1.length + x36.length) 4294967296 then
                    let x37 := x15.1 ++ x36
                    let x38 := [(x28.2.2.2.2.1, (x28.2.2.2.2.2.1, (x28.2.2.2.2.2.2.1, x28.2.2.2.2.2.2.2.1)))]
                    bif Nat.ble (x15.2.1.length + x38.length) 4294967296 then
                      let x39 := x15.2.1 ++ x38
                      (F_law25_FollowPrefix.s134124542 m a7 x15).bind fun x43 =>
                      bif x43 then
                        (F_numbers_Hear m (x28.1, x28.2.1, x28.2.2.1, x28.2.2.2.1, x26.1, x26.2.1, x26.2.2.1, x26.2.2.2.1, x35, x26.2.2.2.2.2.1, (3 : Int), (IntKind.i64.wrap (x28.1 + (1 : Int))), (0 : Int), ([] : List Int))).bind fun x45 =>
                        bif x45.2.2.2.2.2 == (0 : Int) then
                          bif Nat.ble (x39.length + x45.2.2.2.2.1.length) 4294967296 then
                            some (.next (x37, (x39 ++ x45.2.2.2.2.1), (IntKind.i64.wrap (x15.2.2.1 + (1 : Int))), x28.1, x28.2.1, x28.2.2.1, x28.2.2.2.1))
                          else none
                        else some (.next (x37, x39, (IntKind.i64.wrap (x15.2.2.1 + (1 : Int))), x28.1, x28.2.1, x28.2.2.1, x28.2.2.2.1))
                      else some (.next (x37, x39, (IntKind.i64.wrap (x15.2.2.1 + (1 : Int))), x28.1, x28.2.1, x28.2.2.1, x28.2.2.2.1))
                    else none
                  else none
              else none
            else none
          else none
        else none
      else none
    else none
  else some (.fin (Sum.inr (x15.1, x15.2.1)))
noncomputable def F_law25_FollowPrefix.l16378 (m : Fu) (a8 : List Int) (x53 : (List (Int × (List Int) × (List (Int × (List Int) × (List Int) × Int × Int × Int)) × Int × Int × Bool)) × (List (Int × Int × Int × (List Int)))) (x54 : Int × Int × Int × Int × (List Int) × (List (Int × (List Int) × (List Int) × Int × Int × Int)) × Int × Int × Bool × (List (Int × Int × Int × (List Int)))) : Option (Step (Int × Int × Int × Int × (List Int) × (List (Int × (List Int) × (List Int) × Int × Int × Int)) × Int × Int × Bool × (List (Int × Int × Int × (List Int)))) (Bool ⊕ Unit)) :=
  bif decide (x54.1 < (a8.length : Int)) then
    bif (decide ((0 : Int) ≤ x54.1)) && (decide (x54.1 < (a8.length : Int))) then
      (F_law25_step m (x54.2.1, x54.2.2.1, x54.2.2.2.1, x54.2.2.2.2.1, x54.2.2.2.2.2.1, x54.2.2.2.2.2.2.1, x54.2.2.2.2.2.2.2.1, x54.2.2.2.2.2.2.2.2.1, x54.2.2.2.2.2.2.2.2.2, (a8.getD x54.1.toNat 0))).bind fun x58 =>
      bif !x58.2.2.2.2.2.2.2.2 then some (.fin (Sum.inl false)) else
      bif decide (x58.2.1 < x54.2.2.1) then some (.fin (Sum.inl false)) else
      bif decide ((x53.1.length : Int) ≤ x58.2.1) then some (.fin (Sum.inl false)) else
      bif (decide ((0 : Int) ≤ x58.2.1)) && (decide (x58.2.1 < (x53.1.length : Int))) then
        bif Nat.blt x58.2.1.toNat x53.1.length then
          (F_image_Same m (x58.2.2.1, x58.2.2.2.1, x58.2.2.2.2.1, x58.2.2.2.2.2.1, x58.2.2.2.2.2.2.1, x58.2.2.2.2.2.2.2.1, (x53.1.getD x58.2.1.toNat (0, ([], ([], (0, (0, false)))))))).bind fun x64 =>
          bif !x64 then
            some (.fin (Sum.inl false))
          else some (.next ((IntKind.i64.wrap (x54.1 + (1 : Int))), x58.1, x58.2.1, x58.2.2.1, x58.2.2.2.1, x58.2.2.2.2.1, x58.2.2.2.2.2.1, x58.2.2.2.2.2.2.1, x58.2.2.2.2.2.2.2.1, x54.2.2.2.2.2.2.2.2.2))
        else none
      else none
    else none
  else some (.fin (Sum.inr ()))
noncomputable def F_law25_FollowPrefix (m : Fu) (p : Int × (List Int) × (List (Int × (List Int) × (List Int) × Int × Int × Int)) × Int × Int × Bool × (List (List (Int × Int × ((List Int) × (List Int) × Int × Int × Int) × (List Int) × Int × Int × Bool))) × (List Bool) × (List Int)) : Option (Bool) :=
  let a0 := p.1
  let a1 := p.2.1
  let a2 := p.2.2.1
  let a3 := p.2.2.2.1
  let a4 := p.2.2.2.2.1
  let a5 := p.2.2.2.2.2.1
  let a6 := p.2.2.2.2.2.2.1
  let a7 := p.2.2.2.2.2.2.2.1
  let a8 := p.2.2.2.2.2.2.2.2
  (F_law25_alive m ()).bind fun x1 =>
  bif !x1 then some false else
  (F_ref21_Great m (a0, a1, a2, a3, a4, a5)).bind fun x3 =>
  bif x3 then some x1 else
  bif decide ((100 : Int) < (a2.length : Int)) then some x1 else
  bif decide ((24 : Int) < (a6.length : Int)) then some x1 else
  bif decide ((60 : Int) < (a8.length : Int)) then some x1 else
  (F_follow_New m (a0, a1, a2, a3, a4, a5, (0 : Int))).bind fun x10 =>
  (F_numbers_New m (a3, (0 : Int))).bind fun x11 =>
  bif x10.2.2.2.2.2.2.2.2 != (0 : Int) then some x1 else
  bif x11.2.2.2.2 != (0 : Int) then some x1 else
  (iter m (F_law25_FollowPrefix.l8186 m a6 a7 x1) (([(x10.2.2.1, (x10.2.2.2.1, (x10.2.2.2.2.1, (x10.2.2.2.2.2.1, (x10.2.2.2.2.2.2.1, x10.2.2.2.2.2.2.2.1)))))]), ([] : List (Int × Int × Int × (List Int))), (0 : Int), x11.1, x11.2.1, x11.2.2.1, x11.2.2.2.1)).bind fun x51 =>
  match x51 with
  | .inl x52 =>
    some x52
  | .inr x53 =>
    (iter m (F_law25_FollowPrefix.l16378 m a8 x53) ((0 : Int), x10.1, x10.2.1, x10.2.2.1, x10.2.2.2.1, x10.2.2.2.2.1, x10.2.2.2.2.2.1, x10.2.2.2.2.2.2.1, x10.2.2.2.2.2.2.2.1, x53.2)).bind fun x67 =>
    match x67 with
    | .inl x68 =>
      some x68
    | .inr _ =>
      some x1
def F_law25_FollowPrefix.ann : List (Nat × Ann) := [(8186, .loop ⟨[(14, false, [.own (.pr (.int .i64) (.pr (.sl (.int .i64)) (.pr (.sl (.pr (.int .i64) (.pr .str (.pr .str (.pr (.int .u32) (.pr (.int .i64) (.int .u64))))))) (.pr (.int .i64) (.pr (.int .i64) .bool))))) 912 .wr]), (15, false, [.own (.pr (.int .u8) (.pr (.int .i64) (.pr (.int .i64) (.sl (.int .u8))))) 913 .wr]), (16, false, [.dat (.int .i64)])], [(672, [.dat (.int .i64), .dat (.int .i64), .dat (.int .i64), .dat (.sl (.sl (.int .u8)))])], [], [848], 914⟩ [(.ret, ⟨[(8, false, [.dat .bool])], [], [], [672, 848], 912⟩), (.exit 0, ⟨[(14, false, [.own (.pr (.int .i64) (.pr (.sl (.int .i64)) (.pr (.sl (.pr (.int .i64) (.pr .str (.pr .str (.pr (.int .u32) (.pr (.int .i64) (.int .u64))))))) (.pr (.int .i64) (.pr (.int .i64) .bool))))) 912 .wr]), (15, false, [.own (.pr (.int .u8) (.pr (.int .i64) (.pr (.int .i64) (.sl (.int .u8))))) 913 .wr])], [], [], [672, 848], 914⟩)]),
  (16378, .loop ⟨[(26, false, [.dat (.int .i64)])], [(528, [.dat (.int .i64), .dat (.int .i64), .dat (.int .i64), .dat (.sl (.int .i64)), .dat (.sl (.pr (.int .i64) (.pr .str (.pr .str (.pr (.int .u32) (.pr (.int .i64) (.int .u64))))))), .dat (.int .i64), .dat (.int .i64), .dat .bool])], [(913, .pr (.int .u8) (.pr (.int .i64) (.pr (.int .i64) (.sl (.int .u8)))), .fr)], [], 930⟩ [(.ret, ⟨[(8, false, [.dat .bool])], [], [], [528, 913], 930⟩), (.exit 2, ⟨[], [], [], [528, 913], 930⟩)]),
  (4191390, .jnt [(.exit 1, ⟨[], [], [], [], 1730⟩), (.normal, ⟨[], [], [], [], 1730⟩)]),
  (134124542, .jnt [(.normal, ⟨[(143, false, [.dat .bool])], [], [], [], 1986⟩)])]
def F_law25_FollowPrefix.sig : Sig := ⟨[.val true [.int .i64, .sl (.int .i64), .sl (.pr (.int .i64) (.pr .str (.pr .str (.pr (.int .u32) (.pr (.int .i64) (.int .u64)))))), .int .i64, .int .i64, .bool], .val false [.sl (.sl (.pr (.int .u8) (.pr (.int .i64) (.pr (.pr .str (.pr .str (.pr (.int .u32) (.pr (.int .i64) (.int .u64))))) (.pr .str (.pr (.int .u8) (.pr (.int .i64) .bool)))))))], .val false [.sl .bool], .val false [.sl (.int .i64)]], [(false, [.dat .bool])]⟩
noncomputable def F_law25_FollowPrefix.S : Summ := ⟨6, F_law25_FollowPrefix.sig, F_law25_FollowPrefix⟩
noncomputable def F_law25_FollowPrefix.G : List Summ := [F_law25_alive.S, F_ref21_Great.S, F_follow_New.S, F_numbers_New.S, F_ref01_Heavy.S, F_law25_termed.S, F_image_Apply.S, F_numbers_Send.S, F_numbers_Hear.S, F_law25_step.S, F_image_Same.S]
theorem F_law25_FollowPrefix.eq : absF Try.prog F_law25_FollowPrefix.G F_law25_FollowPrefix.ann F_law25_FollowPrefix.sig Try.f6 = F_law25_FollowPrefix := by kernel_rfl
theorem F_law25_FollowPrefix.sound : Sound Try.prog F_law25_FollowPrefix.S := absF_sound (fn := Try.f6) (Γ := F_law25_FollowPrefix.G) (all_cons F_law25_alive.sound (all_cons F_ref21_Great.sound (all_cons F_follow_New.sound (all_cons F_numbers_New.sound (all_cons F_ref01_Heavy.sound (all_cons F_law25_termed.sound (all_cons F_image_Apply.sound (all_cons F_numbers_Send.sound (all_cons F_numbers_Hear.sound (all_cons F_law25_step.sound (all_cons F_image_Same.sound all_nil))))))))))) mix (by kernel_rfl) (by kernel_rfl) (fun m p => congrFun (congrFun F_law25_FollowPrefix.eq m) p)
end Go.Proofs.Ytepgfpihfpjefaa
