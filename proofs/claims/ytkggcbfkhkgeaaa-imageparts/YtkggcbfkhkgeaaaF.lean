/- The pure functions that the program's functions compute, and that they compute them. Printed by a program of this session (gen.py). -/
import Derived.Test.YtkggcbfkhkgeaaaProg
import Derived.Test.YtkggcbfkhkgeaaaA3
namespace Go.Proofs.Ytkggcbfkhkgeaaa
open Go.Abs
set_option maxRecDepth 100000
theorem mix : Try.prog.follows .mixedOrders = true := by kernel_rfl
/-! ### cloakroom/cloakroomref21.Great -/
noncomputable def F_ref21_Great.s232 (_ : Fu) (a2 : List (Int × (List Int) × (List Int) × Int × Int × Int)) (x1 : Int × Int) : Option (Unit ⊕ Unit) :=
  bif decide (x1.2 < (a2.length : Int)) then
    bif decide (x1.2 < (3000 : Int)) then
      some (Sum.inl ())
    else some (Sum.inr ())
  else some (Sum.inr ())
noncomputable def F_ref21_Great.l58 (m : Fu) (a2 : List (Int × (List Int) × (List Int) × Int × Int × Int)) (x1 : Int × Int) : Option (Step (Int × Int) Int) :=
  (F_ref21_Great.s232 m a2 x1).bind fun x5 =>
  match x5 with
  | .inl _ =>
    bif (decide ((0 : Int) ≤ x1.2)) && (decide (x1.2 < (a2.length : Int))) then
      bif (decide ((0 : Int) ≤ x1.2)) && (decide (x1.2 < (a2.length : Int))) then
        some (.next ((IntKind.i64.wrap ((IntKind.i64.wrap (x1.1 + (mnI ((((a2.getD x1.2.toNat (0, ([], ([], (0, (0, 0)))))).2).1).length : Int) (100000 : Int)))) + (mnI (((((a2.getD x1.2.toNat (0, ([], ([], (0, (0, 0)))))).2).2).1).length : Int) (100000 : Int)))), (IntKind.i64.wrap (x1.2 + (1 : Int)))))
      else none
    else none
  | .inr _ =>
    some (.fin x1.1)
noncomputable def F_ref21_Great (m : Fu) (p : Int × (List Int) × (List (Int × (List Int) × (List Int) × Int × Int × Int)) × Int × Int × Bool) : Option (Bool) :=
  let a1 := p.2.1
  let a2 := p.2.2.1
  (iter m (F_ref21_Great.l58 m a2) ((0 : Int), (0 : Int))).bind fun x17 =>
  bif decide ((40 : Int) < (a1.length : Int)) then some true else
  bif decide ((1100 : Int) < (a2.length : Int)) then
    some true
  else some (decide ((400000 : Int) < x17))
def F_ref21_Great.ann : List (Nat × Ann) := [(58, .loop ⟨[(3, false, [.dat (.int .i64)]), (4, false, [.dat (.int .i64)])], [], [], [], 80⟩ [(.exit 0, ⟨[(3, false, [.dat (.int .i64)])], [], [], [], 80⟩)]),
  (232, .jnt [(.normal, ⟨[], [], [], [], 80⟩), (.exit 0, ⟨[], [], [], [], 80⟩)])]
def F_ref21_Great.sig : Sig := ⟨[.val true [.int .i64, .sl (.int .i64), .sl (.pr (.int .i64) (.pr .str (.pr .str (.pr (.int .u32) (.pr (.int .i64) (.int .u64)))))), .int .i64, .int .i64, .bool]], [(false, [.dat .bool])]⟩
noncomputable def F_ref21_Great.S : Summ := ⟨10, F_ref21_Great.sig, F_ref21_Great⟩
noncomputable def F_ref21_Great.G : List Summ := []
theorem F_ref21_Great.eq : absF Try.prog F_ref21_Great.G F_ref21_Great.ann F_ref21_Great.sig Try.f10 = F_ref21_Great := by kernel_rfl
theorem F_ref21_Great.sound : Sound Try.prog F_ref21_Great.S := absF_sound (fn := Try.f10) (Γ := F_ref21_Great.G) all_nil mix (by kernel_rfl) (by kernel_rfl) (fun m p => congrFun (congrFun F_ref21_Great.eq m) p)
/-! ### cloakroom/cloakroomref21.Twin -/
noncomputable def F_ref21_Twin (_ : Fu) (p : Int × (List Int) × (List (Int × (List Int) × (List Int) × Int × Int × Int)) × Int × Int × Bool) : Option (Int × (List Int) × (List (Int × (List Int) × (List Int) × Int × Int × Int)) × Int × Int × Bool) :=
  let a0 := p.1
  let a1 := p.2.1
  let a2 := p.2.2.1
  let a3 := p.2.2.2.1
  let a4 := p.2.2.2.2.1
  let a5 := p.2.2.2.2.2
  bif Nat.ble a1.length 4294967296 then
    bif Nat.ble a2.length 4294967296 then
      some (a0, a1, a2, a3, a4, a5)
    else none
  else none
def F_ref21_Twin.ann : List (Nat × Ann) := []
def F_ref21_Twin.sig : Sig := ⟨[.val true [.int .i64, .sl (.int .i64), .sl (.pr (.int .i64) (.pr .str (.pr .str (.pr (.int .u32) (.pr (.int .i64) (.int .u64)))))), .int .i64, .int .i64, .bool]], [(true, [.dat (.int .i64), .own (.int .i64) 0 .wr, .own (.pr (.int .i64) (.pr .str (.pr .str (.pr (.int .u32) (.pr (.int .i64) (.int .u64)))))) 0 .wr, .dat (.int .i64), .dat (.int .i64), .dat .bool])]⟩
noncomputable def F_ref21_Twin.S : Summ := ⟨11, F_ref21_Twin.sig, F_ref21_Twin⟩
noncomputable def F_ref21_Twin.G : List Summ := []
theorem F_ref21_Twin.eq : absF Try.prog F_ref21_Twin.G F_ref21_Twin.ann F_ref21_Twin.sig Try.f11 = F_ref21_Twin := by kernel_rfl
theorem F_ref21_Twin.sound : Sound Try.prog F_ref21_Twin.S := absF_sound (fn := Try.f11) (Γ := F_ref21_Twin.G) all_nil mix (by kernel_rfl) (by kernel_rfl) (fun m p => congrFun (congrFun F_ref21_Twin.eq m) p)
/-! ### cloakroom/image.in -/
noncomputable def F_image_in (_ : Fu) (p : Int × Int) : Option (Bool) :=
  let a0 := p.1
  let a1 := p.2
  bif decide ((0 : Int) ≤ a0) then
    some (decide (a0 ≤ a1))
  else some false
def F_image_in.ann : List (Nat × Ann) := []
def F_image_in.sig : Sig := ⟨[.val false [.int .i64], .val false [.int .i64]], [(false, [.dat .bool])]⟩
noncomputable def F_image_in.S : Summ := ⟨58, F_image_in.sig, F_image_in⟩
noncomputable def F_image_in.G : List Summ := []
theorem F_image_in.eq : absF Try.prog F_image_in.G F_image_in.ann F_image_in.sig Try.f58 = F_image_in := by kernel_rfl
theorem F_image_in.sound : Sound Try.prog F_image_in.S := absF_sound (fn := Try.f58) (Γ := F_image_in.G) all_nil mix (by kernel_rfl) (by kernel_rfl) (fun m p => congrFun (congrFun F_image_in.eq m) p)
/-! ### cloakroom/image.quotas$1 -/
noncomputable def F_image_quotas_c1 (m : Fu) (p : Int) : Option (Bool) :=
  let a0 := p
  (F_image_in m (a0, (16 : Int))).bind fun x1 =>
  some (!x1)
def F_image_quotas_c1.ann : List (Nat × Ann) := []
def F_image_quotas_c1.sig : Sig := ⟨[.val false [.int .i64]], [(false, [.dat .bool])]⟩
noncomputable def F_image_quotas_c1.S : Summ := ⟨87, F_image_quotas_c1.sig, F_image_quotas_c1⟩
noncomputable def F_image_quotas_c1.G : List Summ := [F_image_in.S]
theorem F_image_quotas_c1.eq : absF Try.prog F_image_quotas_c1.G F_image_quotas_c1.ann F_image_quotas_c1.sig Try.f87 = F_image_quotas_c1 := by kernel_rfl
theorem F_image_quotas_c1.sound : Sound Try.prog F_image_quotas_c1.S := absF_sound (fn := Try.f87) (Γ := F_image_quotas_c1.G) (all_cons F_image_in.sound all_nil) mix (by kernel_rfl) (by kernel_rfl) (fun m p => congrFun (congrFun F_image_quotas_c1.eq m) p)
/-! ### slices.IndexFunc[[]int,int] -/
noncomputable def F_slices_IndexFunc_int.l26 (m : Fu) (a0 : List Int) (x1 : Int) (x2 : Int) : Option (Step Int (Int ⊕ Unit)) :=
  bif decide (x2 < x1) then
    bif (decide ((0 : Int) ≤ x2)) && (decide (x2 < (a0.length : Int))) then
      (F_image_quotas_c1 m (a0.getD x2.toNat 0)).bind fun x5 =>
      bif x5 then
        some (.fin (Sum.inl x2))
      else some (.next (IntKind.i64.wrap (x2 + (1 : Int))))
    else none
  else some (.fin (Sum.inr ()))
noncomputable def F_slices_IndexFunc_int (m : Fu) (p : List Int) : Option (Int) :=
  let a0 := p
  (iter m (F_slices_IndexFunc_int.l26 m a0 (a0.length : Int)) (0 : Int)).bind fun x7 =>
  match x7 with
  | .inl x8 =>
    some x8
  | .inr _ =>
    some (-1 : Int)
def F_slices_IndexFunc_int.ann : List (Nat × Ann) := [(26, .loop ⟨[(8, false, [.dat (.int .i64)])], [], [], [], 96⟩ [(.ret, ⟨[(4, false, [.dat (.int .i64)])], [], [], [], 96⟩), (.exit 0, ⟨[], [], [], [], 96⟩)])]
def F_slices_IndexFunc_int.sig : Sig := ⟨[.val false [.sl (.int .i64)], .fn 87 []], [(false, [.dat (.int .i64)])]⟩
noncomputable def F_slices_IndexFunc_int.S : Summ := ⟨96, F_slices_IndexFunc_int.sig, F_slices_IndexFunc_int⟩
noncomputable def F_slices_IndexFunc_int.G : List Summ := [F_image_quotas_c1.S]
theorem F_slices_IndexFunc_int.eq : absF Try.prog F_slices_IndexFunc_int.G F_slices_IndexFunc_int.ann F_slices_IndexFunc_int.sig Try.f96 = F_slices_IndexFunc_int := by kernel_rfl
theorem F_slices_IndexFunc_int.sound : Sound Try.prog F_slices_IndexFunc_int.S := absF_sound (fn := Try.f96) (Γ := F_slices_IndexFunc_int.G) (all_cons F_image_quotas_c1.sound all_nil) mix (by kernel_rfl) (by kernel_rfl) (fun m p => congrFun (congrFun F_slices_IndexFunc_int.eq m) p)
/-! ### slices.ContainsFunc[[]int,int] -/
noncomputable def F_slices_ContainsFunc_int (m : Fu) (p : List Int) : Option (Bool) :=
  let a0 := p
  (F_slices_IndexFunc_int m a0).bind fun x1 =>
  some (decide ((0 : Int) ≤ x1))
def F_slices_ContainsFunc_int.ann : List (Nat × Ann) := []
def F_slices_ContainsFunc_int.sig : Sig := ⟨[.val false [.sl (.int .i64)], .fn 87 []], [(false, [.dat .bool])]⟩
noncomputable def F_slices_ContainsFunc_int.S : Summ := ⟨86, F_slices_ContainsFunc_int.sig, F_slices_ContainsFunc_int⟩
noncomputable def F_slices_ContainsFunc_int.G : List Summ := [F_slices_IndexFunc_int.S]
theorem F_slices_ContainsFunc_int.eq : absF Try.prog F_slices_ContainsFunc_int.G F_slices_ContainsFunc_int.ann F_slices_ContainsFunc_int.sig Try.f86 = F_slices_ContainsFunc_int := by kernel_rfl
theorem F_slices_ContainsFunc_int.sound : Sound Try.prog F_slices_ContainsFunc_int.S := absF_sound (fn := Try.f86) (Γ := F_slices_ContainsFunc_int.G) (all_cons F_slices_IndexFunc_int.sound all_nil) mix (by kernel_rfl) (by kernel_rfl) (fun m p => congrFun (congrFun F_slices_ContainsFunc_int.eq m) p)
/-! ### cloakroom/image.quotas -/
noncomputable def F_image_quotas (m : Fu) (p : List Int) : Option (Bool) :=
  let a0 := p
  bif decide ((0 : Int) < (a0.length : Int)) then
    bif decide ((a0.length : Int) ≤ (4 : Int)) then
      (F_slices_ContainsFunc_int m a0).bind fun x5 =>
      some (!x5)
    else some false
  else some false
def F_image_quotas.ann : List (Nat × Ann) := []
def F_image_quotas.sig : Sig := ⟨[.val false [.sl (.int .i64)]], [(false, [.dat .bool])]⟩
noncomputable def F_image_quotas.S : Summ := ⟨59, F_image_quotas.sig, F_image_quotas⟩
noncomputable def F_image_quotas.G : List Summ := [F_slices_ContainsFunc_int.S]
theorem F_image_quotas.eq : absF Try.prog F_image_quotas.G F_image_quotas.ann F_image_quotas.sig Try.f59 = F_image_quotas := by kernel_rfl
theorem F_image_quotas.sound : Sound Try.prog F_image_quotas.S := absF_sound (fn := Try.f59) (Γ := F_image_quotas.G) (all_cons F_slices_ContainsFunc_int.sound all_nil) mix (by kernel_rfl) (by kernel_rfl) (fun m p => congrFun (congrFun F_image_quotas.eq m) p)
/-! ### cloakroom/image.size -/
noncomputable def F_image_size (_ : Fu) (p : (List Int) × (List Int) × Int × Int × Int) : Option (Int) :=
  let a0 := p.1
  let a1 := p.2.1
  some (IntKind.i64.wrap ((IntKind.i64.wrap ((8 : Int) + (a0.length : Int))) + (a1.length : Int)))
def F_image_size.ann : List (Nat × Ann) := []
def F_image_size.sig : Sig := ⟨[.val true [.str, .str, .int .u32, .int .i64, .int .u64]], [(false, [.dat (.int .i64)])]⟩
noncomputable def F_image_size.S : Summ := ⟨88, F_image_size.sig, F_image_size⟩
noncomputable def F_image_size.G : List Summ := []
theorem F_image_size.eq : absF Try.prog F_image_size.G F_image_size.ann F_image_size.sig Try.f88 = F_image_size := by kernel_rfl
theorem F_image_size.sound : Sound Try.prog F_image_size.S := absF_sound (fn := Try.f88) (Γ := F_image_size.G) all_nil mix (by kernel_rfl) (by kernel_rfl) (fun m p => congrFun (congrFun F_image_size.eq m) p)
/-! ### cloakroom/image.may -/
noncomputable def F_image_may (m : Fu) (p : (List Int) × (List Int) × Int × Int × Int) : Option (Bool) :=
  let a0 := p.1
  let a1 := p.2.1
  let a2 := p.2.2.1
  let a3 := p.2.2.2.1
  let a4 := p.2.2.2.2
  bif !(a0 == ([] : List Int)) then
    bif decide ((a0.length : Int) ≤ (32 : Int)) then
      (F_image_size m (a0, a1, a2, a3, a4)).bind fun x4 =>
      bif decide (x4 ≤ (256 : Int)) then
        (F_image_in m (a3, (1099511627776 : Int))).bind fun x6 =>
        some x6
      else some false
    else some false
  else some false
def F_image_may.ann : List (Nat × Ann) := []
def F_image_may.sig : Sig := ⟨[.val true [.str, .str, .int .u32, .int .i64, .int .u64]], [(false, [.dat .bool])]⟩
noncomputable def F_image_may.S : Summ := ⟨60, F_image_may.sig, F_image_may⟩
noncomputable def F_image_may.G : List Summ := [F_image_size.S, F_image_in.S]
theorem F_image_may.eq : absF Try.prog F_image_may.G F_image_may.ann F_image_may.sig Try.f60 = F_image_may := by kernel_rfl
theorem F_image_may.sound : Sound Try.prog F_image_may.S := absF_sound (fn := Try.f60) (Γ := F_image_may.G) (all_cons F_image_size.sound (all_cons F_image_in.sound all_nil)) mix (by kernel_rfl) (by kernel_rfl) (fun m p => congrFun (congrFun F_image_may.eq m) p)
/-! ### cloakroom/image.due -/
noncomputable def F_image_due (_ : Fu) (p : (List Int) × (List Int) × Int × Int × Int × Int) : Option (Bool) :=
  let a3 := p.2.2.2.1
  let a5 := p.2.2.2.2.2
  bif a3 != (0 : Int) then
    some (decide (a3 ≤ a5))
  else some false
def F_image_due.ann : List (Nat × Ann) := []
def F_image_due.sig : Sig := ⟨[.val true [.str, .str, .int .u32, .int .i64, .int .u64], .val false [.int .i64]], [(false, [.dat .bool])]⟩
noncomputable def F_image_due.S : Summ := ⟨61, F_image_due.sig, F_image_due⟩
noncomputable def F_image_due.G : List Summ := []
theorem F_image_due.eq : absF Try.prog F_image_due.G F_image_due.ann F_image_due.sig Try.f61 = F_image_due := by kernel_rfl
theorem F_image_due.sound : Sound Try.prog F_image_due.S := absF_sound (fn := Try.f61) (Γ := F_image_due.G) all_nil mix (by kernel_rfl) (by kernel_rfl) (fun m p => congrFun (congrFun F_image_due.eq m) p)
/-! ### cloakroom/image.places -/
noncomputable def F_image_places.l58 (_ : Fu) (a0 : List (Int × (List Int) × (List Int) × Int × Int × Int)) (x1 : Int) (x2 : Int × (List ((Int × (List Int)) × Int))) : Option (Step (Int × (List ((Int × (List Int)) × Int))) ((List ((Int × (List Int)) × Int)))) :=
  bif decide (x2.1 < x1) then
    bif (decide ((0 : Int) ≤ x2.1)) && (decide (x2.1 < (a0.length : Int))) then
      let x4 := a0.getD x2.1.toNat (0, ([], ([], (0, (0, 0)))))
      bif Nat.blt x2.2.length 4294967296 then
        some (.next ((IntKind.i64.wrap (x2.1 + (1 : Int))), (mset (keyEq (.pr (.int .i64) .str)) x2.2 (x4.1, x4.2.1) x2.1)))
      else none
    else none
  else some (.fin x2.2)
noncomputable def F_image_places (m : Fu) (p : List (Int × (List Int) × (List Int) × Int × Int × Int)) : Option (List ((Int × (List Int)) × Int)) :=
  let a0 := p
  (iter m (F_image_places.l58 m a0 (a0.length : Int)) ((0 : Int), ([] : List ((Int × (List Int)) × Int)))).bind fun x7 =>
  some x7
def F_image_places.ann : List (Nat × Ann) := [(58, .loop ⟨[(9, false, [.dat (.int .i64)])], [], [(32, .pr (.pr (.int .i64) .str) (.int .i64), (.mp true false))], [], 112⟩ [(.exit 0, ⟨[], [], [(32, .pr (.pr (.int .i64) .str) (.int .i64), (.mp true false))], [], 112⟩)])]
def F_image_places.sig : Sig := ⟨[.val false [.sl (.pr (.int .i64) (.pr .str (.pr .str (.pr (.int .u32) (.pr (.int .i64) (.int .u64))))))]], [(false, [.own (.pr (.pr (.int .i64) .str) (.int .i64)) 0 (.mp true false)])]⟩
noncomputable def F_image_places.S : Summ := ⟨62, F_image_places.sig, F_image_places⟩
noncomputable def F_image_places.G : List Summ := []
theorem F_image_places.eq : absF Try.prog F_image_places.G F_image_places.ann F_image_places.sig Try.f62 = F_image_places := by kernel_rfl
theorem F_image_places.sound : Sound Try.prog F_image_places.S := absF_sound (fn := Try.f62) (Γ := F_image_places.G) all_nil mix (by kernel_rfl) (by kernel_rfl) (fun m p => congrFun (congrFun F_image_places.eq m) p)
/-! ### cloakroom/image.Check -/
noncomputable def F_image_Check.l58 (m : Fu) (a0 : Int) (a1 : List Int) (a2 : List (Int × (List Int) × (List Int) × Int × Int × Int)) (x11 : Int) (x12 : Int) : Option (Step Int (Int ⊕ Unit)) :=
  bif decide (x12 < x11) then
    bif (decide ((0 : Int) ≤ x12)) && (decide (x12 < (a2.length : Int))) then
      let x14 := a2.getD x12.toNat (0, ([], ([], (0, (0, 0)))))
      (F_image_in m (x14.1, (IntKind.i64.wrap ((a1.length : Int) - (1 : Int))))).bind fun x17 =>
      bif !x17 then some (.fin (Sum.inl (8 : Int))) else
      (F_image_may m x14.2).bind fun x19 =>
      bif !x19 then some (.fin (Sum.inl (8 : Int))) else
      (F_image_due m (x14.2.1, x14.2.2.1, x14.2.2.2.1, x14.2.2.2.2.1, x14.2.2.2.2.2, a0)).bind fun x21 =>
      bif x21 then
        some (.fin (Sum.inl (8 : Int)))
      else some (.next (IntKind.i64.wrap (x12 + (1 : Int))))
    else none
  else some (.fin (Sum.inr ()))
noncomputable def F_image_Check (m : Fu) (p : Int × (List Int) × (List (Int × (List Int) × (List Int) × Int × Int × Int)) × Int × Int × Bool) : Option (Int) :=
  let a0 := p.1
  let a1 := p.2.1
  let a2 := p.2.2.1
  let a3 := p.2.2.2.1
  let a4 := p.2.2.2.2.1
  (F_image_in m (a0, (1099511627776 : Int))).bind fun x1 =>
  bif !x1 then some (8 : Int) else
  (F_image_quotas m a1).bind fun x3 =>
  bif !x3 then some (8 : Int) else
  bif decide ((1024 : Int) < (a2.length : Int)) then some (8 : Int) else
  (F_image_in m (a3, (2147483647 : Int))).bind fun x7 =>
  bif !x7 then some (8 : Int) else
  (F_image_in m (a4, (2147483647 : Int))).bind fun x9 =>
  bif !x9 then some (8 : Int) else
  (iter m (F_image_Check.l58 m a0 a1 a2 (a2.length : Int)) (0 : Int)).bind fun x23 =>
  match x23 with
  | .inl x24 =>
    some x24
  | .inr _ =>
    (F_image_places m a2).bind fun x26 =>
    bif (x26.length : Int) != (a2.length : Int) then
      some (8 : Int)
    else some (0 : Int)
def F_image_Check.ann : List (Nat × Ann) := [(58, .loop ⟨[(36, false, [.dat (.int .i64)])], [], [], [], 560⟩ [(.ret, ⟨[(2, false, [.dat (.int .i64)])], [], [], [], 560⟩), (.exit 0, ⟨[], [], [], [], 560⟩)])]
def F_image_Check.sig : Sig := ⟨[.val true [.int .i64, .sl (.int .i64), .sl (.pr (.int .i64) (.pr .str (.pr .str (.pr (.int .u32) (.pr (.int .i64) (.int .u64)))))), .int .i64, .int .i64, .bool]], [(false, [.dat (.int .i64)])]⟩
noncomputable def F_image_Check.S : Summ := ⟨25, F_image_Check.sig, F_image_Check⟩
noncomputable def F_image_Check.G : List Summ := [F_image_in.S, F_image_quotas.S, F_image_may.S, F_image_due.S, F_image_places.S]
theorem F_image_Check.eq : absF Try.prog F_image_Check.G F_image_Check.ann F_image_Check.sig Try.f25 = F_image_Check := by kernel_rfl
theorem F_image_Check.sound : Sound Try.prog F_image_Check.S := absF_sound (fn := Try.f25) (Γ := F_image_Check.G) (all_cons F_image_in.sound (all_cons F_image_quotas.sound (all_cons F_image_may.sound (all_cons F_image_due.sound (all_cons F_image_places.sound all_nil))))) mix (by kernel_rfl) (by kernel_rfl) (fun m p => congrFun (congrFun F_image_Check.eq m) p)
/-! ### cloakroom/code.Small -/
noncomputable def F_code_Small.l28 (_ : Fu) (x1 : Int × (List Int)) : Option (Step (Int × (List Int)) ((Int × (List Int)))) :=
  bif decide ((127 : Int) < x1.1) then
    let x5 := [(bitsOp .or .u8 (IntKind.u8.wrap x1.1) (128 : Int))]
    bif Nat.ble (x1.2.length + x5.length) 140737488351232 then
      some (.next ((shrOp .u64 x1.1 (7 : Int)), (x1.2 ++ x5)))
    else none
  else some (.fin x1)
noncomputable def F_code_Small (m : Fu) (p : Int) : Option (List Int) :=
  let a0 := p
  (iter m (F_code_Small.l28 m) (a0, ([] : List Int))).bind fun x8 =>
  let x10 := [(IntKind.u8.wrap x8.1)]
  bif Nat.ble (x8.2.length + x10.length) 140737488351232 then
    some (x8.2 ++ x10)
  else none
def F_code_Small.ann : List (Nat × Ann) := [(28, .loop ⟨[(0, false, [.dat (.int .u64)]), (3, false, [.own (.int .u8) 48 .wr])], [], [], [], 49⟩ [(.exit 0, ⟨[(0, false, [.dat (.int .u64)]), (3, false, [.own (.int .u8) 48 .wr])], [], [], [], 49⟩)])]
def F_code_Small.sig : Sig := ⟨[.val false [.int .u64]], [(false, [.own (.int .u8) 0 .wr])]⟩
noncomputable def F_code_Small.S : Summ := ⟨41, F_code_Small.sig, F_code_Small⟩
noncomputable def F_code_Small.G : List Summ := []
theorem F_code_Small.eq : absF Try.prog F_code_Small.G F_code_Small.ann F_code_Small.sig Try.f41 = F_code_Small := by kernel_rfl
theorem F_code_Small.sound : Sound Try.prog F_code_Small.S := absF_sound (fn := Try.f41) (Γ := F_code_Small.G) all_nil mix (by kernel_rfl) (by kernel_rfl) (fun m p => congrFun (congrFun F_code_Small.eq m) p)
/-! ### cloakroom/image.nums -/
noncomputable def F_image_nums.l26 (m : Fu) (a1 : List Int) (x1 : Int) (x2 : (List Int) × Int) : Option (Step ((List Int) × Int) ((List Int))) :=
  bif decide (x2.2 < x1) then
    bif (decide ((0 : Int) ≤ x2.2)) && (decide (x2.2 < (a1.length : Int))) then
      (F_code_Small m (IntKind.u64.wrap (a1.getD x2.2.toNat 0))).bind fun x6 =>
      bif Nat.ble (x2.1.length + x6.length) 140737488351232 then
        some (.next ((x2.1 ++ x6), (IntKind.i64.wrap (x2.2 + (1 : Int)))))
      else none
    else none
  else some (.fin x2.1)
noncomputable def F_image_nums (m : Fu) (p : (List Int) × (List Int)) : Option (List Int) :=
  let a0 := p.1
  let a1 := p.2
  (iter m (F_image_nums.l26 m a1 (a1.length : Int)) (a0, (0 : Int))).bind fun x9 =>
  some x9
def F_image_nums.ann : List (Nat × Ann) := [(26, .loop ⟨[(0, false, [.own (.int .u8) 96 .fr]), (9, false, [.dat (.int .i64)])], [], [], [0], 97⟩ [(.exit 0, ⟨[(0, false, [.own (.int .u8) 96 .fr])], [], [], [0], 97⟩)])]
def F_image_nums.sig : Sig := ⟨[.own (.int .u8), .val false [.sl (.int .i64)]], [(false, [.own (.int .u8) 0 .fr])]⟩
noncomputable def F_image_nums.S : Summ := ⟨39, F_image_nums.sig, F_image_nums⟩
noncomputable def F_image_nums.G : List Summ := [F_code_Small.S]
theorem F_image_nums.eq : absF Try.prog F_image_nums.G F_image_nums.ann F_image_nums.sig Try.f39 = F_image_nums := by kernel_rfl
theorem F_image_nums.sound : Sound Try.prog F_image_nums.S := absF_sound (fn := Try.f39) (Γ := F_image_nums.G) (all_cons F_code_Small.sound all_nil) mix (by kernel_rfl) (by kernel_rfl) (fun m p => congrFun (congrFun F_image_nums.eq m) p)
/-! ### cloakroom/code.Text -/
noncomputable def F_code_Text (m : Fu) (p : List Int) : Option (List Int) :=
  let a0 := p
  (F_code_Small m (IntKind.u64.wrap (a0.length : Int))).bind fun x3 =>
  bif Nat.ble (x3.length + a0.length) 140737488351232 then
    some (x3 ++ a0)
  else none
def F_code_Text.ann : List (Nat × Ann) := []
def F_code_Text.sig : Sig := ⟨[.val false [.str]], [(false, [.own (.int .u8) 0 .wr])]⟩
noncomputable def F_code_Text.S : Summ := ⟨40, F_code_Text.sig, F_code_Text⟩
noncomputable def F_code_Text.G : List Summ := [F_code_Small.S]
theorem F_code_Text.eq : absF Try.prog F_code_Text.G F_code_Text.ann F_code_Text.sig Try.f40 = F_code_Text := by kernel_rfl
theorem F_code_Text.sound : Sound Try.prog F_code_Text.S := absF_sound (fn := Try.f40) (Γ := F_code_Text.G) (all_cons F_code_Small.sound all_nil) mix (by kernel_rfl) (by kernel_rfl) (fun m p => congrFun (congrFun F_code_Text.eq m) p)
/-! ### cloakroom/image.Write -/
noncomputable def F_image_Write.s30 (_ : Fu) (a5 : Bool) (x8 : List Int) : Option ((List Int)) :=
  bif a5 then
    bif Nat.ble (x8.length + 1) 140737488351232 then
      some (x8 ++ ([1] : List Int))
    else none
  else
    bif Nat.ble (x8.length + 1) 140737488351232 then
      some (x8 ++ ([0] : List Int))
    else none
noncomputable def F_image_Write.l506 (m : Fu) (a2 : List (Int × (List Int) × (List Int) × Int × Int × Int)) (x15 : Int) (x16 : (List Int) × Int) : Option (Step ((List Int) × Int) ((List Int))) :=
  bif decide (x16.2 < x15) then
    bif (decide ((0 : Int) ≤ x16.2)) && (decide (x16.2 < (a2.length : Int))) then
      let x18 := a2.getD x16.2.toNat (0, ([], ([], (0, (0, 0)))))
      (F_image_nums m (x16.1, ([x18.1]))).bind fun x20 =>
      (F_code_Text m x18.2.1).bind fun x21 =>
      bif Nat.ble (x20.length + x21.length) 140737488351232 then
        let x22 := x20 ++ x21
        (F_code_Text m x18.2.2.1).bind fun x23 =>
        bif Nat.ble (x22.length + x23.length) 140737488351232 then
          (F_image_nums m ((x22 ++ x23), ([(IntKind.i64.wrap x18.2.2.2.1), x18.2.2.2.2.1]))).bind fun x27 =>
          (F_code_Small m x18.2.2.2.2.2).bind fun x28 =>
          bif Nat.ble (x27.length + x28.length) 140737488351232 then
            some (.next ((x27 ++ x28), (IntKind.i64.wrap (x16.2 + (1 : Int)))))
          else none
        else none
      else none
    else none
  else some (.fin x16.1)
noncomputable def F_image_Write (m : Fu) (p : Int × (List Int) × (List (Int × (List Int) × (List Int) × Int × Int × Int)) × Int × Int × Bool) : Option ((List Int) × Int) :=
  let a0 := p.1
  let a1 := p.2.1
  let a2 := p.2.2.1
  let a3 := p.2.2.2.1
  let a4 := p.2.2.2.2.1
  let a5 := p.2.2.2.2.2
  (F_image_Check m (a0, a1, a2, a3, a4, a5)).bind fun x1 =>
  bif x1 != (0 : Int) then some (([] : List Int), x1) else
  (F_image_nums m (([] : List Int), ([a0, (a1.length : Int)]))).bind fun x5 =>
  (F_image_nums m (x5, a1)).bind fun x6 =>
  (F_image_nums m (x6, ([a3, a4]))).bind fun x8 =>
  (F_image_Write.s30 m a5 x8).bind fun x11 =>
  (F_image_nums m (x11, ([(a2.length : Int)]))).bind fun x14 =>
  (iter m (F_image_Write.l506 m a2 (a2.length : Int)) (x14, (0 : Int))).bind fun x31 =>
  bif decide ((65536 : Int) < (x31.length : Int)) then
    some (([] : List Int), (3 : Int))
  else some (x31, (0 : Int))
def F_image_Write.ann : List (Nat × Ann) := [(30, .jnt [(.normal, ⟨[(5, false, [.own (.int .u8) 416 .fr])], [], [], [384], 417⟩)]),
  (506, .loop ⟨[(5, false, [.own (.int .u8) 593 .fr]), (46, false, [.dat (.int .i64)])], [], [], [497], 594⟩ [(.exit 0, ⟨[(5, false, [.own (.int .u8) 593 .fr])], [], [], [497], 594⟩)])]
def F_image_Write.sig : Sig := ⟨[.val true [.int .i64, .sl (.int .i64), .sl (.pr (.int .i64) (.pr .str (.pr .str (.pr (.int .u32) (.pr (.int .i64) (.int .u64)))))), .int .i64, .int .i64, .bool]], [(false, [.own (.int .u8) 0 .fr]), (false, [.dat (.int .i64)])]⟩
noncomputable def F_image_Write.S : Summ := ⟨12, F_image_Write.sig, F_image_Write⟩
noncomputable def F_image_Write.G : List Summ := [F_image_Check.S, F_image_nums.S, F_code_Text.S, F_code_Small.S]
theorem F_image_Write.eq : absF Try.prog F_image_Write.G F_image_Write.ann F_image_Write.sig Try.f12 = F_image_Write := by kernel_rfl
theorem F_image_Write.sound : Sound Try.prog F_image_Write.S := absF_sound (fn := Try.f12) (Γ := F_image_Write.G) (all_cons F_image_Check.sound (all_cons F_image_nums.sound (all_cons F_code_Text.sound (all_cons F_code_Small.sound all_nil)))) mix (by kernel_rfl) (by kernel_rfl) (fun m p => congrFun (congrFun F_image_Write.eq m) p)
/-! ### cloakroom/cloakroomref21.quotas -/
noncomputable def F_ref21_quotas.l58 (_ : Fu) (a0 : List Int) (x5 : Int) : Option (Step Int (Bool ⊕ Unit)) :=
  bif decide (x5 < (a0.length : Int)) then
    bif (decide ((0 : Int) ≤ x5)) && (decide (x5 < (a0.length : Int))) then
      bif decide ((a0.getD x5.toNat 0) < (0 : Int)) then some (.fin (Sum.inl false)) else
      bif (decide ((0 : Int) ≤ x5)) && (decide (x5 < (a0.length : Int))) then
        bif decide ((16 : Int) < (a0.getD x5.toNat 0)) then
          some (.fin (Sum.inl false))
        else some (.next (IntKind.i64.wrap (x5 + (1 : Int))))
      else none
    else none
  else some (.fin (Sum.inr ()))
noncomputable def F_ref21_quotas (m : Fu) (p : List Int) : Option (Bool) :=
  let a0 := p
  bif decide ((a0.length : Int) < (1 : Int)) then some false else
  bif decide ((4 : Int) < (a0.length : Int)) then some false else
  (iter m (F_ref21_quotas.l58 m a0) (0 : Int)).bind fun x13 =>
  match x13 with
  | .inl x14 =>
    some x14
  | .inr _ =>
    some true
def F_ref21_quotas.ann : List (Nat × Ann) := [(58, .loop ⟨[(3, false, [.dat (.int .i64)])], [], [], [], 176⟩ [(.ret, ⟨[(2, false, [.dat .bool])], [], [], [], 176⟩), (.exit 0, ⟨[], [], [], [], 176⟩)])]
def F_ref21_quotas.sig : Sig := ⟨[.val false [.sl (.int .i64)]], [(false, [.dat .bool])]⟩
noncomputable def F_ref21_quotas.S : Summ := ⟨67, F_ref21_quotas.sig, F_ref21_quotas⟩
noncomputable def F_ref21_quotas.G : List Summ := []
theorem F_ref21_quotas.eq : absF Try.prog F_ref21_quotas.G F_ref21_quotas.ann F_ref21_quotas.sig Try.f67 = F_ref21_quotas := by kernel_rfl
theorem F_ref21_quotas.sound : Sound Try.prog F_ref21_quotas.S := absF_sound (fn := Try.f67) (Γ := F_ref21_quotas.G) all_nil mix (by kernel_rfl) (by kernel_rfl) (fun m p => congrFun (congrFun F_ref21_quotas.eq m) p)
/-! ### cloakroom/cloakroomref01.Key -/
noncomputable def F_ref01_Key (_ : Fu) (p : List Int) : Option (Bool) :=
  let a0 := p
  bif decide ((1 : Int) ≤ (a0.length : Int)) then
    some (decide ((a0.length : Int) ≤ (32 : Int)))
  else some false
def F_ref01_Key.ann : List (Nat × Ann) := []
def F_ref01_Key.sig : Sig := ⟨[.val false [.str]], [(false, [.dat .bool])]⟩
noncomputable def F_ref01_Key.S : Summ := ⟨65, F_ref01_Key.sig, F_ref01_Key⟩
noncomputable def F_ref01_Key.G : List Summ := []
theorem F_ref01_Key.eq : absF Try.prog F_ref01_Key.G F_ref01_Key.ann F_ref01_Key.sig Try.f65 = F_ref01_Key := by kernel_rfl
theorem F_ref01_Key.sound : Sound Try.prog F_ref01_Key.S := absF_sound (fn := Try.f65) (Γ := F_ref01_Key.G) all_nil mix (by kernel_rfl) (by kernel_rfl) (fun m p => congrFun (congrFun F_ref01_Key.eq m) p)
/-! ### cloakroom/cloakroomref01.Item -/
noncomputable def F_ref01_Item (m : Fu) (p : (List Int) × (List Int) × Int × Int × Int) : Option (Bool) :=
  let a0 := p.1
  let a1 := p.2.1
  let a3 := p.2.2.2.1
  (F_ref01_Key m a0).bind fun x1 =>
  bif x1 then
    bif decide ((a1.length : Int) ≤ (512 : Int)) then
      bif decide ((0 : Int) ≤ a3) then
        some (decide (a3 ≤ (1099511627776 : Int)))
      else some false
    else some false
  else some false
def F_ref01_Item.ann : List (Nat × Ann) := []
def F_ref01_Item.sig : Sig := ⟨[.val true [.str, .str, .int .u32, .int .i64, .int .u64]], [(false, [.dat .bool])]⟩
noncomputable def F_ref01_Item.S : Summ := ⟨68, F_ref01_Item.sig, F_ref01_Item⟩
noncomputable def F_ref01_Item.G : List Summ := [F_ref01_Key.S]
theorem F_ref01_Item.eq : absF Try.prog F_ref01_Item.G F_ref01_Item.ann F_ref01_Item.sig Try.f68 = F_ref01_Item := by kernel_rfl
theorem F_ref01_Item.sound : Sound Try.prog F_ref01_Item.S := absF_sound (fn := Try.f68) (Γ := F_ref01_Item.G) (all_cons F_ref01_Key.sound all_nil) mix (by kernel_rfl) (by kernel_rfl) (fun m p => congrFun (congrFun F_ref01_Item.eq m) p)
/-! ### cloakroom/cloakroomref21.Size -/
noncomputable def F_ref21_Size (_ : Fu) (p : (List Int) × (List Int) × Int × Int × Int) : Option (Int) :=
  let a0 := p.1
  let a1 := p.2.1
  some (IntKind.i64.wrap ((IntKind.i64.wrap ((8 : Int) + (a0.length : Int))) + (a1.length : Int)))
def F_ref21_Size.ann : List (Nat × Ann) := []
def F_ref21_Size.sig : Sig := ⟨[.val true [.str, .str, .int .u32, .int .i64, .int .u64]], [(false, [.dat (.int .i64)])]⟩
noncomputable def F_ref21_Size.S : Summ := ⟨69, F_ref21_Size.sig, F_ref21_Size⟩
noncomputable def F_ref21_Size.G : List Summ := []
theorem F_ref21_Size.eq : absF Try.prog F_ref21_Size.G F_ref21_Size.ann F_ref21_Size.sig Try.f69 = F_ref21_Size := by kernel_rfl
theorem F_ref21_Size.sound : Sound Try.prog F_ref21_Size.S := absF_sound (fn := Try.f69) (Γ := F_ref21_Size.G) all_nil mix (by kernel_rfl) (by kernel_rfl) (fun m p => congrFun (congrFun F_ref21_Size.eq m) p)
/-! ### cloakroom/cloakroomref20.Due -/
noncomputable def F_ref20_Due (_ : Fu) (p : (List Int) × (List Int) × Int × Int × Int × Int) : Option (Bool) :=
  let a3 := p.2.2.2.1
  let a5 := p.2.2.2.2.2
  bif a3 != (0 : Int) then
    some (decide (a3 ≤ a5))
  else some false
def F_ref20_Due.ann : List (Nat × Ann) := []
def F_ref20_Due.sig : Sig := ⟨[.val true [.str, .str, .int .u32, .int .i64, .int .u64], .val false [.int .i64]], [(false, [.dat .bool])]⟩
noncomputable def F_ref20_Due.S : Summ := ⟨70, F_ref20_Due.sig, F_ref20_Due⟩
noncomputable def F_ref20_Due.G : List Summ := []
theorem F_ref20_Due.eq : absF Try.prog F_ref20_Due.G F_ref20_Due.ann F_ref20_Due.sig Try.f70 = F_ref20_Due := by kernel_rfl
theorem F_ref20_Due.sound : Sound Try.prog F_ref20_Due.S := absF_sound (fn := Try.f70) (Γ := F_ref20_Due.G) all_nil mix (by kernel_rfl) (by kernel_rfl) (fun m p => congrFun (congrFun F_ref20_Due.eq m) p)
/-! ### cloakroom/cloakroomref21.Check -/
noncomputable def F_ref21_Check.l14926 (_ : Fu) (a2 : List (Int × (List Int) × (List Int) × Int × Int × Int)) (x11 : Int) (x14 : Int × (List Int) × (List Int) × Int × Int × Int) (x23 : Int) : Option (Step Int (Int ⊕ Unit)) :=
  bif decide (x23 < x11) then
    bif (decide ((0 : Int) ≤ x23)) && (decide (x23 < (a2.length : Int))) then
      bif ((a2.getD x23.toNat (0, ([], ([], (0, (0, 0)))))).1) == x14.1 then
        bif (decide ((0 : Int) ≤ x23)) && (decide (x23 < (a2.length : Int))) then
          bif (((a2.getD x23.toNat (0, ([], ([], (0, (0, 0)))))).2).1) == x14.2.1 then
            some (.fin (Sum.inl (8 : Int)))
          else some (.next (IntKind.i64.wrap (x23 + (1 : Int))))
        else none
      else some (.next (IntKind.i64.wrap (x23 + (1 : Int))))
    else none
  else some (.fin (Sum.inr ()))
noncomputable def F_ref21_Check.l58 (m : Fu) (a0 : Int) (a1 : List Int) (a2 : List (Int × (List Int) × (List Int) × Int × Int × Int)) (x11 : Int) : Option (Step Int (Int ⊕ Unit)) :=
  bif decide (x11 < (a2.length : Int)) then
    bif (decide ((0 : Int) ≤ x11)) && (decide (x11 < (a2.length : Int))) then
      let x14 := a2.getD x11.toNat (0, ([], ([], (0, (0, 0)))))
      bif decide (x14.1 < (0 : Int)) then some (.fin (Sum.inl (8 : Int))) else
      bif decide ((a1.length : Int) ≤ x14.1) then some (.fin (Sum.inl (8 : Int))) else
      (F_ref01_Item m x14.2).bind fun x18 =>
      bif !x18 then some (.fin (Sum.inl (8 : Int))) else
      (F_ref21_Size m x14.2).bind fun x20 =>
      bif decide ((256 : Int) < x20) then some (.fin (Sum.inl (8 : Int))) else
      (F_ref20_Due m (x14.2.1, x14.2.2.1, x14.2.2.2.1, x14.2.2.2.2.1, x14.2.2.2.2.2, a0)).bind fun x22 =>
      bif x22 then some (.fin (Sum.inl (8 : Int))) else
      (iter m (F_ref21_Check.l14926 m a2 x11 x14) (0 : Int)).bind fun x31 =>
      match x31 with
      | .inl x32 =>
        some (.fin (Sum.inl x32))
      | .inr _ =>
        some (.next (IntKind.i64.wrap (x11 + (1 : Int))))
    else none
  else some (.fin (Sum.inr ()))
noncomputable def F_ref21_Check (m : Fu) (p : Int × (List Int) × (List (Int × (List Int) × (List Int) × Int × Int × Int)) × Int × Int × Bool) : Option (Int) :=
  let a0 := p.1
  let a1 := p.2.1
  let a2 := p.2.2.1
  let a3 := p.2.2.2.1
  let a4 := p.2.2.2.2.1
  bif decide (a0 < (0 : Int)) then some (8 : Int) else
  bif decide ((1099511627776 : Int) < a0) then some (8 : Int) else
  (F_ref21_quotas m a1).bind fun x3 =>
  bif !x3 then some (8 : Int) else
  bif decide ((1024 : Int) < (a2.length : Int)) then some (8 : Int) else
  bif decide (a3 < (0 : Int)) then some (8 : Int) else
  bif decide ((2147483647 : Int) < a3) then some (8 : Int) else
  bif decide (a4 < (0 : Int)) then some (8 : Int) else
  bif decide ((2147483647 : Int) < a4) then some (8 : Int) else
  (iter m (F_ref21_Check.l58 m a0 a1 a2) (0 : Int)).bind fun x35 =>
  match x35 with
  | .inl x36 =>
    some x36
  | .inr _ =>
    some (0 : Int)
def F_ref21_Check.ann : List (Nat × Ann) := [(58, .loop ⟨[(3, false, [.dat (.int .i64)])], [], [], [], 704⟩ [(.ret, ⟨[(2, false, [.dat (.int .i64)])], [], [], [], 704⟩), (.exit 0, ⟨[], [], [], [], 704⟩)]),
  (14926, .loop ⟨[(5, false, [.dat (.int .i64)])], [], [], [], 1392⟩ [(.ret, ⟨[(2, false, [.dat (.int .i64)])], [], [], [], 1392⟩), (.exit 2, ⟨[], [], [], [], 1392⟩)])]
def F_ref21_Check.sig : Sig := ⟨[.val true [.int .i64, .sl (.int .i64), .sl (.pr (.int .i64) (.pr .str (.pr .str (.pr (.int .u32) (.pr (.int .i64) (.int .u64)))))), .int .i64, .int .i64, .bool]], [(false, [.dat (.int .i64)])]⟩
noncomputable def F_ref21_Check.S : Summ := ⟨34, F_ref21_Check.sig, F_ref21_Check⟩
noncomputable def F_ref21_Check.G : List Summ := [F_ref21_quotas.S, F_ref01_Item.S, F_ref21_Size.S, F_ref20_Due.S]
theorem F_ref21_Check.eq : absF Try.prog F_ref21_Check.G F_ref21_Check.ann F_ref21_Check.sig Try.f34 = F_ref21_Check := by kernel_rfl
theorem F_ref21_Check.sound : Sound Try.prog F_ref21_Check.S := absF_sound (fn := Try.f34) (Γ := F_ref21_Check.G) (all_cons F_ref21_quotas.sound (all_cons F_ref01_Item.sound (all_cons F_ref21_Size.sound (all_cons F_ref20_Due.sound all_nil)))) mix (by kernel_rfl) (by kernel_rfl) (fun m p => congrFun (congrFun F_ref21_Check.eq m) p)
/-! ### cloakroom/cloakroomref01.Small -/
noncomputable def F_ref01_Small.l28 (_ : Fu) (x1 : Int × (List Int)) : Option (Step (Int × (List Int)) ((Int × (List Int)))) :=
  bif decide ((128 : Int) ≤ x1.1) then
    let x6 := [(IntKind.u8.wrap ((IntKind.u8.wrap (x1.1.tmod (128 : Int))) + (128 : Int)))]
    bif Nat.ble (x1.2.length + x6.length) 140737488351232 then
      some (.next ((IntKind.u64.wrap (x1.1.tdiv (128 : Int))), (x1.2 ++ x6)))
    else none
  else some (.fin x1)
noncomputable def F_ref01_Small (m : Fu) (p : Int) : Option (List Int) :=
  let a0 := p
  (iter m (F_ref01_Small.l28 m) (a0, ([] : List Int))).bind fun x9 =>
  let x11 := [(IntKind.u8.wrap x9.1)]
  bif Nat.ble (x9.2.length + x11.length) 140737488351232 then
    some (x9.2 ++ x11)
  else none
def F_ref01_Small.ann : List (Nat × Ann) := [(28, .loop ⟨[(0, false, [.dat (.int .u64)]), (3, false, [.own (.int .u8) 48 .wr])], [], [], [], 49⟩ [(.exit 0, ⟨[(0, false, [.dat (.int .u64)]), (3, false, [.own (.int .u8) 48 .wr])], [], [], [], 49⟩)])]
def F_ref01_Small.sig : Sig := ⟨[.val false [.int .u64]], [(false, [.own (.int .u8) 0 .wr])]⟩
noncomputable def F_ref01_Small.S : Summ := ⟨71, F_ref01_Small.sig, F_ref01_Small⟩
noncomputable def F_ref01_Small.G : List Summ := []
theorem F_ref01_Small.eq : absF Try.prog F_ref01_Small.G F_ref01_Small.ann F_ref01_Small.sig Try.f71 = F_ref01_Small := by kernel_rfl
theorem F_ref01_Small.sound : Sound Try.prog F_ref01_Small.S := absF_sound (fn := Try.f71) (Γ := F_ref01_Small.G) all_nil mix (by kernel_rfl) (by kernel_rfl) (fun m p => congrFun (congrFun F_ref01_Small.eq m) p)
/-! ### cloakroom/cloakroomref21.small -/
noncomputable def F_ref21_small.l58 (m : Fu) (a0 : List Int) (x1 : (List Int) × Int) : Option (Step ((List Int) × Int) ((List Int))) :=
  bif decide (x1.2 < (a0.length : Int)) then
    bif (decide ((0 : Int) ≤ x1.2)) && (decide (x1.2 < (a0.length : Int))) then
      (F_ref01_Small m (IntKind.u64.wrap (a0.getD x1.2.toNat 0))).bind fun x6 =>
      bif Nat.ble (x1.1.length + x6.length) 140737488351232 then
        some (.next ((x1.1 ++ x6), (IntKind.i64.wrap (x1.2 + (1 : Int)))))
      else none
    else none
  else some (.fin x1.1)
noncomputable def F_ref21_small (m : Fu) (p : List Int) : Option (List Int) :=
  let a0 := p
  (iter m (F_ref21_small.l58 m a0) (([] : List Int), (0 : Int))).bind fun x9 =>
  some x9
def F_ref21_small.ann : List (Nat × Ann) := [(58, .loop ⟨[(3, false, [.own (.int .u8) 64 .wr]), (4, false, [.dat (.int .i64)])], [], [], [], 65⟩ [(.exit 0, ⟨[(3, false, [.own (.int .u8) 64 .wr])], [], [], [], 65⟩)])]
def F_ref21_small.sig : Sig := ⟨[.val false [.sl (.int .i64)]], [(false, [.own (.int .u8) 0 .wr])]⟩
noncomputable def F_ref21_small.S : Summ := ⟨42, F_ref21_small.sig, F_ref21_small⟩
noncomputable def F_ref21_small.G : List Summ := [F_ref01_Small.S]
theorem F_ref21_small.eq : absF Try.prog F_ref21_small.G F_ref21_small.ann F_ref21_small.sig Try.f42 = F_ref21_small := by kernel_rfl
theorem F_ref21_small.sound : Sound Try.prog F_ref21_small.S := absF_sound (fn := Try.f42) (Γ := F_ref21_small.G) (all_cons F_ref01_Small.sound all_nil) mix (by kernel_rfl) (by kernel_rfl) (fun m p => congrFun (congrFun F_ref21_small.eq m) p)
/-! ### cloakroom/cloakroomref01.Text -/
noncomputable def F_ref01_Text (m : Fu) (p : List Int) : Option (List Int) :=
  let a0 := p
  (F_ref01_Small m (IntKind.u64.wrap (a0.length : Int))).bind fun x3 =>
  bif Nat.ble (x3.length + a0.length) 140737488351232 then
    some (x3 ++ a0)
  else none
def F_ref01_Text.ann : List (Nat × Ann) := []
def F_ref01_Text.sig : Sig := ⟨[.val false [.str]], [(false, [.own (.int .u8) 0 .wr])]⟩
noncomputable def F_ref01_Text.S : Summ := ⟨72, F_ref01_Text.sig, F_ref01_Text⟩
noncomputable def F_ref01_Text.G : List Summ := [F_ref01_Small.S]
theorem F_ref01_Text.eq : absF Try.prog F_ref01_Text.G F_ref01_Text.ann F_ref01_Text.sig Try.f72 = F_ref01_Text := by kernel_rfl
theorem F_ref01_Text.sound : Sound Try.prog F_ref01_Text.S := absF_sound (fn := Try.f72) (Γ := F_ref01_Text.G) (all_cons F_ref01_Small.sound all_nil) mix (by kernel_rfl) (by kernel_rfl) (fun m p => congrFun (congrFun F_ref01_Text.eq m) p)
/-! ### cloakroom/cloakroomref01.small -/
noncomputable def F_ref01_small.l58 (m : Fu) (a0 : List Int) (x1 : (List Int) × Int) : Option (Step ((List Int) × Int) ((List Int))) :=
  bif decide (x1.2 < (a0.length : Int)) then
    bif (decide ((0 : Int) ≤ x1.2)) && (decide (x1.2 < (a0.length : Int))) then
      (F_ref01_Small m (IntKind.u64.wrap (a0.getD x1.2.toNat 0))).bind fun x6 =>
      bif Nat.ble (x1.1.length + x6.length) 140737488351232 then
        some (.next ((x1.1 ++ x6), (IntKind.i64.wrap (x1.2 + (1 : Int)))))
      else none
    else none
  else some (.fin x1.1)
noncomputable def F_ref01_small (m : Fu) (p : List Int) : Option (List Int) :=
  let a0 := p
  (iter m (F_ref01_small.l58 m a0) (([] : List Int), (0 : Int))).bind fun x9 =>
  some x9
def F_ref01_small.ann : List (Nat × Ann) := [(58, .loop ⟨[(3, false, [.own (.int .u8) 64 .wr]), (4, false, [.dat (.int .i64)])], [], [], [], 65⟩ [(.exit 0, ⟨[(3, false, [.own (.int .u8) 64 .wr])], [], [], [], 65⟩)])]
def F_ref01_small.sig : Sig := ⟨[.val false [.sl (.int .i64)]], [(false, [.own (.int .u8) 0 .wr])]⟩
noncomputable def F_ref01_small.S : Summ := ⟨73, F_ref01_small.sig, F_ref01_small⟩
noncomputable def F_ref01_small.G : List Summ := [F_ref01_Small.S]
theorem F_ref01_small.eq : absF Try.prog F_ref01_small.G F_ref01_small.ann F_ref01_small.sig Try.f73 = F_ref01_small := by kernel_rfl
theorem F_ref01_small.sound : Sound Try.prog F_ref01_small.S := absF_sound (fn := Try.f73) (Γ := F_ref01_small.G) (all_cons F_ref01_Small.sound all_nil) mix (by kernel_rfl) (by kernel_rfl) (fun m p => congrFun (congrFun F_ref01_small.eq m) p)
/-! ### cloakroom/cloakroomref01.ItemBytes -/
noncomputable def F_ref01_ItemBytes (m : Fu) (p : (List Int) × (List Int) × Int × Int × Int) : Option (List Int) :=
  let a0 := p.1
  let a1 := p.2.1
  let a2 := p.2.2.1
  let a3 := p.2.2.2.1
  let a4 := p.2.2.2.2
  (F_ref01_Text m a0).bind fun x1 =>
  (F_ref01_Text m a1).bind fun x2 =>
  bif Nat.ble (x1.length + x2.length) 140737488351232 then
    let x3 := x1 ++ x2
    (F_ref01_Small m (IntKind.u64.wrap a2)).bind fun x5 =>
    bif Nat.ble (x3.length + x5.length) 140737488351232 then
      let x6 := x3 ++ x5
      (F_ref01_small m ([a3])).bind fun x8 =>
      bif Nat.ble (x6.length + x8.length) 140737488351232 then
        let x9 := x6 ++ x8
        (F_ref01_Small m a4).bind fun x10 =>
        bif Nat.ble (x9.length + x10.length) 140737488351232 then
          some (x9 ++ x10)
        else none
      else none
    else none
  else none
def F_ref01_ItemBytes.ann : List (Nat × Ann) := []
def F_ref01_ItemBytes.sig : Sig := ⟨[.val true [.str, .str, .int .u32, .int .i64, .int .u64]], [(false, [.own (.int .u8) 0 .wr])]⟩
noncomputable def F_ref01_ItemBytes.S : Summ := ⟨43, F_ref01_ItemBytes.sig, F_ref01_ItemBytes⟩
noncomputable def F_ref01_ItemBytes.G : List Summ := [F_ref01_Text.S, F_ref01_Small.S, F_ref01_small.S]
theorem F_ref01_ItemBytes.eq : absF Try.prog F_ref01_ItemBytes.G F_ref01_ItemBytes.ann F_ref01_ItemBytes.sig Try.f43 = F_ref01_ItemBytes := by kernel_rfl
theorem F_ref01_ItemBytes.sound : Sound Try.prog F_ref01_ItemBytes.S := absF_sound (fn := Try.f43) (Γ := F_ref01_ItemBytes.G) (all_cons F_ref01_Text.sound (all_cons F_ref01_Small.sound (all_cons F_ref01_small.sound all_nil))) mix (by kernel_rfl) (by kernel_rfl) (fun m p => congrFun (congrFun F_ref01_ItemBytes.eq m) p)
/-! ### cloakroom/cloakroomref21.Write -/
noncomputable def F_ref21_Write.s254 (_ : Fu) (a5 : Bool) (x10 : List Int) : Option ((List Int)) :=
  bif a5 then
    bif Nat.ble (x10.length + 1) 140737488351232 then
      some (x10 ++ ([1] : List Int))
    else none
  else
    bif Nat.ble (x10.length + 1) 140737488351232 then
      some (x10 ++ ([0] : List Int))
    else none
noncomputable def F_ref21_Write.l4090 (m : Fu) (a2 : List (Int × (List Int) × (List Int) × Int × Int × Int)) (x18 : (List Int) × Int) : Option (Step ((List Int) × Int) ((List Int))) :=
  bif decide (x18.2 < (a2.length : Int)) then
    bif (decide ((0 : Int) ≤ x18.2)) && (decide (x18.2 < (a2.length : Int))) then
      (F_ref21_small m ([((a2.getD x18.2.toNat (0, ([], ([], (0, (0, 0)))))).1)])).bind fun x23 =>
      bif Nat.ble (x18.1.length + x23.length) 140737488351232 then
        let x24 := x18.1 ++ x23
        bif (decide ((0 : Int) ≤ x18.2)) && (decide (x18.2 < (a2.length : Int))) then
          (F_ref01_ItemBytes m ((a2.getD x18.2.toNat (0, ([], ([], (0, (0, 0)))))).2)).bind fun x26 =>
          bif Nat.ble (x24.length + x26.length) 140737488351232 then
            some (.next ((x24 ++ x26), (IntKind.i64.wrap (x18.2 + (1 : Int)))))
          else none
        else none
      else none
    else none
  else some (.fin x18.1)
noncomputable def F_ref21_Write (m : Fu) (p : Int × (List Int) × (List (Int × (List Int) × (List Int) × Int × Int × Int)) × Int × Int × Bool) : Option ((List Int) × Int) :=
  let a0 := p.1
  let a1 := p.2.1
  let a2 := p.2.2.1
  let a3 := p.2.2.2.1
  let a4 := p.2.2.2.2.1
  let a5 := p.2.2.2.2.2
  (F_ref21_Check m (a0, a1, a2, a3, a4, a5)).bind fun x1 =>
  bif x1 != (0 : Int) then some (([] : List Int), x1) else
  (F_ref21_small m ([a0, (a1.length : Int)])).bind fun x5 =>
  (F_ref21_small m a1).bind fun x6 =>
  bif Nat.ble (x5.length + x6.length) 140737488351232 then
    let x7 := x5 ++ x6
    (F_ref21_small m ([a3, a4])).bind fun x9 =>
    bif Nat.ble (x7.length + x9.length) 140737488351232 then
      (F_ref21_Write.s254 m a5 (x7 ++ x9)).bind fun x13 =>
      (F_ref21_small m ([(a2.length : Int)])).bind fun x16 =>
      bif Nat.ble (x13.length + x16.length) 140737488351232 then
        (iter m (F_ref21_Write.l4090 m a2) ((x13 ++ x16), (0 : Int))).bind fun x29 =>
        bif decide ((65536 : Int) < (x29.length : Int)) then
          some (([] : List Int), (3 : Int))
        else some (x29, (0 : Int))
      else none
    else none
  else none
def F_ref21_Write.ann : List (Nat × Ann) := [(254, .jnt [(.normal, ⟨[(5, false, [.own (.int .u8) 512 .wr])], [], [], [480], 513⟩)]),
  (4090, .loop ⟨[(5, false, [.own (.int .u8) 657 .wr]), (6, false, [.dat (.int .i64)])], [], [], [609], 658⟩ [(.exit 0, ⟨[(5, false, [.own (.int .u8) 657 .wr])], [], [], [609], 658⟩)])]
def F_ref21_Write.sig : Sig := ⟨[.val true [.int .i64, .sl (.int .i64), .sl (.pr (.int .i64) (.pr .str (.pr .str (.pr (.int .u32) (.pr (.int .i64) (.int .u64)))))), .int .i64, .int .i64, .bool]], [(false, [.own (.int .u8) 0 .wr]), (false, [.dat (.int .i64)])]⟩
noncomputable def F_ref21_Write.S : Summ := ⟨13, F_ref21_Write.sig, F_ref21_Write⟩
noncomputable def F_ref21_Write.G : List Summ := [F_ref21_Check.S, F_ref21_small.S, F_ref01_ItemBytes.S]
theorem F_ref21_Write.eq : absF Try.prog F_ref21_Write.G F_ref21_Write.ann F_ref21_Write.sig Try.f13 = F_ref21_Write := by kernel_rfl
theorem F_ref21_Write.sound : Sound Try.prog F_ref21_Write.S := absF_sound (fn := Try.f13) (Γ := F_ref21_Write.G) (all_cons F_ref21_Check.sound (all_cons F_ref21_small.sound (all_cons F_ref01_ItemBytes.sound all_nil))) mix (by kernel_rfl) (by kernel_rfl) (fun m p => congrFun (congrFun F_ref21_Write.eq m) p)
/-! ### cloakroom/code.Read -/
noncomputable def F_code_Read.s7474 (_ : Fu) (x2 : Int × Int) (x4 : Int) : Option (Unit ⊕ Unit) :=
  bif x2.2 == (9 : Int) then
    bif decide ((1 : Int) < x4) then
      some (Sum.inl ())
    else some (Sum.inr ())
  else some (Sum.inr ())
noncomputable def F_code_Read.l58 (m : Fu) (a0 : List Int) (x1 : Int) (x2 : Int × Int) : Option (Step (Int × Int) (Unit ⊕ (Int × Int × Int))) :=
  bif decide (x2.2 < x1) then
    bif (decide ((0 : Int) ≤ x2.2)) && (decide (x2.2 < (a0.length : Int))) then
      let x4 := a0.getD x2.2.toNat 0
      (F_code_Read.s7474 m x2 x4).bind fun x7 =>
      match x7 with
      | .inl _ =>
        some (.fin (Sum.inl ()))
      | .inr _ =>
        let x12 := IntKind.i64.wrap ((7 : Int) * x2.2)
        bif decide (x12 < (0 : Int)) then none else
        let x14 := bitsOp .or .u64 x2.1 (shlOp .u64 (IntKind.u64.wrap (bitsOp .and .u8 x4 (127 : Int))) x12)
        bif decide (x4 < (128 : Int)) then
          bif x4 == (0 : Int) then
            bif decide ((0 : Int) < x2.2) then
              some (.fin (Sum.inl ()))
            else some (.fin (Sum.inr (x14, (IntKind.i64.wrap (x2.2 + (1 : Int))), (0 : Int))))
          else some (.fin (Sum.inr (x14, (IntKind.i64.wrap (x2.2 + (1 : Int))), (0 : Int))))
        else some (.next (x14, (IntKind.i64.wrap (x2.2 + (1 : Int)))))
    else none
  else some (.fin (Sum.inl ()))
noncomputable def F_code_Read (m : Fu) (p : List Int) : Option (Int × Int × Int) :=
  let a0 := p
  (iter m (F_code_Read.l58 m a0 (a0.length : Int)) ((0 : Int), (0 : Int))).bind fun x21 =>
  match x21 with
  | .inl _ =>
    some ((0 : Int), (0 : Int), (8 : Int))
  | .inr x23 =>
    some x23
def F_code_Read.ann : List (Nat × Ann) := [(58, .loop ⟨[(5, false, [.dat (.int .u64)]), (10, false, [.dat (.int .i64)])], [], [], [], 128⟩ [(.exit 0, ⟨[], [], [], [], 128⟩), (.ret, ⟨[(2, false, [.dat (.int .u64)]), (3, false, [.dat (.int .i64)]), (4, false, [.dat (.int .i64)])], [], [], [], 128⟩)]),
  (7474, .jnt [(.exit 0, ⟨[], [], [], [], 224⟩), (.normal, ⟨[], [], [], [], 224⟩)])]
def F_code_Read.sig : Sig := ⟨[.val false [.sl (.int .u8)]], [(false, [.dat (.int .u64)]), (false, [.dat (.int .i64)]), (false, [.dat (.int .i64)])]⟩
noncomputable def F_code_Read.S : Summ := ⟨74, F_code_Read.sig, F_code_Read⟩
noncomputable def F_code_Read.G : List Summ := []
theorem F_code_Read.eq : absF Try.prog F_code_Read.G F_code_Read.ann F_code_Read.sig Try.f74 = F_code_Read := by kernel_rfl
theorem F_code_Read.sound : Sound Try.prog F_code_Read.S := absF_sound (fn := Try.f74) (Γ := F_code_Read.G) all_nil mix (by kernel_rfl) (by kernel_rfl) (fun m p => congrFun (congrFun F_code_Read.eq m) p)
/-! ### (*cloakroom/image.reader).wide -/
noncomputable def F_image_reader_wide.s14 (_ : Fu) (a0 : List Int) (a1 : Bool) (x1 : Int × Int × Int) : Option (((List Int) × Bool)) :=
  bif a1 then
    some (a0, true)
  else some (a0, (x1.2.2 != (0 : Int)))
noncomputable def F_image_reader_wide (m : Fu) (p : (List Int) × Bool) : Option (Int × (List Int) × Bool) :=
  let a0 := p.1
  let a1 := p.2
  (F_code_Read m a0).bind fun x1 =>
  (F_image_reader_wide.s14 m a0 a1 x1).bind fun x3 =>
  bif (((decide ((0 : Int) ≤ x1.2.1)) && (decide (x1.2.1 ≤ (x3.1.length : Int)))) && (decide ((x3.1.length : Int) ≤ (x3.1.length : Int)))) && (decide ((x3.1.length : Int) ≤ (x3.1.length : Int))) then
    some (x1.1, ((x3.1.take ((x3.1.length : Int).toNat)).drop x1.2.1.toNat), x3.2)
  else none
def F_image_reader_wide.ann : List (Nat × Ann) := [(14, .jnt [(.normal, ⟨[], [(0, [.dat (.sl (.int .u8)), .dat .bool])], [], [], 224⟩)])]
def F_image_reader_wide.sig : Sig := ⟨[.box [.sl (.int .u8), .bool]], [(false, [.dat (.int .u64)])]⟩
noncomputable def F_image_reader_wide.S : Summ := ⟨46, F_image_reader_wide.sig, F_image_reader_wide⟩
noncomputable def F_image_reader_wide.G : List Summ := [F_code_Read.S]
theorem F_image_reader_wide.eq : absF Try.prog F_image_reader_wide.G F_image_reader_wide.ann F_image_reader_wide.sig Try.f46 = F_image_reader_wide := by kernel_rfl
theorem F_image_reader_wide.sound : Sound Try.prog F_image_reader_wide.S := absF_sound (fn := Try.f46) (Γ := F_image_reader_wide.G) (all_cons F_code_Read.sound all_nil) mix (by kernel_rfl) (by kernel_rfl) (fun m p => congrFun (congrFun F_image_reader_wide.eq m) p)
/-! ### (*cloakroom/image.reader).num -/
noncomputable def F_image_reader_num (m : Fu) (p : (List Int) × Bool × Int) : Option (Int × (List Int) × Bool) :=
  let a0 := p.1
  let a1 := p.2.1
  let a2 := p.2.2
  (F_image_reader_wide m (a0, a1)).bind fun x1 =>
  bif decide ((IntKind.u64.wrap a2) < x1.1) then
    some ((0 : Int), x1.2.1, true)
  else some ((IntKind.i64.wrap x1.1), x1.2)
def F_image_reader_num.ann : List (Nat × Ann) := []
def F_image_reader_num.sig : Sig := ⟨[.box [.sl (.int .u8), .bool], .val false [.int .i64]], [(false, [.dat (.int .i64)])]⟩
noncomputable def F_image_reader_num.S : Summ := ⟨44, F_image_reader_num.sig, F_image_reader_num⟩
noncomputable def F_image_reader_num.G : List Summ := [F_image_reader_wide.S]
theorem F_image_reader_num.eq : absF Try.prog F_image_reader_num.G F_image_reader_num.ann F_image_reader_num.sig Try.f44 = F_image_reader_num := by kernel_rfl
theorem F_image_reader_num.sound : Sound Try.prog F_image_reader_num.S := absF_sound (fn := Try.f44) (Γ := F_image_reader_num.G) (all_cons F_image_reader_wide.sound all_nil) mix (by kernel_rfl) (by kernel_rfl) (fun m p => congrFun (congrFun F_image_reader_num.eq m) p)
/-! ### (*cloakroom/image.reader).text -/
noncomputable def F_image_reader_text (m : Fu) (p : (List Int) × Bool) : Option ((List Int) × (List Int) × Bool) :=
  let a0 := p.1
  let a1 := p.2
  (F_image_reader_num m (a0, a1, (a0.length : Int))).bind fun x2 =>
  bif decide ((x2.2.1.length : Int) < x2.1) then some (([] : List Int), x2.2.1, true) else
  bif ((decide ((0 : Int) ≤ x2.1)) && (decide (x2.1 ≤ (x2.2.1.length : Int)))) && (decide ((x2.2.1.length : Int) ≤ (x2.2.1.length : Int))) then
    bif (((decide ((0 : Int) ≤ x2.1)) && (decide (x2.1 ≤ (x2.2.1.length : Int)))) && (decide ((x2.2.1.length : Int) ≤ (x2.2.1.length : Int)))) && (decide ((x2.2.1.length : Int) ≤ (x2.2.1.length : Int))) then
      some (((x2.2.1.take x2.1.toNat).drop 0), ((x2.2.1.take ((x2.2.1.length : Int).toNat)).drop x2.1.toNat), x2.2.2)
    else none
  else none
def F_image_reader_text.ann : List (Nat × Ann) := []
def F_image_reader_text.sig : Sig := ⟨[.box [.sl (.int .u8), .bool]], [(false, [.dat .str])]⟩
noncomputable def F_image_reader_text.S : Summ := ⟨45, F_image_reader_text.sig, F_image_reader_text⟩
noncomputable def F_image_reader_text.G : List Summ := [F_image_reader_num.S]
theorem F_image_reader_text.eq : absF Try.prog F_image_reader_text.G F_image_reader_text.ann F_image_reader_text.sig Try.f45 = F_image_reader_text := by kernel_rfl
theorem F_image_reader_text.sound : Sound Try.prog F_image_reader_text.S := absF_sound (fn := Try.f45) (Γ := F_image_reader_text.G) (all_cons F_image_reader_num.sound all_nil) mix (by kernel_rfl) (by kernel_rfl) (fun m p => congrFun (congrFun F_image_reader_text.eq m) p)
/-! ### bytes.Equal -/
noncomputable def F_bytes_Equal (_ : Fu) (p : (List Int) × (List Int)) : Option (Bool) :=
  let a0 := p.1
  let a1 := p.2
  some (a0 == a1)
def F_bytes_Equal.ann : List (Nat × Ann) := []
def F_bytes_Equal.sig : Sig := ⟨[.val false [.sl (.int .u8)], .val false [.sl (.int .u8)]], [(false, [.dat .bool])]⟩
noncomputable def F_bytes_Equal.S : Summ := ⟨47, F_bytes_Equal.sig, F_bytes_Equal⟩
noncomputable def F_bytes_Equal.G : List Summ := []
theorem F_bytes_Equal.eq : absF Try.prog F_bytes_Equal.G F_bytes_Equal.ann F_bytes_Equal.sig Try.f47 = F_bytes_Equal := by kernel_rfl
theorem F_bytes_Equal.sound : Sound Try.prog F_bytes_Equal.S := absF_sound (fn := Try.f47) (Γ := F_bytes_Equal.G) all_nil mix (by kernel_rfl) (by kernel_rfl) (fun m p => congrFun (congrFun F_bytes_Equal.eq m) p)
/-! ### cloakroom/image.Read -/
noncomputable def F_image_Read.l250 (m : Fu) (x4 : Int × (List Int) × Bool) (x5 : Int × (List Int) × Bool × Int × (List Int) × Int × Int × Bool) : Option (Step (Int × (List Int) × Bool × Int × (List Int) × Int × Int × Bool) (((List Int) × Bool × Int × (List Int) × Int × Int × Bool))) :=
  bif decide (x5.1 < x4.1) then
    (F_image_reader_num m (x5.2.1, x5.2.2.1, (16 : Int))).bind fun x7 =>
    let x8 := [x7.1]
    bif Nat.ble (x5.2.2.2.2.1.length + x8.length) 4294967296 then
      some (.next ((IntKind.i64.wrap (x5.1 + (1 : Int))), x7.2.1, x7.2.2, x5.2.2.2.1, (x5.2.2.2.2.1 ++ x8), x5.2.2.2.2.2))
    else none
  else some (.fin x5.2)
noncomputable def F_image_Read.l2042 (m : Fu) (x16 : Int × (List Int) × Bool) (x17 : Int × (List Int) × Bool × Int × (List Int) × (List (Int × (List Int) × (List Int) × Int × Int × Int)) × Int × Int × Bool) : Option (Step (Int × (List Int) × Bool × Int × (List Int) × (List (Int × (List Int) × (List Int) × Int × Int × Int)) × Int × Int × Bool) ((Int × Int × Int × Int × Bool) ⊕ ((List Int) × Bool × Int × (List Int) × (List (Int × (List Int) × (List Int) × Int × Int × Int)) × Int × Int × Bool))) :=
  bif decide (x17.1 < x16.1) then
    (F_image_reader_num m (x17.2.1, x17.2.2.1, (4 : Int))).bind fun x19 =>
    (F_image_reader_text m x19.2).bind fun x20 =>
    (F_image_reader_text m x20.2).bind fun x21 =>
    (F_image_reader_num m (x21.2.1, x21.2.2, (4294967295 : Int))).bind fun x22 =>
    (F_image_reader_num m (x22.2.1, x22.2.2, (1099511627776 : Int))).bind fun x24 =>
    (F_image_reader_wide m x24.2).bind fun x25 =>
    let x26 := [(x19.1, (x20.1, (x21.1, ((IntKind.u32.wrap x22.1), (x24.1, x25.1)))))]
    bif Nat.ble (x17.2.2.2.2.2.1.length + x26.length) 4294967296 then
      bif x25.2.2 then
        some (.fin (Sum.inl ((8 : Int), (0 : Int), (0 : Int), (0 : Int), false)))
      else some (.next ((IntKind.i64.wrap (x17.1 + (1 : Int))), x25.2.1, x25.2.2, x17.2.2.2.1, x17.2.2.2.2.1, (x17.2.2.2.2.2.1 ++ x26), x17.2.2.2.2.2.2))
    else none
  else some (.fin (Sum.inr x17.2))
noncomputable def F_image_Read (m : Fu) (p : List Int) : Option (Int × (List Int) × (List (Int × (List Int) × (List Int) × Int × Int × Int)) × Int × Int × Bool × Int) :=
  let a0 := p
  bif decide ((65536 : Int) < (a0.length : Int)) then some ((0 : Int), ([] : List Int), ([] : List (Int × (List Int) × (List Int) × Int × Int × Int)), (0 : Int), (0 : Int), false, (3 : Int)) else
  (F_image_reader_num m (a0, false, (1099511627776 : Int))).bind fun x3 =>
  (F_image_reader_num m (x3.2.1, x3.2.2, (4 : Int))).bind fun x4 =>
  (iter m (F_image_Read.l250 m x4) ((0 : Int), x4.2.1, x4.2.2, x3.1, ([] : List Int), (0 : Int), (0 : Int), false)).bind fun x11 =>
  (F_image_reader_num m (x11.1, x11.2.1, (2147483647 : Int))).bind fun x12 =>
  (F_image_reader_num m (x12.2.1, x12.2.2, (2147483647 : Int))).bind fun x13 =>
  (F_image_reader_num m (x13.2.1, x13.2.2, (255 : Int))).bind fun x14 =>
  (F_image_reader_num m (x14.2.1, x14.2.2, (1024 : Int))).bind fun x16 =>
  (iter m (F_image_Read.l2042 m x16) ((0 : Int), x16.2.1, x16.2.2, x11.2.2.1, x11.2.2.2.1, ([] : List (Int × (List Int) × (List Int) × Int × Int × Int)), x12.1, x13.1, (x14.1 == (1 : Int)))).bind fun x29 =>
  match x29 with
  | .inl x30 =>
    some (x30.2.1, ([] : List Int), ([] : List (Int × (List Int) × (List Int) × Int × Int × Int)), x30.2.2.1, x30.2.2.2.1, x30.2.2.2.2, x30.1)
  | .inr x31 =>
    (F_image_Write m x31.2.2).bind fun x32 =>
    bif x31.2.1 then some ((0 : Int), ([] : List Int), ([] : List (Int × (List Int) × (List Int) × Int × Int × Int)), (0 : Int), (0 : Int), false, (8 : Int)) else
    bif x32.2 != (0 : Int) then some ((0 : Int), ([] : List Int), ([] : List (Int × (List Int) × (List Int) × Int × Int × Int)), (0 : Int), (0 : Int), false, (8 : Int)) else
    (F_bytes_Equal m (x32.1, a0)).bind fun x34 =>
    bif !x34 then
      some ((0 : Int), ([] : List Int), ([] : List (Int × (List Int) × (List Int) × Int × Int × Int)), (0 : Int), (0 : Int), false, (8 : Int))
    else some (x31.2.2.1, x31.2.2.2.1, x31.2.2.2.2.1, x31.2.2.2.2.2.1, x31.2.2.2.2.2.2.1, x31.2.2.2.2.2.2.2, (0 : Int))
def F_image_Read.ann : List (Nat × Ann) := [(250, .loop ⟨[(21, false, [.dat (.int .i64)])], [(128, [.dat (.sl (.int .u8)), .dat .bool]), (208, [.dat (.int .i64), .own (.int .i64) 288 .wr, .cst .nils, .dat (.int .i64), .dat (.int .i64), .dat .bool])], [], [], 289⟩ [(.exit 0, ⟨[], [(128, [.dat (.sl (.int .u8)), .dat .bool]), (208, [.dat (.int .i64), .own (.int .i64) 288 .wr, .cst .nils, .dat (.int .i64), .dat (.int .i64), .dat .bool])], [], [], 289⟩)]),
  (2042, .loop ⟨[(43, false, [.dat (.int .i64)])], [(128, [.dat (.sl (.int .u8)), .dat .bool]), (208, [.dat (.int .i64), .own (.int .i64) 545 .wr, .own (.pr (.int .i64) (.pr .str (.pr .str (.pr (.int .u32) (.pr (.int .i64) (.int .u64)))))) 546 .wr, .dat (.int .i64), .dat (.int .i64), .dat .bool])], [], [288], 547⟩ [(.ret, ⟨[(3, false, [.dat (.int .i64)])], [(16, [.dat (.int .i64), .cst .nils, .cst .nils, .dat (.int .i64), .dat (.int .i64), .dat .bool])], [], [128, 208, 288], 545⟩), (.exit 2, ⟨[], [(128, [.dat (.sl (.int .u8)), .dat .bool]), (208, [.dat (.int .i64), .own (.int .i64) 545 .wr, .own (.pr (.int .i64) (.pr .str (.pr .str (.pr (.int .u32) (.pr (.int .i64) (.int .u64)))))) 546 .wr, .dat (.int .i64), .dat (.int .i64), .dat .bool])], [], [288], 547⟩)])]
def F_image_Read.sig : Sig := ⟨[.val false [.sl (.int .u8)]], [(true, [.dat (.int .i64), .own (.int .i64) 0 .fr, .own (.pr (.int .i64) (.pr .str (.pr .str (.pr (.int .u32) (.pr (.int .i64) (.int .u64)))))) 0 .fr, .dat (.int .i64), .dat (.int .i64), .dat .bool]), (false, [.dat (.int .i64)])]⟩
noncomputable def F_image_Read.S : Summ := ⟨14, F_image_Read.sig, F_image_Read⟩
noncomputable def F_image_Read.G : List Summ := [F_image_reader_num.S, F_image_reader_text.S, F_image_reader_wide.S, F_image_Write.S, F_bytes_Equal.S]
theorem F_image_Read.eq : absF Try.prog F_image_Read.G F_image_Read.ann F_image_Read.sig Try.f14 = F_image_Read := by kernel_rfl
theorem F_image_Read.sound : Sound Try.prog F_image_Read.S := absF_sound (fn := Try.f14) (Γ := F_image_Read.G) (all_cons F_image_reader_num.sound (all_cons F_image_reader_text.sound (all_cons F_image_reader_wide.sound (all_cons F_image_Write.sound (all_cons F_bytes_Equal.sound all_nil))))) mix (by kernel_rfl) (by kernel_rfl) (fun m p => congrFun (congrFun F_image_Read.eq m) p)
/-! ### cloakroom/cloakroomref01.Read -/
noncomputable def F_ref01_Read.s112 (_ : Fu) (a0 : List Int) (x1 : Int) : Option (Unit ⊕ Unit) :=
  bif decide (x1 < (a0.length : Int)) then
    bif decide (x1 < (10 : Int)) then
      bif (decide ((0 : Int) ≤ x1)) && (decide (x1 < (a0.length : Int))) then
        bif decide ((128 : Int) ≤ (a0.getD x1.toNat 0)) then
          some (Sum.inl ())
        else some (Sum.inr ())
      else none
    else some (Sum.inr ())
  else some (Sum.inr ())
noncomputable def F_ref01_Read.l28 (m : Fu) (a0 : List Int) (x1 : Int) : Option (Step Int Int) :=
  (F_ref01_Read.s112 m a0 x1).bind fun x7 =>
  match x7 with
  | .inl _ =>
    some (.next (IntKind.i64.wrap (x1 + (1 : Int))))
  | .inr _ =>
    some (.fin x1)
noncomputable def F_ref01_Read.s30 (_ : Fu) (a0 : List Int) (x11 : Int) : Option ((Int × Int × Int) ⊕ Unit) :=
  bif decide ((a0.length : Int) ≤ x11) then some (Sum.inl ((0 : Int), (0 : Int), (8 : Int))) else
  bif decide ((10 : Int) ≤ x11) then some (Sum.inl ((0 : Int), (0 : Int), (8 : Int))) else
  bif x11 == (9 : Int) then
    bif decide ((9 : Int) < (a0.length : Int)) then
      bif decide ((1 : Int) < (a0.getD 9 0)) then some (Sum.inl ((0 : Int), (0 : Int), (8 : Int))) else
      bif decide ((0 : Int) < x11) then
        bif (decide ((0 : Int) ≤ x11)) && (decide (x11 < (a0.length : Int))) then
          bif (a0.getD x11.toNat 0) == (0 : Int) then
            some (Sum.inl ((0 : Int), (0 : Int), (8 : Int)))
          else some (Sum.inr ())
        else none
      else some (Sum.inr ())
    else none
  else
    bif decide ((0 : Int) < x11) then
      bif (decide ((0 : Int) ≤ x11)) && (decide (x11 < (a0.length : Int))) then
        bif (a0.getD x11.toNat 0) == (0 : Int) then
          some (Sum.inl ((0 : Int), (0 : Int), (8 : Int)))
        else some (Sum.inr ())
      else none
    else some (Sum.inr ())
noncomputable def F_ref01_Read.l506 (_ : Fu) (a0 : List Int) (x27 : Int × Int) : Option (Step (Int × Int) Int) :=
  bif decide ((0 : Int) ≤ x27.2) then
    bif (decide ((0 : Int) ≤ x27.2)) && (decide (x27.2 < (a0.length : Int))) then
      some (.next ((IntKind.u64.wrap ((IntKind.u64.wrap (x27.1 * (128 : Int))) + (IntKind.u64.wrap ((a0.getD x27.2.toNat 0).tmod (128 : Int))))), (IntKind.i64.wrap (x27.2 - (1 : Int)))))
    else none
  else some (.fin x27.1)
noncomputable def F_ref01_Read (m : Fu) (p : List Int) : Option (Int × Int × Int) :=
  let a0 := p
  (iter m (F_ref01_Read.l28 m a0) (0 : Int)).bind fun x11 =>
  (F_ref01_Read.s30 m a0 x11).bind fun x24 =>
  match x24 with
  | .inl x25 =>
    some x25
  | .inr _ =>
    (iter m (F_ref01_Read.l506 m a0) ((0 : Int), x11)).bind fun x35 =>
    some (x35, (IntKind.i64.wrap (x11 + (1 : Int))), (0 : Int))
def F_ref01_Read.ann : List (Nat × Ann) := [(28, .loop ⟨[(5, false, [.dat (.int .i64)])], [], [], [], 80⟩ [(.exit 0, ⟨[(5, false, [.dat (.int .i64)])], [], [], [], 80⟩)]),
  (30, .jnt [(.ret, ⟨[(2, false, [.dat (.int .u64)]), (3, false, [.dat (.int .i64)]), (4, false, [.dat (.int .i64)])], [], [], [], 80⟩), (.normal, ⟨[], [], [], [], 80⟩)]),
  (112, .jnt [(.normal, ⟨[], [], [], [], 80⟩), (.exit 0, ⟨[], [], [], [], 80⟩)]),
  (506, .loop ⟨[(6, false, [.dat (.int .u64)]), (7, false, [.dat (.int .i64)])], [], [], [], 128⟩ [(.exit 2, ⟨[(6, false, [.dat (.int .u64)])], [], [], [], 128⟩)])]
def F_ref01_Read.sig : Sig := ⟨[.val false [.sl (.int .u8)]], [(false, [.dat (.int .u64)]), (false, [.dat (.int .i64)]), (false, [.dat (.int .i64)])]⟩
noncomputable def F_ref01_Read.S : Summ := ⟨75, F_ref01_Read.sig, F_ref01_Read⟩
noncomputable def F_ref01_Read.G : List Summ := []
theorem F_ref01_Read.eq : absF Try.prog F_ref01_Read.G F_ref01_Read.ann F_ref01_Read.sig Try.f75 = F_ref01_Read := by kernel_rfl
theorem F_ref01_Read.sound : Sound Try.prog F_ref01_Read.S := absF_sound (fn := Try.f75) (Γ := F_ref01_Read.G) all_nil mix (by kernel_rfl) (by kernel_rfl) (fun m p => congrFun (congrFun F_ref01_Read.eq m) p)
/-! ### (*cloakroom/cloakroomref01.Reader).Number -/
noncomputable def F_ref01_Reader_Number.s28 (_ : Fu) (a2 : Int) (x1 : Int × Int × Int) : Option (Bool) :=
  bif x1.2.2 != (0 : Int) then
    some true
  else some (decide (a2 < x1.1))
noncomputable def F_ref01_Reader_Number (m : Fu) (p : (List Int) × Bool × Int) : Option (Int × (List Int) × Bool) :=
  let a0 := p.1
  let a1 := p.2.1
  let a2 := p.2.2
  (F_ref01_Read m a0).bind fun x1 =>
  (F_ref01_Reader_Number.s28 m a2 x1).bind fun x4 =>
  bif x4 then some ((0 : Int), a0, true) else
  bif (((decide ((0 : Int) ≤ x1.2.1)) && (decide (x1.2.1 ≤ (a0.length : Int)))) && (decide ((a0.length : Int) ≤ (a0.length : Int)))) && (decide ((a0.length : Int) ≤ (a0.length : Int))) then
    some (x1.1, ((a0.take ((a0.length : Int).toNat)).drop x1.2.1.toNat), a1)
  else none
def F_ref01_Reader_Number.ann : List (Nat × Ann) := [(28, .jnt [(.normal, ⟨[(23, false, [.dat .bool])], [], [], [], 240⟩)])]
def F_ref01_Reader_Number.sig : Sig := ⟨[.box [.sl (.int .u8), .bool], .val false [.int .u64]], [(false, [.dat (.int .u64)])]⟩
noncomputable def F_ref01_Reader_Number.S : Summ := ⟨48, F_ref01_Reader_Number.sig, F_ref01_Reader_Number⟩
noncomputable def F_ref01_Reader_Number.G : List Summ := [F_ref01_Read.S]
theorem F_ref01_Reader_Number.eq : absF Try.prog F_ref01_Reader_Number.G F_ref01_Reader_Number.ann F_ref01_Reader_Number.sig Try.f48 = F_ref01_Reader_Number := by kernel_rfl
theorem F_ref01_Reader_Number.sound : Sound Try.prog F_ref01_Reader_Number.S := absF_sound (fn := Try.f48) (Γ := F_ref01_Reader_Number.G) (all_cons F_ref01_Read.sound all_nil) mix (by kernel_rfl) (by kernel_rfl) (fun m p => congrFun (congrFun F_ref01_Reader_Number.eq m) p)
/-! ### (*cloakroom/cloakroomref01.Reader).Byte -/
noncomputable def F_ref01_Reader_Byte (_ : Fu) (p : (List Int) × Bool) : Option (Int × (List Int) × Bool) :=
  let a0 := p.1
  let a1 := p.2
  bif (a0.length : Int) == (0 : Int) then some ((0 : Int), a0, true) else
  bif decide ((0 : Int) < (a0.length : Int)) then
    bif ((decide ((1 : Int) ≤ (a0.length : Int))) && (decide ((a0.length : Int) ≤ (a0.length : Int)))) && (decide ((a0.length : Int) ≤ (a0.length : Int))) then
      some ((a0.getD 0 0), ((a0.take ((a0.length : Int).toNat)).drop 1), a1)
    else none
  else none
def F_ref01_Reader_Byte.ann : List (Nat × Ann) := []
def F_ref01_Reader_Byte.sig : Sig := ⟨[.box [.sl (.int .u8), .bool]], [(false, [.dat (.int .u8)])]⟩
noncomputable def F_ref01_Reader_Byte.S : Summ := ⟨49, F_ref01_Reader_Byte.sig, F_ref01_Reader_Byte⟩
noncomputable def F_ref01_Reader_Byte.G : List Summ := []
theorem F_ref01_Reader_Byte.eq : absF Try.prog F_ref01_Reader_Byte.G F_ref01_Reader_Byte.ann F_ref01_Reader_Byte.sig Try.f49 = F_ref01_Reader_Byte := by kernel_rfl
theorem F_ref01_Reader_Byte.sound : Sound Try.prog F_ref01_Reader_Byte.S := absF_sound (fn := Try.f49) (Γ := F_ref01_Reader_Byte.G) all_nil mix (by kernel_rfl) (by kernel_rfl) (fun m p => congrFun (congrFun F_ref01_Reader_Byte.eq m) p)
/-! ### (*cloakroom/cloakroomref01.Reader).Text -/
noncomputable def F_ref01_Reader_Text.s28 (_ : Fu) (a0 : List Int) (x1 : Int × Int × Int) : Option (Bool) :=
  bif x1.2.2 != (0 : Int) then
    some true
  else some (decide ((IntKind.u64.wrap (IntKind.i64.wrap ((a0.length : Int) - x1.2.1))) < x1.1))
noncomputable def F_ref01_Reader_Text (m : Fu) (p : (List Int) × Bool) : Option ((List Int) × (List Int) × Bool) :=
  let a0 := p.1
  let a1 := p.2
  (F_ref01_Read m a0).bind fun x1 =>
  (F_ref01_Reader_Text.s28 m a0 x1).bind fun x7 =>
  bif x7 then some (([] : List Int), a0, true) else
  let x9 := IntKind.i64.wrap (x1.2.1 + (IntKind.i64.wrap x1.1))
  bif (((decide ((0 : Int) ≤ x1.2.1)) && (decide (x1.2.1 ≤ x9))) && (decide (x9 ≤ (a0.length : Int)))) && (decide ((a0.length : Int) ≤ (a0.length : Int))) then
    let x12 := IntKind.i64.wrap (x1.2.1 + (IntKind.i64.wrap x1.1))
    bif (((decide ((0 : Int) ≤ x12)) && (decide (x12 ≤ (a0.length : Int)))) && (decide ((a0.length : Int) ≤ (a0.length : Int)))) && (decide ((a0.length : Int) ≤ (a0.length : Int))) then
      some (((a0.take x9.toNat).drop x1.2.1.toNat), ((a0.take ((a0.length : Int).toNat)).drop x12.toNat), a1)
    else none
  else none
def F_ref01_Reader_Text.ann : List (Nat × Ann) := [(28, .jnt [(.normal, ⟨[(29, false, [.dat .bool])], [], [], [], 224⟩)])]
def F_ref01_Reader_Text.sig : Sig := ⟨[.box [.sl (.int .u8), .bool]], [(false, [.dat .str])]⟩
noncomputable def F_ref01_Reader_Text.S : Summ := ⟨76, F_ref01_Reader_Text.sig, F_ref01_Reader_Text⟩
noncomputable def F_ref01_Reader_Text.G : List Summ := [F_ref01_Read.S]
theorem F_ref01_Reader_Text.eq : absF Try.prog F_ref01_Reader_Text.G F_ref01_Reader_Text.ann F_ref01_Reader_Text.sig Try.f76 = F_ref01_Reader_Text := by kernel_rfl
theorem F_ref01_Reader_Text.sound : Sound Try.prog F_ref01_Reader_Text.S := absF_sound (fn := Try.f76) (Γ := F_ref01_Reader_Text.G) (all_cons F_ref01_Read.sound all_nil) mix (by kernel_rfl) (by kernel_rfl) (fun m p => congrFun (congrFun F_ref01_Reader_Text.eq m) p)
/-! ### (*cloakroom/cloakroomref01.Reader).Item -/
noncomputable def F_ref01_Reader_Item (m : Fu) (p : (List Int) × Bool) : Option ((List Int) × (List Int) × Int × Int × Int × (List Int) × Bool) :=
  let a0 := p.1
  let a1 := p.2
  (F_ref01_Reader_Text m (a0, a1)).bind fun x1 =>
  (F_ref01_Reader_Text m x1.2).bind fun x2 =>
  (F_ref01_Reader_Number m (x2.2.1, x2.2.2, (4294967295 : Int))).bind fun x3 =>
  (F_ref01_Reader_Number m (x3.2.1, x3.2.2, (1099511627776 : Int))).bind fun x5 =>
  (F_ref01_Reader_Number m (x5.2.1, x5.2.2, (18446744073709551615 : Int))).bind fun x7 =>
  some (x1.1, x2.1, (IntKind.u32.wrap x3.1), (IntKind.i64.wrap x5.1), x7)
def F_ref01_Reader_Item.ann : List (Nat × Ann) := []
def F_ref01_Reader_Item.sig : Sig := ⟨[.box [.sl (.int .u8), .bool]], [(true, [.dat .str, .dat .str, .dat (.int .u32), .dat (.int .i64), .dat (.int .u64)])]⟩
noncomputable def F_ref01_Reader_Item.S : Summ := ⟨50, F_ref01_Reader_Item.sig, F_ref01_Reader_Item⟩
noncomputable def F_ref01_Reader_Item.G : List Summ := [F_ref01_Reader_Text.S, F_ref01_Reader_Number.S]
theorem F_ref01_Reader_Item.eq : absF Try.prog F_ref01_Reader_Item.G F_ref01_Reader_Item.ann F_ref01_Reader_Item.sig Try.f50 = F_ref01_Reader_Item := by kernel_rfl
theorem F_ref01_Reader_Item.sound : Sound Try.prog F_ref01_Reader_Item.S := absF_sound (fn := Try.f50) (Γ := F_ref01_Reader_Item.G) (all_cons F_ref01_Reader_Text.sound (all_cons F_ref01_Reader_Number.sound all_nil)) mix (by kernel_rfl) (by kernel_rfl) (fun m p => congrFun (congrFun F_ref01_Reader_Item.eq m) p)
/-! ### cloakroom/cloakroomref21.Read -/
noncomputable def F_ref21_Read.s2024 (_ : Fu) (x5 : Int × (List Int) × Bool) (x6 : Int × (List Int) × Bool × Int × (List Int) × Int × Int × Bool) : Option (Unit ⊕ Unit) :=
  bif decide (x6.1 < x5.1) then
    bif !x6.2.2.1 then
      some (Sum.inl ())
    else some (Sum.inr ())
  else some (Sum.inr ())
noncomputable def F_ref21_Read.l506 (m : Fu) (x5 : Int × (List Int) × Bool) (x6 : Int × (List Int) × Bool × Int × (List Int) × Int × Int × Bool) : Option (Step (Int × (List Int) × Bool × Int × (List Int) × Int × Int × Bool) (((List Int) × Bool × Int × (List Int) × Int × Int × Bool))) :=
  (F_ref21_Read.s2024 m x5 x6).bind fun x9 =>
  match x9 with
  | .inl _ =>
    (F_ref01_Reader_Number m (x6.2.1, x6.2.2.1, (16 : Int))).bind fun x11 =>
    let x13 := [(IntKind.i64.wrap x11.1)]
    bif Nat.ble (x6.2.2.2.2.1.length + x13.length) 4294967296 then
      some (.next ((IntKind.u64.wrap (x6.1 + (1 : Int))), x11.2.1, x11.2.2, x6.2.2.2.1, (x6.2.2.2.2.1 ++ x13), x6.2.2.2.2.2))
    else none
  | .inr _ =>
    some (.fin x6.2)
noncomputable def F_ref21_Read.s65512 (_ : Fu) (x24 : Int × (List Int) × Bool) (x25 : Int × (List Int) × Bool × Int × (List Int) × (List (Int × (List Int) × (List Int) × Int × Int × Int)) × Int × Int × Bool) : Option (Unit ⊕ Unit) :=
  bif decide (x25.1 < x24.1) then
    bif !x25.2.2.1 then
      some (Sum.inl ())
    else some (Sum.inr ())
  else some (Sum.inr ())
noncomputable def F_ref21_Read.l16378 (m : Fu) (x24 : Int × (List Int) × Bool) (x25 : Int × (List Int) × Bool × Int × (List Int) × (List (Int × (List Int) × (List Int) × Int × Int × Int)) × Int × Int × Bool) : Option (Step (Int × (List Int) × Bool × Int × (List Int) × (List (Int × (List Int) × (List Int) × Int × Int × Int)) × Int × Int × Bool) (((List Int) × Bool × Int × (List Int) × (List (Int × (List Int) × (List Int) × Int × Int × Int)) × Int × Int × Bool))) :=
  (F_ref21_Read.s65512 m x24 x25).bind fun x28 =>
  match x28 with
  | .inl _ =>
    (F_ref01_Reader_Number m (x25.2.1, x25.2.2.1, (4 : Int))).bind fun x30 =>
    (F_ref01_Reader_Item m x30.2).bind fun x32 =>
    let x33 := [((IntKind.i64.wrap x30.1), (x32.1, (x32.2.1, (x32.2.2.1, (x32.2.2.2.1, x32.2.2.2.2.1)))))]
    bif Nat.ble (x25.2.2.2.2.2.1.length + x33.length) 4294967296 then
      some (.next ((IntKind.u64.wrap (x25.1 + (1 : Int))), x32.2.2.2.2.2.1, x32.2.2.2.2.2.2, x25.2.2.2.1, x25.2.2.2.2.1, (x25.2.2.2.2.2.1 ++ x33), x25.2.2.2.2.2.2))
    else none
  | .inr _ =>
    some (.fin x25.2)
noncomputable def F_ref21_Read (m : Fu) (p : List Int) : Option (Int × (List Int) × (List (Int × (List Int) × (List Int) × Int × Int × Int)) × Int × Int × Bool × Int) :=
  let a0 := p
  bif decide ((65536 : Int) < (a0.length : Int)) then some ((0 : Int), ([] : List Int), ([] : List (Int × (List Int) × (List Int) × Int × Int × Int)), (0 : Int), (0 : Int), false, (3 : Int)) else
  (F_ref01_Reader_Number m (a0, false, (1099511627776 : Int))).bind fun x3 =>
  (F_ref01_Reader_Number m (x3.2.1, x3.2.2, (4 : Int))).bind fun x5 =>
  (iter m (F_ref21_Read.l506 m x5) ((0 : Int), x5.2.1, x5.2.2, (IntKind.i64.wrap x3.1), ([] : List Int), (0 : Int), (0 : Int), false)).bind fun x17 =>
  (F_ref01_Reader_Number m (x17.1, x17.2.1, (2147483647 : Int))).bind fun x18 =>
  (F_ref01_Reader_Number m (x18.2.1, x18.2.2, (2147483647 : Int))).bind fun x20 =>
  (F_ref01_Reader_Byte m x20.2).bind fun x22 =>
  (F_ref01_Reader_Number m (x22.2.1, x22.2.2, (1024 : Int))).bind fun x24 =>
  (iter m (F_ref21_Read.l16378 m x24) ((0 : Int), x24.2.1, x24.2.2, x17.2.2.1, x17.2.2.2.1, ([] : List (Int × (List Int) × (List Int) × Int × Int × Int)), (IntKind.i64.wrap x18.1), (IntKind.i64.wrap x20.1), (x22.1 == (1 : Int)))).bind fun x37 =>
  bif x37.2.1 then some ((0 : Int), ([] : List Int), ([] : List (Int × (List Int) × (List Int) × Int × Int × Int)), (0 : Int), (0 : Int), false, (8 : Int)) else
  (F_ref21_Write m x37.2.2).bind fun x38 =>
  bif x38.2 != (0 : Int) then some ((0 : Int), ([] : List Int), ([] : List (Int × (List Int) × (List Int) × Int × Int × Int)), (0 : Int), (0 : Int), false, (8 : Int)) else
  bif !(x38.1 == a0) then
    some ((0 : Int), ([] : List Int), ([] : List (Int × (List Int) × (List Int) × Int × Int × Int)), (0 : Int), (0 : Int), false, (8 : Int))
  else some (x37.2.2.1, x37.2.2.2.1, x37.2.2.2.2.1, x37.2.2.2.2.2.1, x37.2.2.2.2.2.2.1, x37.2.2.2.2.2.2.2, (0 : Int))
def F_ref21_Read.ann : List (Nat × Ann) := [(506, .loop ⟨[(7, false, [.dat (.int .u64)])], [(128, [.dat (.sl (.int .u8)), .dat .bool]), (224, [.dat (.int .i64), .own (.int .i64) 320 .wr, .cst .nils, .dat (.int .i64), .dat (.int .i64), .dat .bool])], [], [], 321⟩ [(.exit 0, ⟨[], [(128, [.dat (.sl (.int .u8)), .dat .bool]), (224, [.dat (.int .i64), .own (.int .i64) 320 .wr, .cst .nils, .dat (.int .i64), .dat (.int .i64), .dat .bool])], [], [], 321⟩)]),
  (2024, .jnt [(.normal, ⟨[], [], [], [], 321⟩), (.exit 0, ⟨[], [], [], [], 321⟩)]),
  (16378, .loop ⟨[(8, false, [.dat (.int .u64)])], [(128, [.dat (.sl (.int .u8)), .dat .bool]), (224, [.dat (.int .i64), .own (.int .i64) 625 .wr, .own (.pr (.int .i64) (.pr .str (.pr .str (.pr (.int .u32) (.pr (.int .i64) (.int .u64)))))) 626 .wr, .dat (.int .i64), .dat (.int .i64), .dat .bool])], [], [320], 627⟩ [(.exit 2, ⟨[], [(128, [.dat (.sl (.int .u8)), .dat .bool]), (224, [.dat (.int .i64), .own (.int .i64) 625 .wr, .own (.pr (.int .i64) (.pr .str (.pr .str (.pr (.int .u32) (.pr (.int .i64) (.int .u64)))))) 626 .wr, .dat (.int .i64), .dat (.int .i64), .dat .bool])], [], [320], 627⟩)]),
  (65512, .jnt [(.normal, ⟨[], [], [], [], 627⟩), (.exit 2, ⟨[], [], [], [], 627⟩)])]
def F_ref21_Read.sig : Sig := ⟨[.val false [.sl (.int .u8)]], [(true, [.dat (.int .i64), .own (.int .i64) 0 .wr, .own (.pr (.int .i64) (.pr .str (.pr .str (.pr (.int .u32) (.pr (.int .i64) (.int .u64)))))) 0 .wr, .dat (.int .i64), .dat (.int .i64), .dat .bool]), (false, [.dat (.int .i64)])]⟩
noncomputable def F_ref21_Read.S : Summ := ⟨15, F_ref21_Read.sig, F_ref21_Read⟩
noncomputable def F_ref21_Read.G : List Summ := [F_ref01_Reader_Number.S, F_ref01_Reader_Byte.S, F_ref01_Reader_Item.S, F_ref21_Write.S]
theorem F_ref21_Read.eq : absF Try.prog F_ref21_Read.G F_ref21_Read.ann F_ref21_Read.sig Try.f15 = F_ref21_Read := by kernel_rfl
theorem F_ref21_Read.sound : Sound Try.prog F_ref21_Read.S := absF_sound (fn := Try.f15) (Γ := F_ref21_Read.G) (all_cons F_ref01_Reader_Number.sound (all_cons F_ref01_Reader_Byte.sound (all_cons F_ref01_Reader_Item.sound (all_cons F_ref21_Write.sound all_nil)))) mix (by kernel_rfl) (by kernel_rfl) (fun m p => congrFun (congrFun F_ref21_Read.eq m) p)
/-! ### cloakroom/image.From -/
noncomputable def F_image_From.l122 (_ : Fu) (a1 : List Int) (x4 : Int) (x5 : (List (Int × Int × ((List Int) × (List Int) × Int × Int × Int) × (List Int) × Int × Int × Bool)) × Int) : Option (Step ((List (Int × Int × ((List Int) × (List Int) × Int × Int × Int) × (List Int) × Int × Int × Bool)) × Int) ((List (Int × Int × ((List Int) × (List Int) × Int × Int × Int) × (List Int) × Int × Int × Bool)))) :=
  bif decide (x5.2 < x4) then
    bif (decide ((0 : Int) ≤ x5.2)) && (decide (x5.2 < (a1.length : Int))) then
      let x8 := [((5 : Int), (x5.2, ((([] : List Int), (([] : List Int), ((0 : Int), ((0 : Int), (0 : Int))))), (([] : List Int), ((0 : Int), ((a1.getD x5.2.toNat 0), false))))))]
      bif Nat.ble (x5.1.length + x8.length) 4294967296 then
        some (.next ((x5.1 ++ x8), (IntKind.i64.wrap (x5.2 + (1 : Int)))))
      else none
    else none
  else some (.fin x5.1)
noncomputable def F_image_From.l250 (_ : Fu) (a2 : List (Int × (List Int) × (List Int) × Int × Int × Int)) (x12 : Int) (x13 : (List (Int × Int × ((List Int) × (List Int) × Int × Int × Int) × (List Int) × Int × Int × Bool)) × Int) : Option (Step ((List (Int × Int × ((List Int) × (List Int) × Int × Int × Int) × (List Int) × Int × Int × Bool)) × Int) ((List (Int × Int × ((List Int) × (List Int) × Int × Int × Int) × (List Int) × Int × Int × Bool)))) :=
  bif decide (x13.2 < x12) then
    bif (decide ((0 : Int) ≤ x13.2)) && (decide (x13.2 < (a2.length : Int))) then
      let x15 := a2.getD x13.2.toNat (0, ([], ([], (0, (0, 0)))))
      let x16 := [((1 : Int), (x15.1, (x15.2, (([] : List Int), ((0 : Int), ((0 : Int), false))))))]
      bif Nat.ble (x13.1.length + x16.length) 4294967296 then
        some (.next ((x13.1 ++ x16), (IntKind.i64.wrap (x13.2 + (1 : Int)))))
      else none
    else none
  else some (.fin x13.1)
noncomputable def F_image_From (m : Fu) (p : Int × (List Int) × (List (Int × (List Int) × (List Int) × Int × Int × Int)) × Int × Int × Bool) : Option ((List (Int × Int × ((List Int) × (List Int) × Int × Int × Int) × (List Int) × Int × Int × Bool)) × Int) :=
  let a0 := p.1
  let a1 := p.2.1
  let a2 := p.2.2.1
  let a3 := p.2.2.2.1
  let a4 := p.2.2.2.2.1
  let a5 := p.2.2.2.2.2
  (F_image_Check m (a0, a1, a2, a3, a4, a5)).bind fun x1 =>
  bif x1 != (0 : Int) then some (([] : List (Int × Int × ((List Int) × (List Int) × Int × Int × Int) × (List Int) × Int × Int × Bool)), x1) else
  (iter m (F_image_From.l122 m a1 (a1.length : Int)) (([((4 : Int), ((0 : Int), ((([] : List Int), (([] : List Int), ((0 : Int), ((0 : Int), (0 : Int))))), (([] : List Int), ((0 : Int), (a0, false))))))]), (0 : Int))).bind fun x11 =>
  (iter m (F_image_From.l250 m a2 (a2.length : Int)) (x11, (0 : Int))).bind fun x19 =>
  let x20 := [((7 : Int), ((0 : Int), ((([] : List Int), (([] : List Int), ((0 : Int), ((0 : Int), (0 : Int))))), (([] : List Int), ((0 : Int), (a4, false)))))), ((6 : Int), ((0 : Int), ((([] : List Int), (([] : List Int), ((0 : Int), ((0 : Int), (0 : Int))))), (([] : List Int), ((0 : Int), (a3, a5))))))]
  bif Nat.ble (x19.length + x20.length) 4294967296 then
    some ((x19 ++ x20), (0 : Int))
  else none
def F_image_From.ann : List (Nat × Ann) := [(122, .loop ⟨[(5, false, [.own (.pr (.int .u8) (.pr (.int .i64) (.pr (.pr .str (.pr .str (.pr (.int .u32) (.pr (.int .i64) (.int .u64))))) (.pr .str (.pr (.int .u8) (.pr (.int .i64) .bool)))))) 288 .wr]), (22, false, [.dat (.int .i64)])], [], [], [192], 289⟩ [(.exit 0, ⟨[(5, false, [.own (.pr (.int .u8) (.pr (.int .i64) (.pr (.pr .str (.pr .str (.pr (.int .u32) (.pr (.int .i64) (.int .u64))))) (.pr .str (.pr (.int .u8) (.pr (.int .i64) .bool)))))) 288 .wr])], [], [], [192], 289⟩)]),
  (250, .loop ⟨[(5, false, [.own (.pr (.int .u8) (.pr (.int .i64) (.pr (.pr .str (.pr .str (.pr (.int .u32) (.pr (.int .i64) (.int .u64))))) (.pr .str (.pr (.int .u8) (.pr (.int .i64) .bool)))))) 353 .wr]), (37, false, [.dat (.int .i64)])], [], [], [288], 354⟩ [(.exit 2, ⟨[(5, false, [.own (.pr (.int .u8) (.pr (.int .i64) (.pr (.pr .str (.pr .str (.pr (.int .u32) (.pr (.int .i64) (.int .u64))))) (.pr .str (.pr (.int .u8) (.pr (.int .i64) .bool)))))) 353 .wr])], [], [], [288], 354⟩)])]
def F_image_From.sig : Sig := ⟨[.val true [.int .i64, .sl (.int .i64), .sl (.pr (.int .i64) (.pr .str (.pr .str (.pr (.int .u32) (.pr (.int .i64) (.int .u64)))))), .int .i64, .int .i64, .bool]], [(false, [.own (.pr (.int .u8) (.pr (.int .i64) (.pr (.pr .str (.pr .str (.pr (.int .u32) (.pr (.int .i64) (.int .u64))))) (.pr .str (.pr (.int .u8) (.pr (.int .i64) .bool)))))) 0 .wr]), (false, [.dat (.int .i64)])]⟩
noncomputable def F_image_From.S : Summ := ⟨16, F_image_From.sig, F_image_From⟩
noncomputable def F_image_From.G : List Summ := [F_image_Check.S]
theorem F_image_From.eq : absF Try.prog F_image_From.G F_image_From.ann F_image_From.sig Try.f16 = F_image_From := by kernel_rfl
theorem F_image_From.sound : Sound Try.prog F_image_From.S := absF_sound (fn := Try.f16) (Γ := F_image_From.G) (all_cons F_image_Check.sound all_nil) mix (by kernel_rfl) (by kernel_rfl) (fun m p => congrFun (congrFun F_image_From.eq m) p)
/-! ### cloakroom/cloakroomref21.From -/
noncomputable def F_ref21_From.l250 (_ : Fu) (a1 : List Int) (x4 : (List (Int × Int × ((List Int) × (List Int) × Int × Int × Int) × (List Int) × Int × Int × Bool)) × Int) : Option (Step ((List (Int × Int × ((List Int) × (List Int) × Int × Int × Int) × (List Int) × Int × Int × Bool)) × Int) ((List (Int × Int × ((List Int) × (List Int) × Int × Int × Int) × (List Int) × Int × Int × Bool)))) :=
  bif decide (x4.2 < (a1.length : Int)) then
    bif (decide ((0 : Int) ≤ x4.2)) && (decide (x4.2 < (a1.length : Int))) then
      let x8 := [((5 : Int), (x4.2, ((([] : List Int), (([] : List Int), ((0 : Int), ((0 : Int), (0 : Int))))), (([] : List Int), ((0 : Int), ((a1.getD x4.2.toNat 0), false))))))]
      bif Nat.ble (x4.1.length + x8.length) 4294967296 then
        some (.next ((x4.1 ++ x8), (IntKind.i64.wrap (x4.2 + (1 : Int)))))
      else none
    else none
  else some (.fin x4.1)
noncomputable def F_ref21_From.l506 (_ : Fu) (a2 : List (Int × (List Int) × (List Int) × Int × Int × Int)) (x12 : (List (Int × Int × ((List Int) × (List Int) × Int × Int × Int) × (List Int) × Int × Int × Bool)) × Int) : Option (Step ((List (Int × Int × ((List Int) × (List Int) × Int × Int × Int) × (List Int) × Int × Int × Bool)) × Int) ((List (Int × Int × ((List Int) × (List Int) × Int × Int × Int) × (List Int) × Int × Int × Bool)))) :=
  bif decide (x12.2 < (a2.length : Int)) then
    bif (decide ((0 : Int) ≤ x12.2)) && (decide (x12.2 < (a2.length : Int))) then
      bif (decide ((0 : Int) ≤ x12.2)) && (decide (x12.2 < (a2.length : Int))) then
        let x17 := [((1 : Int), (((a2.getD x12.2.toNat (0, ([], ([], (0, (0, 0)))))).1), (((a2.getD x12.2.toNat (0, ([], ([], (0, (0, 0)))))).2), (([] : List Int), ((0 : Int), ((0 : Int), false))))))]
        bif Nat.ble (x12.1.length + x17.length) 4294967296 then
          some (.next ((x12.1 ++ x17), (IntKind.i64.wrap (x12.2 + (1 : Int)))))
        else none
      else none
    else none
  else some (.fin x12.1)
noncomputable def F_ref21_From (m : Fu) (p : Int × (List Int) × (List (Int × (List Int) × (List Int) × Int × Int × Int)) × Int × Int × Bool) : Option ((List (Int × Int × ((List Int) × (List Int) × Int × Int × Int) × (List Int) × Int × Int × Bool)) × Int) :=
  let a0 := p.1
  let a1 := p.2.1
  let a2 := p.2.2.1
  let a3 := p.2.2.2.1
  let a4 := p.2.2.2.2.1
  let a5 := p.2.2.2.2.2
  (F_ref21_Check m (a0, a1, a2, a3, a4, a5)).bind fun x1 =>
  bif x1 != (0 : Int) then some (([] : List (Int × Int × ((List Int) × (List Int) × Int × Int × Int) × (List Int) × Int × Int × Bool)), x1) else
  (iter m (F_ref21_From.l250 m a1) (([((4 : Int), ((0 : Int), ((([] : List Int), (([] : List Int), ((0 : Int), ((0 : Int), (0 : Int))))), (([] : List Int), ((0 : Int), (a0, false))))))]), (0 : Int))).bind fun x11 =>
  (iter m (F_ref21_From.l506 m a2) (x11, (0 : Int))).bind fun x20 =>
  let x21 := [((7 : Int), ((0 : Int), ((([] : List Int), (([] : List Int), ((0 : Int), ((0 : Int), (0 : Int))))), (([] : List Int), ((0 : Int), (a4, false))))))]
  bif Nat.ble (x20.length + x21.length) 4294967296 then
    let x22 := x20 ++ x21
    let x23 := [((6 : Int), ((0 : Int), ((([] : List Int), (([] : List Int), ((0 : Int), ((0 : Int), (0 : Int))))), (([] : List Int), ((0 : Int), (a3, a5))))))]
    bif Nat.ble (x22.length + x23.length) 4294967296 then
      some ((x22 ++ x23), (0 : Int))
    else none
  else none
def F_ref21_From.ann : List (Nat × Ann) := [(250, .loop ⟨[(5, false, [.own (.pr (.int .u8) (.pr (.int .i64) (.pr (.pr .str (.pr .str (.pr (.int .u32) (.pr (.int .i64) (.int .u64))))) (.pr .str (.pr (.int .u8) (.pr (.int .i64) .bool)))))) 240 .wr]), (6, false, [.dat (.int .i64)])], [], [], [192], 241⟩ [(.exit 0, ⟨[(5, false, [.own (.pr (.int .u8) (.pr (.int .i64) (.pr (.pr .str (.pr .str (.pr (.int .u32) (.pr (.int .i64) (.int .u64))))) (.pr .str (.pr (.int .u8) (.pr (.int .i64) .bool)))))) 240 .wr])], [], [], [192], 241⟩)]),
  (506, .loop ⟨[(5, false, [.own (.pr (.int .u8) (.pr (.int .i64) (.pr (.pr .str (.pr .str (.pr (.int .u32) (.pr (.int .i64) (.int .u64))))) (.pr .str (.pr (.int .u8) (.pr (.int .i64) .bool)))))) 257 .wr]), (7, false, [.dat (.int .i64)])], [], [], [240], 258⟩ [(.exit 2, ⟨[(5, false, [.own (.pr (.int .u8) (.pr (.int .i64) (.pr (.pr .str (.pr .str (.pr (.int .u32) (.pr (.int .i64) (.int .u64))))) (.pr .str (.pr (.int .u8) (.pr (.int .i64) .bool)))))) 257 .wr])], [], [], [240], 258⟩)])]
def F_ref21_From.sig : Sig := ⟨[.val true [.int .i64, .sl (.int .i64), .sl (.pr (.int .i64) (.pr .str (.pr .str (.pr (.int .u32) (.pr (.int .i64) (.int .u64)))))), .int .i64, .int .i64, .bool]], [(false, [.own (.pr (.int .u8) (.pr (.int .i64) (.pr (.pr .str (.pr .str (.pr (.int .u32) (.pr (.int .i64) (.int .u64))))) (.pr .str (.pr (.int .u8) (.pr (.int .i64) .bool)))))) 0 .wr]), (false, [.dat (.int .i64)])]⟩
noncomputable def F_ref21_From.S : Summ := ⟨17, F_ref21_From.sig, F_ref21_From⟩
noncomputable def F_ref21_From.G : List Summ := [F_ref21_Check.S]
theorem F_ref21_From.eq : absF Try.prog F_ref21_From.G F_ref21_From.ann F_ref21_From.sig Try.f17 = F_ref21_From := by kernel_rfl
theorem F_ref21_From.sound : Sound Try.prog F_ref21_From.S := absF_sound (fn := Try.f17) (Γ := F_ref21_From.G) (all_cons F_ref21_Check.sound all_nil) mix (by kernel_rfl) (by kernel_rfl) (fun m p => congrFun (congrFun F_ref21_From.eq m) p)
/-! ### cloakroom/cloakroomref21.Same -/
noncomputable def F_ref21_Same.l58 (_ : Fu) (a1 : List Int) (a7 : List Int) (x11 : Int) : Option (Step Int (Bool ⊕ Unit)) :=
  bif decide (x11 < (a1.length : Int)) then
    bif (decide ((0 : Int) ≤ x11)) && (decide (x11 < (a1.length : Int))) then
      bif (decide ((0 : Int) ≤ x11)) && (decide (x11 < (a7.length : Int))) then
        bif (a1.getD x11.toNat 0) != (a7.getD x11.toNat 0) then
          some (.fin (Sum.inl false))
        else some (.next (IntKind.i64.wrap (x11 + (1 : Int))))
      else none
    else none
  else some (.fin (Sum.inr ()))
noncomputable def F_ref21_Same.l122 (_ : Fu) (a2 : List (Int × (List Int) × (List Int) × Int × Int × Int)) (a8 : List (Int × (List Int) × (List Int) × Int × Int × Int)) (x21 : Int) : Option (Step Int (Bool ⊕ Unit)) :=
  bif decide (x21 < (a2.length : Int)) then
    bif (decide ((0 : Int) ≤ x21)) && (decide (x21 < (a2.length : Int))) then
      let x24 := a2.getD x21.toNat (0, ([], ([], (0, (0, 0)))))
      bif (decide ((0 : Int) ≤ x21)) && (decide (x21 < (a8.length : Int))) then
        let x25 := a8.getD x21.toNat (0, ([], ([], (0, (0, 0)))))
        bif !((x24.1 == x25.1) && (((x24.2.1 == x25.2.1) && ((x24.2.2.1 == x25.2.2.1) && ((x24.2.2.2.1 == x25.2.2.2.1) && ((x24.2.2.2.2.1 == x25.2.2.2.2.1) && ((x24.2.2.2.2.2 == x25.2.2.2.2.2) && true))))) && true)) then
          some (.fin (Sum.inl false))
        else some (.next (IntKind.i64.wrap (x21 + (1 : Int))))
      else none
    else none
  else some (.fin (Sum.inr ()))
noncomputable def F_ref21_Same (m : Fu) (p : Int × (List Int) × (List (Int × (List Int) × (List Int) × Int × Int × Int)) × Int × Int × Bool × Int × (List Int) × (List (Int × (List Int) × (List Int) × Int × Int × Int)) × Int × Int × Bool) : Option (Bool) :=
  let a0 := p.1
  let a1 := p.2.1
  let a2 := p.2.2.1
  let a3 := p.2.2.2.1
  let a4 := p.2.2.2.2.1
  let a5 := p.2.2.2.2.2.1
  let a6 := p.2.2.2.2.2.2.1
  let a7 := p.2.2.2.2.2.2.2.1
  let a8 := p.2.2.2.2.2.2.2.2.1
  let a9 := p.2.2.2.2.2.2.2.2.2.1
  let a10 := p.2.2.2.2.2.2.2.2.2.2.1
  let a11 := p.2.2.2.2.2.2.2.2.2.2.2
  bif a0 != a6 then some false else
  bif a3 != a9 then some false else
  bif a4 != a10 then some false else
  bif !(a5 == a11) then some false else
  bif (a1.length : Int) != (a7.length : Int) then some false else
  bif (a2.length : Int) != (a8.length : Int) then some false else
  (iter m (F_ref21_Same.l58 m a1 a7) (0 : Int)).bind fun x18 =>
  match x18 with
  | .inl x19 =>
    some x19
  | .inr _ =>
    (iter m (F_ref21_Same.l122 m a2 a8) (0 : Int)).bind fun x28 =>
    match x28 with
    | .inl x29 =>
      some x29
    | .inr _ =>
      some true
def F_ref21_Same.ann : List (Nat × Ann) := [(58, .loop ⟨[(5, false, [.dat (.int .i64)])], [], [], [], 800⟩ [(.ret, ⟨[(4, false, [.dat .bool])], [], [], [], 800⟩), (.exit 0, ⟨[], [], [], [], 800⟩)]),
  (122, .loop ⟨[(6, false, [.dat (.int .i64)])], [], [], [], 816⟩ [(.ret, ⟨[(4, false, [.dat .bool])], [], [], [], 816⟩), (.exit 2, ⟨[], [], [], [], 816⟩)])]
def F_ref21_Same.sig : Sig := ⟨[.val true [.int .i64, .sl (.int .i64), .sl (.pr (.int .i64) (.pr .str (.pr .str (.pr (.int .u32) (.pr (.int .i64) (.int .u64)))))), .int .i64, .int .i64, .bool], .val true [.int .i64, .sl (.int .i64), .sl (.pr (.int .i64) (.pr .str (.pr .str (.pr (.int .u32) (.pr (.int .i64) (.int .u64)))))), .int .i64, .int .i64, .bool]], [(false, [.dat .bool])]⟩
noncomputable def F_ref21_Same.S : Summ := ⟨18, F_ref21_Same.sig, F_ref21_Same⟩
noncomputable def F_ref21_Same.G : List Summ := []
theorem F_ref21_Same.eq : absF Try.prog F_ref21_Same.G F_ref21_Same.ann F_ref21_Same.sig Try.f18 = F_ref21_Same := by kernel_rfl
theorem F_ref21_Same.sound : Sound Try.prog F_ref21_Same.S := absF_sound (fn := Try.f18) (Γ := F_ref21_Same.G) all_nil mix (by kernel_rfl) (by kernel_rfl) (fun m p => congrFun (congrFun F_ref21_Same.eq m) p)
/-! ### cloakroom/cloakroomref01.SameChanges -/
noncomputable def F_ref01_SameChanges.l58 (_ : Fu) (a0 : List (Int × Int × ((List Int) × (List Int) × Int × Int × Int) × (List Int) × Int × Int × Bool)) (a1 : List (Int × Int × ((List Int) × (List Int) × Int × Int × Int) × (List Int) × Int × Int × Bool)) (x4 : Int) : Option (Step Int (Bool ⊕ Unit)) :=
  bif decide (x4 < (a0.length : Int)) then
    bif (decide ((0 : Int) ≤ x4)) && (decide (x4 < (a0.length : Int))) then
      let x7 := a0.getD x4.toNat (0, (0, (([], ([], (0, (0, 0)))), ([], (0, (0, false))))))
      bif (decide ((0 : Int) ≤ x4)) && (decide (x4 < (a1.length : Int))) then
        let x8 := a1.getD x4.toNat (0, (0, (([], ([], (0, (0, 0)))), ([], (0, (0, false))))))
        bif !((x7.1 == x8.1) && ((x7.2.1 == x8.2.1) && (((x7.2.2.1.1 == x8.2.2.1.1) && ((x7.2.2.1.2.1 == x8.2.2.1.2.1) && ((x7.2.2.1.2.2.1 == x8.2.2.1.2.2.1) && ((x7.2.2.1.2.2.2.1 == x8.2.2.1.2.2.2.1) && ((x7.2.2.1.2.2.2.2 == x8.2.2.1.2.2.2.2) && true))))) && ((x7.2.2.2.1 == x8.2.2.2.1) && ((x7.2.2.2.2.1 == x8.2.2.2.2.1) && ((x7.2.2.2.2.2.1 == x8.2.2.2.2.2.1) && ((x7.2.2.2.2.2.2 == x8.2.2.2.2.2.2) && true))))))) then
          some (.fin (Sum.inl false))
        else some (.next (IntKind.i64.wrap (x4 + (1 : Int))))
      else none
    else none
  else some (.fin (Sum.inr ()))
noncomputable def F_ref01_SameChanges (m : Fu) (p : (List (Int × Int × ((List Int) × (List Int) × Int × Int × Int) × (List Int) × Int × Int × Bool)) × (List (Int × Int × ((List Int) × (List Int) × Int × Int × Int) × (List Int) × Int × Int × Bool))) : Option (Bool) :=
  let a0 := p.1
  let a1 := p.2
  bif (a0.length : Int) != (a1.length : Int) then some false else
  (iter m (F_ref01_SameChanges.l58 m a0 a1) (0 : Int)).bind fun x11 =>
  match x11 with
  | .inl x12 =>
    some x12
  | .inr _ =>
    some true
def F_ref01_SameChanges.ann : List (Nat × Ann) := [(58, .loop ⟨[(5, false, [.dat (.int .i64)])], [], [], [], 144⟩ [(.ret, ⟨[(4, false, [.dat .bool])], [], [], [], 144⟩), (.exit 0, ⟨[], [], [], [], 144⟩)])]
def F_ref01_SameChanges.sig : Sig := ⟨[.val false [.sl (.pr (.int .u8) (.pr (.int .i64) (.pr (.pr .str (.pr .str (.pr (.int .u32) (.pr (.int .i64) (.int .u64))))) (.pr .str (.pr (.int .u8) (.pr (.int .i64) .bool))))))], .val false [.sl (.pr (.int .u8) (.pr (.int .i64) (.pr (.pr .str (.pr .str (.pr (.int .u32) (.pr (.int .i64) (.int .u64))))) (.pr .str (.pr (.int .u8) (.pr (.int .i64) .bool))))))]], [(false, [.dat .bool])]⟩
noncomputable def F_ref01_SameChanges.S : Summ := ⟨19, F_ref01_SameChanges.sig, F_ref01_SameChanges⟩
noncomputable def F_ref01_SameChanges.G : List Summ := []
theorem F_ref01_SameChanges.eq : absF Try.prog F_ref01_SameChanges.G F_ref01_SameChanges.ann F_ref01_SameChanges.sig Try.f19 = F_ref01_SameChanges := by kernel_rfl
theorem F_ref01_SameChanges.sound : Sound Try.prog F_ref01_SameChanges.S := absF_sound (fn := Try.f19) (Γ := F_ref01_SameChanges.G) all_nil mix (by kernel_rfl) (by kernel_rfl) (fun m p => congrFun (congrFun F_ref01_SameChanges.eq m) p)
/-! ### cloakroom/cloakroomlaw21.ImageBytes -/
noncomputable def F_law21_ImageBytes (m : Fu) (p : Int × (List Int) × (List (Int × (List Int) × (List Int) × Int × Int × Int)) × Int × Int × Bool × (List Int)) : Option (Bool) :=
  let a0 := p.1
  let a1 := p.2.1
  let a2 := p.2.2.1
  let a3 := p.2.2.2.1
  let a4 := p.2.2.2.2.1
  let a5 := p.2.2.2.2.2.1
  let a6 := p.2.2.2.2.2.2
  (F_ref21_Great m (a0, a1, a2, a3, a4, a5)).bind fun x1 =>
  bif x1 then some true else
  bif decide ((100000 : Int) < (a6.length : Int)) then some true else
  (F_ref21_Twin m (a0, a1, a2, a3, a4, a5)).bind fun x4 =>
  bif Nat.ble a6.length 140737488351232 then
    (F_image_Write m x4).bind fun x5 =>
    (F_ref21_Write m (a0, a1, a2, a3, a4, a5)).bind fun x6 =>
    (F_image_Read m a6).bind fun x7 =>
    (F_ref21_Read m a6).bind fun x8 =>
    (F_image_From m x4).bind fun x9 =>
    (F_ref21_From m (a0, a1, a2, a3, a4, a5)).bind fun x10 =>
    bif x5.1 == x6.1 then
      bif x5.2 == x6.2 then
        (F_ref21_Same m (x7.1, x7.2.1, x7.2.2.1, x7.2.2.2.1, x7.2.2.2.2.1, x7.2.2.2.2.2.1, x8.1, x8.2.1, x8.2.2.1, x8.2.2.2.1, x8.2.2.2.2.1, x8.2.2.2.2.2.1)).bind fun x13 =>
        bif x13 then
          bif x7.2.2.2.2.2.2 == x8.2.2.2.2.2.2 then
            (F_ref01_SameChanges m (x9.1, x10.1)).bind fun x15 =>
            bif x15 then
              bif x9.2 == x10.2 then
                (F_ref21_Same m (x4.1, x4.2.1, x4.2.2.1, x4.2.2.2.1, x4.2.2.2.2.1, x4.2.2.2.2.2, a0, a1, a2, a3, a4, a5)).bind fun x17 =>
                bif x17 then
                  some (a6 == a6)
                else some false
              else some false
            else some false
          else some false
        else some false
      else some false
    else some false
  else none
def F_law21_ImageBytes.ann : List (Nat × Ann) := []
def F_law21_ImageBytes.sig : Sig := ⟨[.val true [.int .i64, .sl (.int .i64), .sl (.pr (.int .i64) (.pr .str (.pr .str (.pr (.int .u32) (.pr (.int .i64) (.int .u64)))))), .int .i64, .int .i64, .bool], .val false [.sl (.int .u8)]], [(false, [.dat .bool])]⟩
noncomputable def F_law21_ImageBytes.S : Summ := ⟨3, F_law21_ImageBytes.sig, F_law21_ImageBytes⟩
noncomputable def F_law21_ImageBytes.G : List Summ := [F_ref21_Great.S, F_ref21_Twin.S, F_image_Write.S, F_ref21_Write.S, F_image_Read.S, F_ref21_Read.S, F_image_From.S, F_ref21_From.S, F_ref21_Same.S, F_ref01_SameChanges.S]
theorem F_law21_ImageBytes.eq : absF Try.prog F_law21_ImageBytes.G F_law21_ImageBytes.ann F_law21_ImageBytes.sig Try.f3 = F_law21_ImageBytes := by kernel_rfl
theorem F_law21_ImageBytes.sound : Sound Try.prog F_law21_ImageBytes.S := absF_sound (fn := Try.f3) (Γ := F_law21_ImageBytes.G) (all_cons F_ref21_Great.sound (all_cons F_ref21_Twin.sound (all_cons F_image_Write.sound (all_cons F_ref21_Write.sound (all_cons F_image_Read.sound (all_cons F_ref21_Read.sound (all_cons F_image_From.sound (all_cons F_ref21_From.sound (all_cons F_ref21_Same.sound (all_cons F_ref01_SameChanges.sound all_nil)))))))))) mix (by kernel_rfl) (by kernel_rfl) (fun m p => congrFun (congrFun F_law21_ImageBytes.eq m) p)
/-! ### cloakroom/cloakroomref01.Heavy -/
noncomputable def F_ref01_Heavy.s232 (_ : Fu) (a0 : List (Int × Int × ((List Int) × (List Int) × Int × Int × Int) × (List Int) × Int × Int × Bool)) (x1 : Int × Int) : Option (Unit ⊕ Unit) :=
  bif decide (x1.2 < (a0.length : Int)) then
    bif decide (x1.2 < (10000 : Int)) then
      some (Sum.inl ())
    else some (Sum.inr ())
  else some (Sum.inr ())
noncomputable def F_ref01_Heavy.l58 (m : Fu) (a0 : List (Int × Int × ((List Int) × (List Int) × Int × Int × Int) × (List Int) × Int × Int × Bool)) (x1 : Int × Int) : Option (Step (Int × Int) Int) :=
  (F_ref01_Heavy.s232 m a0 x1).bind fun x5 =>
  match x5 with
  | .inl _ =>
    bif (decide ((0 : Int) ≤ x1.2)) && (decide (x1.2 < (a0.length : Int))) then
      bif (decide ((0 : Int) ≤ x1.2)) && (decide (x1.2 < (a0.length : Int))) then
        bif (decide ((0 : Int) ≤ x1.2)) && (decide (x1.2 < (a0.length : Int))) then
          some (.next ((IntKind.i64.wrap ((IntKind.i64.wrap ((IntKind.i64.wrap (x1.1 + (mnI ((((((a0.getD x1.2.toNat (0, (0, (([], ([], (0, (0, 0)))), ([], (0, (0, false))))))).2).2).1).1).length : Int) (100000 : Int)))) + (mnI (((((((a0.getD x1.2.toNat (0, (0, (([], ([], (0, (0, 0)))), ([], (0, (0, false))))))).2).2).1).2).1).length : Int) (100000 : Int)))) + (mnI ((((((a0.getD x1.2.toNat (0, (0, (([], ([], (0, (0, 0)))), ([], (0, (0, false))))))).2).2).2).1).length : Int) (100000 : Int)))), (IntKind.i64.wrap (x1.2 + (1 : Int)))))
        else none
      else none
    else none
  | .inr _ =>
    some (.fin x1.1)
noncomputable def F_ref01_Heavy (m : Fu) (p : List (Int × Int × ((List Int) × (List Int) × Int × Int × Int) × (List Int) × Int × Int × Bool)) : Option (Bool) :=
  let a0 := p
  (iter m (F_ref01_Heavy.l58 m a0) ((0 : Int), (0 : Int))).bind fun x21 =>
  bif decide ((5000 : Int) < (a0.length : Int)) then
    some true
  else some (decide ((200000 : Int) < x21))
def F_ref01_Heavy.ann : List (Nat × Ann) := [(58, .loop ⟨[(3, false, [.dat (.int .i64)]), (4, false, [.dat (.int .i64)])], [], [], [], 64⟩ [(.exit 0, ⟨[(3, false, [.dat (.int .i64)])], [], [], [], 64⟩)]),
  (232, .jnt [(.normal, ⟨[], [], [], [], 64⟩), (.exit 0, ⟨[], [], [], [], 64⟩)])]
def F_ref01_Heavy.sig : Sig := ⟨[.val false [.sl (.pr (.int .u8) (.pr (.int .i64) (.pr (.pr .str (.pr .str (.pr (.int .u32) (.pr (.int .i64) (.int .u64))))) (.pr .str (.pr (.int .u8) (.pr (.int .i64) .bool))))))]], [(false, [.dat .bool])]⟩
noncomputable def F_ref01_Heavy.S : Summ := ⟨27, F_ref01_Heavy.sig, F_ref01_Heavy⟩
noncomputable def F_ref01_Heavy.G : List Summ := []
theorem F_ref01_Heavy.eq : absF Try.prog F_ref01_Heavy.G F_ref01_Heavy.ann F_ref01_Heavy.sig Try.f27 = F_ref01_Heavy := by kernel_rfl
theorem F_ref01_Heavy.sound : Sound Try.prog F_ref01_Heavy.S := absF_sound (fn := Try.f27) (Γ := F_ref01_Heavy.G) all_nil mix (by kernel_rfl) (by kernel_rfl) (fun m p => congrFun (congrFun F_ref01_Heavy.eq m) p)
/-! ### cloakroom/code.keyed -/
noncomputable def F_code_keyed (_ : Fu) (p : List Int) : Option (Bool) :=
  let a0 := p
  bif !(a0 == ([] : List Int)) then
    some (decide ((a0.length : Int) ≤ (32 : Int)))
  else some false
def F_code_keyed.ann : List (Nat × Ann) := []
def F_code_keyed.sig : Sig := ⟨[.val false [.str]], [(false, [.dat .bool])]⟩
noncomputable def F_code_keyed.S : Summ := ⟨92, F_code_keyed.sig, F_code_keyed⟩
noncomputable def F_code_keyed.G : List Summ := []
theorem F_code_keyed.eq : absF Try.prog F_code_keyed.G F_code_keyed.ann F_code_keyed.sig Try.f92 = F_code_keyed := by kernel_rfl
theorem F_code_keyed.sound : Sound Try.prog F_code_keyed.S := absF_sound (fn := Try.f92) (Γ := F_code_keyed.G) all_nil mix (by kernel_rfl) (by kernel_rfl) (fun m p => congrFun (congrFun F_code_keyed.eq m) p)
/-! ### cloakroom/code.in -/
noncomputable def F_code_in (_ : Fu) (p : Int × Int) : Option (Bool) :=
  let a0 := p.1
  let a1 := p.2
  bif decide ((0 : Int) ≤ a0) then
    some (decide (a0 ≤ a1))
  else some false
def F_code_in.ann : List (Nat × Ann) := []
def F_code_in.sig : Sig := ⟨[.val false [.int .i64], .val false [.int .i64]], [(false, [.dat .bool])]⟩
noncomputable def F_code_in.S : Summ := ⟨93, F_code_in.sig, F_code_in⟩
noncomputable def F_code_in.G : List Summ := []
theorem F_code_in.eq : absF Try.prog F_code_in.G F_code_in.ann F_code_in.sig Try.f93 = F_code_in := by kernel_rfl
theorem F_code_in.sound : Sound Try.prog F_code_in.S := absF_sound (fn := Try.f93) (Γ := F_code_in.G) all_nil mix (by kernel_rfl) (by kernel_rfl) (fun m p => congrFun (congrFun F_code_in.eq m) p)
/-! ### cloakroom/code.tenanted -/
noncomputable def F_code_tenanted (_ : Fu) (p : Int) : Option (Bool) :=
  let a0 := p
  bif decide ((0 : Int) ≤ a0) then
    some (decide (a0 < (4 : Int)))
  else some false
def F_code_tenanted.ann : List (Nat × Ann) := []
def F_code_tenanted.sig : Sig := ⟨[.val false [.int .i64]], [(false, [.dat .bool])]⟩
noncomputable def F_code_tenanted.S : Summ := ⟨94, F_code_tenanted.sig, F_code_tenanted⟩
noncomputable def F_code_tenanted.G : List Summ := []
theorem F_code_tenanted.eq : absF Try.prog F_code_tenanted.G F_code_tenanted.ann F_code_tenanted.sig Try.f94 = F_code_tenanted := by kernel_rfl
theorem F_code_tenanted.sound : Sound Try.prog F_code_tenanted.S := absF_sound (fn := Try.f94) (Γ := F_code_tenanted.G) all_nil mix (by kernel_rfl) (by kernel_rfl) (fun m p => congrFun (congrFun F_code_tenanted.eq m) p)
/-! ### cloakroom/code.may -/
noncomputable def F_code_may.s30 (m : Fu) (a0 : Int) (a1 : Int) (a2 : List Int) (a3 : List Int) (a4 : Int) (a5 : Int) (a6 : Int) (a7 : List Int) (a8 : Int) (a9 : Int) (a10 : Bool) : Option ((Bool × Int × Int × (List Int) × (List Int) × Int × Int × Int × (List Int) × Int × Int × Bool)) :=
  bif a0 == (1 : Int) then
    (F_code_keyed m a2).bind fun x2 =>
    bif x2 then
      bif decide ((a3.length : Int) ≤ (512 : Int)) then
        (F_code_in m (a5, (1099511627776 : Int))).bind fun x5 =>
        some (x5, a0, a1, a2, a3, a4, a5, a6, ([] : List Int), (0 : Int), (0 : Int), false)
      else some (false, a0, a1, a2, a3, a4, a5, a6, ([] : List Int), (0 : Int), (0 : Int), false)
    else some (false, a0, a1, a2, a3, a4, a5, a6, ([] : List Int), (0 : Int), (0 : Int), false)
  else
    bif a0 == (2 : Int) then
      (F_code_keyed m a7).bind fun x7 =>
      bif x7 then
        bif a8 == (1 : Int) then
          some (true, a0, a1, ([] : List Int), ([] : List Int), (0 : Int), (0 : Int), (0 : Int), a7, a8, (0 : Int), false)
        else some ((a8 == (2 : Int)), a0, a1, ([] : List Int), ([] : List Int), (0 : Int), (0 : Int), (0 : Int), a7, a8, (0 : Int), false)
      else some (false, a0, a1, ([] : List Int), ([] : List Int), (0 : Int), (0 : Int), (0 : Int), a7, a8, (0 : Int), false)
    else
      bif a0 == (3 : Int) then some (true, a0, a1, ([] : List Int), ([] : List Int), (0 : Int), (0 : Int), (0 : Int), ([] : List Int), (0 : Int), (0 : Int), false) else
      bif a0 == (4 : Int) then
        (F_code_in m (a9, (1099511627776 : Int))).bind fun x12 =>
        some (x12, a0, (0 : Int), ([] : List Int), ([] : List Int), (0 : Int), (0 : Int), (0 : Int), ([] : List Int), (0 : Int), a9, false)
      else
        bif a0 == (5 : Int) then
          (F_code_in m (a9, (16 : Int))).bind fun x14 =>
          some (x14, a0, a1, ([] : List Int), ([] : List Int), (0 : Int), (0 : Int), (0 : Int), ([] : List Int), (0 : Int), a9, false)
        else
          bif a0 == (6 : Int) then
            (F_code_in m (a9, (2147483647 : Int))).bind fun x16 =>
            some (x16, a0, (0 : Int), ([] : List Int), ([] : List Int), (0 : Int), (0 : Int), (0 : Int), ([] : List Int), (0 : Int), a9, a10)
          else
            bif a0 == (7 : Int) then
              (F_code_in m (a9, (2147483647 : Int))).bind fun x18 =>
              some (x18, a0, (0 : Int), ([] : List Int), ([] : List Int), (0 : Int), (0 : Int), (0 : Int), ([] : List Int), (0 : Int), a9, false)
            else some (false, a0, (0 : Int), ([] : List Int), ([] : List Int), (0 : Int), (0 : Int), (0 : Int), ([] : List Int), (0 : Int), (0 : Int), false)
noncomputable def F_code_may (m : Fu) (p : Int × Int × (List Int) × (List Int) × Int × Int × Int × (List Int) × Int × Int × Bool) : Option (Bool) :=
  let a0 := p.1
  let a1 := p.2.1
  let a2 := p.2.2.1
  let a3 := p.2.2.2.1
  let a4 := p.2.2.2.2.1
  let a5 := p.2.2.2.2.2.1
  let a6 := p.2.2.2.2.2.2.1
  let a7 := p.2.2.2.2.2.2.2.1
  let a8 := p.2.2.2.2.2.2.2.2.1
  let a9 := p.2.2.2.2.2.2.2.2.2.1
  let a10 := p.2.2.2.2.2.2.2.2.2.2
  (F_code_may.s30 m a0 a1 a2 a3 a4 a5 a6 a7 a8 a9 a10).bind fun x19 =>
  bif x19.1 then
    (F_code_tenanted m a1).bind fun x20 =>
    bif x20 then
      some ((x19.2.1 == a0) && ((x19.2.2.1 == a1) && (((x19.2.2.2.1 == a2) && ((x19.2.2.2.2.1 == a3) && ((x19.2.2.2.2.2.1 == a4) && ((x19.2.2.2.2.2.2.1 == a5) && ((x19.2.2.2.2.2.2.2.1 == a6) && true))))) && ((x19.2.2.2.2.2.2.2.2.1 == a7) && ((x19.2.2.2.2.2.2.2.2.2.1 == a8) && ((x19.2.2.2.2.2.2.2.2.2.2.1 == a9) && ((x19.2.2.2.2.2.2.2.2.2.2.2 == a10) && true)))))))
    else some false
  else some false
def F_code_may.ann : List (Nat × Ann) := [(30, .jnt [(.normal, ⟨[(4, false, [.dat .bool])], [(96, [.dat (.int .u8), .dat (.int .i64), .dat .str, .dat .str, .dat (.int .u32), .dat (.int .i64), .dat (.int .u64), .dat .str, .dat (.int .u8), .dat (.int .i64), .dat .bool])], [], [], 144⟩)])]
def F_code_may.sig : Sig := ⟨[.val true [.int .u8, .int .i64, .str, .str, .int .u32, .int .i64, .int .u64, .str, .int .u8, .int .i64, .bool]], [(false, [.dat .bool])]⟩
noncomputable def F_code_may.S : Summ := ⟨77, F_code_may.sig, F_code_may⟩
noncomputable def F_code_may.G : List Summ := [F_code_keyed.S, F_code_in.S, F_code_tenanted.S]
theorem F_code_may.eq : absF Try.prog F_code_may.G F_code_may.ann F_code_may.sig Try.f77 = F_code_may := by kernel_rfl
theorem F_code_may.sound : Sound Try.prog F_code_may.S := absF_sound (fn := Try.f77) (Γ := F_code_may.G) (all_cons F_code_keyed.sound (all_cons F_code_in.sound (all_cons F_code_tenanted.sound all_nil))) mix (by kernel_rfl) (by kernel_rfl) (fun m p => congrFun (congrFun F_code_may.eq m) p)
/-! ### cloakroom/code.nums -/
noncomputable def F_code_nums.l26 (m : Fu) (a1 : List Int) (x1 : Int) (x2 : (List Int) × Int) : Option (Step ((List Int) × Int) ((List Int))) :=
  bif decide (x2.2 < x1) then
    bif (decide ((0 : Int) ≤ x2.2)) && (decide (x2.2 < (a1.length : Int))) then
      (F_code_Small m (IntKind.u64.wrap (a1.getD x2.2.toNat 0))).bind fun x6 =>
      bif Nat.ble (x2.1.length + x6.length) 140737488351232 then
        some (.next ((x2.1 ++ x6), (IntKind.i64.wrap (x2.2 + (1 : Int)))))
      else none
    else none
  else some (.fin x2.1)
noncomputable def F_code_nums (m : Fu) (p : (List Int) × (List Int)) : Option (List Int) :=
  let a0 := p.1
  let a1 := p.2
  (iter m (F_code_nums.l26 m a1 (a1.length : Int)) (a0, (0 : Int))).bind fun x9 =>
  some x9
def F_code_nums.ann : List (Nat × Ann) := [(26, .loop ⟨[(0, false, [.own (.int .u8) 96 .fr]), (9, false, [.dat (.int .i64)])], [], [], [0], 97⟩ [(.exit 0, ⟨[(0, false, [.own (.int .u8) 96 .fr])], [], [], [0], 97⟩)])]
def F_code_nums.sig : Sig := ⟨[.own (.int .u8), .val false [.sl (.int .i64)]], [(false, [.own (.int .u8) 0 .fr])]⟩
noncomputable def F_code_nums.S : Summ := ⟨78, F_code_nums.sig, F_code_nums⟩
noncomputable def F_code_nums.G : List Summ := [F_code_Small.S]
theorem F_code_nums.eq : absF Try.prog F_code_nums.G F_code_nums.ann F_code_nums.sig Try.f78 = F_code_nums := by kernel_rfl
theorem F_code_nums.sound : Sound Try.prog F_code_nums.S := absF_sound (fn := Try.f78) (Γ := F_code_nums.G) (all_cons F_code_Small.sound all_nil) mix (by kernel_rfl) (by kernel_rfl) (fun m p => congrFun (congrFun F_code_nums.eq m) p)
/-! ### cloakroom/code.texts -/
noncomputable def F_code_texts.l26 (m : Fu) (a1 : List (List Int)) (x1 : Int) (x2 : (List Int) × Int) : Option (Step ((List Int) × Int) ((List Int))) :=
  bif decide (x2.2 < x1) then
    bif (decide ((0 : Int) ≤ x2.2)) && (decide (x2.2 < (a1.length : Int))) then
      (F_code_Text m (a1.getD x2.2.toNat [])).bind fun x5 =>
      bif Nat.ble (x2.1.length + x5.length) 140737488351232 then
        some (.next ((x2.1 ++ x5), (IntKind.i64.wrap (x2.2 + (1 : Int)))))
      else none
    else none
  else some (.fin x2.1)
noncomputable def F_code_texts (m : Fu) (p : (List Int) × (List (List Int))) : Option (List Int) :=
  let a0 := p.1
  let a1 := p.2
  (iter m (F_code_texts.l26 m a1 (a1.length : Int)) (a0, (0 : Int))).bind fun x8 =>
  some x8
def F_code_texts.ann : List (Nat × Ann) := [(26, .loop ⟨[(0, false, [.own (.int .u8) 96 .fr]), (9, false, [.dat (.int .i64)])], [], [], [0], 97⟩ [(.exit 0, ⟨[(0, false, [.own (.int .u8) 96 .fr])], [], [], [0], 97⟩)])]
def F_code_texts.sig : Sig := ⟨[.own (.int .u8), .val false [.sl .str]], [(false, [.own (.int .u8) 0 .fr])]⟩
noncomputable def F_code_texts.S : Summ := ⟨95, F_code_texts.sig, F_code_texts⟩
noncomputable def F_code_texts.G : List Summ := [F_code_Text.S]
theorem F_code_texts.eq : absF Try.prog F_code_texts.G F_code_texts.ann F_code_texts.sig Try.f95 = F_code_texts := by kernel_rfl
theorem F_code_texts.sound : Sound Try.prog F_code_texts.S := absF_sound (fn := Try.f95) (Γ := F_code_texts.G) (all_cons F_code_Text.sound all_nil) mix (by kernel_rfl) (by kernel_rfl) (fun m p => congrFun (congrFun F_code_texts.eq m) p)
/-! ### cloakroom/code.put -/
noncomputable def F_code_put.s116 (_ : Fu) (a1 : Int) : Option (Bool) :=
  let x3 := a1 == (1 : Int)
  bif x3 then some x3 else
  let x4 := a1 == (2 : Int)
  bif x4 then some x4 else
  let x5 := a1 == (3 : Int)
  bif x5 then
    some x5
  else some (a1 == (5 : Int))
noncomputable def F_code_put.s14 (m : Fu) (a1 : Int) (a2 : Int) (x2 : List Int) : Option ((List Int)) :=
  (F_code_put.s116 m a1).bind fun x7 =>
  bif x7 then
    (F_code_nums m (x2, ([a2]))).bind fun x9 =>
    some x9
  else some x2
noncomputable def F_code_put.s3934 (_ : Fu) (a1 : Int) : Option (Bool) :=
  let x24 := a1 == (4 : Int)
  bif x24 then some x24 else
  let x25 := a1 == (5 : Int)
  bif x25 then some x25 else
  let x26 := a1 == (6 : Int)
  bif x26 then
    some x26
  else some (a1 == (7 : Int))
noncomputable def F_code_put.s30 (m : Fu) (a1 : Int) (a3 : List Int) (a4 : List Int) (a5 : Int) (a6 : Int) (a7 : Int) (a8 : List Int) (a9 : Int) (a10 : Int) (x10 : (List Int)) : Option ((List Int) ⊕ (List Int)) :=
  bif a1 == (1 : Int) then
    (F_code_texts m (x10, ([a3, a4]))).bind fun x13 =>
    (F_code_nums m (x13, ([(IntKind.i64.wrap a5), a6]))).bind fun x16 =>
    (F_code_Small m a7).bind fun x17 =>
    bif Nat.ble (x16.length + x17.length) 140737488351232 then
      some (Sum.inl (x16 ++ x17))
    else none
  else
    bif a1 == (2 : Int) then
      (F_code_texts m (x10, ([a8]))).bind fun x21 =>
      let x22 := [a9]
      bif Nat.ble (x21.length + x22.length) 140737488351232 then
        some (Sum.inl (x21 ++ x22))
      else none
    else
      (F_code_put.s3934 m a1).bind fun x28 =>
      bif x28 then
        (F_code_nums m (x10, ([a10]))).bind fun x30 =>
        some (Sum.inr x30)
      else some (Sum.inr x10)
noncomputable def F_code_put (m : Fu) (p : (List Int) × Int × Int × (List Int) × (List Int) × Int × Int × Int × (List Int) × Int × Int × Bool) : Option (List Int) :=
  let a0 := p.1
  let a1 := p.2.1
  let a2 := p.2.2.1
  let a3 := p.2.2.2.1
  let a4 := p.2.2.2.2.1
  let a5 := p.2.2.2.2.2.1
  let a6 := p.2.2.2.2.2.2.1
  let a7 := p.2.2.2.2.2.2.2.1
  let a8 := p.2.2.2.2.2.2.2.2.1
  let a9 := p.2.2.2.2.2.2.2.2.2.1
  let a10 := p.2.2.2.2.2.2.2.2.2.2.1
  let a11 := p.2.2.2.2.2.2.2.2.2.2.2
  let x1 := [a1]
  bif Nat.ble (a0.length + x1.length) 140737488351232 then
    (F_code_put.s14 m a1 a2 (a0 ++ x1)).bind fun x10 =>
    (F_code_put.s30 m a1 a3 a4 a5 a6 a7 a8 a9 a10 x10).bind fun x31 =>
    match x31 with
    | .inl x32 =>
      some x32
    | .inr x33 =>
      bif a1 == (6 : Int) then
        bif a11 then
          bif Nat.ble (x33.length + 1) 140737488351232 then
            some (x33 ++ ([1] : List Int))
          else none
        else
          bif Nat.ble (x33.length + 1) 140737488351232 then
            some (x33 ++ ([0] : List Int))
          else none
      else some x33
  else none
def F_code_put.ann : List (Nat × Ann) := [(14, .jnt [(.normal, ⟨[(0, false, [.own (.int .u8) 160 .fr])], [], [], [128], 161⟩)]),
  (30, .jnt [(.ret, ⟨[(4, false, [.own (.int .u8) 161 .fr])], [], [], [160], 162⟩), (.normal, ⟨[(0, false, [.own (.int .u8) 161 .fr])], [], [], [160], 162⟩)]),
  (116, .jnt [(.normal, ⟨[(12, false, [.dat .bool])], [], [], [], 192⟩)]),
  (3934, .jnt [(.normal, ⟨[(61, false, [.dat .bool])], [], [], [], 257⟩)])]
def F_code_put.sig : Sig := ⟨[.own (.int .u8), .val true [.int .u8, .int .i64, .str, .str, .int .u32, .int .i64, .int .u64, .str, .int .u8, .int .i64, .bool]], [(false, [.own (.int .u8) 0 .fr])]⟩
noncomputable def F_code_put.S : Summ := ⟨79, F_code_put.sig, F_code_put⟩
noncomputable def F_code_put.G : List Summ := [F_code_nums.S, F_code_texts.S, F_code_Small.S]
theorem F_code_put.eq : absF Try.prog F_code_put.G F_code_put.ann F_code_put.sig Try.f79 = F_code_put := by kernel_rfl
theorem F_code_put.sound : Sound Try.prog F_code_put.S := absF_sound (fn := Try.f79) (Γ := F_code_put.G) (all_cons F_code_nums.sound (all_cons F_code_texts.sound (all_cons F_code_Small.sound all_nil))) mix (by kernel_rfl) (by kernel_rfl) (fun m p => congrFun (congrFun F_code_put.eq m) p)
/-! ### cloakroom/code.Changes -/
noncomputable def F_code_Changes.l58 (m : Fu) (a0 : List (Int × Int × ((List Int) × (List Int) × Int × Int × Int) × (List Int) × Int × Int × Bool)) (x3 : Int) (x4 : Int) : Option (Step Int (Int ⊕ Unit)) :=
  bif decide (x4 < x3) then
    bif (decide ((0 : Int) ≤ x4)) && (decide (x4 < (a0.length : Int))) then
      let x6 := a0.getD x4.toNat (0, (0, (([], ([], (0, (0, 0)))), ([], (0, (0, false))))))
      (F_code_may m (x6.1, x6.2.1, x6.2.2.1.1, x6.2.2.1.2.1, x6.2.2.1.2.2.1, x6.2.2.1.2.2.2.1, x6.2.2.1.2.2.2.2, x6.2.2.2)).bind fun x7 =>
      bif !x7 then
        some (.fin (Sum.inl (8 : Int)))
      else some (.next (IntKind.i64.wrap (x4 + (1 : Int))))
    else none
  else some (.fin (Sum.inr ()))
noncomputable def F_code_Changes.l250 (m : Fu) (a0 : List (Int × Int × ((List Int) × (List Int) × Int × Int × Int) × (List Int) × Int × Int × Bool)) (x16 : Int) (x17 : (List Int) × Int) : Option (Step ((List Int) × Int) (Int ⊕ (List Int))) :=
  bif decide (x17.2 < x16) then
    bif (decide ((0 : Int) ≤ x17.2)) && (decide (x17.2 < (a0.length : Int))) then
      let x19 := a0.getD x17.2.toNat (0, (0, (([], ([], (0, (0, 0)))), ([], (0, (0, false))))))
      (F_code_put m (x17.1, x19.1, x19.2.1, x19.2.2.1.1, x19.2.2.1.2.1, x19.2.2.1.2.2.1, x19.2.2.1.2.2.2.1, x19.2.2.1.2.2.2.2, x19.2.2.2)).bind fun x20 =>
      bif decide ((65536 : Int) < (x20.length : Int)) then
        some (.fin (Sum.inl (3 : Int)))
      else some (.next (x20, (IntKind.i64.wrap (x17.2 + (1 : Int)))))
    else none
  else some (.fin (Sum.inr x17.1))
noncomputable def F_code_Changes (m : Fu) (p : List (Int × Int × ((List Int) × (List Int) × Int × Int × Int) × (List Int) × Int × Int × Bool)) : Option ((List Int) × Int) :=
  let a0 := p
  bif decide ((4096 : Int) < (a0.length : Int)) then some (([] : List Int), (4 : Int)) else
  (iter m (F_code_Changes.l58 m a0 (a0.length : Int)) (0 : Int)).bind fun x10 =>
  match x10 with
  | .inl x11 =>
    some (([] : List Int), x11)
  | .inr _ =>
    (F_code_nums m (([] : List Int), ([(a0.length : Int)]))).bind fun x15 =>
    (iter m (F_code_Changes.l250 m a0 (a0.length : Int)) (x15, (0 : Int))).bind fun x24 =>
    match x24 with
    | .inl x25 =>
      some (([] : List Int), x25)
    | .inr x26 =>
      some (x26, (0 : Int))
def F_code_Changes.ann : List (Nat × Ann) := [(58, .loop ⟨[(14, false, [.dat (.int .i64)])], [], [], [], 144⟩ [(.ret, ⟨[(2, false, [.cst .nils]), (3, false, [.dat (.int .i64)])], [], [], [], 144⟩), (.exit 0, ⟨[], [], [], [], 144⟩)]),
  (250, .loop ⟨[(6, false, [.own (.int .u8) 272 .fr]), (28, false, [.dat (.int .i64)])], [], [], [192], 273⟩ [(.ret, ⟨[(2, false, [.cst .nils]), (3, false, [.dat (.int .i64)])], [], [], [192], 272⟩), (.exit 2, ⟨[(6, false, [.own (.int .u8) 272 .fr])], [], [], [192], 273⟩)])]
def F_code_Changes.sig : Sig := ⟨[.val false [.sl (.pr (.int .u8) (.pr (.int .i64) (.pr (.pr .str (.pr .str (.pr (.int .u32) (.pr (.int .i64) (.int .u64))))) (.pr .str (.pr (.int .u8) (.pr (.int .i64) .bool))))))]], [(false, [.own (.int .u8) 0 .fr]), (false, [.dat (.int .i64)])]⟩
noncomputable def F_code_Changes.S : Summ := ⟨51, F_code_Changes.sig, F_code_Changes⟩
noncomputable def F_code_Changes.G : List Summ := [F_code_may.S, F_code_nums.S, F_code_put.S]
theorem F_code_Changes.eq : absF Try.prog F_code_Changes.G F_code_Changes.ann F_code_Changes.sig Try.f51 = F_code_Changes := by kernel_rfl
theorem F_code_Changes.sound : Sound Try.prog F_code_Changes.S := absF_sound (fn := Try.f51) (Γ := F_code_Changes.G) (all_cons F_code_may.sound (all_cons F_code_nums.sound (all_cons F_code_put.sound all_nil))) mix (by kernel_rfl) (by kernel_rfl) (fun m p => congrFun (congrFun F_code_Changes.eq m) p)
/-! ### slices.Clone[[]int,int] -/
noncomputable def F_slices_Clone_int (_ : Fu) (p : List Int) : Option (List Int) :=
  let a0 := p
  match a0 with
  | [] => same2
   (
    some ([] : List Int))
   (
    bif Nat.ble (0 + a0.length) 4294967296 then
      some (([] : List Int) ++ a0)
    else none)
  | _ :: _ =>
    bif Nat.ble (0 + a0.length) 4294967296 then
      some (([] : List Int) ++ a0)
    else none
def F_slices_Clone_int.ann : List (Nat × Ann) := []
def F_slices_Clone_int.sig : Sig := ⟨[.val false [.sl (.int .i64)]], [(false, [.own (.int .i64) 0 .wr])]⟩
noncomputable def F_slices_Clone_int.S : Summ := ⟨66, F_slices_Clone_int.sig, F_slices_Clone_int⟩
noncomputable def F_slices_Clone_int.G : List Summ := []
theorem F_slices_Clone_int.eq : absF Try.prog F_slices_Clone_int.G F_slices_Clone_int.ann F_slices_Clone_int.sig Try.f66 = F_slices_Clone_int := by kernel_rfl
theorem F_slices_Clone_int.sound : Sound Try.prog F_slices_Clone_int.S := absF_sound (fn := Try.f66) (Γ := F_slices_Clone_int.G) all_nil mix (by kernel_rfl) (by kernel_rfl) (fun m p => congrFun (congrFun F_slices_Clone_int.eq m) p)
noncomputable def C_slices_Clone_int (m : Fu) (p : List Int) : Option (List Int) := bif Nat.ble p.length 4294967296 then some p else none
theorem C_slices_Clone_int.is : F_slices_Clone_int = C_slices_Clone_int := by
  funext m p
  have h0 : Nat.ble 0 4294967296 = true := rfl
  cases p <;> simp [F_slices_Clone_int, C_slices_Clone_int, same2_self, h0]
noncomputable def C_slices_Clone_int.S : Summ := ⟨66, F_slices_Clone_int.sig, C_slices_Clone_int⟩
theorem C_slices_Clone_int.sound : Sound Try.prog C_slices_Clone_int.S := by
  have h := F_slices_Clone_int.sound
  unfold F_slices_Clone_int.S at h
  rw [C_slices_Clone_int.is] at h
  exact h
/-! ### slices.Clone[[]cloakroom/api.Kept,cloakroom/api.Kept] -/
noncomputable def F_slices_Clone_Kept (_ : Fu) (p : List (Int × (List Int) × (List Int) × Int × Int × Int)) : Option (List (Int × (List Int) × (List Int) × Int × Int × Int)) :=
  let a0 := p
  match a0 with
  | [] => same2
   (
    some ([] : List (Int × (List Int) × (List Int) × Int × Int × Int)))
   (
    bif Nat.ble (0 + a0.length) 4294967296 then
      some (([] : List (Int × (List Int) × (List Int) × Int × Int × Int)) ++ a0)
    else none)
  | _ :: _ =>
    bif Nat.ble (0 + a0.length) 4294967296 then
      some (([] : List (Int × (List Int) × (List Int) × Int × Int × Int)) ++ a0)
    else none
def F_slices_Clone_Kept.ann : List (Nat × Ann) := []
def F_slices_Clone_Kept.sig : Sig := ⟨[.val false [.sl (.pr (.int .i64) (.pr .str (.pr .str (.pr (.int .u32) (.pr (.int .i64) (.int .u64))))))]], [(false, [.own (.pr (.int .i64) (.pr .str (.pr .str (.pr (.int .u32) (.pr (.int .i64) (.int .u64)))))) 0 .wr])]⟩
noncomputable def F_slices_Clone_Kept.S : Summ := ⟨80, F_slices_Clone_Kept.sig, F_slices_Clone_Kept⟩
noncomputable def F_slices_Clone_Kept.G : List Summ := []
theorem F_slices_Clone_Kept.eq : absF Try.prog F_slices_Clone_Kept.G F_slices_Clone_Kept.ann F_slices_Clone_Kept.sig Try.f80 = F_slices_Clone_Kept := by kernel_rfl
theorem F_slices_Clone_Kept.sound : Sound Try.prog F_slices_Clone_Kept.S := absF_sound (fn := Try.f80) (Γ := F_slices_Clone_Kept.G) all_nil mix (by kernel_rfl) (by kernel_rfl) (fun m p => congrFun (congrFun F_slices_Clone_Kept.eq m) p)
noncomputable def C_slices_Clone_Kept (m : Fu) (p : List (Int × (List Int) × (List Int) × Int × Int × Int)) : Option (List (Int × (List Int) × (List Int) × Int × Int × Int)) := bif Nat.ble p.length 4294967296 then some p else none
theorem C_slices_Clone_Kept.is : F_slices_Clone_Kept = C_slices_Clone_Kept := by
  funext m p
  have h0 : Nat.ble 0 4294967296 = true := rfl
  cases p <;> simp [F_slices_Clone_Kept, C_slices_Clone_Kept, same2_self, h0]
noncomputable def C_slices_Clone_Kept.S : Summ := ⟨80, F_slices_Clone_Kept.sig, C_slices_Clone_Kept⟩
theorem C_slices_Clone_Kept.sound : Sound Try.prog C_slices_Clone_Kept.S := by
  have h := F_slices_Clone_Kept.sound
  unfold F_slices_Clone_Kept.S at h
  rw [C_slices_Clone_Kept.is] at h
  exact h
/-! ### (*cloakroom/image.state).do$1 -/
noncomputable def F_image_state_do_c1 (m : Fu) (p : Int × (List Int) × (List Int) × Int × Int × Int × Int × Int × (List Int) × (List Int) × Int × Int × Int × (List Int) × Int × Int × Bool) : Option (Bool × Int × Int × (List Int) × (List Int) × Int × Int × Int × (List Int) × Int × Int × Bool) :=
  let a1 := p.2.1
  let a2 := p.2.2.1
  let a3 := p.2.2.2.1
  let a4 := p.2.2.2.2.1
  let a5 := p.2.2.2.2.2.1
  let a6 := p.2.2.2.2.2.2.1
  let a7 := p.2.2.2.2.2.2.2.1
  let a8 := p.2.2.2.2.2.2.2.2.1
  let a9 := p.2.2.2.2.2.2.2.2.2.1
  let a10 := p.2.2.2.2.2.2.2.2.2.2.1
  let a11 := p.2.2.2.2.2.2.2.2.2.2.2.1
  let a12 := p.2.2.2.2.2.2.2.2.2.2.2.2.1
  let a13 := p.2.2.2.2.2.2.2.2.2.2.2.2.2.1
  let a14 := p.2.2.2.2.2.2.2.2.2.2.2.2.2.2.1
  let a15 := p.2.2.2.2.2.2.2.2.2.2.2.2.2.2.2.1
  let a16 := p.2.2.2.2.2.2.2.2.2.2.2.2.2.2.2.2
  (F_image_due m (a1, a2, a3, a4, a5, a15)).bind fun x1 =>
  some (x1, a6, a7, a8, a9, a10, a11, a12, a13, a14, a15, a16)
def F_image_state_do_c1.ann : List (Nat × Ann) := []
def F_image_state_do_c1.sig : Sig := ⟨[.val true [.int .i64, .str, .str, .int .u32, .int .i64, .int .u64], .box [.int .u8, .int .i64, .str, .str, .int .u32, .int .i64, .int .u64, .str, .int .u8, .int .i64, .bool]], [(false, [.dat .bool])]⟩
noncomputable def F_image_state_do_c1.S : Summ := ⟨82, F_image_state_do_c1.sig, F_image_state_do_c1⟩
noncomputable def F_image_state_do_c1.G : List Summ := [F_image_due.S]
theorem F_image_state_do_c1.eq : absF Try.prog F_image_state_do_c1.G F_image_state_do_c1.ann F_image_state_do_c1.sig Try.f82 = F_image_state_do_c1 := by kernel_rfl
theorem F_image_state_do_c1.sound : Sound Try.prog F_image_state_do_c1.S := absF_sound (fn := Try.f82) (Γ := F_image_state_do_c1.G) (all_cons F_image_due.sound all_nil) mix (by kernel_rfl) (by kernel_rfl) (fun m p => congrFun (congrFun F_image_state_do_c1.eq m) p)
/-! ### (*cloakroom/image.state).do$2 -/
noncomputable def F_image_state_do_c2 (_ : Fu) (p : Int × (List Int) × (List Int) × Int × Int × Int × Int × Int × (List Int) × (List Int) × Int × Int × Int × (List Int) × Int × Int × Bool) : Option (Bool × Int × Int × (List Int) × (List Int) × Int × Int × Int × (List Int) × Int × Int × Bool) :=
  let a0 := p.1
  let a6 := p.2.2.2.2.2.2.1
  let a7 := p.2.2.2.2.2.2.2.1
  let a8 := p.2.2.2.2.2.2.2.2.1
  let a9 := p.2.2.2.2.2.2.2.2.2.1
  let a10 := p.2.2.2.2.2.2.2.2.2.2.1
  let a11 := p.2.2.2.2.2.2.2.2.2.2.2.1
  let a12 := p.2.2.2.2.2.2.2.2.2.2.2.2.1
  let a13 := p.2.2.2.2.2.2.2.2.2.2.2.2.2.1
  let a14 := p.2.2.2.2.2.2.2.2.2.2.2.2.2.2.1
  let a15 := p.2.2.2.2.2.2.2.2.2.2.2.2.2.2.2.1
  let a16 := p.2.2.2.2.2.2.2.2.2.2.2.2.2.2.2.2
  some ((a0 == a7), a6, a7, a8, a9, a10, a11, a12, a13, a14, a15, a16)
def F_image_state_do_c2.ann : List (Nat × Ann) := []
def F_image_state_do_c2.sig : Sig := ⟨[.val true [.int .i64, .str, .str, .int .u32, .int .i64, .int .u64], .box [.int .u8, .int .i64, .str, .str, .int .u32, .int .i64, .int .u64, .str, .int .u8, .int .i64, .bool]], [(false, [.dat .bool])]⟩
noncomputable def F_image_state_do_c2.S : Summ := ⟨85, F_image_state_do_c2.sig, F_image_state_do_c2⟩
noncomputable def F_image_state_do_c2.G : List Summ := []
theorem F_image_state_do_c2.eq : absF Try.prog F_image_state_do_c2.G F_image_state_do_c2.ann F_image_state_do_c2.sig Try.f85 = F_image_state_do_c2 := by kernel_rfl
theorem F_image_state_do_c2.sound : Sound Try.prog F_image_state_do_c2.S := absF_sound (fn := Try.f85) (Γ := F_image_state_do_c2.G) all_nil mix (by kernel_rfl) (by kernel_rfl) (fun m p => congrFun (congrFun F_image_state_do_c2.eq m) p)
/-! ### cloakroom/image.Apply -/
noncomputable def F_image_Apply.i26s212 (_ : Fu) (x12 : Int × Int × (List Int) × (List (Int × (List Int) × (List Int) × Int × Int × Int)) × Int × Int × Bool × (List Bool) × (List ((Int × (List Int)) × Int)) × Int) (x14 : Int × Int × ((List Int) × (List Int) × Int × Int × Int) × (List Int) × Int × Int × Bool) : Option (Int ⊕ Unit) :=
  bif decide (x14.2.2.2.2.2.1 < x12.2.1) then
    some (Sum.inl (2 : Int))
  else some (Sum.inr ())
noncomputable def F_image_Apply.i27s50 (_ : Fu) (x22 : Bool) : Option (Unit ⊕ Unit) :=
  bif x22 then
    some (Sum.inl ())
  else some (Sum.inr ())
noncomputable def F_image_Apply.i27s818 (m : Fu) (x21 : Int × Int × (List Int) × Int × Int × Bool × (List Bool) × (List ((Int × (List Int)) × Int)) × Int × Int × Int × (List Int) × (List Int) × Int × Int × Int × (List Int) × Int × Int × Bool) (x25 : Int × (List Int) × (List Int) × Int × Int × Int) : Option ((Bool × Int × Int × (List Int) × (List Int) × Int × Int × Int × (List Int) × Int × Int × Bool)) :=
  bif (decide ((0 : Int) ≤ x21.1)) && (decide (x21.1 < (x21.2.2.2.2.2.2.1.length : Int))) then
    bif Nat.blt x21.1.toNat x21.2.2.2.2.2.2.1.length then
      bif !(x21.2.2.2.2.2.2.1.getD x21.1.toNat false) then
        (F_image_state_do_c1 m (x25.1, x25.2.1, x25.2.2.1, x25.2.2.2.1, x25.2.2.2.2.1, x25.2.2.2.2.2, x21.2.2.2.2.2.2.2.2.2)).bind fun x28 =>
        some x28
      else some (false, x21.2.2.2.2.2.2.2.2.2)
    else none
  else none
noncomputable def F_image_Apply.i30s1 (_ : Fu) (x21 : Int × Int × (List Int) × Int × Int × Bool × (List Bool) × (List ((Int × (List Int)) × Int)) × Int × Int × Int × (List Int) × (List Int) × Int × Int × Int × (List Int) × Int × Int × Bool) (x25 : Int × (List Int) × (List Int) × Int × Int × Int) : Option ((Int × (List Int) × Int × Int × Bool × (List Bool) × (List ((Int × (List Int)) × Int)) × Int)) :=
  let x30 := mget (keyEq (.pr (.int .i64) .str)) x21.2.2.2.2.2.2.2.1 (x25.1, x25.2.1)
  bif x30.isSome then
    bif (decide ((0 : Int) ≤ (x30.getD 0))) && (decide ((x30.getD 0) < (x21.2.2.2.2.2.2.1.length : Int))) then
      bif Nat.blt ((x30.getD 0).toNat) x21.2.2.2.2.2.2.1.length then
        some (x21.2.1, x21.2.2.1, x21.2.2.2.1, x21.2.2.2.2.1, x21.2.2.2.2.2.1, (x21.2.2.2.2.2.2.1.set ((x30.getD 0).toNat) true), (mdel (keyEq (.pr (.int .i64) .str)) x21.2.2.2.2.2.2.2.1 (x25.1, x25.2.1)), (IntKind.i64.wrap (x21.2.2.2.2.2.2.2.2.1 - (1 : Int))))
      else none
    else none
  else some (x21.2.1, x21.2.2.1, x21.2.2.2.1, x21.2.2.2.2.1, x21.2.2.2.2.2.1, x21.2.2.2.2.2.2.1, x21.2.2.2.2.2.2.2.1, x21.2.2.2.2.2.2.2.2.1)
noncomputable def F_image_Apply.i27l6 (m : Fu) (x12 : Int × Int × (List Int) × (List (Int × (List Int) × (List Int) × Int × Int × Int)) × Int × Int × Bool × (List Bool) × (List ((Int × (List Int)) × Int)) × Int) (x20 : Int) (x21 : Int × Int × (List Int) × Int × Int × Bool × (List Bool) × (List ((Int × (List Int)) × Int)) × Int × Int × Int × (List Int) × (List Int) × Int × Int × Int × (List Int) × Int × Int × Bool) : Option (Step (Int × Int × (List Int) × Int × Int × Bool × (List Bool) × (List ((Int × (List Int)) × Int)) × Int × Int × Int × (List Int) × (List Int) × Int × Int × Int × (List Int) × Int × Int × Bool) ((Int × (List Int) × (List (Int × (List Int) × (List Int) × Int × Int × Int)) × Int × Int × Bool × (List Bool) × (List ((Int × (List Int)) × Int)) × Int))) :=
  (F_image_Apply.i27s50 m (decide (x21.1 < x20))).bind fun x23 =>
  match x23 with
  | .inl _ =>
    bif (decide ((0 : Int) ≤ x21.1)) && (decide (x21.1 < (x12.2.2.2.1.length : Int))) then
      bif Nat.blt x21.1.toNat x12.2.2.2.1.length then
        let x25 := x12.2.2.2.1.getD x21.1.toNat (0, ([], ([], (0, (0, 0)))))
        (F_image_Apply.i27s818 m x21 x25).bind fun x29 =>
        bif x29.1 then
          (F_image_Apply.i30s1 m x21 x25).bind fun x34 =>
          some (.next ((IntKind.i64.wrap (x21.1 + (1 : Int))), x34.1, x34.2.1, x34.2.2.1, x34.2.2.2.1, x34.2.2.2.2.1, x34.2.2.2.2.2.1, x34.2.2.2.2.2.2.1, x34.2.2.2.2.2.2.2, x29.2))
        else some (.next ((IntKind.i64.wrap (x21.1 + (1 : Int))), x21.2.1, x21.2.2.1, x21.2.2.2.1, x21.2.2.2.2.1, x21.2.2.2.2.2.1, x21.2.2.2.2.2.2.1, x21.2.2.2.2.2.2.2.1, x21.2.2.2.2.2.2.2.2.1, x29.2))
      else none
    else none
  | .inr _ =>
    some (.fin (x21.2.1, x21.2.2.1, x12.2.2.2.1, x21.2.2.2.1, x21.2.2.2.2.1, x21.2.2.2.2.2.1, x21.2.2.2.2.2.2.1, x21.2.2.2.2.2.2.2.1, x21.2.2.2.2.2.2.2.2.1))
noncomputable def F_image_Apply.i26s860 (_ : Fu) (x12 : Int × Int × (List Int) × (List (Int × (List Int) × (List Int) × Int × Int × Int)) × Int × Int × Bool × (List Bool) × (List ((Int × (List Int)) × Int)) × Int) (x14 : Int × Int × ((List Int) × (List Int) × Int × Int × Int) × (List Int) × Int × Int × Bool) : Option (Int ⊕ Unit) :=
  bif decide (x14.2.2.2.2.2.1 < x12.2.2.2.2.1) then
    some (Sum.inl (2 : Int))
  else some (Sum.inr ())
noncomputable def F_image_Apply.i26s6 (m : Fu) (x12 : Int × Int × (List Int) × (List (Int × (List Int) × (List Int) × Int × Int × Int)) × Int × Int × Bool × (List Bool) × (List ((Int × (List Int)) × Int)) × Int) (x14 : Int × Int × ((List Int) × (List Int) × Int × Int × Int) × (List Int) × Int × Int × Bool) : Option ((Int × Int × (List Int) × (List (Int × (List Int) × (List Int) × Int × Int × Int)) × Int × Int × Bool × (List Bool) × (List ((Int × (List Int)) × Int)) × Int) ⊕ Unit) :=
  bif x14.1 == (4 : Int) then
    (F_image_Apply.i26s212 m x12 x14).bind fun x17 =>
    match x17 with
    | .inl x18 =>
      some (Sum.inl (x18, x12.2))
    | .inr _ =>
      (iter m (F_image_Apply.i27l6 m x12 (x12.2.2.2.1.length : Int)) ((0 : Int), x14.2.2.2.2.2.1, x12.2.2.1, x12.2.2.2.2.1, x12.2.2.2.2.2.1, x12.2.2.2.2.2.2.1, x12.2.2.2.2.2.2.2.1, x12.2.2.2.2.2.2.2.2.1, x12.2.2.2.2.2.2.2.2.2, x14.1, x14.2.1, x14.2.2.1.1, x14.2.2.1.2.1, x14.2.2.1.2.2.1, x14.2.2.1.2.2.2.1, x14.2.2.1.2.2.2.2, x14.2.2.2)).bind fun x38 =>
      some (Sum.inl ((0 : Int), x38))
  else
    bif x14.1 == (6 : Int) then
      (F_image_Apply.i26s860 m x12 x14).bind fun x41 =>
      match x41 with
      | .inl x42 =>
        some (Sum.inl (x42, x12.2))
      | .inr _ =>
        some (Sum.inl ((0 : Int), x12.2.1, x12.2.2.1, x12.2.2.2.1, x14.2.2.2.2.2.1, x12.2.2.2.2.2.1, x14.2.2.2.2.2.2, x12.2.2.2.2.2.2.2))
    else
      bif x14.1 == (7 : Int) then
        some (Sum.inl ((0 : Int), x12.2.1, x12.2.2.1, x12.2.2.2.1, x12.2.2.2.2.1, x14.2.2.2.2.2.1, x12.2.2.2.2.2.2))
      else some (Sum.inr ())
noncomputable def F_image_Apply.i26s14 (_ : Fu) (x12 : Int × Int × (List Int) × (List (Int × (List Int) × (List Int) × Int × Int × Int)) × Int × Int × Bool × (List Bool) × (List ((Int × (List Int)) × Int)) × Int) (x14 : Int × Int × ((List Int) × (List Int) × Int × Int × Int) × (List Int) × Int × Int × Bool) : Option (Int ⊕ Unit) :=
  bif decide ((x12.2.2.1.length : Int) ≤ x14.2.1) then
    some (Sum.inl (2 : Int))
  else some (Sum.inr ())
noncomputable def F_image_Apply.i31s6 (m : Fu) (x14 : Int × Int × ((List Int) × (List Int) × Int × Int × Int) × (List Int) × Int × Int × Bool) : Option (Int ⊕ Unit) :=
  (F_image_size m x14.2.2.1).bind fun x54 =>
  bif decide ((256 : Int) < x54) then
    some (Sum.inl (2 : Int))
  else some (Sum.inr ())
noncomputable def F_image_Apply.i32s1 (_ : Fu) (x12 : Int × Int × (List Int) × (List (Int × (List Int) × (List Int) × Int × Int × Int)) × Int × Int × Bool × (List Bool) × (List ((Int × (List Int)) × Int)) × Int) (x14 : Int × Int × ((List Int) × (List Int) × Int × Int × Int) × (List Int) × Int × Int × Bool) : Option ((Int × (List Int) × (List (Int × (List Int) × (List Int) × Int × Int × Int)) × Int × Int × Bool × (List Bool) × (List ((Int × (List Int)) × Int)) × Int)) :=
  let x59 := mget (keyEq (.pr (.int .i64) .str)) x12.2.2.2.2.2.2.2.2.1 (x14.2.1, x14.2.2.1.1)
  bif x59.isSome then
    bif (decide ((0 : Int) ≤ (x59.getD 0))) && (decide ((x59.getD 0) < (x12.2.2.2.2.2.2.2.1.length : Int))) then
      bif Nat.blt ((x59.getD 0).toNat) x12.2.2.2.2.2.2.2.1.length then
        some (x12.2.1, x12.2.2.1, x12.2.2.2.1, x12.2.2.2.2.1, x12.2.2.2.2.2.1, x12.2.2.2.2.2.2.1, (x12.2.2.2.2.2.2.2.1.set ((x59.getD 0).toNat) true), (mdel (keyEq (.pr (.int .i64) .str)) x12.2.2.2.2.2.2.2.2.1 (x14.2.1, x14.2.2.1.1)), (IntKind.i64.wrap (x12.2.2.2.2.2.2.2.2.2 - (1 : Int))))
      else none
    else none
  else some x12.2
noncomputable def F_image_Apply.i31s62 (m : Fu) (x14 : Int × Int × ((List Int) × (List Int) × Int × Int × Int) × (List Int) × Int × Int × Bool) (x63 : (Int × (List Int) × (List (Int × (List Int) × (List Int) × Int × Int × Int)) × Int × Int × Bool × (List Bool) × (List ((Int × (List Int)) × Int)) × Int)) : Option (Int ⊕ Unit) :=
  (F_image_due m (x14.2.2.1.1, x14.2.2.1.2.1, x14.2.2.1.2.2.1, x14.2.2.1.2.2.2.1, x14.2.2.1.2.2.2.2, x63.1)).bind fun x64 =>
  bif x64 then
    some (Sum.inl (0 : Int))
  else some (Sum.inr ())
noncomputable def F_image_Apply.i31s126 (_ : Fu) (x63 : (Int × (List Int) × (List (Int × (List Int) × (List Int) × Int × Int × Int)) × Int × Int × Bool × (List Bool) × (List ((Int × (List Int)) × Int)) × Int)) : Option (Int ⊕ Unit) :=
  bif x63.2.2.2.2.2.2.2.2 == (1024 : Int) then
    some (Sum.inl (9 : Int))
  else some (Sum.inr ())
noncomputable def F_image_Apply.i31s1 (m : Fu) (x12 : Int × Int × (List Int) × (List (Int × (List Int) × (List Int) × Int × Int × Int)) × Int × Int × Bool × (List Bool) × (List ((Int × (List Int)) × Int)) × Int) (x14 : Int × Int × ((List Int) × (List Int) × Int × Int × Int) × (List Int) × Int × Int × Bool) : Option ((Int × Int × (List Int) × (List (Int × (List Int) × (List Int) × Int × Int × Int)) × Int × Int × Bool × (List Bool) × (List ((Int × (List Int)) × Int)) × Int)) :=
  (F_image_Apply.i31s6 m x14).bind fun x56 =>
  match x56 with
  | .inl x57 =>
    some (x57, x12.2)
  | .inr _ =>
    (F_image_Apply.i32s1 m x12 x14).bind fun x63 =>
    (F_image_Apply.i31s62 m x14 x63).bind fun x65 =>
    match x65 with
    | .inl x66 =>
      some (x66, x63)
    | .inr _ =>
      (F_image_Apply.i31s126 m x63).bind fun x69 =>
      match x69 with
      | .inl x70 =>
        some (x70, x63)
      | .inr _ =>
        bif Nat.blt x63.2.2.2.2.2.2.2.1.length 4294967296 then
          let x74 := [(x14.2.1, x14.2.2.1)]
          bif Nat.ble (x63.2.2.1.length + x74.length) 4294967296 then
            let x76 := [false]
            bif Nat.ble (x63.2.2.2.2.2.2.1.length + x76.length) 140737488351232 then
              some ((0 : Int), x63.1, x63.2.1, (x63.2.2.1 ++ x74), x63.2.2.2.1, x63.2.2.2.2.1, x63.2.2.2.2.2.1, (x63.2.2.2.2.2.2.1 ++ x76), (mset (keyEq (.pr (.int .i64) .str)) x63.2.2.2.2.2.2.2.1 (x14.2.1, x14.2.2.1.1) (x63.2.2.1.length : Int)), (IntKind.i64.wrap (x63.2.2.2.2.2.2.2.2 + (1 : Int))))
            else none
          else none
        else none
noncomputable def F_image_Apply.i33s1 (_ : Fu) (x12 : Int × Int × (List Int) × (List (Int × (List Int) × (List Int) × Int × Int × Int)) × Int × Int × Bool × (List Bool) × (List ((Int × (List Int)) × Int)) × Int) (x14 : Int × Int × ((List Int) × (List Int) × Int × Int × Int) × (List Int) × Int × Int × Bool) : Option ((Int × (List Int) × (List (Int × (List Int) × (List Int) × Int × Int × Int)) × Int × Int × Bool × (List Bool) × (List ((Int × (List Int)) × Int)) × Int)) :=
  let x81 := mget (keyEq (.pr (.int .i64) .str)) x12.2.2.2.2.2.2.2.2.1 (x14.2.1, x14.2.2.2.1)
  bif x81.isSome then
    bif (decide ((0 : Int) ≤ (x81.getD 0))) && (decide ((x81.getD 0) < (x12.2.2.2.2.2.2.2.1.length : Int))) then
      bif Nat.blt ((x81.getD 0).toNat) x12.2.2.2.2.2.2.2.1.length then
        some (x12.2.1, x12.2.2.1, x12.2.2.2.1, x12.2.2.2.2.1, x12.2.2.2.2.2.1, x12.2.2.2.2.2.2.1, (x12.2.2.2.2.2.2.2.1.set ((x81.getD 0).toNat) true), (mdel (keyEq (.pr (.int .i64) .str)) x12.2.2.2.2.2.2.2.2.1 (x14.2.1, x14.2.2.2.1)), (IntKind.i64.wrap (x12.2.2.2.2.2.2.2.2.2 - (1 : Int))))
      else none
    else none
  else some x12.2
noncomputable def F_image_Apply.i34s50 (_ : Fu) (x89 : Bool) : Option (Unit ⊕ Unit) :=
  bif x89 then
    some (Sum.inl ())
  else some (Sum.inr ())
noncomputable def F_image_Apply.i34s818 (m : Fu) (x88 : Int × Int × (List Int) × Int × Int × Bool × (List Bool) × (List ((Int × (List Int)) × Int)) × Int × Int × Int × (List Int) × (List Int) × Int × Int × Int × (List Int) × Int × Int × Bool) (x92 : Int × (List Int) × (List Int) × Int × Int × Int) : Option ((Bool × Int × Int × (List Int) × (List Int) × Int × Int × Int × (List Int) × Int × Int × Bool)) :=
  bif (decide ((0 : Int) ≤ x88.1)) && (decide (x88.1 < (x88.2.2.2.2.2.2.1.length : Int))) then
    bif Nat.blt x88.1.toNat x88.2.2.2.2.2.2.1.length then
      bif !(x88.2.2.2.2.2.2.1.getD x88.1.toNat false) then
        (F_image_state_do_c2 m (x92.1, x92.2.1, x92.2.2.1, x92.2.2.2.1, x92.2.2.2.2.1, x92.2.2.2.2.2, x88.2.2.2.2.2.2.2.2.2)).bind fun x95 =>
        some x95
      else some (false, x88.2.2.2.2.2.2.2.2.2)
    else none
  else none
noncomputable def F_image_Apply.i37s1 (_ : Fu) (x88 : Int × Int × (List Int) × Int × Int × Bool × (List Bool) × (List ((Int × (List Int)) × Int)) × Int × Int × Int × (List Int) × (List Int) × Int × Int × Int × (List Int) × Int × Int × Bool) (x92 : Int × (List Int) × (List Int) × Int × Int × Int) : Option ((Int × (List Int) × Int × Int × Bool × (List Bool) × (List ((Int × (List Int)) × Int)) × Int)) :=
  let x97 := mget (keyEq (.pr (.int .i64) .str)) x88.2.2.2.2.2.2.2.1 (x92.1, x92.2.1)
  bif x97.isSome then
    bif (decide ((0 : Int) ≤ (x97.getD 0))) && (decide ((x97.getD 0) < (x88.2.2.2.2.2.2.1.length : Int))) then
      bif Nat.blt ((x97.getD 0).toNat) x88.2.2.2.2.2.2.1.length then
        some (x88.2.1, x88.2.2.1, x88.2.2.2.1, x88.2.2.2.2.1, x88.2.2.2.2.2.1, (x88.2.2.2.2.2.2.1.set ((x97.getD 0).toNat) true), (mdel (keyEq (.pr (.int .i64) .str)) x88.2.2.2.2.2.2.2.1 (x92.1, x92.2.1)), (IntKind.i64.wrap (x88.2.2.2.2.2.2.2.2.1 - (1 : Int))))
      else none
    else none
  else some (x88.2.1, x88.2.2.1, x88.2.2.2.1, x88.2.2.2.2.1, x88.2.2.2.2.2.1, x88.2.2.2.2.2.2.1, x88.2.2.2.2.2.2.2.1, x88.2.2.2.2.2.2.2.2.1)
noncomputable def F_image_Apply.i34l6 (m : Fu) (x12 : Int × Int × (List Int) × (List (Int × (List Int) × (List Int) × Int × Int × Int)) × Int × Int × Bool × (List Bool) × (List ((Int × (List Int)) × Int)) × Int) (x87 : Int) (x88 : Int × Int × (List Int) × Int × Int × Bool × (List Bool) × (List ((Int × (List Int)) × Int)) × Int × Int × Int × (List Int) × (List Int) × Int × Int × Int × (List Int) × Int × Int × Bool) : Option (Step (Int × Int × (List Int) × Int × Int × Bool × (List Bool) × (List ((Int × (List Int)) × Int)) × Int × Int × Int × (List Int) × (List Int) × Int × Int × Int × (List Int) × Int × Int × Bool) ((Int × (List Int) × (List (Int × (List Int) × (List Int) × Int × Int × Int)) × Int × Int × Bool × (List Bool) × (List ((Int × (List Int)) × Int)) × Int))) :=
  (F_image_Apply.i34s50 m (decide (x88.1 < x87))).bind fun x90 =>
  match x90 with
  | .inl _ =>
    bif (decide ((0 : Int) ≤ x88.1)) && (decide (x88.1 < (x12.2.2.2.1.length : Int))) then
      bif Nat.blt x88.1.toNat x12.2.2.2.1.length then
        let x92 := x12.2.2.2.1.getD x88.1.toNat (0, ([], ([], (0, (0, 0)))))
        (F_image_Apply.i34s818 m x88 x92).bind fun x96 =>
        bif x96.1 then
          (F_image_Apply.i37s1 m x88 x92).bind fun x101 =>
          some (.next ((IntKind.i64.wrap (x88.1 + (1 : Int))), x101.1, x101.2.1, x101.2.2.1, x101.2.2.2.1, x101.2.2.2.2.1, x101.2.2.2.2.2.1, x101.2.2.2.2.2.2.1, x101.2.2.2.2.2.2.2, x96.2))
        else some (.next ((IntKind.i64.wrap (x88.1 + (1 : Int))), x88.2.1, x88.2.2.1, x88.2.2.2.1, x88.2.2.2.2.1, x88.2.2.2.2.2.1, x88.2.2.2.2.2.2.1, x88.2.2.2.2.2.2.2.1, x88.2.2.2.2.2.2.2.2.1, x96.2))
      else none
    else none
  | .inr _ =>
    some (.fin (x88.2.1, x88.2.2.1, x12.2.2.2.1, x88.2.2.2.1, x88.2.2.2.2.1, x88.2.2.2.2.2.1, x88.2.2.2.2.2.2.1, x88.2.2.2.2.2.2.2.1, x88.2.2.2.2.2.2.2.2.1))
noncomputable def F_image_Apply.i26s1 (m : Fu) (x12 : Int × Int × (List Int) × (List (Int × (List Int) × (List Int) × Int × Int × Int)) × Int × Int × Bool × (List Bool) × (List ((Int × (List Int)) × Int)) × Int) (x14 : Int × Int × ((List Int) × (List Int) × Int × Int × Int) × (List Int) × Int × Int × Bool) : Option ((Int × Int × (List Int) × (List (Int × (List Int) × (List Int) × Int × Int × Int)) × Int × Int × Bool × (List Bool) × (List ((Int × (List Int)) × Int)) × Int)) :=
  (F_image_Apply.i26s6 m x12 x14).bind fun x45 =>
  match x45 with
  | .inl x46 =>
    some x46
  | .inr _ =>
    (F_image_Apply.i26s14 m x12 x14).bind fun x50 =>
    match x50 with
    | .inl x51 =>
      some (x51, x12.2)
    | .inr _ =>
      bif x14.1 == (1 : Int) then
        (F_image_Apply.i31s1 m x12 x14).bind fun x79 =>
        some x79
      else
        bif x14.1 == (2 : Int) then
          (F_image_Apply.i33s1 m x12 x14).bind fun x85 =>
          some ((0 : Int), x85)
        else
          bif x14.1 == (3 : Int) then
            (iter m (F_image_Apply.i34l6 m x12 (x12.2.2.2.1.length : Int)) ((0 : Int), x12.2.1, x12.2.2.1, x12.2.2.2.2.1, x12.2.2.2.2.2.1, x12.2.2.2.2.2.2.1, x12.2.2.2.2.2.2.2.1, x12.2.2.2.2.2.2.2.2.1, x12.2.2.2.2.2.2.2.2.2, x14.1, x14.2.1, x14.2.2.1.1, x14.2.2.1.2.1, x14.2.2.1.2.2.1, x14.2.2.1.2.2.2.1, x14.2.2.1.2.2.2.2, x14.2.2.2)).bind fun x105 =>
            some ((0 : Int), x105)
          else
            bif x14.1 == (5 : Int) then
              bif (decide ((0 : Int) ≤ x14.2.1)) && (decide (x14.2.1 < (x12.2.2.1.length : Int))) then
                bif Nat.blt x14.2.1.toNat x12.2.2.1.length then
                  some ((0 : Int), x12.2.1, (x12.2.2.1.set x14.2.1.toNat x14.2.2.2.2.2.1), x12.2.2.2)
                else none
              else none
            else some ((0 : Int), x12.2)
noncomputable def F_image_Apply.l250 (m : Fu) (a6 : List (Int × Int × ((List Int) × (List Int) × Int × Int × Int) × (List Int) × Int × Int × Bool)) (x11 : Int) (x12 : Int × Int × (List Int) × (List (Int × (List Int) × (List Int) × Int × Int × Int)) × Int × Int × Bool × (List Bool) × (List ((Int × (List Int)) × Int)) × Int) : Option (Step (Int × Int × (List Int) × (List (Int × (List Int) × (List Int) × Int × Int × Int)) × Int × Int × Bool × (List Bool) × (List ((Int × (List Int)) × Int)) × Int) ((Int × Int × Int × Int × Bool) ⊕ (Int × (List Int) × (List (Int × (List Int) × (List Int) × Int × Int × Int)) × Int × Int × Bool × (List Bool) × (List ((Int × (List Int)) × Int)) × Int))) :=
  bif decide (x12.1 < x11) then
    bif (decide ((0 : Int) ≤ x12.1)) && (decide (x12.1 < (a6.length : Int))) then
      (F_image_Apply.i26s1 m x12 (a6.getD x12.1.toNat (0, (0, (([], ([], (0, (0, 0)))), ([], (0, (0, false)))))))).bind fun x108 =>
      bif x108.1 != (0 : Int) then
        some (.fin (Sum.inl (x108.1, (0 : Int), (0 : Int), (0 : Int), false)))
      else some (.next ((IntKind.i64.wrap (x12.1 + (1 : Int))), x108.2))
    else none
  else some (.fin (Sum.inr x12.2))
noncomputable def F_image_Apply.i38s466 (_ : Fu) (x116 : Bool) : Option (Unit ⊕ Unit) :=
  bif x116 then
    some (Sum.inl ())
  else some (Sum.inr ())
noncomputable def F_image_Apply.i38l58 (m : Fu) (x113 : Int × (List Int) × (List (Int × (List Int) × (List Int) × Int × Int × Int)) × Int × Int × Bool × (List Bool) × (List ((Int × (List Int)) × Int)) × Int) (x114 : Int) (x115 : (List (Int × (List Int) × (List Int) × Int × Int × Int)) × Int) : Option (Step ((List (Int × (List Int) × (List Int) × Int × Int × Int)) × Int) ((List (Int × (List Int) × (List Int) × Int × Int × Int)))) :=
  (F_image_Apply.i38s466 m (decide (x115.2 < x114))).bind fun x117 =>
  match x117 with
  | .inl _ =>
    bif (decide ((0 : Int) ≤ x115.2)) && (decide (x115.2 < (x113.2.2.1.length : Int))) then
      bif Nat.blt x115.2.toNat x113.2.2.1.length then
        bif (decide ((0 : Int) ≤ x115.2)) && (decide (x115.2 < (x113.2.2.2.2.2.2.1.length : Int))) then
          bif Nat.blt x115.2.toNat x113.2.2.2.2.2.2.1.length then
            bif !(x113.2.2.2.2.2.2.1.getD x115.2.toNat false) then
              let x122 := [(x113.2.2.1.getD x115.2.toNat (0, ([], ([], (0, (0, 0))))))]
              bif Nat.ble (x115.1.length + x122.length) 4294967296 then
                some (.next ((x115.1 ++ x122), (IntKind.i64.wrap (x115.2 + (1 : Int)))))
              else none
            else some (.next (x115.1, (IntKind.i64.wrap (x115.2 + (1 : Int)))))
          else none
        else none
      else none
    else none
  | .inr _ =>
    some (.fin x115.1)
noncomputable def F_image_Apply (m : Fu) (p : Int × (List Int) × (List (Int × (List Int) × (List Int) × Int × Int × Int)) × Int × Int × Bool × (List (Int × Int × ((List Int) × (List Int) × Int × Int × Int) × (List Int) × Int × Int × Bool))) : Option (Int × (List Int) × (List (Int × (List Int) × (List Int) × Int × Int × Int)) × Int × Int × Bool × Int) :=
  let a0 := p.1
  let a1 := p.2.1
  let a2 := p.2.2.1
  let a3 := p.2.2.2.1
  let a4 := p.2.2.2.2.1
  let a5 := p.2.2.2.2.2.1
  let a6 := p.2.2.2.2.2.2
  (F_image_Check m (a0, a1, a2, a3, a4, a5)).bind fun x1 =>
  bif x1 != (0 : Int) then some ((0 : Int), ([] : List Int), ([] : List (Int × (List Int) × (List Int) × Int × Int × Int)), (0 : Int), (0 : Int), false, x1) else
  (F_code_Changes m a6).bind fun x3 =>
  bif x3.2 != (0 : Int) then some ((0 : Int), ([] : List Int), ([] : List (Int × (List Int) × (List Int) × Int × Int × Int)), (0 : Int), (0 : Int), false, x3.2) else
  (C_slices_Clone_int m a1).bind fun x5 =>
  (C_slices_Clone_Kept m a2).bind fun x6 =>
  let x7 := (x6.length : Int)
  bif ((decide ((0 : Int) ≤ x7)) && (decide (x7 ≤ x7))) && (decide (x7 ≤ (4294967296 : Int))) then
    (F_image_places m x6).bind fun x9 =>
    (iter m (F_image_Apply.l250 m a6 (a6.length : Int)) ((0 : Int), a0, x5, x6, a3, a4, a5, (List.replicate x7.toNat false), x9, (x6.length : Int))).bind fun x111 =>
    match x111 with
    | .inl x112 =>
      some (x112.2.1, ([] : List Int), ([] : List (Int × (List Int) × (List Int) × Int × Int × Int)), x112.2.2.1, x112.2.2.2.1, x112.2.2.2.2, x112.1)
    | .inr x113 =>
      (iter m (F_image_Apply.i38l58 m x113 (x113.2.2.1.length : Int)) (([] : List (Int × (List Int) × (List Int) × Int × Int × Int)), (0 : Int))).bind fun x127 =>
      some (x113.1, x113.2.1, x127, x113.2.2.2.1, x113.2.2.2.2.1, x113.2.2.2.2.2.1, (0 : Int))
  else none
def F_image_Apply.ann : List (Nat × Ann) := [(30, .inl [(1, [])]),
  (126, .inl [(1, [(58, .loop ⟨[(3, false, [.own (.pr (.int .i64) (.pr .str (.pr .str (.pr (.int .u32) (.pr (.int .i64) (.int .u64)))))) 964 .wr]), (12, false, [.dat (.int .i64)])], [], [], [], 965⟩ [(.exit 0, ⟨[(3, false, [.own (.pr (.int .i64) (.pr .str (.pr .str (.pr (.int .u32) (.pr (.int .i64) (.int .u64)))))) 964 .wr])], [], [], [], 965⟩)]), (466, .jnt [(.normal, ⟨[], [], [], [], 981⟩), (.exit 0, ⟨[], [], [], [], 981⟩)])])]),
  (250, .loop ⟨[(32, false, [.dat (.int .i64)])], [(704, [.dat (.int .i64), .own (.int .i64) 800 .wr, .own (.pr (.int .i64) (.pr .str (.pr .str (.pr (.int .u32) (.pr (.int .i64) (.int .u64)))))) 801 .wr, .dat (.int .i64), .dat (.int .i64), .dat .bool, .own .bool 802 .wr, .own (.pr (.pr (.int .i64) .str) (.int .i64)) 803 (.mp true false), .dat (.int .i64)])], [], [384, 432, 576, 624], 804⟩ [(.ret, ⟨[(5, false, [.dat (.int .i64)])], [(48, [.dat (.int .i64), .cst .nils, .cst .nils, .dat (.int .i64), .dat (.int .i64), .dat .bool])], [], [384, 432, 576, 624, 704], 800⟩), (.exit 0, ⟨[], [(704, [.dat (.int .i64), .own (.int .i64) 800 .wr, .own (.pr (.int .i64) (.pr .str (.pr .str (.pr (.int .u32) (.pr (.int .i64) (.int .u64)))))) 801 .wr, .dat (.int .i64), .dat (.int .i64), .dat .bool, .own .bool 802 .wr, .own (.pr (.pr (.int .i64) .str) (.int .i64)) 803 (.mp true false), .dat (.int .i64)])], [], [384, 432, 576, 624], 804⟩)]),
  (32050, .inl [(2, [(1, .jnt [(.ret, ⟨[(4, false, [.dat (.int .i64)])], [(704, [.dat (.int .i64), .own (.int .i64) 916 .wr, .own (.pr (.int .i64) (.pr .str (.pr .str (.pr (.int .u32) (.pr (.int .i64) (.int .u64)))))) 917 .wr, .dat (.int .i64), .dat (.int .i64), .dat .bool, .own .bool 918 .wr, .own (.pr (.pr (.int .i64) .str) (.int .i64)) 919 (.mp true false), .dat (.int .i64)])], [], [800, 801, 802, 803], 920⟩)]), (6, .jnt [(.ret, ⟨[(4, false, [.dat (.int .i64)])], [(704, [.dat (.int .i64), .own (.int .i64) 948 .wr, .own (.pr (.int .i64) (.pr .str (.pr .str (.pr (.int .u32) (.pr (.int .i64) (.int .u64)))))) 949 .wr, .dat (.int .i64), .dat (.int .i64), .dat .bool, .own .bool 950 .wr, .own (.pr (.pr (.int .i64) .str) (.int .i64)) 951 (.mp true false), .dat (.int .i64)])], [], [800, 801, 802, 803, 916], 952⟩), (.normal, ⟨[], [], [], [], 948⟩)]), (14, .jnt [(.ret, ⟨[(4, false, [.dat (.int .i64)])], [], [], [], 948⟩), (.normal, ⟨[], [], [], [], 948⟩)]), (212, .jnt [(.ret, ⟨[(4, false, [.dat (.int .i64)])], [], [], [], 1012⟩), (.normal, ⟨[], [], [], [], 1012⟩)]), (854, .inl [(2, [(6, .loop ⟨[(12, false, [.dat (.int .i64)])], [(704, [.dat (.int .i64), .own (.int .i64) 1268 .wr, .cst (.own (.pr (.int .i64) (.pr .str (.pr .str (.pr (.int .u32) (.pr (.int .i64) (.int .u64)))))) 801), .dat (.int .i64), .dat (.int .i64), .dat .bool, .own .bool 1269 .wr, .own (.pr (.pr (.int .i64) .str) (.int .i64)) 1270 (.mp true false), .dat (.int .i64)]), (916, [.dat (.int .u8), .dat (.int .i64), .dat .str, .dat .str, .dat (.int .u32), .dat (.int .i64), .dat (.int .u64), .dat .str, .dat (.int .u8), .dat (.int .i64), .dat .bool])], [], [800, 802, 803], 1271⟩ [(.exit 0, ⟨[], [(704, [.dat (.int .i64), .own (.int .i64) 1268 .wr, .own (.pr (.int .i64) (.pr .str (.pr .str (.pr (.int .u32) (.pr (.int .i64) (.int .u64)))))) 1269 .wr, .dat (.int .i64), .dat (.int .i64), .dat .bool, .own .bool 1270 .wr, .own (.pr (.pr (.int .i64) .str) (.int .i64)) 1271 (.mp true false), .dat (.int .i64)])], [], [800, 801, 802, 803, 916], 1272⟩)]), (50, .jnt [(.normal, ⟨[], [], [], [], 1287⟩), (.exit 0, ⟨[], [], [], [], 1287⟩)]), (818, .jnt [(.normal, ⟨[(29, false, [.dat .bool])], [(916, [.dat (.int .u8), .dat (.int .i64), .dat .str, .dat .str, .dat (.int .u32), .dat (.int .i64), .dat (.int .u64), .dat .str, .dat (.int .u8), .dat (.int .i64), .dat .bool])], [], [], 1383⟩)]), (1638, .inl [(7, [(1, .jnt [(.normal, ⟨[], [(704, [.dat (.int .i64), .own (.int .i64) 1495 .wr, .cst (.own (.pr (.int .i64) (.pr .str (.pr .str (.pr (.int .u32) (.pr (.int .i64) (.int .u64)))))) 801), .dat (.int .i64), .dat (.int .i64), .dat .bool, .own .bool 1496 .wr, .own (.pr (.pr (.int .i64) .str) (.int .i64)) 1497 (.mp true false), .dat (.int .i64)])], [], [1268, 1269, 1270], 1498⟩)])])])])]), (860, .jnt [(.ret, ⟨[(4, false, [.dat (.int .i64)])], [], [], [], 1044⟩), (.normal, ⟨[], [], [], [], 1044⟩)]), (980, .inl [(5, [(1, .jnt [(.ret, ⟨[(6, false, [.dat (.int .i64)])], [(704, [.dat (.int .i64), .own (.int .i64) 1092 .wr, .own (.pr (.int .i64) (.pr .str (.pr .str (.pr (.int .u32) (.pr (.int .i64) (.int .u64)))))) 1093 .wr, .dat (.int .i64), .dat (.int .i64), .dat .bool, .own .bool 1094 .wr, .own (.pr (.pr (.int .i64) .str) (.int .i64)) 1095 (.mp true false), .dat (.int .i64)])], [], [800, 801, 802, 803], 1096⟩)]), (6, .jnt [(.ret, ⟨[(6, false, [.dat (.int .i64)])], [], [], [], 1124⟩), (.normal, ⟨[], [], [], [], 1124⟩)]), (30, .inl [(2, [(1, .jnt [(.normal, ⟨[], [(704, [.dat (.int .i64), .own (.int .i64) 1252 .wr, .own (.pr (.int .i64) (.pr .str (.pr .str (.pr (.int .u32) (.pr (.int .i64) (.int .u64)))))) 1253 .wr, .dat (.int .i64), .dat (.int .i64), .dat .bool, .own .bool 1254 .wr, .own (.pr (.pr (.int .i64) .str) (.int .i64)) 1255 (.mp true false), .dat (.int .i64)])], [], [800, 801, 802, 803], 1256⟩)])])]), (62, .jnt [(.ret, ⟨[(6, false, [.dat (.int .i64)])], [], [], [], 1256⟩), (.normal, ⟨[], [], [], [], 1256⟩)]), (126, .jnt [(.ret, ⟨[(6, false, [.dat (.int .i64)])], [], [], [], 1256⟩), (.normal, ⟨[], [], [], [], 1256⟩)])])]), (1966, .inl [(6, [(1, .jnt [(.normal, ⟨[], [(704, [.dat (.int .i64), .own (.int .i64) 1140 .wr, .own (.pr (.int .i64) (.pr .str (.pr .str (.pr (.int .u32) (.pr (.int .i64) (.int .u64)))))) 1141 .wr, .dat (.int .i64), .dat (.int .i64), .dat .bool, .own .bool 1142 .wr, .own (.pr (.pr (.int .i64) .str) (.int .i64)) 1143 (.mp true false), .dat (.int .i64)])], [], [800, 801, 802, 803], 1144⟩)])])]), (7870, .inl [(2, [(6, .loop ⟨[(12, false, [.dat (.int .i64)])], [(704, [.dat (.int .i64), .own (.int .i64) 1220 .wr, .cst (.own (.pr (.int .i64) (.pr .str (.pr .str (.pr (.int .u32) (.pr (.int .i64) (.int .u64)))))) 801), .dat (.int .i64), .dat (.int .i64), .dat .bool, .own .bool 1221 .wr, .own (.pr (.pr (.int .i64) .str) (.int .i64)) 1222 (.mp true false), .dat (.int .i64)]), (916, [.dat (.int .u8), .dat (.int .i64), .dat .str, .dat .str, .dat (.int .u32), .dat (.int .i64), .dat (.int .u64), .dat .str, .dat (.int .u8), .dat (.int .i64), .dat .bool])], [], [800, 802, 803], 1223⟩ [(.exit 0, ⟨[], [(704, [.dat (.int .i64), .own (.int .i64) 1220 .wr, .own (.pr (.int .i64) (.pr .str (.pr .str (.pr (.int .u32) (.pr (.int .i64) (.int .u64)))))) 1221 .wr, .dat (.int .i64), .dat (.int .i64), .dat .bool, .own .bool 1222 .wr, .own (.pr (.pr (.int .i64) .str) (.int .i64)) 1223 (.mp true false), .dat (.int .i64)])], [], [800, 801, 802, 803, 916], 1224⟩)]), (50, .jnt [(.normal, ⟨[], [], [], [], 1239⟩), (.exit 0, ⟨[], [], [], [], 1239⟩)]), (818, .jnt [(.normal, ⟨[(29, false, [.dat .bool])], [(916, [.dat (.int .u8), .dat (.int .i64), .dat .str, .dat .str, .dat (.int .u32), .dat (.int .i64), .dat (.int .u64), .dat .str, .dat (.int .u8), .dat (.int .i64), .dat .bool])], [], [], 1335⟩)]), (1638, .inl [(7, [(1, .jnt [(.normal, ⟨[], [(704, [.dat (.int .i64), .own (.int .i64) 1447 .wr, .cst (.own (.pr (.int .i64) (.pr .str (.pr .str (.pr (.int .u32) (.pr (.int .i64) (.int .u64)))))) 801), .dat (.int .i64), .dat (.int .i64), .dat .bool, .own .bool 1448 .wr, .own (.pr (.pr (.int .i64) .str) (.int .i64)) 1449 (.mp true false), .dat (.int .i64)])], [], [1220, 1221, 1222], 1450⟩)])])])])])])])]
def F_image_Apply.sig : Sig := ⟨[.val true [.int .i64, .sl (.int .i64), .sl (.pr (.int .i64) (.pr .str (.pr .str (.pr (.int .u32) (.pr (.int .i64) (.int .u64)))))), .int .i64, .int .i64, .bool], .val false [.sl (.pr (.int .u8) (.pr (.int .i64) (.pr (.pr .str (.pr .str (.pr (.int .u32) (.pr (.int .i64) (.int .u64))))) (.pr .str (.pr (.int .u8) (.pr (.int .i64) .bool))))))]], [(true, [.dat (.int .i64), .own (.int .i64) 0 .wr, .own (.pr (.int .i64) (.pr .str (.pr .str (.pr (.int .u32) (.pr (.int .i64) (.int .u64)))))) 0 .wr, .dat (.int .i64), .dat (.int .i64), .dat .bool]), (false, [.dat (.int .i64)])]⟩
noncomputable def F_image_Apply.S : Summ := ⟨22, F_image_Apply.sig, F_image_Apply⟩
noncomputable def F_image_Apply.G : List Summ := [F_image_Check.S, F_code_Changes.S, C_slices_Clone_int.S, C_slices_Clone_Kept.S, F_image_places.S, F_image_state_do_c1.S, F_image_size.S, F_image_due.S, F_image_state_do_c2.S]
theorem F_image_Apply.eq : absF Try.prog F_image_Apply.G F_image_Apply.ann F_image_Apply.sig Try.f22 = F_image_Apply := by kernel_rfl
theorem F_image_Apply.sound : Sound Try.prog F_image_Apply.S := absF_sound (fn := Try.f22) (Γ := F_image_Apply.G) (all_cons F_image_Check.sound (all_cons F_code_Changes.sound (all_cons C_slices_Clone_int.sound (all_cons C_slices_Clone_Kept.sound (all_cons F_image_places.sound (all_cons F_image_state_do_c1.sound (all_cons F_image_size.sound (all_cons F_image_due.sound (all_cons F_image_state_do_c2.sound all_nil))))))))) mix (by kernel_rfl) (by kernel_rfl) (fun m p => congrFun (congrFun F_image_Apply.eq m) p)
/-! ### cloakroom/cloakroomref01.bare -/
noncomputable def F_ref01_bare.s14 (_ : Fu) (a0 : Int) (a1 : Int) (a2 : List Int) (a3 : List Int) (a4 : Int) (a5 : Int) (a6 : Int) (a7 : List Int) (a8 : Int) (a9 : Int) (a10 : Bool) : Option ((Int × Int × (List Int) × (List Int) × Int × Int × Int × (List Int) × Int × Int × Bool)) :=
  bif a0 == (1 : Int) then some (a0, a1, a2, a3, a4, a5, a6, ([] : List Int), (0 : Int), (0 : Int), false) else
  bif a0 == (2 : Int) then some (a0, a1, ([] : List Int), ([] : List Int), (0 : Int), (0 : Int), (0 : Int), a7, a8, (0 : Int), false) else
  bif a0 == (3 : Int) then some (a0, a1, ([] : List Int), ([] : List Int), (0 : Int), (0 : Int), (0 : Int), ([] : List Int), (0 : Int), (0 : Int), false) else
  bif a0 == (4 : Int) then some (a0, (0 : Int), ([] : List Int), ([] : List Int), (0 : Int), (0 : Int), (0 : Int), ([] : List Int), (0 : Int), a9, false) else
  bif a0 == (5 : Int) then some (a0, a1, ([] : List Int), ([] : List Int), (0 : Int), (0 : Int), (0 : Int), ([] : List Int), (0 : Int), a9, false) else
  bif a0 == (6 : Int) then some (a0, (0 : Int), ([] : List Int), ([] : List Int), (0 : Int), (0 : Int), (0 : Int), ([] : List Int), (0 : Int), a9, a10) else
  bif a0 == (7 : Int) then
    some (a0, (0 : Int), ([] : List Int), ([] : List Int), (0 : Int), (0 : Int), (0 : Int), ([] : List Int), (0 : Int), a9, false)
  else some (a0, (0 : Int), ([] : List Int), ([] : List Int), (0 : Int), (0 : Int), (0 : Int), ([] : List Int), (0 : Int), (0 : Int), false)
noncomputable def F_ref01_bare (m : Fu) (p : Int × Int × (List Int) × (List Int) × Int × Int × Int × (List Int) × Int × Int × Bool) : Option (Int × Int × (List Int) × (List Int) × Int × Int × Int × (List Int) × Int × Int × Bool) :=
  let a0 := p.1
  let a1 := p.2.1
  let a2 := p.2.2.1
  let a3 := p.2.2.2.1
  let a4 := p.2.2.2.2.1
  let a5 := p.2.2.2.2.2.1
  let a6 := p.2.2.2.2.2.2.1
  let a7 := p.2.2.2.2.2.2.2.1
  let a8 := p.2.2.2.2.2.2.2.2.1
  let a9 := p.2.2.2.2.2.2.2.2.2.1
  let a10 := p.2.2.2.2.2.2.2.2.2.2
  (F_ref01_bare.s14 m a0 a1 a2 a3 a4 a5 a6 a7 a8 a9 a10).bind fun x8 =>
  some x8
def F_ref01_bare.ann : List (Nat × Ann) := [(14, .jnt [(.normal, ⟨[], [(96, [.dat (.int .u8), .dat (.int .i64), .dat .str, .dat .str, .dat (.int .u32), .dat (.int .i64), .dat (.int .u64), .dat .str, .dat (.int .u8), .dat (.int .i64), .dat .bool])], [], [], 128⟩)])]
def F_ref01_bare.sig : Sig := ⟨[.val true [.int .u8, .int .i64, .str, .str, .int .u32, .int .i64, .int .u64, .str, .int .u8, .int .i64, .bool]], [(true, [.dat (.int .u8), .dat (.int .i64), .dat .str, .dat .str, .dat (.int .u32), .dat (.int .i64), .dat (.int .u64), .dat .str, .dat (.int .u8), .dat (.int .i64), .dat .bool])]⟩
noncomputable def F_ref01_bare.S : Summ := ⟨97, F_ref01_bare.sig, F_ref01_bare⟩
noncomputable def F_ref01_bare.G : List Summ := []
theorem F_ref01_bare.eq : absF Try.prog F_ref01_bare.G F_ref01_bare.ann F_ref01_bare.sig Try.f97 = F_ref01_bare := by kernel_rfl
theorem F_ref01_bare.sound : Sound Try.prog F_ref01_bare.S := absF_sound (fn := Try.f97) (Γ := F_ref01_bare.G) all_nil mix (by kernel_rfl) (by kernel_rfl) (fun m p => congrFun (congrFun F_ref01_bare.eq m) p)
/-! ### cloakroom/cloakroomref01.Tenant -/
noncomputable def F_ref01_Tenant (_ : Fu) (p : Int) : Option (Bool) :=
  let a0 := p
  bif decide ((0 : Int) ≤ a0) then
    some (decide (a0 < (4 : Int)))
  else some false
def F_ref01_Tenant.ann : List (Nat × Ann) := []
def F_ref01_Tenant.sig : Sig := ⟨[.val false [.int .i64]], [(false, [.dat .bool])]⟩
noncomputable def F_ref01_Tenant.S : Summ := ⟨98, F_ref01_Tenant.sig, F_ref01_Tenant⟩
noncomputable def F_ref01_Tenant.G : List Summ := []
theorem F_ref01_Tenant.eq : absF Try.prog F_ref01_Tenant.G F_ref01_Tenant.ann F_ref01_Tenant.sig Try.f98 = F_ref01_Tenant := by kernel_rfl
theorem F_ref01_Tenant.sound : Sound Try.prog F_ref01_Tenant.S := absF_sound (fn := Try.f98) (Γ := F_ref01_Tenant.G) all_nil mix (by kernel_rfl) (by kernel_rfl) (fun m p => congrFun (congrFun F_ref01_Tenant.eq m) p)
/-! ### cloakroom/cloakroomref01.Change -/
noncomputable def F_ref01_Change (m : Fu) (p : Int × Int × (List Int) × (List Int) × Int × Int × Int × (List Int) × Int × Int × Bool) : Option (Bool) :=
  let a0 := p.1
  let a1 := p.2.1
  let a2 := p.2.2.1
  let a3 := p.2.2.2.1
  let a4 := p.2.2.2.2.1
  let a5 := p.2.2.2.2.2.1
  let a6 := p.2.2.2.2.2.2.1
  let a7 := p.2.2.2.2.2.2.2.1
  let a8 := p.2.2.2.2.2.2.2.2.1
  let a9 := p.2.2.2.2.2.2.2.2.2.1
  let a10 := p.2.2.2.2.2.2.2.2.2.2
  (F_ref01_bare m (a0, a1, a2, a3, a4, a5, a6, a7, a8, a9, a10)).bind fun x1 =>
  bif !((x1.1 == a0) && ((x1.2.1 == a1) && (((x1.2.2.1 == a2) && ((x1.2.2.2.1 == a3) && ((x1.2.2.2.2.1 == a4) && ((x1.2.2.2.2.2.1 == a5) && ((x1.2.2.2.2.2.2.1 == a6) && true))))) && ((x1.2.2.2.2.2.2.2.1 == a7) && ((x1.2.2.2.2.2.2.2.2.1 == a8) && ((x1.2.2.2.2.2.2.2.2.2.1 == a9) && ((x1.2.2.2.2.2.2.2.2.2.2 == a10) && true))))))) then some false else
  (F_ref01_Tenant m a1).bind fun x3 =>
  bif !x3 then some false else
  bif a0 == (1 : Int) then
    (F_ref01_Item m (a2, a3, a4, a5, a6)).bind fun x6 =>
    some x6
  else
    bif a0 == (2 : Int) then
      (F_ref01_Key m a7).bind fun x8 =>
      bif x8 then
        bif a8 == (1 : Int) then
          some true
        else some (a8 == (2 : Int))
      else some false
    else
      bif a0 == (3 : Int) then some true else
      bif a0 == (4 : Int) then
        bif decide ((0 : Int) ≤ a9) then
          some (decide (a9 ≤ (1099511627776 : Int)))
        else some false
      else
        bif a0 == (5 : Int) then
          bif decide ((0 : Int) ≤ a9) then
            some (decide (a9 ≤ (16 : Int)))
          else some false
        else
          bif a0 == (6 : Int) then
            bif decide ((0 : Int) ≤ a9) then
              some (decide (a9 ≤ (2147483647 : Int)))
            else some false
          else
            bif a0 == (7 : Int) then
              bif decide ((0 : Int) ≤ a9) then
                some (decide (a9 ≤ (2147483647 : Int)))
              else some false
            else some false
def F_ref01_Change.ann : List (Nat × Ann) := []
def F_ref01_Change.sig : Sig := ⟨[.val true [.int .u8, .int .i64, .str, .str, .int .u32, .int .i64, .int .u64, .str, .int .u8, .int .i64, .bool]], [(false, [.dat .bool])]⟩
noncomputable def F_ref01_Change.S : Summ := ⟨89, F_ref01_Change.sig, F_ref01_Change⟩
noncomputable def F_ref01_Change.G : List Summ := [F_ref01_bare.S, F_ref01_Tenant.S, F_ref01_Item.S, F_ref01_Key.S]
theorem F_ref01_Change.eq : absF Try.prog F_ref01_Change.G F_ref01_Change.ann F_ref01_Change.sig Try.f89 = F_ref01_Change := by kernel_rfl
theorem F_ref01_Change.sound : Sound Try.prog F_ref01_Change.S := absF_sound (fn := Try.f89) (Γ := F_ref01_Change.G) (all_cons F_ref01_bare.sound (all_cons F_ref01_Tenant.sound (all_cons F_ref01_Item.sound (all_cons F_ref01_Key.sound all_nil)))) mix (by kernel_rfl) (by kernel_rfl) (fun m p => congrFun (congrFun F_ref01_Change.eq m) p)
/-! ### cloakroom/cloakroomref01.one -/
noncomputable def F_ref01_one (m : Fu) (p : Int × Int × (List Int) × (List Int) × Int × Int × Int × (List Int) × Int × Int × Bool) : Option (List Int) :=
  let a0 := p.1
  let a1 := p.2.1
  let a2 := p.2.2.1
  let a3 := p.2.2.2.1
  let a4 := p.2.2.2.2.1
  let a5 := p.2.2.2.2.2.1
  let a6 := p.2.2.2.2.2.2.1
  let a7 := p.2.2.2.2.2.2.2.1
  let a8 := p.2.2.2.2.2.2.2.2.1
  let a9 := p.2.2.2.2.2.2.2.2.2.1
  let a10 := p.2.2.2.2.2.2.2.2.2.2
  let x1 := [a0]
  bif a0 == (1 : Int) then
    (F_ref01_small m ([a1])).bind fun x4 =>
    bif Nat.ble (x1.length + x4.length) 140737488351232 then
      let x5 := x1 ++ x4
      (F_ref01_ItemBytes m (a2, a3, a4, a5, a6)).bind fun x6 =>
      bif Nat.ble (x5.length + x6.length) 140737488351232 then
        some (x5 ++ x6)
      else none
    else none
  else
    bif a0 == (2 : Int) then
      (F_ref01_small m ([a1])).bind fun x10 =>
      bif Nat.ble (x1.length + x10.length) 140737488351232 then
        let x11 := x1 ++ x10
        (F_ref01_Text m a7).bind fun x12 =>
        bif Nat.ble (x11.length + x12.length) 140737488351232 then
          let x13 := x11 ++ x12
          let x14 := [a8]
          bif Nat.ble (x13.length + x14.length) 140737488351232 then
            some (x13 ++ x14)
          else none
        else none
      else none
    else
      bif a0 == (3 : Int) then
        (F_ref01_small m ([a1])).bind fun x18 =>
        bif Nat.ble (x1.length + x18.length) 140737488351232 then
          some (x1 ++ x18)
        else none
      else
        bif a0 == (4 : Int) then
          (F_ref01_small m ([a9])).bind fun x22 =>
          bif Nat.ble (x1.length + x22.length) 140737488351232 then
            some (x1 ++ x22)
          else none
        else
          bif a0 == (5 : Int) then
            (F_ref01_small m ([a1, a9])).bind fun x26 =>
            bif Nat.ble (x1.length + x26.length) 140737488351232 then
              some (x1 ++ x26)
            else none
          else
            bif a0 == (7 : Int) then
              (F_ref01_small m ([a9])).bind fun x30 =>
              bif Nat.ble (x1.length + x30.length) 140737488351232 then
                some (x1 ++ x30)
              else none
            else
              bif a0 == (6 : Int) then
                (F_ref01_small m ([a9])).bind fun x34 =>
                bif Nat.ble (x1.length + x34.length) 140737488351232 then
                  let x35 := x1 ++ x34
                  bif a10 then
                    bif Nat.ble (x35.length + 1) 140737488351232 then
                      some (x35 ++ ([1] : List Int))
                    else none
                  else
                    bif Nat.ble (x35.length + 1) 140737488351232 then
                      some (x35 ++ ([0] : List Int))
                    else none
                else none
              else some x1
def F_ref01_one.ann : List (Nat × Ann) := []
def F_ref01_one.sig : Sig := ⟨[.val true [.int .u8, .int .i64, .str, .str, .int .u32, .int .i64, .int .u64, .str, .int .u8, .int .i64, .bool]], [(false, [.own (.int .u8) 0 .wr])]⟩
noncomputable def F_ref01_one.S : Summ := ⟨90, F_ref01_one.sig, F_ref01_one⟩
noncomputable def F_ref01_one.G : List Summ := [F_ref01_small.S, F_ref01_ItemBytes.S, F_ref01_Text.S]
theorem F_ref01_one.eq : absF Try.prog F_ref01_one.G F_ref01_one.ann F_ref01_one.sig Try.f90 = F_ref01_one := by kernel_rfl
theorem F_ref01_one.sound : Sound Try.prog F_ref01_one.S := absF_sound (fn := Try.f90) (Γ := F_ref01_one.G) (all_cons F_ref01_small.sound (all_cons F_ref01_ItemBytes.sound (all_cons F_ref01_Text.sound all_nil))) mix (by kernel_rfl) (by kernel_rfl) (fun m p => congrFun (congrFun F_ref01_one.eq m) p)
/-! ### cloakroom/cloakroomref01.Changes -/
noncomputable def F_ref01_Changes.l122 (m : Fu) (a0 : List (Int × Int × ((List Int) × (List Int) × Int × Int × Int) × (List Int) × Int × Int × Bool)) (x6 : Int) : Option (Step Int (Int ⊕ Unit)) :=
  bif decide (x6 < (a0.length : Int)) then
    bif (decide ((0 : Int) ≤ x6)) && (decide (x6 < (a0.length : Int))) then
      let x9 := a0.getD x6.toNat (0, (0, (([], ([], (0, (0, 0)))), ([], (0, (0, false))))))
      (F_ref01_Change m (x9.1, x9.2.1, x9.2.2.1.1, x9.2.2.1.2.1, x9.2.2.1.2.2.1, x9.2.2.1.2.2.2.1, x9.2.2.1.2.2.2.2, x9.2.2.2)).bind fun x10 =>
      bif !x10 then
        some (.fin (Sum.inl (8 : Int)))
      else some (.next (IntKind.i64.wrap (x6 + (1 : Int))))
    else none
  else some (.fin (Sum.inr ()))
noncomputable def F_ref01_Changes.s1000 (_ : Fu) (a0 : List (Int × Int × ((List Int) × (List Int) × Int × Int × Int) × (List Int) × Int × Int × Bool)) (x16 : (List Int) × Int) : Option (Unit ⊕ Unit) :=
  bif decide (x16.2 < (a0.length : Int)) then
    bif decide ((x16.1.length : Int) ≤ (65536 : Int)) then
      some (Sum.inl ())
    else some (Sum.inr ())
  else some (Sum.inr ())
noncomputable def F_ref01_Changes.l250 (m : Fu) (a0 : List (Int × Int × ((List Int) × (List Int) × Int × Int × Int) × (List Int) × Int × Int × Bool)) (x16 : (List Int) × Int) : Option (Step ((List Int) × Int) ((List Int))) :=
  (F_ref01_Changes.s1000 m a0 x16).bind fun x21 =>
  match x21 with
  | .inl _ =>
    bif (decide ((0 : Int) ≤ x16.2)) && (decide (x16.2 < (a0.length : Int))) then
      let x23 := a0.getD x16.2.toNat (0, (0, (([], ([], (0, (0, 0)))), ([], (0, (0, false))))))
      (F_ref01_one m (x23.1, x23.2.1, x23.2.2.1.1, x23.2.2.1.2.1, x23.2.2.1.2.2.1, x23.2.2.1.2.2.2.1, x23.2.2.1.2.2.2.2, x23.2.2.2)).bind fun x24 =>
      bif Nat.ble (x16.1.length + x24.length) 140737488351232 then
        some (.next ((x16.1 ++ x24), (IntKind.i64.wrap (x16.2 + (1 : Int)))))
      else none
    else none
  | .inr _ =>
    some (.fin x16.1)
noncomputable def F_ref01_Changes (m : Fu) (p : List (Int × Int × ((List Int) × (List Int) × Int × Int × Int) × (List Int) × Int × Int × Bool)) : Option ((List Int) × Int) :=
  let a0 := p
  bif decide ((4096 : Int) < (a0.length : Int)) then some (([] : List Int), (4 : Int)) else
  (F_ref01_small m ([(a0.length : Int)])).bind fun x5 =>
  (iter m (F_ref01_Changes.l122 m a0) (0 : Int)).bind fun x13 =>
  match x13 with
  | .inl x14 =>
    some (([] : List Int), x14)
  | .inr _ =>
    (iter m (F_ref01_Changes.l250 m a0) (x5, (0 : Int))).bind fun x28 =>
    bif decide ((65536 : Int) < (x28.length : Int)) then
      some (([] : List Int), (3 : Int))
    else some (x28, (0 : Int))
def F_ref01_Changes.ann : List (Nat × Ann) := [(122, .loop ⟨[(5, false, [.dat (.int .i64)])], [], [], [], 192⟩ [(.ret, ⟨[(2, false, [.cst .nils]), (3, false, [.dat (.int .i64)])], [], [], [], 192⟩), (.exit 0, ⟨[], [], [], [], 192⟩)]),
  (250, .loop ⟨[(4, false, [.own (.int .u8) 208 .wr]), (6, false, [.dat (.int .i64)])], [], [], [144], 209⟩ [(.exit 2, ⟨[(4, false, [.own (.int .u8) 208 .wr])], [], [], [144], 209⟩)]),
  (1000, .jnt [(.normal, ⟨[], [], [], [], 209⟩), (.exit 2, ⟨[], [], [], [], 209⟩)])]
def F_ref01_Changes.sig : Sig := ⟨[.val false [.sl (.pr (.int .u8) (.pr (.int .i64) (.pr (.pr .str (.pr .str (.pr (.int .u32) (.pr (.int .i64) (.int .u64))))) (.pr .str (.pr (.int .u8) (.pr (.int .i64) .bool))))))]], [(false, [.own (.int .u8) 0 .wr]), (false, [.dat (.int .i64)])]⟩
noncomputable def F_ref01_Changes.S : Summ := ⟨63, F_ref01_Changes.sig, F_ref01_Changes⟩
noncomputable def F_ref01_Changes.G : List Summ := [F_ref01_small.S, F_ref01_Change.S, F_ref01_one.S]
theorem F_ref01_Changes.eq : absF Try.prog F_ref01_Changes.G F_ref01_Changes.ann F_ref01_Changes.sig Try.f63 = F_ref01_Changes := by kernel_rfl
theorem F_ref01_Changes.sound : Sound Try.prog F_ref01_Changes.S := absF_sound (fn := Try.f63) (Γ := F_ref01_Changes.G) (all_cons F_ref01_small.sound (all_cons F_ref01_Change.sound (all_cons F_ref01_one.sound all_nil))) mix (by kernel_rfl) (by kernel_rfl) (fun m p => congrFun (congrFun F_ref01_Changes.eq m) p)
/-! ### cloakroom/cloakroomref21.left -/
noncomputable def F_ref21_left.s7462 (m : Fu) (a1 : Int) (a2 : Int) (a3 : List Int) (a8 : List Int) (a10 : Int) (x4 : Int × (List Int) × (List Int) × Int × Int × Int) : Option (Bool) :=
  bif a1 == (1 : Int) then
    bif x4.1 == a2 then
      some (x4.2.1 == a3)
    else some false
  else
    bif a1 == (2 : Int) then
      bif x4.1 == a2 then
        some (x4.2.1 == a8)
      else some false
    else
      bif a1 == (3 : Int) then some (x4.1 == a2) else
      bif a1 == (4 : Int) then
        (F_ref20_Due m (x4.2.1, x4.2.2.1, x4.2.2.2.1, x4.2.2.2.2.1, x4.2.2.2.2.2, a10)).bind fun x14 =>
        some x14
      else some false
noncomputable def F_ref21_left.l58 (m : Fu) (a0 : List (Int × (List Int) × (List Int) × Int × Int × Int)) (a1 : Int) (a2 : Int) (a3 : List Int) (a8 : List Int) (a10 : Int) (x1 : (List (Int × (List Int) × (List Int) × Int × Int × Int)) × Int) : Option (Step ((List (Int × (List Int) × (List Int) × Int × Int × Int)) × Int) ((List (Int × (List Int) × (List Int) × Int × Int × Int)))) :=
  bif decide (x1.2 < (a0.length : Int)) then
    bif (decide ((0 : Int) ≤ x1.2)) && (decide (x1.2 < (a0.length : Int))) then
      let x4 := a0.getD x1.2.toNat (0, ([], ([], (0, (0, 0)))))
      (F_ref21_left.s7462 m a1 a2 a3 a8 a10 x4).bind fun x15 =>
      bif !x15 then
        let x17 := [x4]
        bif Nat.ble (x1.1.length + x17.length) 4294967296 then
          some (.next ((x1.1 ++ x17), (IntKind.i64.wrap (x1.2 + (1 : Int)))))
        else none
      else some (.next (x1.1, (IntKind.i64.wrap (x1.2 + (1 : Int)))))
    else none
  else some (.fin x1.1)
noncomputable def F_ref21_left (m : Fu) (p : (List (Int × (List Int) × (List Int) × Int × Int × Int)) × Int × Int × (List Int) × (List Int) × Int × Int × Int × (List Int) × Int × Int × Bool) : Option (List (Int × (List Int) × (List Int) × Int × Int × Int)) :=
  let a0 := p.1
  let a1 := p.2.1
  let a2 := p.2.2.1
  let a3 := p.2.2.2.1
  let a8 := p.2.2.2.2.2.2.2.2.1
  let a10 := p.2.2.2.2.2.2.2.2.2.2.1
  (iter m (F_ref21_left.l58 m a0 a1 a2 a3 a8 a10) (([] : List (Int × (List Int) × (List Int) × Int × Int × Int)), (0 : Int))).bind fun x21 =>
  some x21
def F_ref21_left.ann : List (Nat × Ann) := [(58, .loop ⟨[(5, false, [.own (.pr (.int .i64) (.pr .str (.pr .str (.pr (.int .u32) (.pr (.int .i64) (.int .u64)))))) 96 .wr]), (6, false, [.dat (.int .i64)])], [], [], [], 97⟩ [(.exit 0, ⟨[(5, false, [.own (.pr (.int .i64) (.pr .str (.pr .str (.pr (.int .u32) (.pr (.int .i64) (.int .u64)))))) 96 .wr])], [], [], [], 97⟩)]),
  (7462, .jnt [(.normal, ⟨[(8, false, [.dat .bool])], [], [], [], 273⟩)])]
def F_ref21_left.sig : Sig := ⟨[.val false [.sl (.pr (.int .i64) (.pr .str (.pr .str (.pr (.int .u32) (.pr (.int .i64) (.int .u64))))))], .val true [.int .u8, .int .i64, .str, .str, .int .u32, .int .i64, .int .u64, .str, .int .u8, .int .i64, .bool]], [(false, [.own (.pr (.int .i64) (.pr .str (.pr .str (.pr (.int .u32) (.pr (.int .i64) (.int .u64)))))) 0 .wr])]⟩
noncomputable def F_ref21_left.S : Summ := ⟨91, F_ref21_left.sig, F_ref21_left⟩
noncomputable def F_ref21_left.G : List Summ := [F_ref20_Due.S]
theorem F_ref21_left.eq : absF Try.prog F_ref21_left.G F_ref21_left.ann F_ref21_left.sig Try.f91 = F_ref21_left := by kernel_rfl
theorem F_ref21_left.sound : Sound Try.prog F_ref21_left.S := absF_sound (fn := Try.f91) (Γ := F_ref21_left.G) (all_cons F_ref20_Due.sound all_nil) mix (by kernel_rfl) (by kernel_rfl) (fun m p => congrFun (congrFun F_ref21_left.eq m) p)
/-! ### cloakroom/cloakroomref21.one -/
noncomputable def F_ref21_one.s14 (_ : Fu) (a1 : List Int) (a6 : Int) (a7 : Int) (x1 : Int × (List Int) × (List (Int × (List Int) × (List Int) × Int × Int × Int)) × Int × Int × Bool) : Option ((Int × Int × (List Int) × (List (Int × (List Int) × (List Int) × Int × Int × Int)) × Int × Int × Bool) ⊕ Unit) :=
  bif a6 != (4 : Int) then
    bif a6 != (6 : Int) then
      bif a6 != (7 : Int) then
        bif decide ((a1.length : Int) ≤ a7) then
          some (Sum.inl ((2 : Int), x1))
        else some (Sum.inr ())
      else some (Sum.inr ())
    else some (Sum.inr ())
  else some (Sum.inr ())
noncomputable def F_ref21_one.s4010 (m : Fu) (a0 : Int) (a7 : Int) (a8 : List Int) (a9 : List Int) (a10 : Int) (a11 : Int) (a12 : Int) (x1 : Int × (List Int) × (List (Int × (List Int) × (List Int) × Int × Int × Int)) × Int × Int × Bool) (x10 : List (Int × (List Int) × (List Int) × Int × Int × Int)) : Option ((Int × (List Int) × (List (Int × (List Int) × (List Int) × Int × Int × Int)) × Int × Int × Bool)) :=
  (F_ref20_Due m (a8, a9, a10, a11, a12, a0)).bind fun x14 =>
  bif !x14 then
    let x16 := [(a7, (a8, (a9, (a10, (a11, a12)))))]
    bif Nat.ble (x10.length + x16.length) 4294967296 then
      some (x1.1, x1.2.1, (x10 ++ x16), x1.2.2.2)
    else none
  else some (x1.1, x1.2.1, x10, x1.2.2.2)
noncomputable def F_ref21_one.s62 (m : Fu) (a0 : Int) (a3 : Int) (a6 : Int) (a7 : Int) (a8 : List Int) (a9 : List Int) (a10 : Int) (a11 : Int) (a12 : Int) (a15 : Int) (a16 : Bool) (x1 : Int × (List Int) × (List (Int × (List Int) × (List Int) × Int × Int × Int)) × Int × Int × Bool) (x10 : List (Int × (List Int) × (List Int) × Int × Int × Int)) : Option ((Int × Int × (List Int) × (List (Int × (List Int) × (List Int) × Int × Int × Int)) × Int × Int × Bool) ⊕ (Int × (List Int) × (List (Int × (List Int) × (List Int) × Int × Int × Int)) × Int × Int × Bool)) :=
  bif a6 == (1 : Int) then
    (F_ref21_Size m (a8, a9, a10, a11, a12)).bind fun x12 =>
    bif decide ((256 : Int) < x12) then some (Sum.inl ((2 : Int), x1.1, x1.2.1, x10, x1.2.2.2)) else
    (F_ref21_one.s4010 m a0 a7 a8 a9 a10 a11 a12 x1 x10).bind fun x18 =>
    bif decide ((1024 : Int) < (x18.2.2.1.length : Int)) then
      some (Sum.inl ((9 : Int), x18))
    else some (Sum.inr x18)
  else
    bif a6 == (4 : Int) then
      bif decide (a15 < a0) then
        some (Sum.inl ((2 : Int), x1.1, x1.2.1, x10, x1.2.2.2))
      else some (Sum.inr (a15, x1.2.1, x10, x1.2.2.2))
    else
      bif a6 == (5 : Int) then
        bif (decide ((0 : Int) ≤ a7)) && (decide (a7 < (x1.2.1.length : Int))) then
          bif Nat.blt a7.toNat x1.2.1.length then
            some (Sum.inr (x1.1, (x1.2.1.set a7.toNat a15), x10, x1.2.2.2))
          else none
        else none
      else
        bif a6 == (6 : Int) then
          bif decide (a15 < a3) then
            some (Sum.inl ((2 : Int), x1.1, x1.2.1, x10, x1.2.2.2))
          else some (Sum.inr (x1.1, x1.2.1, x10, a15, x1.2.2.2.2.1, a16))
        else
          bif a6 == (7 : Int) then
            some (Sum.inr (x1.1, x1.2.1, x10, x1.2.2.2.1, a15, x1.2.2.2.2.2))
          else some (Sum.inr (x1.1, x1.2.1, x10, x1.2.2.2))
noncomputable def F_ref21_one (m : Fu) (p : Int × (List Int) × (List (Int × (List Int) × (List Int) × Int × Int × Int)) × Int × Int × Bool × Int × Int × (List Int) × (List Int) × Int × Int × Int × (List Int) × Int × Int × Bool) : Option (Int × (List Int) × (List (Int × (List Int) × (List Int) × Int × Int × Int)) × Int × Int × Bool × Int) :=
  let a0 := p.1
  let a1 := p.2.1
  let a2 := p.2.2.1
  let a3 := p.2.2.2.1
  let a4 := p.2.2.2.2.1
  let a5 := p.2.2.2.2.2.1
  let a6 := p.2.2.2.2.2.2.1
  let a7 := p.2.2.2.2.2.2.2.1
  let a8 := p.2.2.2.2.2.2.2.2.1
  let a9 := p.2.2.2.2.2.2.2.2.2.1
  let a10 := p.2.2.2.2.2.2.2.2.2.2.1
  let a11 := p.2.2.2.2.2.2.2.2.2.2.2.1
  let a12 := p.2.2.2.2.2.2.2.2.2.2.2.2.1
  let a13 := p.2.2.2.2.2.2.2.2.2.2.2.2.2.1
  let a14 := p.2.2.2.2.2.2.2.2.2.2.2.2.2.2.1
  let a15 := p.2.2.2.2.2.2.2.2.2.2.2.2.2.2.2.1
  let a16 := p.2.2.2.2.2.2.2.2.2.2.2.2.2.2.2.2
  (F_ref21_Twin m (a0, a1, a2, a3, a4, a5)).bind fun x1 =>
  (F_ref21_one.s14 m a1 a6 a7 x1).bind fun x7 =>
  match x7 with
  | .inl x8 =>
    some (x8.2.1, x8.2.2.1, x8.2.2.2.1, x8.2.2.2.2.1, x8.2.2.2.2.2.1, x8.2.2.2.2.2.2, x8.1)
  | .inr _ =>
    (F_ref21_left m (a2, a6, a7, a8, a9, a10, a11, a12, a13, a14, a15, a16)).bind fun x10 =>
    (F_ref21_one.s62 m a0 a3 a6 a7 a8 a9 a10 a11 a12 a15 a16 x1 x10).bind fun x28 =>
    match x28 with
    | .inl x29 =>
      some (x29.2.1, x29.2.2.1, x29.2.2.2.1, x29.2.2.2.2.1, x29.2.2.2.2.2.1, x29.2.2.2.2.2.2, x29.1)
    | .inr x30 =>
      some (x30.1, x30.2.1, x30.2.2.1, x30.2.2.2.1, x30.2.2.2.2.1, x30.2.2.2.2.2, (0 : Int))
def F_ref21_one.ann : List (Nat × Ann) := [(14, .jnt [(.ret, ⟨[(5, false, [.dat (.int .i64)])], [(64, [.dat (.int .i64), .own (.int .i64) 160 .wr, .own (.pr (.int .i64) (.pr .str (.pr .str (.pr (.int .u32) (.pr (.int .i64) (.int .u64)))))) 161 .wr, .dat (.int .i64), .dat (.int .i64), .dat .bool])], [], [112, 113], 162⟩), (.normal, ⟨[], [], [], [], 160⟩)]),
  (62, .jnt [(.ret, ⟨[(5, false, [.dat (.int .i64)])], [(64, [.dat (.int .i64), .own (.int .i64) 256 .wr, .own (.pr (.int .i64) (.pr .str (.pr .str (.pr (.int .u32) (.pr (.int .i64) (.int .u64)))))) 257 .wr, .dat (.int .i64), .dat (.int .i64), .dat .bool])], [], [112, 128, 208], 258⟩), (.normal, ⟨[], [(128, [.dat (.int .i64), .own (.int .i64) 256 .wr, .own (.pr (.int .i64) (.pr .str (.pr .str (.pr (.int .u32) (.pr (.int .i64) (.int .u64)))))) 257 .wr, .dat (.int .i64), .dat (.int .i64), .dat .bool])], [], [112, 208], 258⟩)]),
  (4010, .jnt [(.normal, ⟨[], [(128, [.dat (.int .i64), .own (.int .i64) 384 .wr, .own (.pr (.int .i64) (.pr .str (.pr .str (.pr (.int .u32) (.pr (.int .i64) (.int .u64)))))) 385 .wr, .dat (.int .i64), .dat (.int .i64), .dat .bool])], [], [112, 208], 386⟩)])]
def F_ref21_one.sig : Sig := ⟨[.val true [.int .i64, .sl (.int .i64), .sl (.pr (.int .i64) (.pr .str (.pr .str (.pr (.int .u32) (.pr (.int .i64) (.int .u64)))))), .int .i64, .int .i64, .bool], .val true [.int .u8, .int .i64, .str, .str, .int .u32, .int .i64, .int .u64, .str, .int .u8, .int .i64, .bool]], [(true, [.dat (.int .i64), .own (.int .i64) 0 .wr, .own (.pr (.int .i64) (.pr .str (.pr .str (.pr (.int .u32) (.pr (.int .i64) (.int .u64)))))) 0 .wr, .dat (.int .i64), .dat (.int .i64), .dat .bool]), (false, [.dat (.int .i64)])]⟩
noncomputable def F_ref21_one.S : Summ := ⟨64, F_ref21_one.sig, F_ref21_one⟩
noncomputable def F_ref21_one.G : List Summ := [F_ref21_Twin.S, F_ref21_left.S, F_ref21_Size.S, F_ref20_Due.S]
theorem F_ref21_one.eq : absF Try.prog F_ref21_one.G F_ref21_one.ann F_ref21_one.sig Try.f64 = F_ref21_one := by kernel_rfl
theorem F_ref21_one.sound : Sound Try.prog F_ref21_one.S := absF_sound (fn := Try.f64) (Γ := F_ref21_one.G) (all_cons F_ref21_Twin.sound (all_cons F_ref21_left.sound (all_cons F_ref21_Size.sound (all_cons F_ref20_Due.sound all_nil)))) mix (by kernel_rfl) (by kernel_rfl) (fun m p => congrFun (congrFun F_ref21_one.eq m) p)
/-! ### cloakroom/cloakroomref21.Apply -/
noncomputable def F_ref21_Apply.s14 (m : Fu) (a6 : List (Int × Int × ((List Int) × (List Int) × Int × Int × Int) × (List Int) × Int × Int × Bool)) (x1 : Int) : Option (Int) :=
  bif x1 == (0 : Int) then
    (F_ref01_Changes m a6).bind fun x3 =>
    some x3.2
  else some x1
noncomputable def F_ref21_Apply.l506 (m : Fu) (a6 : List (Int × Int × ((List Int) × (List Int) × Int × Int × Int) × (List Int) × Int × Int × Bool)) (x7 : Int × Int × (List Int) × (List (Int × (List Int) × (List Int) × Int × Int × Int)) × Int × Int × Bool) : Option (Step (Int × Int × (List Int) × (List (Int × (List Int) × (List Int) × Int × Int × Int)) × Int × Int × Bool) ((Int × Int × Int × Int × Bool) ⊕ (Int × (List Int) × (List (Int × (List Int) × (List Int) × Int × Int × Int)) × Int × Int × Bool))) :=
  bif decide (x7.1 < (a6.length : Int)) then
    bif (decide ((0 : Int) ≤ x7.1)) && (decide (x7.1 < (a6.length : Int))) then
      let x10 := a6.getD x7.1.toNat (0, (0, (([], ([], (0, (0, 0)))), ([], (0, (0, false))))))
      (F_ref21_one m (x7.2.1, x7.2.2.1, x7.2.2.2.1, x7.2.2.2.2.1, x7.2.2.2.2.2.1, x7.2.2.2.2.2.2, x10.1, x10.2.1, x10.2.2.1.1, x10.2.2.1.2.1, x10.2.2.1.2.2.1, x10.2.2.1.2.2.2.1, x10.2.2.1.2.2.2.2, x10.2.2.2)).bind fun x11 =>
      bif x11.2.2.2.2.2.2 != (0 : Int) then
        some (.fin (Sum.inl (x11.2.2.2.2.2.2, (0 : Int), (0 : Int), (0 : Int), false)))
      else some (.next ((IntKind.i64.wrap (x7.1 + (1 : Int))), x11.1, x11.2.1, x11.2.2.1, x11.2.2.2.1, x11.2.2.2.2.1, x11.2.2.2.2.2.1))
    else none
  else some (.fin (Sum.inr x7.2))
noncomputable def F_ref21_Apply (m : Fu) (p : Int × (List Int) × (List (Int × (List Int) × (List Int) × Int × Int × Int)) × Int × Int × Bool × (List (Int × Int × ((List Int) × (List Int) × Int × Int × Int) × (List Int) × Int × Int × Bool))) : Option (Int × (List Int) × (List (Int × (List Int) × (List Int) × Int × Int × Int)) × Int × Int × Bool × Int) :=
  let a0 := p.1
  let a1 := p.2.1
  let a2 := p.2.2.1
  let a3 := p.2.2.2.1
  let a4 := p.2.2.2.2.1
  let a5 := p.2.2.2.2.2.1
  let a6 := p.2.2.2.2.2.2
  (F_ref21_Check m (a0, a1, a2, a3, a4, a5)).bind fun x1 =>
  (F_ref21_Apply.s14 m a6 x1).bind fun x4 =>
  bif x4 != (0 : Int) then some ((0 : Int), ([] : List Int), ([] : List (Int × (List Int) × (List Int) × Int × Int × Int)), (0 : Int), (0 : Int), false, x4) else
  (F_ref21_Twin m (a0, a1, a2, a3, a4, a5)).bind fun x6 =>
  (iter m (F_ref21_Apply.l506 m a6) ((0 : Int), x6)).bind fun x14 =>
  match x14 with
  | .inl x15 =>
    some (x15.2.1, ([] : List Int), ([] : List (Int × (List Int) × (List Int) × Int × Int × Int)), x15.2.2.1, x15.2.2.2.1, x15.2.2.2.2, x15.1)
  | .inr x16 =>
    some (x16.1, x16.2.1, x16.2.2.1, x16.2.2.2.1, x16.2.2.2.2.1, x16.2.2.2.2.2, (0 : Int))
def F_ref21_Apply.ann : List (Nat × Ann) := [(14, .jnt [(.normal, ⟨[(6, false, [.dat (.int .i64)])], [], [], [], 128⟩)]),
  (506, .loop ⟨[(8, false, [.dat (.int .i64)])], [(192, [.dat (.int .i64), .own (.int .i64) 240 .wr, .own (.pr (.int .i64) (.pr .str (.pr .str (.pr (.int .u32) (.pr (.int .i64) (.int .u64)))))) 241 .wr, .dat (.int .i64), .dat (.int .i64), .dat .bool])], [], [176, 177], 242⟩ [(.ret, ⟨[(5, false, [.dat (.int .i64)])], [(48, [.dat (.int .i64), .cst .nils, .cst .nils, .dat (.int .i64), .dat (.int .i64), .dat .bool])], [], [176, 177, 192], 240⟩), (.exit 0, ⟨[], [(192, [.dat (.int .i64), .own (.int .i64) 240 .wr, .own (.pr (.int .i64) (.pr .str (.pr .str (.pr (.int .u32) (.pr (.int .i64) (.int .u64)))))) 241 .wr, .dat (.int .i64), .dat (.int .i64), .dat .bool])], [], [176, 177], 242⟩)])]
def F_ref21_Apply.sig : Sig := ⟨[.val true [.int .i64, .sl (.int .i64), .sl (.pr (.int .i64) (.pr .str (.pr .str (.pr (.int .u32) (.pr (.int .i64) (.int .u64)))))), .int .i64, .int .i64, .bool], .val false [.sl (.pr (.int .u8) (.pr (.int .i64) (.pr (.pr .str (.pr .str (.pr (.int .u32) (.pr (.int .i64) (.int .u64))))) (.pr .str (.pr (.int .u8) (.pr (.int .i64) .bool))))))]], [(true, [.dat (.int .i64), .own (.int .i64) 0 .wr, .own (.pr (.int .i64) (.pr .str (.pr .str (.pr (.int .u32) (.pr (.int .i64) (.int .u64)))))) 0 .wr, .dat (.int .i64), .dat (.int .i64), .dat .bool]), (false, [.dat (.int .i64)])]⟩
noncomputable def F_ref21_Apply.S : Summ := ⟨28, F_ref21_Apply.sig, F_ref21_Apply⟩
noncomputable def F_ref21_Apply.G : List Summ := [F_ref21_Check.S, F_ref01_Changes.S, F_ref21_Twin.S, F_ref21_one.S]
theorem F_ref21_Apply.eq : absF Try.prog F_ref21_Apply.G F_ref21_Apply.ann F_ref21_Apply.sig Try.f28 = F_ref21_Apply := by kernel_rfl
theorem F_ref21_Apply.sound : Sound Try.prog F_ref21_Apply.S := absF_sound (fn := Try.f28) (Γ := F_ref21_Apply.G) (all_cons F_ref21_Check.sound (all_cons F_ref01_Changes.sound (all_cons F_ref21_Twin.sound (all_cons F_ref21_one.sound all_nil)))) mix (by kernel_rfl) (by kernel_rfl) (fun m p => congrFun (congrFun F_ref21_Apply.eq m) p)
/-! ### cloakroom/image.Get -/
noncomputable def F_image_Get (m : Fu) (p : Int × (List Int) × (List (Int × (List Int) × (List Int) × Int × Int × Int)) × Int × Int × Bool × Int × (List Int)) : Option ((List Int) × (List Int) × Int × Int × Int × Bool × Int) :=
  let a0 := p.1
  let a1 := p.2.1
  let a2 := p.2.2.1
  let a3 := p.2.2.2.1
  let a4 := p.2.2.2.2.1
  let a5 := p.2.2.2.2.2.1
  let a6 := p.2.2.2.2.2.2.1
  let a7 := p.2.2.2.2.2.2.2
  (F_image_Check m (a0, a1, a2, a3, a4, a5)).bind fun x1 =>
  bif x1 != (0 : Int) then some (([] : List Int), ([] : List Int), (0 : Int), (0 : Int), (0 : Int), false, x1) else
  (F_image_in m (a6, (IntKind.i64.wrap ((a1.length : Int) - (1 : Int))))).bind fun x5 =>
  bif !x5 then some (([] : List Int), ([] : List Int), (0 : Int), (0 : Int), (0 : Int), false, (2 : Int)) else
  bif a7 == ([] : List Int) then some (([] : List Int), ([] : List Int), (0 : Int), (0 : Int), (0 : Int), false, (3 : Int)) else
  bif decide ((32 : Int) < (a7.length : Int)) then some (([] : List Int), ([] : List Int), (0 : Int), (0 : Int), (0 : Int), false, (3 : Int)) else
  (F_image_places m a2).bind fun x10 =>
  let x11 := mget (keyEq (.pr (.int .i64) .str)) x10 (a6, a7)
  bif !x11.isSome then some (([] : List Int), ([] : List Int), (0 : Int), (0 : Int), (0 : Int), false, (0 : Int)) else
  bif (decide ((0 : Int) ≤ (x11.getD 0))) && (decide ((x11.getD 0) < (a2.length : Int))) then
    let x13 := a2.getD ((x11.getD 0).toNat) (0, ([], ([], (0, (0, 0)))))
    some (x13.2.1, x13.2.2.1, x13.2.2.2.1, x13.2.2.2.2.1, x13.2.2.2.2.2, true, (0 : Int))
  else none
def F_image_Get.ann : List (Nat × Ann) := []
def F_image_Get.sig : Sig := ⟨[.val true [.int .i64, .sl (.int .i64), .sl (.pr (.int .i64) (.pr .str (.pr .str (.pr (.int .u32) (.pr (.int .i64) (.int .u64)))))), .int .i64, .int .i64, .bool], .val true [.int .i64, .str]], [(true, [.dat .str, .dat .str, .dat (.int .u32), .dat (.int .i64), .dat (.int .u64)]), (false, [.dat .bool]), (false, [.dat (.int .i64)])]⟩
noncomputable def F_image_Get.S : Summ := ⟨26, F_image_Get.sig, F_image_Get⟩
noncomputable def F_image_Get.G : List Summ := [F_image_Check.S, F_image_in.S, F_image_places.S]
theorem F_image_Get.eq : absF Try.prog F_image_Get.G F_image_Get.ann F_image_Get.sig Try.f26 = F_image_Get := by kernel_rfl
theorem F_image_Get.sound : Sound Try.prog F_image_Get.S := absF_sound (fn := Try.f26) (Γ := F_image_Get.G) (all_cons F_image_Check.sound (all_cons F_image_in.sound (all_cons F_image_places.sound all_nil))) mix (by kernel_rfl) (by kernel_rfl) (fun m p => congrFun (congrFun F_image_Get.eq m) p)
/-! ### cloakroom/cloakroomref21.Get -/
noncomputable def F_ref21_Get.s16200 (_ : Fu) (a2 : List (Int × (List Int) × (List Int) × Int × Int × Int)) (a6 : Int) (a7 : List Int) (x8 : Int) : Option (Bool) :=
  bif (decide ((0 : Int) ≤ x8)) && (decide (x8 < (a2.length : Int))) then
    bif ((a2.getD x8.toNat (0, ([], ([], (0, (0, 0)))))).1) == a6 then
      bif (decide ((0 : Int) ≤ x8)) && (decide (x8 < (a2.length : Int))) then
        some ((((a2.getD x8.toNat (0, ([], ([], (0, (0, 0)))))).2).1) == a7)
      else none
    else some false
  else none
noncomputable def F_ref21_Get.l506 (m : Fu) (a2 : List (Int × (List Int) × (List Int) × Int × Int × Int)) (a6 : Int) (a7 : List Int) (x8 : Int) : Option (Step Int ((Bool × Int × (List Int) × (List Int) × Int × Int × Int) ⊕ Unit)) :=
  bif decide (x8 < (a2.length : Int)) then
    (F_ref21_Get.s16200 m a2 a6 a7 x8).bind fun x15 =>
    bif x15 then
      bif (decide ((0 : Int) ≤ x8)) && (decide (x8 < (a2.length : Int))) then
        some (.fin (Sum.inl (true, (0 : Int), ((a2.getD x8.toNat (0, ([], ([], (0, (0, 0)))))).2))))
      else none
    else some (.next (IntKind.i64.wrap (x8 + (1 : Int))))
  else some (.fin (Sum.inr ()))
noncomputable def F_ref21_Get (m : Fu) (p : Int × (List Int) × (List (Int × (List Int) × (List Int) × Int × Int × Int)) × Int × Int × Bool × Int × (List Int)) : Option ((List Int) × (List Int) × Int × Int × Int × Bool × Int) :=
  let a0 := p.1
  let a1 := p.2.1
  let a2 := p.2.2.1
  let a3 := p.2.2.2.1
  let a4 := p.2.2.2.2.1
  let a5 := p.2.2.2.2.2.1
  let a6 := p.2.2.2.2.2.2.1
  let a7 := p.2.2.2.2.2.2.2
  (F_ref21_Check m (a0, a1, a2, a3, a4, a5)).bind fun x1 =>
  bif x1 != (0 : Int) then some (([] : List Int), ([] : List Int), (0 : Int), (0 : Int), (0 : Int), false, x1) else
  bif decide (a6 < (0 : Int)) then some (([] : List Int), ([] : List Int), (0 : Int), (0 : Int), (0 : Int), false, (2 : Int)) else
  bif decide ((a1.length : Int) ≤ a6) then some (([] : List Int), ([] : List Int), (0 : Int), (0 : Int), (0 : Int), false, (2 : Int)) else
  (F_ref01_Key m a7).bind fun x6 =>
  bif !x6 then some (([] : List Int), ([] : List Int), (0 : Int), (0 : Int), (0 : Int), false, (3 : Int)) else
  (iter m (F_ref21_Get.l506 m a2 a6 a7) (0 : Int)).bind fun x18 =>
  match x18 with
  | .inl x19 =>
    some (x19.2.2.1, x19.2.2.2.1, x19.2.2.2.2.1, x19.2.2.2.2.2.1, x19.2.2.2.2.2.2, x19.1, x19.2.1)
  | .inr _ =>
    some (([] : List Int), ([] : List Int), (0 : Int), (0 : Int), (0 : Int), false, (0 : Int))
def F_ref21_Get.ann : List (Nat × Ann) := [(506, .loop ⟨[(8, false, [.dat (.int .i64)])], [], [], [], 448⟩ [(.ret, ⟨[(5, false, [.dat .bool]), (6, false, [.dat (.int .i64)])], [(64, [.dat .str, .dat .str, .dat (.int .u32), .dat (.int .i64), .dat (.int .u64)])], [], [], 448⟩), (.exit 0, ⟨[], [], [], [], 448⟩)]),
  (16200, .jnt [(.normal, ⟨[(59, false, [.dat .bool])], [], [], [], 528⟩)])]
def F_ref21_Get.sig : Sig := ⟨[.val true [.int .i64, .sl (.int .i64), .sl (.pr (.int .i64) (.pr .str (.pr .str (.pr (.int .u32) (.pr (.int .i64) (.int .u64)))))), .int .i64, .int .i64, .bool], .val true [.int .i64, .str]], [(true, [.dat .str, .dat .str, .dat (.int .u32), .dat (.int .i64), .dat (.int .u64)]), (false, [.dat .bool]), (false, [.dat (.int .i64)])]⟩
noncomputable def F_ref21_Get.S : Summ := ⟨29, F_ref21_Get.sig, F_ref21_Get⟩
noncomputable def F_ref21_Get.G : List Summ := [F_ref21_Check.S, F_ref01_Key.S]
theorem F_ref21_Get.eq : absF Try.prog F_ref21_Get.G F_ref21_Get.ann F_ref21_Get.sig Try.f29 = F_ref21_Get := by kernel_rfl
theorem F_ref21_Get.sound : Sound Try.prog F_ref21_Get.S := absF_sound (fn := Try.f29) (Γ := F_ref21_Get.G) (all_cons F_ref21_Check.sound (all_cons F_ref01_Key.sound all_nil)) mix (by kernel_rfl) (by kernel_rfl) (fun m p => congrFun (congrFun F_ref21_Get.eq m) p)
/-! ### cloakroom/image.Alive -/
noncomputable def F_image_Alive (m : Fu) (p : Int × (List Int) × (List (Int × (List Int) × (List Int) × Int × Int × Int)) × Int × Int × Bool × Int) : Option (Int × (List Int) × (List (Int × (List Int) × (List Int) × Int × Int × Int)) × Int × Int × Bool × Int) :=
  let a0 := p.1
  let a1 := p.2.1
  let a2 := p.2.2.1
  let a3 := p.2.2.2.1
  let a4 := p.2.2.2.2.1
  let a5 := p.2.2.2.2.2.1
  let a6 := p.2.2.2.2.2.2
  (F_image_Apply m (a0, a1, a2, a3, a4, a5, ([((4 : Int), ((0 : Int), ((([] : List Int), (([] : List Int), ((0 : Int), ((0 : Int), (0 : Int))))), (([] : List Int), ((0 : Int), (a6, false))))))]))).bind fun x2 =>
  some x2
def F_image_Alive.ann : List (Nat × Ann) := []
def F_image_Alive.sig : Sig := ⟨[.val true [.int .i64, .sl (.int .i64), .sl (.pr (.int .i64) (.pr .str (.pr .str (.pr (.int .u32) (.pr (.int .i64) (.int .u64)))))), .int .i64, .int .i64, .bool], .val false [.int .i64]], [(true, [.dat (.int .i64), .own (.int .i64) 0 .wr, .own (.pr (.int .i64) (.pr .str (.pr .str (.pr (.int .u32) (.pr (.int .i64) (.int .u64)))))) 0 .wr, .dat (.int .i64), .dat (.int .i64), .dat .bool]), (false, [.dat (.int .i64)])]⟩
noncomputable def F_image_Alive.S : Summ := ⟨30, F_image_Alive.sig, F_image_Alive⟩
noncomputable def F_image_Alive.G : List Summ := [F_image_Apply.S]
theorem F_image_Alive.eq : absF Try.prog F_image_Alive.G F_image_Alive.ann F_image_Alive.sig Try.f30 = F_image_Alive := by kernel_rfl
theorem F_image_Alive.sound : Sound Try.prog F_image_Alive.S := absF_sound (fn := Try.f30) (Γ := F_image_Alive.G) (all_cons F_image_Apply.sound all_nil) mix (by kernel_rfl) (by kernel_rfl) (fun m p => congrFun (congrFun F_image_Alive.eq m) p)
/-! ### cloakroom/cloakroomref21.Alive -/
noncomputable def F_ref21_Alive (m : Fu) (p : Int × (List Int) × (List (Int × (List Int) × (List Int) × Int × Int × Int)) × Int × Int × Bool × Int) : Option (Int × (List Int) × (List (Int × (List Int) × (List Int) × Int × Int × Int)) × Int × Int × Bool × Int) :=
  let a0 := p.1
  let a1 := p.2.1
  let a2 := p.2.2.1
  let a3 := p.2.2.2.1
  let a4 := p.2.2.2.2.1
  let a5 := p.2.2.2.2.2.1
  let a6 := p.2.2.2.2.2.2
  (F_ref21_Apply m (a0, a1, a2, a3, a4, a5, ([((4 : Int), ((0 : Int), ((([] : List Int), (([] : List Int), ((0 : Int), ((0 : Int), (0 : Int))))), (([] : List Int), ((0 : Int), (a6, false))))))]))).bind fun x2 =>
  some x2
def F_ref21_Alive.ann : List (Nat × Ann) := []
def F_ref21_Alive.sig : Sig := ⟨[.val true [.int .i64, .sl (.int .i64), .sl (.pr (.int .i64) (.pr .str (.pr .str (.pr (.int .u32) (.pr (.int .i64) (.int .u64)))))), .int .i64, .int .i64, .bool], .val false [.int .i64]], [(true, [.dat (.int .i64), .own (.int .i64) 0 .wr, .own (.pr (.int .i64) (.pr .str (.pr .str (.pr (.int .u32) (.pr (.int .i64) (.int .u64)))))) 0 .wr, .dat (.int .i64), .dat (.int .i64), .dat .bool]), (false, [.dat (.int .i64)])]⟩
noncomputable def F_ref21_Alive.S : Summ := ⟨31, F_ref21_Alive.sig, F_ref21_Alive⟩
noncomputable def F_ref21_Alive.G : List Summ := [F_ref21_Apply.S]
theorem F_ref21_Alive.eq : absF Try.prog F_ref21_Alive.G F_ref21_Alive.ann F_ref21_Alive.sig Try.f31 = F_ref21_Alive := by kernel_rfl
theorem F_ref21_Alive.sound : Sound Try.prog F_ref21_Alive.S := absF_sound (fn := Try.f31) (Γ := F_ref21_Alive.G) (all_cons F_ref21_Apply.sound all_nil) mix (by kernel_rfl) (by kernel_rfl) (fun m p => congrFun (congrFun F_ref21_Alive.eq m) p)
/-! ### cloakroom/image.New -/
noncomputable def F_image_New (m : Fu) (p : List Int) : Option (Int × (List Int) × (List (Int × (List Int) × (List Int) × Int × Int × Int)) × Int × Int × Bool × Int) :=
  let a0 := p
  (F_image_quotas m a0).bind fun x1 =>
  bif !x1 then some ((0 : Int), ([] : List Int), ([] : List (Int × (List Int) × (List Int) × Int × Int × Int)), (0 : Int), (0 : Int), false, (2 : Int)) else
  (C_slices_Clone_int m a0).bind fun x3 =>
  some ((0 : Int), x3, ([] : List (Int × (List Int) × (List Int) × Int × Int × Int)), (0 : Int), (0 : Int), false, (0 : Int))
def F_image_New.ann : List (Nat × Ann) := []
def F_image_New.sig : Sig := ⟨[.val false [.sl (.int .i64)]], [(true, [.dat (.int .i64), .own (.int .i64) 0 .wr, .dat (.sl (.pr (.int .i64) (.pr .str (.pr .str (.pr (.int .u32) (.pr (.int .i64) (.int .u64))))))), .dat (.int .i64), .dat (.int .i64), .dat .bool]), (false, [.dat (.int .i64)])]⟩
noncomputable def F_image_New.S : Summ := ⟨32, F_image_New.sig, F_image_New⟩
noncomputable def F_image_New.G : List Summ := [F_image_quotas.S, C_slices_Clone_int.S]
theorem F_image_New.eq : absF Try.prog F_image_New.G F_image_New.ann F_image_New.sig Try.f32 = F_image_New := by kernel_rfl
theorem F_image_New.sound : Sound Try.prog F_image_New.S := absF_sound (fn := Try.f32) (Γ := F_image_New.G) (all_cons F_image_quotas.sound (all_cons C_slices_Clone_int.sound all_nil)) mix (by kernel_rfl) (by kernel_rfl) (fun m p => congrFun (congrFun F_image_New.eq m) p)
/-! ### cloakroom/cloakroomref21.New -/
noncomputable def F_ref21_New (m : Fu) (p : List Int) : Option (Int × (List Int) × (List (Int × (List Int) × (List Int) × Int × Int × Int)) × Int × Int × Bool × Int) :=
  let a0 := p
  (F_ref21_quotas m a0).bind fun x1 =>
  bif !x1 then some ((0 : Int), ([] : List Int), ([] : List (Int × (List Int) × (List Int) × Int × Int × Int)), (0 : Int), (0 : Int), false, (2 : Int)) else
  bif Nat.ble a0.length 4294967296 then
    some ((0 : Int), a0, ([] : List (Int × (List Int) × (List Int) × Int × Int × Int)), (0 : Int), (0 : Int), false, (0 : Int))
  else none
def F_ref21_New.ann : List (Nat × Ann) := []
def F_ref21_New.sig : Sig := ⟨[.val false [.sl (.int .i64)]], [(true, [.dat (.int .i64), .own (.int .i64) 0 .wr, .dat (.sl (.pr (.int .i64) (.pr .str (.pr .str (.pr (.int .u32) (.pr (.int .i64) (.int .u64))))))), .dat (.int .i64), .dat (.int .i64), .dat .bool]), (false, [.dat (.int .i64)])]⟩
noncomputable def F_ref21_New.S : Summ := ⟨33, F_ref21_New.sig, F_ref21_New⟩
noncomputable def F_ref21_New.G : List Summ := [F_ref21_quotas.S]
theorem F_ref21_New.eq : absF Try.prog F_ref21_New.G F_ref21_New.ann F_ref21_New.sig Try.f33 = F_ref21_New := by kernel_rfl
theorem F_ref21_New.sound : Sound Try.prog F_ref21_New.S := absF_sound (fn := Try.f33) (Γ := F_ref21_New.G) (all_cons F_ref21_quotas.sound all_nil) mix (by kernel_rfl) (by kernel_rfl) (fun m p => congrFun (congrFun F_ref21_New.eq m) p)
/-! ### slices.Equal[[]int,int] -/
noncomputable def F_slices_Equal_int.l58 (_ : Fu) (a0 : List Int) (a1 : List Int) (x4 : Int) (x5 : Int) : Option (Step Int (Bool ⊕ Unit)) :=
  bif decide (x5 < x4) then
    bif (decide ((0 : Int) ≤ x5)) && (decide (x5 < (a0.length : Int))) then
      bif (decide ((0 : Int) ≤ x5)) && (decide (x5 < (a1.length : Int))) then
        bif (a0.getD x5.toNat 0) != (a1.getD x5.toNat 0) then
          some (.fin (Sum.inl false))
        else some (.next (IntKind.i64.wrap (x5 + (1 : Int))))
      else none
    else none
  else some (.fin (Sum.inr ()))
noncomputable def F_slices_Equal_int (m : Fu) (p : (List Int) × (List Int)) : Option (Bool) :=
  let a0 := p.1
  let a1 := p.2
  bif (a0.length : Int) != (a1.length : Int) then some false else
  (iter m (F_slices_Equal_int.l58 m a0 a1 (a0.length : Int)) (0 : Int)).bind fun x11 =>
  match x11 with
  | .inl x12 =>
    some x12
  | .inr _ =>
    some true
def F_slices_Equal_int.ann : List (Nat × Ann) := [(58, .loop ⟨[(13, false, [.dat (.int .i64)])], [], [], [], 176⟩ [(.ret, ⟨[(4, false, [.dat .bool])], [], [], [], 176⟩), (.exit 0, ⟨[], [], [], [], 176⟩)])]
def F_slices_Equal_int.sig : Sig := ⟨[.val false [.sl (.int .i64)], .val false [.sl (.int .i64)]], [(false, [.dat .bool])]⟩
noncomputable def F_slices_Equal_int.S : Summ := ⟨56, F_slices_Equal_int.sig, F_slices_Equal_int⟩
noncomputable def F_slices_Equal_int.G : List Summ := []
theorem F_slices_Equal_int.eq : absF Try.prog F_slices_Equal_int.G F_slices_Equal_int.ann F_slices_Equal_int.sig Try.f56 = F_slices_Equal_int := by kernel_rfl
theorem F_slices_Equal_int.sound : Sound Try.prog F_slices_Equal_int.S := absF_sound (fn := Try.f56) (Γ := F_slices_Equal_int.G) all_nil mix (by kernel_rfl) (by kernel_rfl) (fun m p => congrFun (congrFun F_slices_Equal_int.eq m) p)
/-! ### slices.Equal[[]cloakroom/api.Kept,cloakroom/api.Kept] -/
noncomputable def F_slices_Equal_Kept.l58 (_ : Fu) (a0 : List (Int × (List Int) × (List Int) × Int × Int × Int)) (a1 : List (Int × (List Int) × (List Int) × Int × Int × Int)) (x4 : Int) (x5 : Int) : Option (Step Int (Bool ⊕ Unit)) :=
  bif decide (x5 < x4) then
    bif (decide ((0 : Int) ≤ x5)) && (decide (x5 < (a0.length : Int))) then
      let x7 := a0.getD x5.toNat (0, ([], ([], (0, (0, 0)))))
      bif (decide ((0 : Int) ≤ x5)) && (decide (x5 < (a1.length : Int))) then
        let x8 := a1.getD x5.toNat (0, ([], ([], (0, (0, 0)))))
        bif !((x7.1 == x8.1) && (((x7.2.1 == x8.2.1) && ((x7.2.2.1 == x8.2.2.1) && ((x7.2.2.2.1 == x8.2.2.2.1) && ((x7.2.2.2.2.1 == x8.2.2.2.2.1) && ((x7.2.2.2.2.2 == x8.2.2.2.2.2) && true))))) && true)) then
          some (.fin (Sum.inl false))
        else some (.next (IntKind.i64.wrap (x5 + (1 : Int))))
      else none
    else none
  else some (.fin (Sum.inr ()))
noncomputable def F_slices_Equal_Kept (m : Fu) (p : (List (Int × (List Int) × (List Int) × Int × Int × Int)) × (List (Int × (List Int) × (List Int) × Int × Int × Int))) : Option (Bool) :=
  let a0 := p.1
  let a1 := p.2
  bif (a0.length : Int) != (a1.length : Int) then some false else
  (iter m (F_slices_Equal_Kept.l58 m a0 a1 (a0.length : Int)) (0 : Int)).bind fun x11 =>
  match x11 with
  | .inl x12 =>
    some x12
  | .inr _ =>
    some true
def F_slices_Equal_Kept.ann : List (Nat × Ann) := [(58, .loop ⟨[(13, false, [.dat (.int .i64)])], [], [], [], 176⟩ [(.ret, ⟨[(4, false, [.dat .bool])], [], [], [], 176⟩), (.exit 0, ⟨[], [], [], [], 176⟩)])]
def F_slices_Equal_Kept.sig : Sig := ⟨[.val false [.sl (.pr (.int .i64) (.pr .str (.pr .str (.pr (.int .u32) (.pr (.int .i64) (.int .u64))))))], .val false [.sl (.pr (.int .i64) (.pr .str (.pr .str (.pr (.int .u32) (.pr (.int .i64) (.int .u64))))))]], [(false, [.dat .bool])]⟩
noncomputable def F_slices_Equal_Kept.S : Summ := ⟨57, F_slices_Equal_Kept.sig, F_slices_Equal_Kept⟩
noncomputable def F_slices_Equal_Kept.G : List Summ := []
theorem F_slices_Equal_Kept.eq : absF Try.prog F_slices_Equal_Kept.G F_slices_Equal_Kept.ann F_slices_Equal_Kept.sig Try.f57 = F_slices_Equal_Kept := by kernel_rfl
theorem F_slices_Equal_Kept.sound : Sound Try.prog F_slices_Equal_Kept.S := absF_sound (fn := Try.f57) (Γ := F_slices_Equal_Kept.G) all_nil mix (by kernel_rfl) (by kernel_rfl) (fun m p => congrFun (congrFun F_slices_Equal_Kept.eq m) p)
/-! ### cloakroom/image.Same -/
noncomputable def F_image_Same (m : Fu) (p : Int × (List Int) × (List (Int × (List Int) × (List Int) × Int × Int × Int)) × Int × Int × Bool × Int × (List Int) × (List (Int × (List Int) × (List Int) × Int × Int × Int)) × Int × Int × Bool) : Option (Bool) :=
  let a0 := p.1
  let a1 := p.2.1
  let a2 := p.2.2.1
  let a3 := p.2.2.2.1
  let a4 := p.2.2.2.2.1
  let a5 := p.2.2.2.2.2.1
  let a6 := p.2.2.2.2.2.2.1
  let a7 := p.2.2.2.2.2.2.2.1
  let a8 := p.2.2.2.2.2.2.2.2.1
  let a9 := p.2.2.2.2.2.2.2.2.2.1
  let a10 := p.2.2.2.2.2.2.2.2.2.2.1
  let a11 := p.2.2.2.2.2.2.2.2.2.2.2
  bif a0 == a6 then
    bif a3 == a9 then
      bif a4 == a10 then
        bif a5 == a11 then
          (F_slices_Equal_int m (a1, a7)).bind fun x5 =>
          bif x5 then
            (F_slices_Equal_Kept m (a2, a8)).bind fun x6 =>
            some x6
          else some false
        else some false
      else some false
    else some false
  else some false
def F_image_Same.ann : List (Nat × Ann) := []
def F_image_Same.sig : Sig := ⟨[.val true [.int .i64, .sl (.int .i64), .sl (.pr (.int .i64) (.pr .str (.pr .str (.pr (.int .u32) (.pr (.int .i64) (.int .u64)))))), .int .i64, .int .i64, .bool], .val true [.int .i64, .sl (.int .i64), .sl (.pr (.int .i64) (.pr .str (.pr .str (.pr (.int .u32) (.pr (.int .i64) (.int .u64)))))), .int .i64, .int .i64, .bool]], [(false, [.dat .bool])]⟩
noncomputable def F_image_Same.S : Summ := ⟨24, F_image_Same.sig, F_image_Same⟩
noncomputable def F_image_Same.G : List Summ := [F_slices_Equal_int.S, F_slices_Equal_Kept.S]
theorem F_image_Same.eq : absF Try.prog F_image_Same.G F_image_Same.ann F_image_Same.sig Try.f24 = F_image_Same := by kernel_rfl
theorem F_image_Same.sound : Sound Try.prog F_image_Same.S := absF_sound (fn := Try.f24) (Γ := F_image_Same.G) (all_cons F_slices_Equal_int.sound (all_cons F_slices_Equal_Kept.sound all_nil)) mix (by kernel_rfl) (by kernel_rfl) (fun m p => congrFun (congrFun F_image_Same.eq m) p)
/-! ### cloakroom/cloakroomref08.Same -/
noncomputable def F_ref08_Same.l58 (_ : Fu) (a0 : List Int) (a1 : List Int) (x4 : Int) : Option (Step Int (Bool ⊕ Unit)) :=
  bif decide (x4 < (a0.length : Int)) then
    bif (decide ((0 : Int) ≤ x4)) && (decide (x4 < (a0.length : Int))) then
      bif (decide ((0 : Int) ≤ x4)) && (decide (x4 < (a1.length : Int))) then
        bif (a0.getD x4.toNat 0) != (a1.getD x4.toNat 0) then
          some (.fin (Sum.inl false))
        else some (.next (IntKind.i64.wrap (x4 + (1 : Int))))
      else none
    else none
  else some (.fin (Sum.inr ()))
noncomputable def F_ref08_Same (m : Fu) (p : (List Int) × (List Int)) : Option (Bool) :=
  let a0 := p.1
  let a1 := p.2
  bif (a0.length : Int) != (a1.length : Int) then some false else
  (iter m (F_ref08_Same.l58 m a0 a1) (0 : Int)).bind fun x11 =>
  match x11 with
  | .inl x12 =>
    some x12
  | .inr _ =>
    some true
def F_ref08_Same.ann : List (Nat × Ann) := [(58, .loop ⟨[(5, false, [.dat (.int .i64)])], [], [], [], 144⟩ [(.ret, ⟨[(4, false, [.dat .bool])], [], [], [], 144⟩), (.exit 0, ⟨[], [], [], [], 144⟩)])]
def F_ref08_Same.sig : Sig := ⟨[.val false [.sl (.int .i64)], .val false [.sl (.int .i64)]], [(false, [.dat .bool])]⟩
noncomputable def F_ref08_Same.S : Summ := ⟨35, F_ref08_Same.sig, F_ref08_Same⟩
noncomputable def F_ref08_Same.G : List Summ := []
theorem F_ref08_Same.eq : absF Try.prog F_ref08_Same.G F_ref08_Same.ann F_ref08_Same.sig Try.f35 = F_ref08_Same := by kernel_rfl
theorem F_ref08_Same.sound : Sound Try.prog F_ref08_Same.S := absF_sound (fn := Try.f35) (Γ := F_ref08_Same.G) all_nil mix (by kernel_rfl) (by kernel_rfl) (fun m p => congrFun (congrFun F_ref08_Same.eq m) p)
/-! ### cloakroom/cloakroomlaw21.ImageChanges -/
noncomputable def F_law21_ImageChanges.s6 (m : Fu) (a0 : Int) (a1 : List Int) (a2 : List (Int × (List Int) × (List Int) × Int × Int × Int)) (a3 : Int) (a4 : Int) (a5 : Bool) (a6 : List (Int × Int × ((List Int) × (List Int) × Int × Int × Int) × (List Int) × Int × Int × Bool)) (a8 : List Int) : Option (Bool ⊕ Unit) :=
  (F_ref21_Great m (a0, a1, a2, a3, a4, a5)).bind fun x1 =>
  bif x1 then some (Sum.inl true) else
  (F_ref01_Heavy m a6).bind fun x2 =>
  bif x2 then some (Sum.inl true) else
  bif decide ((300 : Int) < (a6.length : Int)) then
    bif decide ((100 : Int) < (a2.length : Int)) then some (Sum.inl true) else
    bif decide ((10000 : Int) < (a8.length : Int)) then
      some (Sum.inl true)
    else some (Sum.inr ())
  else
    bif decide ((10000 : Int) < (a8.length : Int)) then
      some (Sum.inl true)
    else some (Sum.inr ())
noncomputable def F_law21_ImageChanges.l262138 (_ : Fu) (x43 : Int × (List (Int × (List Int) × (List Int) × Int × Int × Int))) : Option (Step (Int × (List (Int × (List Int) × (List Int) × Int × Int × Int))) ((List (Int × (List Int) × (List Int) × Int × Int × Int)))) :=
  bif decide (x43.1 < (x43.2.length : Int)) then
    bif (decide ((0 : Int) ≤ x43.1)) && (decide (x43.1 < (x43.2.length : Int))) then
      bif Nat.blt x43.1.toNat x43.2.length then
        some (.next ((IntKind.i64.wrap (x43.1 + (1 : Int))), (x43.2.set x43.1.toNat ((77 : Int), ((x43.2.getD x43.1.toNat (0, ([], ([], (0, (0, 0)))))).2)))))
      else none
    else none
  else some (.fin x43.2)
noncomputable def F_law21_ImageChanges.l524282 (_ : Fu) (x49 : Int × (List Int)) : Option (Step (Int × (List Int)) Unit) :=
  bif decide (x49.1 < (x49.2.length : Int)) then
    bif (decide ((0 : Int) ≤ x49.1)) && (decide (x49.1 < (x49.2.length : Int))) then
      bif Nat.blt x49.1.toNat x49.2.length then
        some (.next ((IntKind.i64.wrap (x49.1 + (1 : Int))), (x49.2.set x49.1.toNat (77 : Int))))
      else none
    else none
  else some (.fin ())
noncomputable def F_law21_ImageChanges.l1048570 (_ : Fu) (x55 : Int × (List (Int × (List Int) × (List Int) × Int × Int × Int))) : Option (Step (Int × (List (Int × (List Int) × (List Int) × Int × Int × Int))) Unit) :=
  bif decide (x55.1 < (x55.2.length : Int)) then
    bif (decide ((0 : Int) ≤ x55.1)) && (decide (x55.1 < (x55.2.length : Int))) then
      bif Nat.blt x55.1.toNat x55.2.length then
        some (.next ((IntKind.i64.wrap (x55.1 + (1 : Int))), (x55.2.set x55.1.toNat ((77 : Int), ((x55.2.getD x55.1.toNat (0, ([], ([], (0, (0, 0)))))).2)))))
      else none
    else none
  else some (.fin ())
noncomputable def F_law21_ImageChanges.l2097146 (_ : Fu) (x61 : Int × (List Int)) : Option (Step (Int × (List Int)) Unit) :=
  bif decide (x61.1 < (x61.2.length : Int)) then
    bif (decide ((0 : Int) ≤ x61.1)) && (decide (x61.1 < (x61.2.length : Int))) then
      bif Nat.blt x61.1.toNat x61.2.length then
        some (.next ((IntKind.i64.wrap (x61.1 + (1 : Int))), (x61.2.set x61.1.toNat (77 : Int))))
      else none
    else none
  else some (.fin ())
noncomputable def F_law21_ImageChanges (m : Fu) (p : Int × (List Int) × (List (Int × (List Int) × (List Int) × Int × Int × Int)) × Int × Int × Bool × (List (Int × Int × ((List Int) × (List Int) × Int × Int × Int) × (List Int) × Int × Int × Bool)) × Int × (List Int) × Int) : Option (Bool) :=
  let a0 := p.1
  let a1 := p.2.1
  let a2 := p.2.2.1
  let a3 := p.2.2.2.1
  let a4 := p.2.2.2.2.1
  let a5 := p.2.2.2.2.2.1
  let a6 := p.2.2.2.2.2.2.1
  let a7 := p.2.2.2.2.2.2.2.1
  let a8 := p.2.2.2.2.2.2.2.2.1
  let a9 := p.2.2.2.2.2.2.2.2.2
  (F_law21_ImageChanges.s6 m a0 a1 a2 a3 a4 a5 a6 a8).bind fun x11 =>
  match x11 with
  | .inl x12 =>
    some x12
  | .inr _ =>
    (F_ref21_Twin m (a0, a1, a2, a3, a4, a5)).bind fun x14 =>
    bif Nat.ble a6.length 4294967296 then
      (F_image_Apply m (x14.1, x14.2.1, x14.2.2.1, x14.2.2.2.1, x14.2.2.2.2.1, x14.2.2.2.2.2, a6)).bind fun x15 =>
      (F_ref21_Apply m (a0, a1, a2, a3, a4, a5, a6)).bind fun x16 =>
      (F_image_Get m (x14.1, x14.2.1, x14.2.2.1, x14.2.2.2.1, x14.2.2.2.2.1, x14.2.2.2.2.2, a7, a8)).bind fun x17 =>
      (F_ref21_Get m (a0, a1, a2, a3, a4, a5, a7, a8)).bind fun x18 =>
      (F_image_Alive m (x14.1, x14.2.1, x14.2.2.1, x14.2.2.2.1, x14.2.2.2.2.1, x14.2.2.2.2.2, a9)).bind fun x19 =>
      (F_ref21_Alive m (a0, a1, a2, a3, a4, a5, a9)).bind fun x20 =>
      bif Nat.ble a1.length 4294967296 then
        (F_image_New m a1).bind fun x21 =>
        (F_ref21_New m a1).bind fun x22 =>
        (F_ref21_Same m (x15.1, x15.2.1, x15.2.2.1, x15.2.2.2.1, x15.2.2.2.2.1, x15.2.2.2.2.2.1, x16.1, x16.2.1, x16.2.2.1, x16.2.2.2.1, x16.2.2.2.2.1, x16.2.2.2.2.2.1)).bind fun x23 =>
        bif !x23 then some false else
        bif x15.2.2.2.2.2.2 != x16.2.2.2.2.2.2 then some false else
        bif !((x17.1 == x18.1) && ((x17.2.1 == x18.2.1) && ((x17.2.2.1 == x18.2.2.1) && ((x17.2.2.2.1 == x18.2.2.2.1) && ((x17.2.2.2.2.1 == x18.2.2.2.2.1) && true))))) then some false else
        bif !(x17.2.2.2.2.2.1 == x18.2.2.2.2.2.1) then some false else
        bif x17.2.2.2.2.2.2 != x18.2.2.2.2.2.2 then some false else
        (F_ref21_Same m (x19.1, x19.2.1, x19.2.2.1, x19.2.2.2.1, x19.2.2.2.2.1, x19.2.2.2.2.2.1, x20.1, x20.2.1, x20.2.2.1, x20.2.2.2.1, x20.2.2.2.2.1, x20.2.2.2.2.2.1)).bind fun x29 =>
        bif !x29 then some false else
        bif x19.2.2.2.2.2.2 != x20.2.2.2.2.2.2 then some false else
        (F_ref21_Same m (x21.1, x21.2.1, x21.2.2.1, x21.2.2.2.1, x21.2.2.2.2.1, x21.2.2.2.2.2.1, x22.1, x22.2.1, x22.2.2.1, x22.2.2.2.1, x22.2.2.2.2.1, x22.2.2.2.2.2.1)).bind fun x32 =>
        bif !x32 then some false else
        bif x21.2.2.2.2.2.2 != x22.2.2.2.2.2.2 then some false else
        (F_image_Check m x14).bind fun x35 =>
        (F_ref21_Check m (a0, a1, a2, a3, a4, a5)).bind fun x36 =>
        bif x35 != x36 then some false else
        (F_image_Same m (x14.1, x14.2.1, x14.2.2.1, x14.2.2.2.1, x14.2.2.2.2.1, x14.2.2.2.2.2, x15.1, x15.2.1, x15.2.2.1, x15.2.2.2.1, x15.2.2.2.2.1, x15.2.2.2.2.2.1)).bind fun x38 =>
        (F_ref21_Same m (a0, a1, a2, a3, a4, a5, x15.1, x15.2.1, x15.2.2.1, x15.2.2.2.1, x15.2.2.2.2.1, x15.2.2.2.2.2.1)).bind fun x39 =>
        bif !(x38 == x39) then some false else
        (F_image_Same m (x14.1, x14.2.1, x14.2.2.1, x14.2.2.2.1, x14.2.2.2.2.1, x14.2.2.2.2.2, a0, a1, a2, a3, a4, a5)).bind fun x41 =>
        bif !x41 then some false else
        (iter m (F_law21_ImageChanges.l262138 m) ((0 : Int), x15.2.2.1)).bind fun _ =>
        (iter m (F_law21_ImageChanges.l524282 m) ((0 : Int), x15.2.1)).bind fun _ =>
        (iter m (F_law21_ImageChanges.l1048570 m) ((0 : Int), x19.2.2.1)).bind fun _ =>
        (iter m (F_law21_ImageChanges.l2097146 m) ((0 : Int), x21.2.1)).bind fun _ =>
        (F_ref21_Same m (x14.1, x14.2.1, x14.2.2.1, x14.2.2.2.1, x14.2.2.2.2.1, x14.2.2.2.2.2, a0, a1, a2, a3, a4, a5)).bind fun x67 =>
        bif x67 then
          (F_ref01_SameChanges m (a6, a6)).bind fun x68 =>
          bif x68 then
            (F_ref08_Same m (a1, a1)).bind fun x69 =>
            some x69
          else some false
        else some false
      else none
    else none
def F_law21_ImageChanges.ann : List (Nat × Ann) := [(6, .jnt [(.ret, ⟨[(8, false, [.dat .bool])], [], [], [], 112⟩), (.normal, ⟨[], [], [], [], 112⟩)]),
  (262138, .loop ⟨[(30, false, [.dat (.int .i64)])], [], [(257, .pr (.int .i64) (.pr .str (.pr .str (.pr (.int .u32) (.pr (.int .i64) (.int .u64))))), .wr)], [], 2592⟩ [(.exit 0, ⟨[], [], [(257, .pr (.int .i64) (.pr .str (.pr .str (.pr (.int .u32) (.pr (.int .i64) (.int .u64))))), .wr)], [], 2592⟩)]),
  (524282, .loop ⟨[(31, false, [.dat (.int .i64)])], [], [(256, .int .i64, .wr)], [], 2608⟩ [(.exit 2, ⟨[], [], [], [256], 2608⟩)]),
  (1048570, .loop ⟨[(32, false, [.dat (.int .i64)])], [], [(897, .pr (.int .i64) (.pr .str (.pr .str (.pr (.int .u32) (.pr (.int .i64) (.int .u64))))), .wr)], [], 2624⟩ [(.exit 4, ⟨[], [], [], [897], 2624⟩)]),
  (2097146, .loop ⟨[(33, false, [.dat (.int .i64)])], [], [(1232, .int .i64, .wr)], [], 2640⟩ [(.exit 6, ⟨[], [], [], [1232], 2640⟩)])]
def F_law21_ImageChanges.sig : Sig := ⟨[.val true [.int .i64, .sl (.int .i64), .sl (.pr (.int .i64) (.pr .str (.pr .str (.pr (.int .u32) (.pr (.int .i64) (.int .u64)))))), .int .i64, .int .i64, .bool], .val false [.sl (.pr (.int .u8) (.pr (.int .i64) (.pr (.pr .str (.pr .str (.pr (.int .u32) (.pr (.int .i64) (.int .u64))))) (.pr .str (.pr (.int .u8) (.pr (.int .i64) .bool))))))], .val true [.int .i64, .str], .val false [.int .i64]], [(false, [.dat .bool])]⟩
noncomputable def F_law21_ImageChanges.S : Summ := ⟨7, F_law21_ImageChanges.sig, F_law21_ImageChanges⟩
noncomputable def F_law21_ImageChanges.G : List Summ := [F_ref21_Great.S, F_ref01_Heavy.S, F_ref21_Twin.S, F_image_Apply.S, F_ref21_Apply.S, F_image_Get.S, F_ref21_Get.S, F_image_Alive.S, F_ref21_Alive.S, F_image_New.S, F_ref21_New.S, F_ref21_Same.S, F_image_Check.S, F_ref21_Check.S, F_image_Same.S, F_ref01_SameChanges.S, F_ref08_Same.S]
theorem F_law21_ImageChanges.eq : absF Try.prog F_law21_ImageChanges.G F_law21_ImageChanges.ann F_law21_ImageChanges.sig Try.f7 = F_law21_ImageChanges := by kernel_rfl
theorem F_law21_ImageChanges.sound : Sound Try.prog F_law21_ImageChanges.S := absF_sound (fn := Try.f7) (Γ := F_law21_ImageChanges.G) (all_cons F_ref21_Great.sound (all_cons F_ref01_Heavy.sound (all_cons F_ref21_Twin.sound (all_cons F_image_Apply.sound (all_cons F_ref21_Apply.sound (all_cons F_image_Get.sound (all_cons F_ref21_Get.sound (all_cons F_image_Alive.sound (all_cons F_ref21_Alive.sound (all_cons F_image_New.sound (all_cons F_ref21_New.sound (all_cons F_ref21_Same.sound (all_cons F_image_Check.sound (all_cons F_ref21_Check.sound (all_cons F_image_Same.sound (all_cons F_ref01_SameChanges.sound (all_cons F_ref08_Same.sound all_nil))))))))))))))))) mix (by kernel_rfl) (by kernel_rfl) (fun m p => congrFun (congrFun F_law21_ImageChanges.eq m) p)
/-! ### cloakroom/cloakroomlaw21.new2 -/
noncomputable def F_law21_new2 (m : Fu) (_ : Unit) : Option (Int × (List Int) × (List (Int × (List Int) × (List Int) × Int × Int × Int)) × Int × Int × Bool) :=
  (F_image_New m ([2, 2] : List Int)).bind fun x1 =>
  some (x1.1, x1.2.1, x1.2.2.1, x1.2.2.2.1, x1.2.2.2.2.1, x1.2.2.2.2.2.1)
def F_law21_new2.ann : List (Nat × Ann) := []
def F_law21_new2.sig : Sig := ⟨[], [(true, [.dat (.int .i64), .own (.int .i64) 0 .wr, .dat (.sl (.pr (.int .i64) (.pr .str (.pr .str (.pr (.int .u32) (.pr (.int .i64) (.int .u64))))))), .dat (.int .i64), .dat (.int .i64), .dat .bool])]⟩
noncomputable def F_law21_new2.S : Summ := ⟨36, F_law21_new2.sig, F_law21_new2⟩
noncomputable def F_law21_new2.G : List Summ := [F_image_New.S]
theorem F_law21_new2.eq : absF Try.prog F_law21_new2.G F_law21_new2.ann F_law21_new2.sig Try.f36 = F_law21_new2 := by kernel_rfl
theorem F_law21_new2.sound : Sound Try.prog F_law21_new2.S := absF_sound (fn := Try.f36) (Γ := F_law21_new2.G) (all_cons F_image_New.sound all_nil) mix (by kernel_rfl) (by kernel_rfl) (fun m p => congrFun (congrFun F_law21_new2.eq m) p)
/-! ### cloakroom/cloakroomlaw21.put -/
noncomputable def F_law21_put (_ : Fu) (p : Int × (List Int) × Int) : Option (Int × Int × (List Int) × (List Int) × Int × Int × Int × (List Int) × Int × Int × Bool) :=
  let a0 := p.1
  let a1 := p.2.1
  let a2 := p.2.2
  some ((1 : Int), a0, a1, ([] : List Int), (0 : Int), a2, (0 : Int), ([] : List Int), (0 : Int), (0 : Int), false)
def F_law21_put.ann : List (Nat × Ann) := []
def F_law21_put.sig : Sig := ⟨[.val false [.int .i64], .val false [.str], .val false [.int .i64]], [(true, [.dat (.int .u8), .dat (.int .i64), .dat .str, .dat .str, .dat (.int .u32), .dat (.int .i64), .dat (.int .u64), .dat .str, .dat (.int .u8), .dat (.int .i64), .dat .bool])]⟩
noncomputable def F_law21_put.S : Summ := ⟨37, F_law21_put.sig, F_law21_put⟩
noncomputable def F_law21_put.G : List Summ := []
theorem F_law21_put.eq : absF Try.prog F_law21_put.G F_law21_put.ann F_law21_put.sig Try.f37 = F_law21_put := by kernel_rfl
theorem F_law21_put.sound : Sound Try.prog F_law21_put.S := absF_sound (fn := Try.f37) (Γ := F_law21_put.G) all_nil mix (by kernel_rfl) (by kernel_rfl) (fun m p => congrFun (congrFun F_law21_put.eq m) p)
/-! ### cloakroom/cloakroomlaw21.keys -/
noncomputable def F_law21_keys.l58 (_ : Fu) (a2 : List (Int × (List Int) × (List Int) × Int × Int × Int)) (x1 : (List Int) × Int) : Option (Step ((List Int) × Int) ((List Int))) :=
  bif decide (x1.2 < (a2.length : Int)) then
    bif (decide ((0 : Int) ≤ x1.2)) && (decide (x1.2 < (a2.length : Int))) then
      let x8 := [(IntKind.u8.wrap (IntKind.i64.wrap ((48 : Int) + (((a2.getD x1.2.toNat (0, ([], ([], (0, (0, 0)))))).1).tmod (10 : Int)))))]
      bif Nat.ble (x1.1.length + x8.length) 140737488351232 then
        let x9 := x1.1 ++ x8
        bif (decide ((0 : Int) ≤ x1.2)) && (decide (x1.2 < (a2.length : Int))) then
          let x10 := a2.getD x1.2.toNat (0, ([], ([], (0, (0, 0)))))
          bif Nat.ble (x9.length + x10.2.1.length) 140737488351232 then
            let x11 := x9 ++ x10.2.1
            bif Nat.ble (x11.length + ([32] : List Int).length) 140737488351232 then
              some (.next ((x11 ++ ([32] : List Int)), (IntKind.i64.wrap (x1.2 + (1 : Int)))))
            else none
          else none
        else none
      else none
    else none
  else some (.fin x1.1)
noncomputable def F_law21_keys (m : Fu) (p : Int × (List Int) × (List (Int × (List Int) × (List Int) × Int × Int × Int)) × Int × Int × Bool) : Option (List Int) :=
  let a2 := p.2.2.1
  (iter m (F_law21_keys.l58 m a2) (([] : List Int), (0 : Int))).bind fun x14 =>
  some x14
def F_law21_keys.ann : List (Nat × Ann) := [(58, .loop ⟨[(3, false, [.dat .str]), (4, false, [.dat (.int .i64)])], [], [], [], 80⟩ [(.exit 0, ⟨[(3, false, [.dat .str])], [], [], [], 80⟩)])]
def F_law21_keys.sig : Sig := ⟨[.val true [.int .i64, .sl (.int .i64), .sl (.pr (.int .i64) (.pr .str (.pr .str (.pr (.int .u32) (.pr (.int .i64) (.int .u64)))))), .int .i64, .int .i64, .bool]], [(false, [.dat .str])]⟩
noncomputable def F_law21_keys.S : Summ := ⟨38, F_law21_keys.sig, F_law21_keys⟩
noncomputable def F_law21_keys.G : List Summ := []
theorem F_law21_keys.eq : absF Try.prog F_law21_keys.G F_law21_keys.ann F_law21_keys.sig Try.f38 = F_law21_keys := by kernel_rfl
theorem F_law21_keys.sound : Sound Try.prog F_law21_keys.S := absF_sound (fn := Try.f38) (Γ := F_law21_keys.G) all_nil mix (by kernel_rfl) (by kernel_rfl) (fun m p => congrFun (congrFun F_law21_keys.eq m) p)
/-! ### cloakroom/cloakroomlaw21.alive -/
noncomputable def F_law21_alive (m : Fu) (_ : Unit) : Option (Bool) :=
  (F_law21_new2 m ()).bind fun x1 =>
  (F_law21_put m ((0 : Int), ([97] : List Int), (0 : Int))).bind fun x2 =>
  (F_law21_put m ((1 : Int), ([97] : List Int), (0 : Int))).bind fun x3 =>
  (F_law21_put m ((0 : Int), ([97] : List Int), (0 : Int))).bind fun x4 =>
  (F_image_Apply m (x1.1, x1.2.1, x1.2.2.1, x1.2.2.2.1, x1.2.2.2.2.1, x1.2.2.2.2.2, ([(x2.1, (x2.2.1, ((x2.2.2.1, (x2.2.2.2.1, (x2.2.2.2.2.1, (x2.2.2.2.2.2.1, x2.2.2.2.2.2.2.1)))), x2.2.2.2.2.2.2.2))), (x3.1, (x3.2.1, ((x3.2.2.1, (x3.2.2.2.1, (x3.2.2.2.2.1, (x3.2.2.2.2.2.1, x3.2.2.2.2.2.2.1)))), x3.2.2.2.2.2.2.2))), (x4.1, (x4.2.1, ((x4.2.2.1, (x4.2.2.2.1, (x4.2.2.2.2.1, (x4.2.2.2.2.2.1, x4.2.2.2.2.2.2.1)))), x4.2.2.2.2.2.2.2)))]))).bind fun x6 =>
  bif x6.2.2.2.2.2.2 == (0 : Int) then
    (F_law21_keys m (x6.1, x6.2.1, x6.2.2.1, x6.2.2.2.1, x6.2.2.2.2.1, x6.2.2.2.2.2.1)).bind fun x8 =>
    some (x8 == ([49, 97, 32, 48, 97, 32] : List Int))
  else some false
def F_law21_alive.ann : List (Nat × Ann) := []
def F_law21_alive.sig : Sig := ⟨[], [(false, [.dat .bool])]⟩
noncomputable def F_law21_alive.S : Summ := ⟨20, F_law21_alive.sig, F_law21_alive⟩
noncomputable def F_law21_alive.G : List Summ := [F_law21_new2.S, F_law21_put.S, F_image_Apply.S, F_law21_keys.S]
theorem F_law21_alive.eq : absF Try.prog F_law21_alive.G F_law21_alive.ann F_law21_alive.sig Try.f20 = F_law21_alive := by kernel_rfl
theorem F_law21_alive.sound : Sound Try.prog F_law21_alive.S := absF_sound (fn := Try.f20) (Γ := F_law21_alive.G) (all_cons F_law21_new2.sound (all_cons F_law21_put.sound (all_cons F_image_Apply.sound (all_cons F_law21_keys.sound all_nil)))) mix (by kernel_rfl) (by kernel_rfl) (fun m p => congrFun (congrFun F_law21_alive.eq m) p)
/-! ### cloakroom/cloakroomlaw21.ImageNames -/
noncomputable def F_law21_ImageNames (m : Fu) (_ : Unit) : Option (Bool) :=
  (F_law21_alive m ()).bind fun x1 =>
  bif !x1 then some false else
  (F_law21_new2 m ()).bind fun x3 =>
  (F_law21_put m ((0 : Int), ([97] : List Int), (0 : Int))).bind fun x4 =>
  (F_law21_put m ((1 : Int), ([97] : List Int), (0 : Int))).bind fun x5 =>
  (F_law21_put m ((0 : Int), ([97] : List Int), (0 : Int))).bind fun x6 =>
  (F_image_Apply m (x3.1, x3.2.1, x3.2.2.1, x3.2.2.2.1, x3.2.2.2.2.1, x3.2.2.2.2.2, ([(x4.1, (x4.2.1, ((x4.2.2.1, (x4.2.2.2.1, (x4.2.2.2.2.1, (x4.2.2.2.2.2.1, x4.2.2.2.2.2.2.1)))), x4.2.2.2.2.2.2.2))), (x5.1, (x5.2.1, ((x5.2.2.1, (x5.2.2.2.1, (x5.2.2.2.2.1, (x5.2.2.2.2.2.1, x5.2.2.2.2.2.2.1)))), x5.2.2.2.2.2.2.2))), (x6.1, (x6.2.1, ((x6.2.2.1, (x6.2.2.2.1, (x6.2.2.2.2.1, (x6.2.2.2.2.2.1, x6.2.2.2.2.2.2.1)))), x6.2.2.2.2.2.2.2)))]))).bind fun x8 =>
  (F_law21_put m ((0 : Int), ([98] : List Int), (5 : Int))).bind fun x9 =>
  (F_law21_put m ((0 : Int), ([99] : List Int), (6 : Int))).bind fun x10 =>
  (F_image_Apply m (x8.1, x8.2.1, x8.2.2.1, x8.2.2.2.1, x8.2.2.2.2.1, x8.2.2.2.2.2.1, ([((4 : Int), ((0 : Int), ((([] : List Int), (([] : List Int), ((0 : Int), ((0 : Int), (0 : Int))))), (([] : List Int), ((0 : Int), ((5 : Int), false)))))), (x9.1, (x9.2.1, ((x9.2.2.1, (x9.2.2.2.1, (x9.2.2.2.2.1, (x9.2.2.2.2.2.1, x9.2.2.2.2.2.2.1)))), x9.2.2.2.2.2.2.2))), (x10.1, (x10.2.1, ((x10.2.2.1, (x10.2.2.2.1, (x10.2.2.2.2.1, (x10.2.2.2.2.2.1, x10.2.2.2.2.2.2.1)))), x10.2.2.2.2.2.2.2)))]))).bind fun x12 =>
  (F_image_Alive m (x12.1, x12.2.1, x12.2.2.1, x12.2.2.2.1, x12.2.2.2.2.1, x12.2.2.2.2.2.1, (6 : Int))).bind fun x13 =>
  (F_law21_new2 m ()).bind fun x14 =>
  (F_law21_put m ((2 : Int), ([97] : List Int), (0 : Int))).bind fun x15 =>
  (F_image_Apply m (x14.1, x14.2.1, x14.2.2.1, x14.2.2.2.1, x14.2.2.2.2.1, x14.2.2.2.2.2, ([(x15.1, (x15.2.1, ((x15.2.2.1, (x15.2.2.2.1, (x15.2.2.2.2.1, (x15.2.2.2.2.2.1, x15.2.2.2.2.2.2.1)))), x15.2.2.2.2.2.2.2)))]))).bind fun x17 =>
  (F_law21_new2 m ()).bind fun x18 =>
  (F_image_Apply m (x18.1, x18.2.1, x18.2.2.1, x18.2.2.2.1, x18.2.2.2.2.1, x18.2.2.2.2.2, ([((4 : Int), ((0 : Int), ((([] : List Int), (([] : List Int), ((0 : Int), ((0 : Int), (0 : Int))))), (([] : List Int), ((0 : Int), ((5 : Int), false)))))), ((4 : Int), ((0 : Int), ((([] : List Int), (([] : List Int), ((0 : Int), ((0 : Int), (0 : Int))))), (([] : List Int), ((0 : Int), ((4 : Int), false))))))]))).bind fun x20 =>
  (F_law21_new2 m ()).bind fun x21 =>
  (F_image_Get m (x21.1, x21.2.1, x21.2.2.1, x21.2.2.2.1, x21.2.2.2.2.1, x21.2.2.2.2.2, (2 : Int), ([97] : List Int))).bind fun x22 =>
  (F_image_New m ([] : List Int)).bind fun x23 =>
  (F_law21_new2 m ()).bind fun x24 =>
  (F_image_Write m x24).bind fun x25 =>
  (F_law21_new2 m ()).bind fun x26 =>
  (F_image_From m x26).bind fun x27 =>
  bif x12.2.2.2.2.2.2 == (0 : Int) then
    (F_law21_keys m (x12.1, x12.2.1, x12.2.2.1, x12.2.2.2.1, x12.2.2.2.2.1, x12.2.2.2.2.2.1)).bind fun x30 =>
    bif x30 == ([49, 97, 32, 48, 97, 32, 48, 99, 32] : List Int) then
      bif x13.2.2.2.2.2.2 == (0 : Int) then
        (F_law21_keys m (x13.1, x13.2.1, x13.2.2.1, x13.2.2.2.1, x13.2.2.2.2.1, x13.2.2.2.2.2.1)).bind fun x33 =>
        bif x33 == ([49, 97, 32, 48, 97, 32] : List Int) then
          bif x17.2.2.2.2.2.2 == (2 : Int) then
            bif x20.2.2.2.2.2.2 == (2 : Int) then
              bif x22.2.2.2.2.2.2 == (2 : Int) then
                bif x23.2.2.2.2.2.2 == (2 : Int) then
                  bif x25.2 == (0 : Int) then
                    bif x25.1 == ([0, 2, 2, 2, 0, 0, 0, 0] : List Int) then
                      bif x27.2 == (0 : Int) then
                        (F_ref01_SameChanges m (x27.1, ([((4 : Int), ((0 : Int), ((([] : List Int), (([] : List Int), ((0 : Int), ((0 : Int), (0 : Int))))), (([] : List Int), ((0 : Int), ((0 : Int), false)))))), ((5 : Int), ((0 : Int), ((([] : List Int), (([] : List Int), ((0 : Int), ((0 : Int), (0 : Int))))), (([] : List Int), ((0 : Int), ((2 : Int), false)))))), ((5 : Int), ((1 : Int), ((([] : List Int), (([] : List Int), ((0 : Int), ((0 : Int), (0 : Int))))), (([] : List Int), ((0 : Int), ((2 : Int), false)))))), ((7 : Int), ((0 : Int), ((([] : List Int), (([] : List Int), ((0 : Int), ((0 : Int), (0 : Int))))), (([] : List Int), ((0 : Int), ((0 : Int), false)))))), ((6 : Int), ((0 : Int), ((([] : List Int), (([] : List Int), ((0 : Int), ((0 : Int), (0 : Int))))), (([] : List Int), ((0 : Int), ((0 : Int), false))))))]))).bind fun x42 =>
                        bif x42 then
                          (F_image_Check m ((0 : Int), ([] : List Int), ([] : List (Int × (List Int) × (List Int) × Int × Int × Int)), (0 : Int), (0 : Int), false)).bind fun x43 =>
                          some (x43 == (8 : Int))
                        else some false
                      else some false
                    else some false
                  else some false
                else some false
              else some false
            else some false
          else some false
        else some false
      else some false
    else some false
  else some false
def F_law21_ImageNames.ann : List (Nat × Ann) := []
def F_law21_ImageNames.sig : Sig := ⟨[], [(false, [.dat .bool])]⟩
noncomputable def F_law21_ImageNames.S : Summ := ⟨8, F_law21_ImageNames.sig, F_law21_ImageNames⟩
noncomputable def F_law21_ImageNames.G : List Summ := [F_law21_alive.S, F_law21_new2.S, F_law21_put.S, F_image_Apply.S, F_image_Alive.S, F_image_Get.S, F_image_New.S, F_image_Write.S, F_image_From.S, F_law21_keys.S, F_ref01_SameChanges.S, F_image_Check.S]
theorem F_law21_ImageNames.eq : absF Try.prog F_law21_ImageNames.G F_law21_ImageNames.ann F_law21_ImageNames.sig Try.f8 = F_law21_ImageNames := by kernel_rfl
theorem F_law21_ImageNames.sound : Sound Try.prog F_law21_ImageNames.S := absF_sound (fn := Try.f8) (Γ := F_law21_ImageNames.G) (all_cons F_law21_alive.sound (all_cons F_law21_new2.sound (all_cons F_law21_put.sound (all_cons F_image_Apply.sound (all_cons F_image_Alive.sound (all_cons F_image_Get.sound (all_cons F_image_New.sound (all_cons F_image_Write.sound (all_cons F_image_From.sound (all_cons F_law21_keys.sound (all_cons F_ref01_SameChanges.sound (all_cons F_image_Check.sound all_nil)))))))))))) mix (by kernel_rfl) (by kernel_rfl) (fun m p => congrFun (congrFun F_law21_ImageNames.eq m) p)
/-! ### cloakroom/cloakroomlaw21.small -/
noncomputable def F_law21_small (m : Fu) (p : Int × (List Int) × (List (Int × (List Int) × (List Int) × Int × Int × Int)) × Int × Int × Bool × (List (Int × Int × ((List Int) × (List Int) × Int × Int × Int) × (List Int) × Int × Int × Bool))) : Option (Bool) :=
  let a0 := p.1
  let a1 := p.2.1
  let a2 := p.2.2.1
  let a3 := p.2.2.2.1
  let a4 := p.2.2.2.2.1
  let a5 := p.2.2.2.2.2.1
  let a6 := p.2.2.2.2.2.2
  (F_ref21_Great m (a0, a1, a2, a3, a4, a5)).bind fun x1 =>
  bif !x1 then
    (F_ref01_Heavy m a6).bind fun x3 =>
    bif !x3 then
      bif decide ((a6.length : Int) ≤ (300 : Int)) then
        some true
      else some (decide ((a2.length : Int) ≤ (100 : Int)))
    else some false
  else some false
def F_law21_small.ann : List (Nat × Ann) := []
def F_law21_small.sig : Sig := ⟨[.val true [.int .i64, .sl (.int .i64), .sl (.pr (.int .i64) (.pr .str (.pr .str (.pr (.int .u32) (.pr (.int .i64) (.int .u64)))))), .int .i64, .int .i64, .bool], .val false [.sl (.pr (.int .u8) (.pr (.int .i64) (.pr (.pr .str (.pr .str (.pr (.int .u32) (.pr (.int .i64) (.int .u64))))) (.pr .str (.pr (.int .u8) (.pr (.int .i64) .bool))))))]], [(false, [.dat .bool])]⟩
noncomputable def F_law21_small.S : Summ := ⟨21, F_law21_small.sig, F_law21_small⟩
noncomputable def F_law21_small.G : List Summ := [F_ref21_Great.S, F_ref01_Heavy.S]
theorem F_law21_small.eq : absF Try.prog F_law21_small.G F_law21_small.ann F_law21_small.sig Try.f21 = F_law21_small := by kernel_rfl
theorem F_law21_small.sound : Sound Try.prog F_law21_small.S := absF_sound (fn := Try.f21) (Γ := F_law21_small.G) (all_cons F_ref21_Great.sound (all_cons F_ref01_Heavy.sound all_nil)) mix (by kernel_rfl) (by kernel_rfl) (fun m p => congrFun (congrFun F_law21_small.eq m) p)
/-! ### cloakroom/cloakroomlaw21.ImageParts -/
noncomputable def F_law21_ImageParts (m : Fu) (p : Int × (List Int) × (List (Int × (List Int) × (List Int) × Int × Int × Int)) × Int × Int × Bool × (List (Int × Int × ((List Int) × (List Int) × Int × Int × Int) × (List Int) × Int × Int × Bool)) × Int) : Option (Bool) :=
  let a0 := p.1
  let a1 := p.2.1
  let a2 := p.2.2.1
  let a3 := p.2.2.2.1
  let a4 := p.2.2.2.2.1
  let a5 := p.2.2.2.2.2.1
  let a6 := p.2.2.2.2.2.2.1
  let a7 := p.2.2.2.2.2.2.2
  (F_law21_alive m ()).bind fun x1 =>
  bif !x1 then some false else
  (F_law21_small m (a0, a1, a2, a3, a4, a5, a6)).bind fun x3 =>
  bif !x3 then some x1 else
  bif decide (a7 < (0 : Int)) then some x1 else
  bif decide ((a6.length : Int) < a7) then some x1 else
  (F_image_Apply m (a0, a1, a2, a3, a4, a5, a6)).bind fun x8 =>
  bif ((decide ((0 : Int) ≤ a7)) && (decide (a7 ≤ (a6.length : Int)))) && (decide ((a6.length : Int) ≤ (a6.length : Int))) then
    (F_image_Apply m (a0, a1, a2, a3, a4, a5, ((a6.take a7.toNat).drop 0))).bind fun x10 =>
    bif x8.2.2.2.2.2.2 != (0 : Int) then
      bif x1 then
        some ((x8.2.1.length : Int) == (0 : Int))
      else some false
    else
      bif x10.2.2.2.2.2.2 != (0 : Int) then some false else
      bif (((decide ((0 : Int) ≤ a7)) && (decide (a7 ≤ (a6.length : Int)))) && (decide ((a6.length : Int) ≤ (a6.length : Int)))) && (decide ((a6.length : Int) ≤ (a6.length : Int))) then
        (F_image_Apply m (x10.1, x10.2.1, x10.2.2.1, x10.2.2.2.1, x10.2.2.2.2.1, x10.2.2.2.2.2.1, ((a6.take ((a6.length : Int).toNat)).drop a7.toNat))).bind fun x16 =>
        bif x1 then
          bif x16.2.2.2.2.2.2 == (0 : Int) then
            (F_image_Same m (x8.1, x8.2.1, x8.2.2.1, x8.2.2.2.1, x8.2.2.2.2.1, x8.2.2.2.2.2.1, x16.1, x16.2.1, x16.2.2.1, x16.2.2.2.1, x16.2.2.2.2.1, x16.2.2.2.2.2.1)).bind fun x18 =>
            bif x18 then
              (F_image_Check m (x8.1, x8.2.1, x8.2.2.1, x8.2.2.2.1, x8.2.2.2.2.1, x8.2.2.2.2.2.1)).bind fun x19 =>
              bif x19 == (0 : Int) then
                (F_image_Check m (x10.1, x10.2.1, x10.2.2.1, x10.2.2.2.1, x10.2.2.2.2.1, x10.2.2.2.2.2.1)).bind fun x21 =>
                some (x21 == (0 : Int))
              else some false
            else some false
          else some false
        else some false
      else none
  else none
def F_law21_ImageParts.ann : List (Nat × Ann) := []
def F_law21_ImageParts.sig : Sig := ⟨[.val true [.int .i64, .sl (.int .i64), .sl (.pr (.int .i64) (.pr .str (.pr .str (.pr (.int .u32) (.pr (.int .i64) (.int .u64)))))), .int .i64, .int .i64, .bool], .val false [.sl (.pr (.int .u8) (.pr (.int .i64) (.pr (.pr .str (.pr .str (.pr (.int .u32) (.pr (.int .i64) (.int .u64))))) (.pr .str (.pr (.int .u8) (.pr (.int .i64) .bool))))))], .val false [.int .i64]], [(false, [.dat .bool])]⟩
noncomputable def F_law21_ImageParts.S : Summ := ⟨5, F_law21_ImageParts.sig, F_law21_ImageParts⟩
noncomputable def F_law21_ImageParts.G : List Summ := [F_law21_alive.S, F_law21_small.S, F_image_Apply.S, F_image_Same.S, F_image_Check.S]
theorem F_law21_ImageParts.eq : absF Try.prog F_law21_ImageParts.G F_law21_ImageParts.ann F_law21_ImageParts.sig Try.f5 = F_law21_ImageParts := by kernel_rfl
theorem F_law21_ImageParts.sound : Sound Try.prog F_law21_ImageParts.S := absF_sound (fn := Try.f5) (Γ := F_law21_ImageParts.G) (all_cons F_law21_alive.sound (all_cons F_law21_small.sound (all_cons F_image_Apply.sound (all_cons F_image_Same.sound (all_cons F_image_Check.sound all_nil))))) mix (by kernel_rfl) (by kernel_rfl) (fun m p => congrFun (congrFun F_law21_ImageParts.eq m) p)
/-! ### cloakroom/cloakroomref19.Touches -/
noncomputable def F_ref19_Touches (_ : Fu) (p : Int × Int × (List Int) × (List Int) × Int × Int × Int × (List Int) × Int × Int × Bool × Int × (List Int)) : Option (Bool) :=
  let a0 := p.1
  let a1 := p.2.1
  let a2 := p.2.2.1
  let a7 := p.2.2.2.2.2.2.2.1
  let a11 := p.2.2.2.2.2.2.2.2.2.2.2.1
  let a12 := p.2.2.2.2.2.2.2.2.2.2.2.2
  bif a0 == (1 : Int) then
    bif a1 == a11 then
      some (a2 == a12)
    else some false
  else
    bif a0 == (2 : Int) then
      bif a1 == a11 then
        some (a7 == a12)
      else some false
    else
      bif a0 == (3 : Int) then
        some (a1 == a11)
      else some false
def F_ref19_Touches.ann : List (Nat × Ann) := []
def F_ref19_Touches.sig : Sig := ⟨[.val true [.int .u8, .int .i64, .str, .str, .int .u32, .int .i64, .int .u64, .str, .int .u8, .int .i64, .bool], .val true [.int .i64, .str]], [(false, [.dat .bool])]⟩
noncomputable def F_ref19_Touches.S : Summ := ⟨55, F_ref19_Touches.sig, F_ref19_Touches⟩
noncomputable def F_ref19_Touches.G : List Summ := []
theorem F_ref19_Touches.eq : absF Try.prog F_ref19_Touches.G F_ref19_Touches.ann F_ref19_Touches.sig Try.f55 = F_ref19_Touches := by kernel_rfl
theorem F_ref19_Touches.sound : Sound Try.prog F_ref19_Touches.S := absF_sound (fn := Try.f55) (Γ := F_ref19_Touches.G) all_nil mix (by kernel_rfl) (by kernel_rfl) (fun m p => congrFun (congrFun F_ref19_Touches.eq m) p)
/-! ### cloakroom/cloakroomlaw21.last -/
noncomputable def F_law21_last.l58 (m : Fu) (a0 : List (Int × Int × ((List Int) × (List Int) × Int × Int × Int) × (List Int) × Int × Int × Bool)) (a1 : Int) (a2 : List Int) (x1 : Int × Int) : Option (Step (Int × Int) Int) :=
  bif decide (x1.2 < (a0.length : Int)) then
    bif (decide ((0 : Int) ≤ x1.2)) && (decide (x1.2 < (a0.length : Int))) then
      let x4 := a0.getD x1.2.toNat (0, (0, (([], ([], (0, (0, 0)))), ([], (0, (0, false))))))
      (F_ref19_Touches m (x4.1, x4.2.1, x4.2.2.1.1, x4.2.2.1.2.1, x4.2.2.1.2.2.1, x4.2.2.1.2.2.2.1, x4.2.2.1.2.2.2.2, x4.2.2.2.1, x4.2.2.2.2.1, x4.2.2.2.2.2.1, x4.2.2.2.2.2.2, a1, a2)).bind fun x5 =>
      bif x5 then
        some (.next (x1.2, (IntKind.i64.wrap (x1.2 + (1 : Int)))))
      else some (.next (x1.1, (IntKind.i64.wrap (x1.2 + (1 : Int)))))
    else none
  else some (.fin x1.1)
noncomputable def F_law21_last (m : Fu) (p : (List (Int × Int × ((List Int) × (List Int) × Int × Int × Int) × (List Int) × Int × Int × Bool)) × Int × (List Int)) : Option (Int) :=
  let a0 := p.1
  let a1 := p.2.1
  let a2 := p.2.2
  (iter m (F_law21_last.l58 m a0 a1 a2) ((-1 : Int), (0 : Int))).bind fun x8 =>
  some x8
def F_law21_last.ann : List (Nat × Ann) := [(58, .loop ⟨[(5, false, [.dat (.int .i64)]), (6, false, [.dat (.int .i64)])], [], [], [], 96⟩ [(.exit 0, ⟨[(5, false, [.dat (.int .i64)])], [], [], [], 96⟩)])]
def F_law21_last.sig : Sig := ⟨[.val false [.sl (.pr (.int .u8) (.pr (.int .i64) (.pr (.pr .str (.pr .str (.pr (.int .u32) (.pr (.int .i64) (.int .u64))))) (.pr .str (.pr (.int .u8) (.pr (.int .i64) .bool))))))], .val true [.int .i64, .str]], [(false, [.dat (.int .i64)])]⟩
noncomputable def F_law21_last.S : Summ := ⟨23, F_law21_last.sig, F_law21_last⟩
noncomputable def F_law21_last.G : List Summ := [F_ref19_Touches.S]
theorem F_law21_last.eq : absF Try.prog F_law21_last.G F_law21_last.ann F_law21_last.sig Try.f23 = F_law21_last := by kernel_rfl
theorem F_law21_last.sound : Sound Try.prog F_law21_last.S := absF_sound (fn := Try.f23) (Γ := F_law21_last.G) (all_cons F_ref19_Touches.sound all_nil) mix (by kernel_rfl) (by kernel_rfl) (fun m p => congrFun (congrFun F_law21_last.eq m) p)
/-! ### cloakroom/cloakroomlaw21.ImageLast -/
noncomputable def F_law21_ImageLast.s508 (_ : Fu) (x7 : Int × (List Int) × (List (Int × (List Int) × (List Int) × Int × Int × Int)) × Int × Int × Bool × Int) (x8 : (List Int) × (List Int) × Int × Int × Int × Bool × Int) : Option (Bool) :=
  bif x7.2.2.2.2.2.2 != (0 : Int) then
    some true
  else some (x8.2.2.2.2.2.2 != (0 : Int))
noncomputable def F_law21_ImageLast.s4094 (_ : Fu) (a6 : List (Int × Int × ((List Int) × (List Int) × Int × Int × Int) × (List Int) × Int × Int × Bool)) (x13 : (List Int) × (List Int) × Int × Int × Int × Bool × Int) (x15 : Int) : Option ((Bool × (List Int) × (List Int) × Int × Int × Int)) :=
  bif decide ((0 : Int) ≤ x15) then
    bif (decide ((0 : Int) ≤ x15)) && (decide (x15 < (a6.length : Int))) then
      bif (decide ((0 : Int) ≤ x15)) && (decide (x15 < (a6.length : Int))) then
        some ((((a6.getD x15.toNat (0, (0, (([], ([], (0, (0, 0)))), ([], (0, (0, false))))))).1) == (1 : Int)), ((((a6.getD x15.toNat (0, (0, (([], ([], (0, (0, 0)))), ([], (0, (0, false))))))).2).2).1))
      else none
    else none
  else some (x13.2.2.2.2.2.1, x13.1, x13.2.1, x13.2.2.1, x13.2.2.2.1, x13.2.2.2.2.1)
noncomputable def F_law21_ImageLast.s8190 (_ : Fu) (x7 : Int × (List Int) × (List (Int × (List Int) × (List Int) × Int × Int × Int)) × Int × Int × Bool × Int) (x20 : (Bool × (List Int) × (List Int) × Int × Int × Int)) : Option (Bool) :=
  bif x20.1 then
    bif x20.2.2.2.2.1 != (0 : Int) then
      bif decide (x20.2.2.2.2.1 ≤ x7.1) then
        some false
      else some x20.1
    else some x20.1
  else some x20.1
noncomputable def F_law21_ImageLast (m : Fu) (p : Int × (List Int) × (List (Int × (List Int) × (List Int) × Int × Int × Int)) × Int × Int × Bool × (List (Int × Int × ((List Int) × (List Int) × Int × Int × Int) × (List Int) × Int × Int × Bool)) × Int × (List Int)) : Option (Bool) :=
  let a0 := p.1
  let a1 := p.2.1
  let a2 := p.2.2.1
  let a3 := p.2.2.2.1
  let a4 := p.2.2.2.2.1
  let a5 := p.2.2.2.2.2.1
  let a6 := p.2.2.2.2.2.2.1
  let a7 := p.2.2.2.2.2.2.2.1
  let a8 := p.2.2.2.2.2.2.2.2
  (F_law21_alive m ()).bind fun x1 =>
  bif !x1 then some false else
  (F_law21_small m (a0, a1, a2, a3, a4, a5, a6)).bind fun x3 =>
  bif !x3 then some x1 else
  bif decide ((1000 : Int) < (a8.length : Int)) then some x1 else
  (F_image_Apply m (a0, a1, a2, a3, a4, a5, a6)).bind fun x7 =>
  (F_image_Get m (x7.1, x7.2.1, x7.2.2.1, x7.2.2.2.1, x7.2.2.2.2.1, x7.2.2.2.2.2.1, a7, a8)).bind fun x8 =>
  (F_law21_ImageLast.s508 m x7 x8).bind fun x11 =>
  bif x11 then
    bif x1 then
      some (!x8.2.2.2.2.2.1)
    else some false
  else
    (F_image_Get m (a0, a1, a2, a3, a4, a5, a7, a8)).bind fun x13 =>
    bif x13.2.2.2.2.2.2 != (0 : Int) then some false else
    (F_law21_last m (a6, a7, a8)).bind fun x15 =>
    (F_law21_ImageLast.s4094 m a6 x13 x15).bind fun x20 =>
    (F_law21_ImageLast.s8190 m x7 x20).bind fun x23 =>
    bif x1 then
      bif x8.2.2.2.2.2.1 == x23 then
        bif !x8.2.2.2.2.2.1 then
          some true
        else some ((x8.1 == x20.2.1) && ((x8.2.1 == x20.2.2.1) && ((x8.2.2.1 == x20.2.2.2.1) && ((x8.2.2.2.1 == x20.2.2.2.2.1) && ((x8.2.2.2.2.1 == x20.2.2.2.2.2) && true)))))
      else some false
    else some false
def F_law21_ImageLast.ann : List (Nat × Ann) := [(508, .jnt [(.normal, ⟨[(49, false, [.dat .bool])], [], [], [], 640⟩)]),
  (4094, .jnt [(.normal, ⟨[(14, false, [.dat .bool])], [(752, [.dat .str, .dat .str, .dat (.int .u32), .dat (.int .i64), .dat (.int .u64)])], [], [], 912⟩)]),
  (8190, .jnt [(.normal, ⟨[(14, false, [.dat .bool])], [], [], [], 912⟩)])]
def F_law21_ImageLast.sig : Sig := ⟨[.val true [.int .i64, .sl (.int .i64), .sl (.pr (.int .i64) (.pr .str (.pr .str (.pr (.int .u32) (.pr (.int .i64) (.int .u64)))))), .int .i64, .int .i64, .bool], .val false [.sl (.pr (.int .u8) (.pr (.int .i64) (.pr (.pr .str (.pr .str (.pr (.int .u32) (.pr (.int .i64) (.int .u64))))) (.pr .str (.pr (.int .u8) (.pr (.int .i64) .bool))))))], .val true [.int .i64, .str]], [(false, [.dat .bool])]⟩
noncomputable def F_law21_ImageLast.S : Summ := ⟨6, F_law21_ImageLast.sig, F_law21_ImageLast⟩
noncomputable def F_law21_ImageLast.G : List Summ := [F_law21_alive.S, F_law21_small.S, F_image_Apply.S, F_image_Get.S, F_law21_last.S]
theorem F_law21_ImageLast.eq : absF Try.prog F_law21_ImageLast.G F_law21_ImageLast.ann F_law21_ImageLast.sig Try.f6 = F_law21_ImageLast := by kernel_rfl
theorem F_law21_ImageLast.sound : Sound Try.prog F_law21_ImageLast.S := absF_sound (fn := Try.f6) (Γ := F_law21_ImageLast.G) (all_cons F_law21_alive.sound (all_cons F_law21_small.sound (all_cons F_image_Apply.sound (all_cons F_image_Get.sound (all_cons F_law21_last.sound all_nil))))) mix (by kernel_rfl) (by kernel_rfl) (fun m p => congrFun (congrFun F_law21_ImageLast.eq m) p)
/-! ### cloakroom/cloakroomlaw21.ImageBack -/
noncomputable def F_law21_ImageBack.s126 (m : Fu) (a0 : Int) (a1 : List Int) (a2 : List (Int × (List Int) × (List Int) × Int × Int × Int)) (a3 : Int) (a4 : Int) (a5 : Bool) (x6 : (List Int) × Int) : Option (Bool ⊕ Unit) :=
  bif x6.2 == (0 : Int) then
    (F_image_Read m x6.1).bind fun x8 =>
    bif x8.2.2.2.2.2.2 != (0 : Int) then some (Sum.inl false) else
    (F_image_Same m (x8.1, x8.2.1, x8.2.2.1, x8.2.2.2.1, x8.2.2.2.2.1, x8.2.2.2.2.2.1, a0, a1, a2, a3, a4, a5)).bind fun x10 =>
    bif !x10 then
      some (Sum.inl false)
    else some (Sum.inr ())
  else some (Sum.inr ())
noncomputable def F_law21_ImageBack.s1020 (m : Fu) (x15 : (List (Int × Int × ((List Int) × (List Int) × Int × Int × Int) × (List Int) × Int × Int × Bool)) × Int) : Option (Bool) :=
  bif x15.2 == (0 : Int) then
    (F_ref01_Heavy m x15.1).bind fun x17 =>
    some (!x17)
  else some false
noncomputable def F_law21_ImageBack.s510 (m : Fu) (a0 : Int) (a1 : List Int) (a2 : List (Int × (List Int) × (List Int) × Int × Int × Int)) (a3 : Int) (a4 : Int) (a5 : Bool) (x15 : (List (Int × Int × ((List Int) × (List Int) × Int × Int × Int) × (List Int) × Int × Int × Bool)) × Int) : Option (Bool ⊕ Unit) :=
  (F_law21_ImageBack.s1020 m x15).bind fun x19 =>
  bif x19 then
    let x20 := (a1.length : Int)
    bif ((decide ((0 : Int) ≤ x20)) && (decide (x20 ≤ x20))) && (decide (x20 ≤ (4294967296 : Int))) then
      (F_image_New m (List.replicate x20.toNat 0)).bind fun x22 =>
      (F_image_Apply m (x22.1, x22.2.1, x22.2.2.1, x22.2.2.2.1, x22.2.2.2.2.1, x22.2.2.2.2.2.1, x15.1)).bind fun x23 =>
      bif x22.2.2.2.2.2.2 != (0 : Int) then some (Sum.inl false) else
      bif x23.2.2.2.2.2.2 != (0 : Int) then
        bif x23.2.2.2.2.2.2 != (3 : Int) then some (Sum.inl false) else
        bif x23.2.2.2.2.2.2 == (0 : Int) then
          (F_image_Same m (x23.1, x23.2.1, x23.2.2.1, x23.2.2.2.1, x23.2.2.2.2.1, x23.2.2.2.2.2.1, a0, a1, a2, a3, a4, a5)).bind fun x28 =>
          bif !x28 then
            some (Sum.inl false)
          else some (Sum.inr ())
        else some (Sum.inr ())
      else
        bif x23.2.2.2.2.2.2 == (0 : Int) then
          (F_image_Same m (x23.1, x23.2.1, x23.2.2.1, x23.2.2.2.1, x23.2.2.2.2.1, x23.2.2.2.2.2.1, a0, a1, a2, a3, a4, a5)).bind fun x31 =>
          bif !x31 then
            some (Sum.inl false)
          else some (Sum.inr ())
        else some (Sum.inr ())
    else none
  else some (Sum.inr ())
noncomputable def F_law21_ImageBack (m : Fu) (p : Int × (List Int) × (List (Int × (List Int) × (List Int) × Int × Int × Int)) × Int × Int × Bool × (List Int)) : Option (Bool) :=
  let a0 := p.1
  let a1 := p.2.1
  let a2 := p.2.2.1
  let a3 := p.2.2.2.1
  let a4 := p.2.2.2.2.1
  let a5 := p.2.2.2.2.2.1
  let a6 := p.2.2.2.2.2.2
  (F_law21_alive m ()).bind fun x1 =>
  bif !x1 then some false else
  (F_ref21_Great m (a0, a1, a2, a3, a4, a5)).bind fun x3 =>
  bif x3 then some x1 else
  bif decide ((100000 : Int) < (a6.length : Int)) then some x1 else
  (F_image_Write m (a0, a1, a2, a3, a4, a5)).bind fun x6 =>
  (F_law21_ImageBack.s126 m a0 a1 a2 a3 a4 a5 x6).bind fun x12 =>
  match x12 with
  | .inl x13 =>
    some x13
  | .inr _ =>
    (F_image_From m (a0, a1, a2, a3, a4, a5)).bind fun x15 =>
    (F_law21_ImageBack.s510 m a0 a1 a2 a3 a4 a5 x15).bind fun x33 =>
    match x33 with
    | .inl x34 =>
      some x34
    | .inr _ =>
      (F_image_Read m a6).bind fun x36 =>
      bif x36.2.2.2.2.2.2 != (0 : Int) then
        bif x1 then
          bif x36.2.2.2.2.2.2 == (8 : Int) then
            some true
          else some (x36.2.2.2.2.2.2 == (3 : Int))
        else some false
      else
        (F_image_Write m (x36.1, x36.2.1, x36.2.2.1, x36.2.2.2.1, x36.2.2.2.2.1, x36.2.2.2.2.2.1)).bind fun x40 =>
        bif x1 then
          bif x40.2 == (0 : Int) then
            some (x40.1 == a6)
          else some false
        else some false
def F_law21_ImageBack.ann : List (Nat × Ann) := [(126, .jnt [(.ret, ⟨[(4, false, [.dat .bool])], [], [], [], 352⟩), (.normal, ⟨[], [], [], [], 352⟩)]),
  (510, .jnt [(.ret, ⟨[(4, false, [.dat .bool])], [], [], [], 464⟩), (.normal, ⟨[], [], [], [], 464⟩)]),
  (1020, .jnt [(.normal, ⟨[(61, false, [.dat .bool])], [], [], [], 464⟩)])]
def F_law21_ImageBack.sig : Sig := ⟨[.val true [.int .i64, .sl (.int .i64), .sl (.pr (.int .i64) (.pr .str (.pr .str (.pr (.int .u32) (.pr (.int .i64) (.int .u64)))))), .int .i64, .int .i64, .bool], .val false [.sl (.int .u8)]], [(false, [.dat .bool])]⟩
noncomputable def F_law21_ImageBack.S : Summ := ⟨9, F_law21_ImageBack.sig, F_law21_ImageBack⟩
noncomputable def F_law21_ImageBack.G : List Summ := [F_law21_alive.S, F_ref21_Great.S, F_image_Write.S, F_image_Read.S, F_image_Same.S, F_image_From.S, F_ref01_Heavy.S, F_image_New.S, F_image_Apply.S]
theorem F_law21_ImageBack.eq : absF Try.prog F_law21_ImageBack.G F_law21_ImageBack.ann F_law21_ImageBack.sig Try.f9 = F_law21_ImageBack := by kernel_rfl
theorem F_law21_ImageBack.sound : Sound Try.prog F_law21_ImageBack.S := absF_sound (fn := Try.f9) (Γ := F_law21_ImageBack.G) (all_cons F_law21_alive.sound (all_cons F_ref21_Great.sound (all_cons F_image_Write.sound (all_cons F_image_Read.sound (all_cons F_image_Same.sound (all_cons F_image_From.sound (all_cons F_ref01_Heavy.sound (all_cons F_image_New.sound (all_cons F_image_Apply.sound all_nil))))))))) mix (by kernel_rfl) (by kernel_rfl) (fun m p => congrFun (congrFun F_law21_ImageBack.eq m) p)
/-! ### cloakroom/cloakroomlaw21.ImageOrder -/
noncomputable def F_law21_ImageOrder.s33461152 (_ : Fu) (a2 : List (Int × (List Int) × (List Int) × Int × Int × Int)) (x9 : Int × (List Int) × (List (Int × (List Int) × (List Int) × Int × Int × Int)) × Int × Int × Bool × Int) (x11 : Int × Int × Int) (x19 : Int) : Option (Unit ⊕ Unit) :=
  bif decide (x19 < (a2.length : Int)) then
    bif (decide ((0 : Int) ≤ x19)) && (decide (x19 < (a2.length : Int))) then
      let x22 := a2.getD x19.toNat (0, ([], ([], (0, (0, 0)))))
      bif (decide ((0 : Int) ≤ x11.2.2)) && (decide (x11.2.2 < (x9.2.2.1.length : Int))) then
        bif Nat.blt x11.2.2.toNat x9.2.2.1.length then
          let x23 := x9.2.2.1.getD x11.2.2.toNat (0, ([], ([], (0, (0, 0)))))
          bif !((x22.1 == x23.1) && (((x22.2.1 == x23.2.1) && ((x22.2.2.1 == x23.2.2.1) && ((x22.2.2.2.1 == x23.2.2.2.1) && ((x22.2.2.2.2.1 == x23.2.2.2.2.1) && ((x22.2.2.2.2.2 == x23.2.2.2.2.2) && true))))) && true)) then
            some (Sum.inl ())
          else some (Sum.inr ())
        else none
      else none
    else none
  else some (Sum.inr ())
noncomputable def F_law21_ImageOrder.l8365288 (m : Fu) (a2 : List (Int × (List Int) × (List Int) × Int × Int × Int)) (x9 : Int × (List Int) × (List (Int × (List Int) × (List Int) × Int × Int × Int)) × Int × Int × Bool × Int) (x11 : Int × Int × Int) (x19 : Int) : Option (Step Int Int) :=
  (F_law21_ImageOrder.s33461152 m a2 x9 x11 x19).bind fun x25 =>
  match x25 with
  | .inl _ =>
    some (.next (IntKind.i64.wrap (x19 + (1 : Int))))
  | .inr _ =>
    some (.fin x19)
noncomputable def F_law21_ImageOrder.l2042 (m : Fu) (a2 : List (Int × (List Int) × (List Int) × Int × Int × Int)) (a6 : List (Int × Int × ((List Int) × (List Int) × Int × Int × Int) × (List Int) × Int × Int × Bool)) (x9 : Int × (List Int) × (List (Int × (List Int) × (List Int) × Int × Int × Int)) × Int × Int × Bool × Int) (x11 : Int × Int × Int) : Option (Step (Int × Int × Int) (Bool ⊕ Unit)) :=
  bif decide (x11.2.2 < (x9.2.2.1.length : Int)) then
    bif (decide ((0 : Int) ≤ x11.2.2)) && (decide (x11.2.2 < (x9.2.2.1.length : Int))) then
      bif Nat.blt x11.2.2.toNat x9.2.2.1.length then
        bif (decide ((0 : Int) ≤ x11.2.2)) && (decide (x11.2.2 < (x9.2.2.1.length : Int))) then
          bif Nat.blt x11.2.2.toNat x9.2.2.1.length then
            (F_law21_last m (a6, ((x9.2.2.1.getD x11.2.2.toNat (0, ([], ([], (0, (0, 0)))))).1), (((x9.2.2.1.getD x11.2.2.toNat (0, ([], ([], (0, (0, 0)))))).2).1))).bind fun x16 =>
            bif decide (x16 < x11.2.1) then some (.fin (Sum.inl false)) else
            bif decide (x16 < (0 : Int)) then
              (iter m (F_law21_ImageOrder.l8365288 m a2 x9 x11) x11.1).bind fun x29 =>
              bif x29 == (a2.length : Int) then
                some (.fin (Sum.inl false))
              else some (.next (x29, x16, (IntKind.i64.wrap (x11.2.2 + (1 : Int)))))
            else some (.next (x11.1, x16, (IntKind.i64.wrap (x11.2.2 + (1 : Int)))))
          else none
        else none
      else none
    else none
  else some (.fin (Sum.inr ()))
noncomputable def F_law21_ImageOrder (m : Fu) (p : Int × (List Int) × (List (Int × (List Int) × (List Int) × Int × Int × Int)) × Int × Int × Bool × (List (Int × Int × ((List Int) × (List Int) × Int × Int × Int) × (List Int) × Int × Int × Bool))) : Option (Bool) :=
  let a0 := p.1
  let a1 := p.2.1
  let a2 := p.2.2.1
  let a3 := p.2.2.2.1
  let a4 := p.2.2.2.2.1
  let a5 := p.2.2.2.2.2.1
  let a6 := p.2.2.2.2.2.2
  (F_law21_alive m ()).bind fun x1 =>
  bif !x1 then some false else
  (F_law21_small m (a0, a1, a2, a3, a4, a5, a6)).bind fun x3 =>
  bif !x3 then some x1 else
  bif decide ((200 : Int) < (a6.length : Int)) then some x1 else
  bif decide ((200 : Int) < (a2.length : Int)) then some x1 else
  (F_image_Apply m (a0, a1, a2, a3, a4, a5, a6)).bind fun x9 =>
  bif x9.2.2.2.2.2.2 != (0 : Int) then some x1 else
  (iter m (F_law21_ImageOrder.l2042 m a2 a6 x9) ((0 : Int), (-1 : Int), (0 : Int))).bind fun x34 =>
  match x34 with
  | .inl x35 =>
    some x35
  | .inr _ =>
    some x1
def F_law21_ImageOrder.ann : List (Nat × Ann) := [(2042, .loop ⟨[(8, false, [.dat (.int .i64)]), (9, false, [.dat (.int .i64)]), (10, false, [.dat (.int .i64)])], [], [], [], 592⟩ [(.ret, ⟨[(4, false, [.dat .bool])], [], [], [], 592⟩), (.exit 0, ⟨[], [], [], [], 592⟩)]),
  (8365288, .loop ⟨[(8, false, [.dat (.int .i64)])], [], [], [], 1072⟩ [(.exit 2, ⟨[(8, false, [.dat (.int .i64)])], [], [], [], 1072⟩)]),
  (33461152, .jnt [(.normal, ⟨[], [], [], [], 1072⟩), (.exit 2, ⟨[], [], [], [], 1072⟩)])]
def F_law21_ImageOrder.sig : Sig := ⟨[.val true [.int .i64, .sl (.int .i64), .sl (.pr (.int .i64) (.pr .str (.pr .str (.pr (.int .u32) (.pr (.int .i64) (.int .u64)))))), .int .i64, .int .i64, .bool], .val false [.sl (.pr (.int .u8) (.pr (.int .i64) (.pr (.pr .str (.pr .str (.pr (.int .u32) (.pr (.int .i64) (.int .u64))))) (.pr .str (.pr (.int .u8) (.pr (.int .i64) .bool))))))]], [(false, [.dat .bool])]⟩
noncomputable def F_law21_ImageOrder.S : Summ := ⟨4, F_law21_ImageOrder.sig, F_law21_ImageOrder⟩
noncomputable def F_law21_ImageOrder.G : List Summ := [F_law21_alive.S, F_law21_small.S, F_image_Apply.S, F_law21_last.S]
theorem F_law21_ImageOrder.eq : absF Try.prog F_law21_ImageOrder.G F_law21_ImageOrder.ann F_law21_ImageOrder.sig Try.f4 = F_law21_ImageOrder := by kernel_rfl
theorem F_law21_ImageOrder.sound : Sound Try.prog F_law21_ImageOrder.S := absF_sound (fn := Try.f4) (Γ := F_law21_ImageOrder.G) (all_cons F_law21_alive.sound (all_cons F_law21_small.sound (all_cons F_image_Apply.sound (all_cons F_law21_last.sound all_nil)))) mix (by kernel_rfl) (by kernel_rfl) (fun m p => congrFun (congrFun F_law21_ImageOrder.eq m) p)
end Go.Proofs.Ytkggcbfkhkgeaaa
