/- The pure functions that the program's functions compute, and that they compute them. Printed by a program of this session (gen.py). -/
import Derived.Test.YtmkfifilpkhfoaaProg
import Derived.Test.YtmkfifilpkhfoaaA4
namespace Go.Proofs.Ytmkfifilpkhfoaa
open Go.Abs
set_option maxRecDepth 100000
theorem mix : Try.prog.follows .mixedOrders = true := by kernel_rfl
/-! ### cloakroom/cloakroomref24.Great -/
noncomputable def F_ref24_Great.s232 (_ : Fu) (a3 : List (List Int)) (x1 : Int × Int) : Option (Unit ⊕ Unit) :=
  bif decide (x1.2 < (a3.length : Int)) then
    bif decide (x1.2 < (200 : Int)) then
      some (Sum.inl ())
    else some (Sum.inr ())
  else some (Sum.inr ())
noncomputable def F_ref24_Great.l58 (m : Fu) (a3 : List (List Int)) (x1 : Int × Int) : Option (Step (Int × Int) Int) :=
  (F_ref24_Great.s232 m a3 x1).bind fun x5 =>
  match x5 with
  | .inl _ =>
    bif (decide ((0 : Int) ≤ x1.2)) && (decide (x1.2 < (a3.length : Int))) then
      some (.next ((IntKind.i64.wrap (x1.1 + (mnI ((a3.getD x1.2.toNat []).length : Int) (200000 : Int)))), (IntKind.i64.wrap (x1.2 + (1 : Int)))))
    else none
  | .inr _ =>
    some (.fin x1.1)
noncomputable def F_ref24_Great (m : Fu) (p : Int × Int × Int × (List (List Int))) : Option (Bool) :=
  let a3 := p.2.2.2
  (iter m (F_ref24_Great.l58 m a3) ((0 : Int), (0 : Int))).bind fun x13 =>
  bif decide ((100 : Int) < (a3.length : Int)) then
    some true
  else some (decide ((200000 : Int) < x13))
def F_ref24_Great.ann : List (Nat × Ann) := [(58, .loop ⟨[(3, false, [.dat (.int .i64)]), (4, false, [.dat (.int .i64)])], [], [], [], 80⟩ [(.exit 0, ⟨[(3, false, [.dat (.int .i64)])], [], [], [], 80⟩)]),
  (232, .jnt [(.normal, ⟨[], [], [], [], 80⟩), (.exit 0, ⟨[], [], [], [], 80⟩)])]
def F_ref24_Great.sig : Sig := ⟨[.val true [.int .i64, .int .i64, .int .i64, .sl (.sl (.int .u8))]], [(false, [.dat .bool])]⟩
noncomputable def F_ref24_Great.S : Summ := ⟨17, F_ref24_Great.sig, F_ref24_Great⟩
noncomputable def F_ref24_Great.G : List Summ := []
theorem F_ref24_Great.eq : absF Try.prog F_ref24_Great.G F_ref24_Great.ann F_ref24_Great.sig Try.f17 = F_ref24_Great := by kernel_rfl
theorem F_ref24_Great.sound : Sound Try.prog F_ref24_Great.S := absF_sound (fn := Try.f17) (Γ := F_ref24_Great.G) all_nil mix (by kernel_rfl) (by kernel_rfl) (fun m p => congrFun (congrFun F_ref24_Great.eq m) p)
/-! ### cloakroom/cloakroomref01.Heavy -/
noncomputable def F_ref01_Heavy.s232 (_ : Fu) (a0 : List (Int × Int × ((List Int) × (List Int) × Int × Int × Int) × (List Int) × Int × Int × Bool)) (x1 : Int × Int) : Option (Unit ⊕ Unit) :=
  bif decide (x1.2 < (a0.length : Int)) then
    bif decide (x1.2 < (10000 : Int)) then
      some (Sum.inl ())
    else some (Sum.inr ())
  else some (Sum.inr ())
noncomputable def F_ref01_Heavy.l58 (m : Fu) (a0 : List (Int × Int × ((List Int) × (List Int) × Int × Int × Int) × (List Int) × Int × Int × Bool)) (x1 : Int × Int) : Option (Step (Int × Int) Int) :=
  (F_ref01_Heavy.s232 m a0 x1).bind fun x5 =>
  match x5 with
  | .inl _ =>
    bif (decide ((0 : Int) ≤ x1.2)) && (decide (x1.2 < (a0.length : Int))) then
      bif (decide ((0 : Int) ≤ x1.2)) && (decide (x1.2 < (a0.length : Int))) then
        bif (decide ((0 : Int) ≤ x1.2)) && (decide (x1.2 < (a0.length : Int))) then
          some (.next ((IntKind.i64.wrap ((IntKind.i64.wrap ((IntKind.i64.wrap (x1.1 + (mnI ((((((a0.getD x1.2.toNat (0, (0, (([], ([], (0, (0, 0)))), ([], (0, (0, false))))))).2).2).1).1).length : Int) (100000 : Int)))) + (mnI (((((((a0.getD x1.2.toNat (0, (0, (([], ([], (0, (0, 0)))), ([], (0, (0, false))))))).2).2).1).2).1).length : Int) (100000 : Int)))) + (mnI ((((((a0.getD x1.2.toNat (0, (0, (([], ([], (0, (0, 0)))), ([], (0, (0, false))))))).2).2).2).1).length : Int) (100000 : Int)))), (IntKind.i64.wrap (x1.2 + (1 : Int)))))
        else none
      else none
    else none
  | .inr _ =>
    some (.fin x1.1)
noncomputable def F_ref01_Heavy (m : Fu) (p : List (Int × Int × ((List Int) × (List Int) × Int × Int × Int) × (List Int) × Int × Int × Bool)) : Option (Bool) :=
  let a0 := p
  (iter m (F_ref01_Heavy.l58 m a0) ((0 : Int), (0 : Int))).bind fun x21 =>
  bif decide ((5000 : Int) < (a0.length : Int)) then
    some true
  else some (decide ((200000 : Int) < x21))
def F_ref01_Heavy.ann : List (Nat × Ann) := [(58, .loop ⟨[(3, false, [.dat (.int .i64)]), (4, false, [.dat (.int .i64)])], [], [], [], 64⟩ [(.exit 0, ⟨[(3, false, [.dat (.int .i64)])], [], [], [], 64⟩)]),
  (232, .jnt [(.normal, ⟨[], [], [], [], 64⟩), (.exit 0, ⟨[], [], [], [], 64⟩)])]
def F_ref01_Heavy.sig : Sig := ⟨[.val false [.sl (.pr (.int .u8) (.pr (.int .i64) (.pr (.pr .str (.pr .str (.pr (.int .u32) (.pr (.int .i64) (.int .u64))))) (.pr .str (.pr (.int .u8) (.pr (.int .i64) .bool))))))]], [(false, [.dat .bool])]⟩
noncomputable def F_ref01_Heavy.S : Summ := ⟨23, F_ref01_Heavy.sig, F_ref01_Heavy⟩
noncomputable def F_ref01_Heavy.G : List Summ := []
theorem F_ref01_Heavy.eq : absF Try.prog F_ref01_Heavy.G F_ref01_Heavy.ann F_ref01_Heavy.sig Try.f23 = F_ref01_Heavy := by kernel_rfl
theorem F_ref01_Heavy.sound : Sound Try.prog F_ref01_Heavy.S := absF_sound (fn := Try.f23) (Γ := F_ref01_Heavy.G) all_nil mix (by kernel_rfl) (by kernel_rfl) (fun m p => congrFun (congrFun F_ref01_Heavy.eq m) p)
/-! ### cloakroom/cloakroomref21.Great -/
noncomputable def F_ref21_Great.s232 (_ : Fu) (a2 : List (Int × (List Int) × (List Int) × Int × Int × Int)) (x1 : Int × Int) : Option (Unit ⊕ Unit) :=
  bif decide (x1.2 < (a2.length : Int)) then
    bif decide (x1.2 < (3000 : Int)) then
      some (Sum.inl ())
    else some (Sum.inr ())
  else some (Sum.inr ())
noncomputable def F_ref21_Great.l58 (m : Fu) (a2 : List (Int × (List Int) × (List Int) × Int × Int × Int)) (x1 : Int × Int) : Option (Step (Int × Int) Int) :=
  (F_ref21_Great.s232 m a2 x1).bind fun x5 =>
  match x5 with
  | .inl _ =>
    bif (decide ((0 : Int) ≤ x1.2)) && (decide (x1.2 < (a2.length : Int))) then
      bif (decide ((0 : Int) ≤ x1.2)) && (decide (x1.2 < (a2.length : Int))) then
        some (.next ((IntKind.i64.wrap ((IntKind.i64.wrap (x1.1 + (mnI ((((a2.getD x1.2.toNat (0, ([], ([], (0, (0, 0)))))).2).1).length : Int) (100000 : Int)))) + (mnI (((((a2.getD x1.2.toNat (0, ([], ([], (0, (0, 0)))))).2).2).1).length : Int) (100000 : Int)))), (IntKind.i64.wrap (x1.2 + (1 : Int)))))
      else none
    else none
  | .inr _ =>
    some (.fin x1.1)
noncomputable def F_ref21_Great (m : Fu) (p : Int × (List Int) × (List (Int × (List Int) × (List Int) × Int × Int × Int)) × Int × Int × Bool) : Option (Bool) :=
  let a1 := p.2.1
  let a2 := p.2.2.1
  (iter m (F_ref21_Great.l58 m a2) ((0 : Int), (0 : Int))).bind fun x17 =>
  bif decide ((40 : Int) < (a1.length : Int)) then some true else
  bif decide ((1100 : Int) < (a2.length : Int)) then
    some true
  else some (decide ((400000 : Int) < x17))
def F_ref21_Great.ann : List (Nat × Ann) := [(58, .loop ⟨[(3, false, [.dat (.int .i64)]), (4, false, [.dat (.int .i64)])], [], [], [], 80⟩ [(.exit 0, ⟨[(3, false, [.dat (.int .i64)])], [], [], [], 80⟩)]),
  (232, .jnt [(.normal, ⟨[], [], [], [], 80⟩), (.exit 0, ⟨[], [], [], [], 80⟩)])]
def F_ref21_Great.sig : Sig := ⟨[.val true [.int .i64, .sl (.int .i64), .sl (.pr (.int .i64) (.pr .str (.pr .str (.pr (.int .u32) (.pr (.int .i64) (.int .u64)))))), .int .i64, .int .i64, .bool]], [(false, [.dat .bool])]⟩
noncomputable def F_ref21_Great.S : Summ := ⟨18, F_ref21_Great.sig, F_ref21_Great⟩
noncomputable def F_ref21_Great.G : List Summ := []
theorem F_ref21_Great.eq : absF Try.prog F_ref21_Great.G F_ref21_Great.ann F_ref21_Great.sig Try.f18 = F_ref21_Great := by kernel_rfl
theorem F_ref21_Great.sound : Sound Try.prog F_ref21_Great.S := absF_sound (fn := Try.f18) (Γ := F_ref21_Great.G) all_nil mix (by kernel_rfl) (by kernel_rfl) (fun m p => congrFun (congrFun F_ref21_Great.eq m) p)
/-! ### cloakroom/cloakroomref24.Twin -/
noncomputable def F_ref24_Twin.l58 (_ : Fu) (a3 : List (List Int)) (x1 : Int × Int × Int × Int × (List (List Int))) : Option (Step (Int × Int × Int × Int × (List (List Int))) ((Int × Int × Int × (List (List Int))))) :=
  bif decide (x1.1 < (a3.length : Int)) then
    bif (decide ((0 : Int) ≤ x1.1)) && (decide (x1.1 < (a3.length : Int))) then
      let x4 := a3.getD x1.1.toNat []
      bif Nat.ble x4.length 140737488351232 then
        let x5 := [x4]
        bif Nat.ble (x1.2.2.2.2.length + x5.length) 4294967296 then
          some (.next ((IntKind.i64.wrap (x1.1 + (1 : Int))), x1.2.1, x1.2.2.1, x1.2.2.2.1, (x1.2.2.2.2 ++ x5)))
        else none
      else none
    else none
  else some (.fin x1.2)
noncomputable def F_ref24_Twin (m : Fu) (p : Int × Int × Int × (List (List Int))) : Option (Int × Int × Int × (List (List Int))) :=
  let a0 := p.1
  let a1 := p.2.1
  let a2 := p.2.2.1
  let a3 := p.2.2.2
  (iter m (F_ref24_Twin.l58 m a3) ((0 : Int), a0, a1, a2, ([] : List (List Int)))).bind fun x8 =>
  some x8
def F_ref24_Twin.ann : List (Nat × Ann) := [(58, .loop ⟨[(4, false, [.dat (.int .i64)])], [(160, [.dat (.int .i64), .dat (.int .i64), .dat (.int .i64), .own (.sl (.int .u8)) 208 .wr])], [], [], 209⟩ [(.exit 0, ⟨[], [(160, [.dat (.int .i64), .dat (.int .i64), .dat (.int .i64), .own (.sl (.int .u8)) 208 .wr])], [], [], 209⟩)])]
def F_ref24_Twin.sig : Sig := ⟨[.val true [.int .i64, .int .i64, .int .i64, .sl (.sl (.int .u8))]], [(true, [.dat (.int .i64), .dat (.int .i64), .dat (.int .i64), .own (.sl (.int .u8)) 0 .wr])]⟩
noncomputable def F_ref24_Twin.S : Summ := ⟨24, F_ref24_Twin.sig, F_ref24_Twin⟩
noncomputable def F_ref24_Twin.G : List Summ := []
theorem F_ref24_Twin.eq : absF Try.prog F_ref24_Twin.G F_ref24_Twin.ann F_ref24_Twin.sig Try.f24 = F_ref24_Twin := by kernel_rfl
theorem F_ref24_Twin.sound : Sound Try.prog F_ref24_Twin.S := absF_sound (fn := Try.f24) (Γ := F_ref24_Twin.G) all_nil mix (by kernel_rfl) (by kernel_rfl) (fun m p => congrFun (congrFun F_ref24_Twin.eq m) p)
/-! ### cloakroom/numbers.in -/
noncomputable def F_numbers_in (_ : Fu) (p : Int) : Option (Bool) :=
  let a0 := p
  bif decide ((0 : Int) ≤ a0) then
    some (decide (a0 ≤ (2147483647 : Int)))
  else some false
def F_numbers_in.ann : List (Nat × Ann) := []
def F_numbers_in.sig : Sig := ⟨[.val false [.int .i64]], [(false, [.dat .bool])]⟩
noncomputable def F_numbers_in.S : Summ := ⟨48, F_numbers_in.sig, F_numbers_in⟩
noncomputable def F_numbers_in.G : List Summ := []
theorem F_numbers_in.eq : absF Try.prog F_numbers_in.G F_numbers_in.ann F_numbers_in.sig Try.f48 = F_numbers_in := by kernel_rfl
theorem F_numbers_in.sound : Sound Try.prog F_numbers_in.S := absF_sound (fn := Try.f48) (Γ := F_numbers_in.G) all_nil mix (by kernel_rfl) (by kernel_rfl) (fun m p => congrFun (congrFun F_numbers_in.eq m) p)
/-! ### cloakroom/numbers.New -/
noncomputable def F_numbers_New (m : Fu) (p : Int × Int) : Option (Int × Int × Int × (List (List Int)) × Int) :=
  let a0 := p.1
  let a1 := p.2
  (F_numbers_in m a0).bind fun x1 =>
  bif !x1 then some ((0 : Int), (0 : Int), (0 : Int), ([] : List (List Int)), (2 : Int)) else
  (F_numbers_in m a1).bind fun x3 =>
  bif !x3 then
    some ((0 : Int), (0 : Int), (0 : Int), ([] : List (List Int)), (2 : Int))
  else some (a0, a1, (0 : Int), ([] : List (List Int)), (0 : Int))
def F_numbers_New.ann : List (Nat × Ann) := []
def F_numbers_New.sig : Sig := ⟨[.val false [.int .i64], .val false [.int .i64]], [(true, [.dat (.int .i64), .dat (.int .i64), .dat (.int .i64), .dat (.sl (.sl (.int .u8)))]), (false, [.dat (.int .i64)])]⟩
noncomputable def F_numbers_New.S : Summ := ⟨25, F_numbers_New.sig, F_numbers_New⟩
noncomputable def F_numbers_New.G : List Summ := [markS, F_numbers_in.S]
theorem F_numbers_New.eq : absF Try.prog F_numbers_New.G F_numbers_New.ann F_numbers_New.sig Try.f25 = F_numbers_New := by kernel_rfl
theorem F_numbers_New.sound : Sound Try.prog F_numbers_New.S := absF_sound (fn := Try.f25) (Γ := F_numbers_New.G) (all_cons mark_sound (all_cons F_numbers_in.sound all_nil)) mix (by kernel_rfl) (by kernel_rfl) (fun m p => congrFun (congrFun F_numbers_New.eq m) p)
/-! ### cloakroom/cloakroomref24.in -/
noncomputable def F_ref24_in (_ : Fu) (p : Int) : Option (Bool) :=
  let a0 := p
  bif decide ((0 : Int) ≤ a0) then
    some (decide (a0 ≤ (2147483647 : Int)))
  else some false
def F_ref24_in.ann : List (Nat × Ann) := []
def F_ref24_in.sig : Sig := ⟨[.val false [.int .i64]], [(false, [.dat .bool])]⟩
noncomputable def F_ref24_in.S : Summ := ⟨57, F_ref24_in.sig, F_ref24_in⟩
noncomputable def F_ref24_in.G : List Summ := []
theorem F_ref24_in.eq : absF Try.prog F_ref24_in.G F_ref24_in.ann F_ref24_in.sig Try.f57 = F_ref24_in := by kernel_rfl
theorem F_ref24_in.sound : Sound Try.prog F_ref24_in.S := absF_sound (fn := Try.f57) (Γ := F_ref24_in.G) all_nil mix (by kernel_rfl) (by kernel_rfl) (fun m p => congrFun (congrFun F_ref24_in.eq m) p)
/-! ### cloakroom/cloakroomref24.New -/
noncomputable def F_ref24_New (m : Fu) (p : Int × Int) : Option (Int × Int × Int × (List (List Int)) × Int) :=
  let a0 := p.1
  let a1 := p.2
  (F_ref24_in m a0).bind fun x1 =>
  bif !x1 then some ((0 : Int), (0 : Int), (0 : Int), ([] : List (List Int)), (2 : Int)) else
  (F_ref24_in m a1).bind fun x3 =>
  bif !x3 then
    some ((0 : Int), (0 : Int), (0 : Int), ([] : List (List Int)), (2 : Int))
  else some (a0, a1, (0 : Int), ([] : List (List Int)), (0 : Int))
def F_ref24_New.ann : List (Nat × Ann) := []
def F_ref24_New.sig : Sig := ⟨[.val false [.int .i64], .val false [.int .i64]], [(true, [.dat (.int .i64), .dat (.int .i64), .dat (.int .i64), .dat (.sl (.sl (.int .u8)))]), (false, [.dat (.int .i64)])]⟩
noncomputable def F_ref24_New.S : Summ := ⟨26, F_ref24_New.sig, F_ref24_New⟩
noncomputable def F_ref24_New.G : List Summ := [F_ref24_in.S]
theorem F_ref24_New.eq : absF Try.prog F_ref24_New.G F_ref24_New.ann F_ref24_New.sig Try.f26 = F_ref24_New := by kernel_rfl
theorem F_ref24_New.sound : Sound Try.prog F_ref24_New.S := absF_sound (fn := Try.f26) (Γ := F_ref24_New.G) (all_cons F_ref24_in.sound all_nil) mix (by kernel_rfl) (by kernel_rfl) (fun m p => congrFun (congrFun F_ref24_New.eq m) p)
/-! ### cloakroom/code.Read -/
noncomputable def F_code_Read.s7474 (_ : Fu) (x2 : Int × Int) (x4 : Int) : Option (Unit ⊕ Unit) :=
  bif x2.2 == (9 : Int) then
    bif decide ((1 : Int) < x4) then
      some (Sum.inl ())
    else some (Sum.inr ())
  else some (Sum.inr ())
noncomputable def F_code_Read.l58 (m : Fu) (a0 : List Int) (x1 : Int) (x2 : Int × Int) : Option (Step (Int × Int) (Unit ⊕ (Int × Int × Int))) :=
  bif decide (x2.2 < x1) then
    bif (decide ((0 : Int) ≤ x2.2)) && (decide (x2.2 < (a0.length : Int))) then
      let x4 := a0.getD x2.2.toNat 0
      (F_code_Read.s7474 m x2 x4).bind fun x7 =>
      match x7 with
      | .inl _ =>
        some (.fin (Sum.inl ()))
      | .inr _ =>
        let x12 := IntKind.i64.wrap ((7 : Int) * x2.2)
        bif decide (x12 < (0 : Int)) then none else
        let x14 := bitsOp .or .u64 x2.1 (shlOp .u64 (IntKind.u64.wrap (bitsOp .and .u8 x4 (127 : Int))) x12)
        bif decide (x4 < (128 : Int)) then
          bif x4 == (0 : Int) then
            bif decide ((0 : Int) < x2.2) then
              some (.fin (Sum.inl ()))
            else some (.fin (Sum.inr (x14, (IntKind.i64.wrap (x2.2 + (1 : Int))), (0 : Int))))
          else some (.fin (Sum.inr (x14, (IntKind.i64.wrap (x2.2 + (1 : Int))), (0 : Int))))
        else some (.next (x14, (IntKind.i64.wrap (x2.2 + (1 : Int)))))
    else none
  else some (.fin (Sum.inl ()))
noncomputable def F_code_Read (m : Fu) (p : List Int) : Option (Int × Int × Int) :=
  let a0 := p
  (iter m (F_code_Read.l58 m a0 (a0.length : Int)) ((0 : Int), (0 : Int))).bind fun x21 =>
  match x21 with
  | .inl _ =>
    some ((0 : Int), (0 : Int), (8 : Int))
  | .inr x23 =>
    some x23
def F_code_Read.ann : List (Nat × Ann) := [(58, .loop ⟨[(5, false, [.dat (.int .u64)]), (10, false, [.dat (.int .i64)])], [], [], [], 128⟩ [(.exit 0, ⟨[], [], [], [], 128⟩), (.ret, ⟨[(2, false, [.dat (.int .u64)]), (3, false, [.dat (.int .i64)]), (4, false, [.dat (.int .i64)])], [], [], [], 128⟩)]),
  (7474, .jnt [(.exit 0, ⟨[], [], [], [], 224⟩), (.normal, ⟨[], [], [], [], 224⟩)])]
def F_code_Read.sig : Sig := ⟨[.val false [.sl (.int .u8)]], [(false, [.dat (.int .u64)]), (false, [.dat (.int .i64)]), (false, [.dat (.int .i64)])]⟩
noncomputable def F_code_Read.S : Summ := ⟨42, F_code_Read.sig, F_code_Read⟩
noncomputable def F_code_Read.G : List Summ := []
theorem F_code_Read.eq : absF Try.prog F_code_Read.G F_code_Read.ann F_code_Read.sig Try.f42 = F_code_Read := by kernel_rfl
theorem F_code_Read.sound : Sound Try.prog F_code_Read.S := absF_sound (fn := Try.f42) (Γ := F_code_Read.G) all_nil mix (by kernel_rfl) (by kernel_rfl) (fun m p => congrFun (congrFun F_code_Read.eq m) p)
/-! ### (*cloakroom/code.reader).wide -/
noncomputable def F_code_reader_wide.s14 (_ : Fu) (a0 : List Int) (a1 : Bool) (x1 : Int × Int × Int) : Option (((List Int) × Bool)) :=
  bif a1 then
    some (a0, true)
  else some (a0, (x1.2.2 != (0 : Int)))
noncomputable def F_code_reader_wide (m : Fu) (p : (List Int) × Bool) : Option (Int × (List Int) × Bool) :=
  let a0 := p.1
  let a1 := p.2
  (F_code_Read m a0).bind fun x1 =>
  (F_code_reader_wide.s14 m a0 a1 x1).bind fun x3 =>
  bif (((decide ((0 : Int) ≤ x1.2.1)) && (decide (x1.2.1 ≤ (x3.1.length : Int)))) && (decide ((x3.1.length : Int) ≤ (x3.1.length : Int)))) && (decide ((x3.1.length : Int) ≤ (x3.1.length : Int))) then
    some (x1.1, ((x3.1.take ((x3.1.length : Int).toNat)).drop x1.2.1.toNat), x3.2)
  else none
def F_code_reader_wide.ann : List (Nat × Ann) := [(14, .jnt [(.normal, ⟨[], [(0, [.dat (.sl (.int .u8)), .dat .bool])], [], [], 224⟩)])]
def F_code_reader_wide.sig : Sig := ⟨[.box [.sl (.int .u8), .bool]], [(false, [.dat (.int .u64)])]⟩
noncomputable def F_code_reader_wide.S : Summ := ⟨111, F_code_reader_wide.sig, F_code_reader_wide⟩
noncomputable def F_code_reader_wide.G : List Summ := [F_code_Read.S]
theorem F_code_reader_wide.eq : absF Try.prog F_code_reader_wide.G F_code_reader_wide.ann F_code_reader_wide.sig Try.f111 = F_code_reader_wide := by kernel_rfl
theorem F_code_reader_wide.sound : Sound Try.prog F_code_reader_wide.S := absF_sound (fn := Try.f111) (Γ := F_code_reader_wide.G) (all_cons F_code_Read.sound all_nil) mix (by kernel_rfl) (by kernel_rfl) (fun m p => congrFun (congrFun F_code_reader_wide.eq m) p)
/-! ### (*cloakroom/code.reader).num -/
noncomputable def F_code_reader_num (m : Fu) (p : (List Int) × Bool × Int) : Option (Int × (List Int) × Bool) :=
  let a0 := p.1
  let a1 := p.2.1
  let a2 := p.2.2
  (F_code_reader_wide m (a0, a1)).bind fun x1 =>
  bif decide ((IntKind.u64.wrap a2) < x1.1) then
    some ((0 : Int), x1.2.1, true)
  else some ((IntKind.i64.wrap x1.1), x1.2)
def F_code_reader_num.ann : List (Nat × Ann) := []
def F_code_reader_num.sig : Sig := ⟨[.box [.sl (.int .u8), .bool], .val false [.int .i64]], [(false, [.dat (.int .i64)])]⟩
noncomputable def F_code_reader_num.S : Summ := ⟨103, F_code_reader_num.sig, F_code_reader_num⟩
noncomputable def F_code_reader_num.G : List Summ := [F_code_reader_wide.S]
theorem F_code_reader_num.eq : absF Try.prog F_code_reader_num.G F_code_reader_num.ann F_code_reader_num.sig Try.f103 = F_code_reader_num := by kernel_rfl
theorem F_code_reader_num.sound : Sound Try.prog F_code_reader_num.S := absF_sound (fn := Try.f103) (Γ := F_code_reader_num.G) (all_cons F_code_reader_wide.sound all_nil) mix (by kernel_rfl) (by kernel_rfl) (fun m p => congrFun (congrFun F_code_reader_num.eq m) p)
/-! ### (*cloakroom/code.reader).byte -/
noncomputable def F_code_reader_byte (_ : Fu) (p : (List Int) × Bool) : Option (Int × (List Int) × Bool) :=
  let a0 := p.1
  let a1 := p.2
  bif (a0.length : Int) == (0 : Int) then some ((0 : Int), a0, true) else
  bif decide ((0 : Int) < (a0.length : Int)) then
    bif ((decide ((1 : Int) ≤ (a0.length : Int))) && (decide ((a0.length : Int) ≤ (a0.length : Int)))) && (decide ((a0.length : Int) ≤ (a0.length : Int))) then
      some ((a0.getD 0 0), ((a0.take ((a0.length : Int).toNat)).drop 1), a1)
    else none
  else none
def F_code_reader_byte.ann : List (Nat × Ann) := []
def F_code_reader_byte.sig : Sig := ⟨[.box [.sl (.int .u8), .bool]], [(false, [.dat (.int .u8)])]⟩
noncomputable def F_code_reader_byte.S : Summ := ⟨112, F_code_reader_byte.sig, F_code_reader_byte⟩
noncomputable def F_code_reader_byte.G : List Summ := []
theorem F_code_reader_byte.eq : absF Try.prog F_code_reader_byte.G F_code_reader_byte.ann F_code_reader_byte.sig Try.f112 = F_code_reader_byte := by kernel_rfl
theorem F_code_reader_byte.sound : Sound Try.prog F_code_reader_byte.S := absF_sound (fn := Try.f112) (Γ := F_code_reader_byte.G) all_nil mix (by kernel_rfl) (by kernel_rfl) (fun m p => congrFun (congrFun F_code_reader_byte.eq m) p)
/-! ### cloakroom/code.cut -/
noncomputable def F_code_cut (m : Fu) (p : List Int) : Option ((List Int) × (List Int) × Int) :=
  let a0 := p
  (F_code_Read m a0).bind fun x1 =>
  bif x1.2.2 != (0 : Int) then some (([] : List Int), ([] : List Int), (8 : Int)) else
  bif decide ((IntKind.u64.wrap (IntKind.i64.wrap ((a0.length : Int) - x1.2.1))) < x1.1) then some (([] : List Int), ([] : List Int), (8 : Int)) else
  bif (((decide ((0 : Int) ≤ x1.2.1)) && (decide (x1.2.1 ≤ (a0.length : Int)))) && (decide ((a0.length : Int) ≤ (a0.length : Int)))) && (decide ((a0.length : Int) ≤ (a0.length : Int))) then
    let x7 := (a0.take ((a0.length : Int).toNat)).drop x1.2.1.toNat
    bif ((decide ((0 : Int) ≤ x1.1)) && (decide (x1.1 ≤ (x7.length : Int)))) && (decide ((x7.length : Int) ≤ (x7.length : Int))) then
      let x10 := IntKind.i64.wrap (x1.2.1 + (IntKind.i64.wrap x1.1))
      bif (((decide ((0 : Int) ≤ x10)) && (decide (x10 ≤ (a0.length : Int)))) && (decide ((a0.length : Int) ≤ (a0.length : Int)))) && (decide ((a0.length : Int) ≤ (a0.length : Int))) then
        some (((x7.take x1.1.toNat).drop 0), ((a0.take ((a0.length : Int).toNat)).drop x10.toNat), (0 : Int))
      else none
    else none
  else none
def F_code_cut.ann : List (Nat × Ann) := []
def F_code_cut.sig : Sig := ⟨[.val false [.sl (.int .u8)]], [(false, [.dat (.sl (.int .u8))]), (false, [.dat (.sl (.int .u8))]), (false, [.dat (.int .i64)])]⟩
noncomputable def F_code_cut.S : Summ := ⟨74, F_code_cut.sig, F_code_cut⟩
noncomputable def F_code_cut.G : List Summ := [F_code_Read.S]
theorem F_code_cut.eq : absF Try.prog F_code_cut.G F_code_cut.ann F_code_cut.sig Try.f74 = F_code_cut := by kernel_rfl
theorem F_code_cut.sound : Sound Try.prog F_code_cut.S := absF_sound (fn := Try.f74) (Γ := F_code_cut.G) (all_cons F_code_Read.sound all_nil) mix (by kernel_rfl) (by kernel_rfl) (fun m p => congrFun (congrFun F_code_cut.eq m) p)
/-! ### (*cloakroom/code.reader).text -/
noncomputable def F_code_reader_text (m : Fu) (p : (List Int) × Bool) : Option ((List Int) × (List Int) × Bool) :=
  let a0 := p.1
  let a1 := p.2
  (F_code_cut m a0).bind fun x1 =>
  bif x1.2.2 != (0 : Int) then
    some (([] : List Int), a0, true)
  else some (x1.1, x1.2.1, a1)
def F_code_reader_text.ann : List (Nat × Ann) := []
def F_code_reader_text.sig : Sig := ⟨[.box [.sl (.int .u8), .bool]], [(false, [.dat .str])]⟩
noncomputable def F_code_reader_text.S : Summ := ⟨113, F_code_reader_text.sig, F_code_reader_text⟩
noncomputable def F_code_reader_text.G : List Summ := [F_code_cut.S]
theorem F_code_reader_text.eq : absF Try.prog F_code_reader_text.G F_code_reader_text.ann F_code_reader_text.sig Try.f113 = F_code_reader_text := by kernel_rfl
theorem F_code_reader_text.sound : Sound Try.prog F_code_reader_text.S := absF_sound (fn := Try.f113) (Γ := F_code_reader_text.G) (all_cons F_code_cut.sound all_nil) mix (by kernel_rfl) (by kernel_rfl) (fun m p => congrFun (congrFun F_code_reader_text.eq m) p)
/-! ### (*cloakroom/code.reader).change -/
noncomputable def F_code_reader_change.s116 (_ : Fu) (x1 : Int × (List Int) × Bool) : Option (Bool) :=
  let x2 := x1.1 == (1 : Int)
  bif x2 then some x2 else
  let x3 := x1.1 == (2 : Int)
  bif x3 then some x3 else
  let x4 := x1.1 == (3 : Int)
  bif x4 then
    some x4
  else some (x1.1 == (5 : Int))
noncomputable def F_code_reader_change.s14 (m : Fu) (x1 : Int × (List Int) × Bool) : Option (((List Int) × Bool × Int × Int × (List Int) × (List Int) × Int × Int × Int × (List Int) × Int × Int × Bool)) :=
  (F_code_reader_change.s116 m x1).bind fun x6 =>
  bif x6 then
    (F_code_reader_num m (x1.2.1, x1.2.2, (4 : Int))).bind fun x7 =>
    some (x7.2.1, x7.2.2, x1.1, x7.1, ([] : List Int), ([] : List Int), (0 : Int), (0 : Int), (0 : Int), ([] : List Int), (0 : Int), (0 : Int), false)
  else some (x1.2.1, x1.2.2, x1.1, (0 : Int), ([] : List Int), ([] : List Int), (0 : Int), (0 : Int), (0 : Int), ([] : List Int), (0 : Int), (0 : Int), false)
noncomputable def F_code_reader_change.s3934 (_ : Fu) (x8 : ((List Int) × Bool × Int × Int × (List Int) × (List Int) × Int × Int × Int × (List Int) × Int × Int × Bool)) : Option (Bool) :=
  let x19 := x8.2.2.1 == (4 : Int)
  bif x19 then some x19 else
  let x20 := x8.2.2.1 == (5 : Int)
  bif x20 then some x20 else
  let x21 := x8.2.2.1 == (6 : Int)
  bif x21 then
    some x21
  else some (x8.2.2.1 == (7 : Int))
noncomputable def F_code_reader_change.s30 (m : Fu) (x8 : ((List Int) × Bool × Int × Int × (List Int) × (List Int) × Int × Int × Int × (List Int) × Int × Int × Bool)) : Option (((List Int) × Bool × Int × Int × (List Int) × (List Int) × Int × Int × Int × (List Int) × Int × Int × Bool)) :=
  bif x8.2.2.1 == (1 : Int) then
    (F_code_reader_text m (x8.1, x8.2.1)).bind fun x10 =>
    (F_code_reader_text m x10.2).bind fun x11 =>
    (F_code_reader_num m (x11.2.1, x11.2.2, (4294967295 : Int))).bind fun x12 =>
    (F_code_reader_num m (x12.2.1, x12.2.2, (1099511627776 : Int))).bind fun x14 =>
    (F_code_reader_wide m x14.2).bind fun x15 =>
    some (x15.2.1, x15.2.2, x8.2.2.1, x8.2.2.2.1, x10.1, x11.1, (IntKind.u32.wrap x12.1), x14.1, x15.1, x8.2.2.2.2.2.2.2.2.2)
  else
    bif x8.2.2.1 == (2 : Int) then
      (F_code_reader_text m (x8.1, x8.2.1)).bind fun x17 =>
      (F_code_reader_byte m x17.2).bind fun x18 =>
      some (x18.2.1, x18.2.2, x8.2.2.1, x8.2.2.2.1, x8.2.2.2.2.1, x8.2.2.2.2.2.1, x8.2.2.2.2.2.2.1, x8.2.2.2.2.2.2.2.1, x8.2.2.2.2.2.2.2.2.1, x17.1, x18.1, x8.2.2.2.2.2.2.2.2.2.2.2)
    else
      (F_code_reader_change.s3934 m x8).bind fun x23 =>
      bif x23 then
        (F_code_reader_num m (x8.1, x8.2.1, (1099511627776 : Int))).bind fun x24 =>
        some (x24.2.1, x24.2.2, x8.2.2.1, x8.2.2.2.1, x8.2.2.2.2.1, x8.2.2.2.2.2.1, x8.2.2.2.2.2.2.1, x8.2.2.2.2.2.2.2.1, x8.2.2.2.2.2.2.2.2.1, x8.2.2.2.2.2.2.2.2.2.1, x8.2.2.2.2.2.2.2.2.2.2.1, x24.1, x8.2.2.2.2.2.2.2.2.2.2.2.2)
      else some x8
noncomputable def F_code_reader_change.s62 (m : Fu) (x25 : ((List Int) × Bool × Int × Int × (List Int) × (List Int) × Int × Int × Int × (List Int) × Int × Int × Bool)) : Option (((List Int) × Bool × Int × Int × (List Int) × (List Int) × Int × Int × Int × (List Int) × Int × Int × Bool)) :=
  bif x25.2.2.1 == (6 : Int) then
    (F_code_reader_byte m (x25.1, x25.2.1)).bind fun x27 =>
    some (x27.2.1, x27.2.2, x25.2.2.1, x25.2.2.2.1, x25.2.2.2.2.1, x25.2.2.2.2.2.1, x25.2.2.2.2.2.2.1, x25.2.2.2.2.2.2.2.1, x25.2.2.2.2.2.2.2.2.1, x25.2.2.2.2.2.2.2.2.2.1, x25.2.2.2.2.2.2.2.2.2.2.1, x25.2.2.2.2.2.2.2.2.2.2.2.1, (x27.1 == (1 : Int)))
  else some x25
noncomputable def F_code_reader_change (m : Fu) (p : (List Int) × Bool) : Option (Int × Int × (List Int) × (List Int) × Int × Int × Int × (List Int) × Int × Int × Bool × (List Int) × Bool) :=
  let a0 := p.1
  let a1 := p.2
  (F_code_reader_byte m (a0, a1)).bind fun x1 =>
  (F_code_reader_change.s14 m x1).bind fun x8 =>
  (F_code_reader_change.s30 m x8).bind fun x25 =>
  (F_code_reader_change.s62 m x25).bind fun x29 =>
  some (x29.2.2.1, x29.2.2.2.1, x29.2.2.2.2.1, x29.2.2.2.2.2.1, x29.2.2.2.2.2.2.1, x29.2.2.2.2.2.2.2.1, x29.2.2.2.2.2.2.2.2.1, x29.2.2.2.2.2.2.2.2.2.1, x29.2.2.2.2.2.2.2.2.2.2.1, x29.2.2.2.2.2.2.2.2.2.2.2.1, x29.2.2.2.2.2.2.2.2.2.2.2.2, x29.1, x29.2.1)
def F_code_reader_change.ann : List (Nat × Ann) := [(14, .jnt [(.normal, ⟨[], [(0, [.dat (.sl (.int .u8)), .dat .bool]), (80, [.dat (.int .u8), .dat (.int .i64), .dat .str, .dat .str, .dat (.int .u32), .dat (.int .i64), .dat (.int .u64), .dat .str, .dat (.int .u8), .dat (.int .i64), .dat .bool])], [], [], 112⟩)]),
  (30, .jnt [(.normal, ⟨[], [(0, [.dat (.sl (.int .u8)), .dat .bool]), (80, [.dat (.int .u8), .dat (.int .i64), .dat .str, .dat .str, .dat (.int .u32), .dat (.int .i64), .dat (.int .u64), .dat .str, .dat (.int .u8), .dat (.int .i64), .dat .bool])], [], [], 112⟩)]),
  (62, .jnt [(.normal, ⟨[], [(0, [.dat (.sl (.int .u8)), .dat .bool]), (80, [.dat (.int .u8), .dat (.int .i64), .dat .str, .dat .str, .dat (.int .u32), .dat (.int .i64), .dat (.int .u64), .dat .str, .dat (.int .u8), .dat (.int .i64), .dat .bool])], [], [], 112⟩)]),
  (116, .jnt [(.normal, ⟨[(9, false, [.dat .bool])], [], [], [], 144⟩)]),
  (3934, .jnt [(.normal, ⟨[(42, false, [.dat .bool])], [], [], [], 208⟩)])]
def F_code_reader_change.sig : Sig := ⟨[.box [.sl (.int .u8), .bool]], [(true, [.dat (.int .u8), .dat (.int .i64), .dat .str, .dat .str, .dat (.int .u32), .dat (.int .i64), .dat (.int .u64), .dat .str, .dat (.int .u8), .dat (.int .i64), .dat .bool])]⟩
noncomputable def F_code_reader_change.S : Summ := ⟨104, F_code_reader_change.sig, F_code_reader_change⟩
noncomputable def F_code_reader_change.G : List Summ := [F_code_reader_byte.S, F_code_reader_num.S, F_code_reader_text.S, F_code_reader_wide.S]
theorem F_code_reader_change.eq : absF Try.prog F_code_reader_change.G F_code_reader_change.ann F_code_reader_change.sig Try.f104 = F_code_reader_change := by kernel_rfl
theorem F_code_reader_change.sound : Sound Try.prog F_code_reader_change.S := absF_sound (fn := Try.f104) (Γ := F_code_reader_change.G) (all_cons F_code_reader_byte.sound (all_cons F_code_reader_num.sound (all_cons F_code_reader_text.sound (all_cons F_code_reader_wide.sound all_nil)))) mix (by kernel_rfl) (by kernel_rfl) (fun m p => congrFun (congrFun F_code_reader_change.eq m) p)
/-! ### cloakroom/code.keyed -/
noncomputable def F_code_keyed (_ : Fu) (p : List Int) : Option (Bool) :=
  let a0 := p
  bif !(a0 == ([] : List Int)) then
    some (decide ((a0.length : Int) ≤ (32 : Int)))
  else some false
def F_code_keyed.ann : List (Nat × Ann) := []
def F_code_keyed.sig : Sig := ⟨[.val false [.str]], [(false, [.dat .bool])]⟩
noncomputable def F_code_keyed.S : Summ := ⟨94, F_code_keyed.sig, F_code_keyed⟩
noncomputable def F_code_keyed.G : List Summ := []
theorem F_code_keyed.eq : absF Try.prog F_code_keyed.G F_code_keyed.ann F_code_keyed.sig Try.f94 = F_code_keyed := by kernel_rfl
theorem F_code_keyed.sound : Sound Try.prog F_code_keyed.S := absF_sound (fn := Try.f94) (Γ := F_code_keyed.G) all_nil mix (by kernel_rfl) (by kernel_rfl) (fun m p => congrFun (congrFun F_code_keyed.eq m) p)
/-! ### cloakroom/code.in -/
noncomputable def F_code_in (_ : Fu) (p : Int × Int) : Option (Bool) :=
  let a0 := p.1
  let a1 := p.2
  bif decide ((0 : Int) ≤ a0) then
    some (decide (a0 ≤ a1))
  else some false
def F_code_in.ann : List (Nat × Ann) := []
def F_code_in.sig : Sig := ⟨[.val false [.int .i64], .val false [.int .i64]], [(false, [.dat .bool])]⟩
noncomputable def F_code_in.S : Summ := ⟨95, F_code_in.sig, F_code_in⟩
noncomputable def F_code_in.G : List Summ := []
theorem F_code_in.eq : absF Try.prog F_code_in.G F_code_in.ann F_code_in.sig Try.f95 = F_code_in := by kernel_rfl
theorem F_code_in.sound : Sound Try.prog F_code_in.S := absF_sound (fn := Try.f95) (Γ := F_code_in.G) all_nil mix (by kernel_rfl) (by kernel_rfl) (fun m p => congrFun (congrFun F_code_in.eq m) p)
/-! ### cloakroom/code.tenanted -/
noncomputable def F_code_tenanted (_ : Fu) (p : Int) : Option (Bool) :=
  let a0 := p
  bif decide ((0 : Int) ≤ a0) then
    some (decide (a0 < (4 : Int)))
  else some false
def F_code_tenanted.ann : List (Nat × Ann) := []
def F_code_tenanted.sig : Sig := ⟨[.val false [.int .i64]], [(false, [.dat .bool])]⟩
noncomputable def F_code_tenanted.S : Summ := ⟨96, F_code_tenanted.sig, F_code_tenanted⟩
noncomputable def F_code_tenanted.G : List Summ := []
theorem F_code_tenanted.eq : absF Try.prog F_code_tenanted.G F_code_tenanted.ann F_code_tenanted.sig Try.f96 = F_code_tenanted := by kernel_rfl
theorem F_code_tenanted.sound : Sound Try.prog F_code_tenanted.S := absF_sound (fn := Try.f96) (Γ := F_code_tenanted.G) all_nil mix (by kernel_rfl) (by kernel_rfl) (fun m p => congrFun (congrFun F_code_tenanted.eq m) p)
/-! ### cloakroom/code.may -/
noncomputable def F_code_may.s30 (m : Fu) (a0 : Int) (a1 : Int) (a2 : List Int) (a3 : List Int) (a4 : Int) (a5 : Int) (a6 : Int) (a7 : List Int) (a8 : Int) (a9 : Int) (a10 : Bool) : Option ((Bool × Int × Int × (List Int) × (List Int) × Int × Int × Int × (List Int) × Int × Int × Bool)) :=
  bif a0 == (1 : Int) then
    (F_code_keyed m a2).bind fun x2 =>
    bif x2 then
      bif decide ((a3.length : Int) ≤ (512 : Int)) then
        (F_code_in m (a5, (1099511627776 : Int))).bind fun x5 =>
        some (x5, a0, a1, a2, a3, a4, a5, a6, ([] : List Int), (0 : Int), (0 : Int), false)
      else some (false, a0, a1, a2, a3, a4, a5, a6, ([] : List Int), (0 : Int), (0 : Int), false)
    else some (false, a0, a1, a2, a3, a4, a5, a6, ([] : List Int), (0 : Int), (0 : Int), false)
  else
    bif a0 == (2 : Int) then
      (F_code_keyed m a7).bind fun x7 =>
      bif x7 then
        bif a8 == (1 : Int) then
          some (true, a0, a1, ([] : List Int), ([] : List Int), (0 : Int), (0 : Int), (0 : Int), a7, a8, (0 : Int), false)
        else some ((a8 == (2 : Int)), a0, a1, ([] : List Int), ([] : List Int), (0 : Int), (0 : Int), (0 : Int), a7, a8, (0 : Int), false)
      else some (false, a0, a1, ([] : List Int), ([] : List Int), (0 : Int), (0 : Int), (0 : Int), a7, a8, (0 : Int), false)
    else
      bif a0 == (3 : Int) then some (true, a0, a1, ([] : List Int), ([] : List Int), (0 : Int), (0 : Int), (0 : Int), ([] : List Int), (0 : Int), (0 : Int), false) else
      bif a0 == (4 : Int) then
        (F_code_in m (a9, (1099511627776 : Int))).bind fun x12 =>
        some (x12, a0, (0 : Int), ([] : List Int), ([] : List Int), (0 : Int), (0 : Int), (0 : Int), ([] : List Int), (0 : Int), a9, false)
      else
        bif a0 == (5 : Int) then
          (F_code_in m (a9, (16 : Int))).bind fun x14 =>
          some (x14, a0, a1, ([] : List Int), ([] : List Int), (0 : Int), (0 : Int), (0 : Int), ([] : List Int), (0 : Int), a9, false)
        else
          bif a0 == (6 : Int) then
            (F_code_in m (a9, (2147483647 : Int))).bind fun x16 =>
            some (x16, a0, (0 : Int), ([] : List Int), ([] : List Int), (0 : Int), (0 : Int), (0 : Int), ([] : List Int), (0 : Int), a9, a10)
          else
            bif a0 == (7 : Int) then
              (F_code_in m (a9, (2147483647 : Int))).bind fun x18 =>
              some (x18, a0, (0 : Int), ([] : List Int), ([] : List Int), (0 : Int), (0 : Int), (0 : Int), ([] : List Int), (0 : Int), a9, false)
            else some (false, a0, (0 : Int), ([] : List Int), ([] : List Int), (0 : Int), (0 : Int), (0 : Int), ([] : List Int), (0 : Int), (0 : Int), false)
noncomputable def F_code_may (m : Fu) (p : Int × Int × (List Int) × (List Int) × Int × Int × Int × (List Int) × Int × Int × Bool) : Option (Bool) :=
  let a0 := p.1
  let a1 := p.2.1
  let a2 := p.2.2.1
  let a3 := p.2.2.2.1
  let a4 := p.2.2.2.2.1
  let a5 := p.2.2.2.2.2.1
  let a6 := p.2.2.2.2.2.2.1
  let a7 := p.2.2.2.2.2.2.2.1
  let a8 := p.2.2.2.2.2.2.2.2.1
  let a9 := p.2.2.2.2.2.2.2.2.2.1
  let a10 := p.2.2.2.2.2.2.2.2.2.2
  (F_code_may.s30 m a0 a1 a2 a3 a4 a5 a6 a7 a8 a9 a10).bind fun x19 =>
  bif x19.1 then
    (F_code_tenanted m a1).bind fun x20 =>
    bif x20 then
      some ((x19.2.1 == a0) && ((x19.2.2.1 == a1) && (((x19.2.2.2.1 == a2) && ((x19.2.2.2.2.1 == a3) && ((x19.2.2.2.2.2.1 == a4) && ((x19.2.2.2.2.2.2.1 == a5) && ((x19.2.2.2.2.2.2.2.1 == a6) && true))))) && ((x19.2.2.2.2.2.2.2.2.1 == a7) && ((x19.2.2.2.2.2.2.2.2.2.1 == a8) && ((x19.2.2.2.2.2.2.2.2.2.2.1 == a9) && ((x19.2.2.2.2.2.2.2.2.2.2.2 == a10) && true)))))))
    else some false
  else some false
def F_code_may.ann : List (Nat × Ann) := [(30, .jnt [(.normal, ⟨[(4, false, [.dat .bool])], [(96, [.dat (.int .u8), .dat (.int .i64), .dat .str, .dat .str, .dat (.int .u32), .dat (.int .i64), .dat (.int .u64), .dat .str, .dat (.int .u8), .dat (.int .i64), .dat .bool])], [], [], 144⟩)])]
def F_code_may.sig : Sig := ⟨[.val true [.int .u8, .int .i64, .str, .str, .int .u32, .int .i64, .int .u64, .str, .int .u8, .int .i64, .bool]], [(false, [.dat .bool])]⟩
noncomputable def F_code_may.S : Summ := ⟨64, F_code_may.sig, F_code_may⟩
noncomputable def F_code_may.G : List Summ := [F_code_keyed.S, F_code_in.S, F_code_tenanted.S]
theorem F_code_may.eq : absF Try.prog F_code_may.G F_code_may.ann F_code_may.sig Try.f64 = F_code_may := by kernel_rfl
theorem F_code_may.sound : Sound Try.prog F_code_may.S := absF_sound (fn := Try.f64) (Γ := F_code_may.G) (all_cons F_code_keyed.sound (all_cons F_code_in.sound (all_cons F_code_tenanted.sound all_nil))) mix (by kernel_rfl) (by kernel_rfl) (fun m p => congrFun (congrFun F_code_may.eq m) p)
/-! ### cloakroom/code.Small -/
noncomputable def F_code_Small.l28 (_ : Fu) (x1 : Int × (List Int)) : Option (Step (Int × (List Int)) ((Int × (List Int)))) :=
  bif decide ((127 : Int) < x1.1) then
    let x5 := [(bitsOp .or .u8 (IntKind.u8.wrap x1.1) (128 : Int))]
    bif Nat.ble (x1.2.length + x5.length) 140737488351232 then
      some (.next ((shrOp .u64 x1.1 (7 : Int)), (x1.2 ++ x5)))
    else none
  else some (.fin x1)
noncomputable def F_code_Small (m : Fu) (p : Int) : Option (List Int) :=
  let a0 := p
  (iter m (F_code_Small.l28 m) (a0, ([] : List Int))).bind fun x8 =>
  let x10 := [(IntKind.u8.wrap x8.1)]
  bif Nat.ble (x8.2.length + x10.length) 140737488351232 then
    some (x8.2 ++ x10)
  else none
def F_code_Small.ann : List (Nat × Ann) := [(28, .loop ⟨[(0, false, [.dat (.int .u64)]), (3, false, [.own (.int .u8) 48 .wr])], [], [], [], 49⟩ [(.exit 0, ⟨[(0, false, [.dat (.int .u64)]), (3, false, [.own (.int .u8) 48 .wr])], [], [], [], 49⟩)])]
def F_code_Small.sig : Sig := ⟨[.val false [.int .u64]], [(false, [.own (.int .u8) 0 .wr])]⟩
noncomputable def F_code_Small.S : Summ := ⟨38, F_code_Small.sig, F_code_Small⟩
noncomputable def F_code_Small.G : List Summ := []
theorem F_code_Small.eq : absF Try.prog F_code_Small.G F_code_Small.ann F_code_Small.sig Try.f38 = F_code_Small := by kernel_rfl
theorem F_code_Small.sound : Sound Try.prog F_code_Small.S := absF_sound (fn := Try.f38) (Γ := F_code_Small.G) all_nil mix (by kernel_rfl) (by kernel_rfl) (fun m p => congrFun (congrFun F_code_Small.eq m) p)
/-! ### cloakroom/code.nums -/
noncomputable def F_code_nums.l26 (m : Fu) (a1 : List Int) (x1 : Int) (x2 : (List Int) × Int) : Option (Step ((List Int) × Int) ((List Int))) :=
  bif decide (x2.2 < x1) then
    bif (decide ((0 : Int) ≤ x2.2)) && (decide (x2.2 < (a1.length : Int))) then
      (F_code_Small m (IntKind.u64.wrap (a1.getD x2.2.toNat 0))).bind fun x6 =>
      bif Nat.ble (x2.1.length + x6.length) 140737488351232 then
        some (.next ((x2.1 ++ x6), (IntKind.i64.wrap (x2.2 + (1 : Int)))))
      else none
    else none
  else some (.fin x2.1)
noncomputable def F_code_nums (m : Fu) (p : (List Int) × (List Int)) : Option (List Int) :=
  let a0 := p.1
  let a1 := p.2
  (iter m (F_code_nums.l26 m a1 (a1.length : Int)) (a0, (0 : Int))).bind fun x9 =>
  some x9
def F_code_nums.ann : List (Nat × Ann) := [(26, .loop ⟨[(0, false, [.own (.int .u8) 96 .wr]), (9, false, [.dat (.int .i64)])], [], [], [0], 97⟩ [(.exit 0, ⟨[(0, false, [.own (.int .u8) 96 .wr])], [], [], [0], 97⟩)])]
def F_code_nums.sig : Sig := ⟨[.ow (.int .u8), .val false [.sl (.int .i64)]], [(false, [.own (.int .u8) 0 .wr])]⟩
noncomputable def F_code_nums.S : Summ := ⟨65, F_code_nums.sig, F_code_nums⟩
noncomputable def F_code_nums.G : List Summ := [F_code_Small.S]
theorem F_code_nums.eq : absF Try.prog F_code_nums.G F_code_nums.ann F_code_nums.sig Try.f65 = F_code_nums := by kernel_rfl
theorem F_code_nums.sound : Sound Try.prog F_code_nums.S := absF_sound (fn := Try.f65) (Γ := F_code_nums.G) (all_cons F_code_Small.sound all_nil) mix (by kernel_rfl) (by kernel_rfl) (fun m p => congrFun (congrFun F_code_nums.eq m) p)
/-! ### cloakroom/code.Text -/
noncomputable def F_code_Text (m : Fu) (p : List Int) : Option (List Int) :=
  let a0 := p
  (F_code_Small m (IntKind.u64.wrap (a0.length : Int))).bind fun x3 =>
  bif Nat.ble (x3.length + a0.length) 140737488351232 then
    some (x3 ++ a0)
  else none
def F_code_Text.ann : List (Nat × Ann) := []
def F_code_Text.sig : Sig := ⟨[.val false [.str]], [(false, [.own (.int .u8) 0 .wr])]⟩
noncomputable def F_code_Text.S : Summ := ⟨56, F_code_Text.sig, F_code_Text⟩
noncomputable def F_code_Text.G : List Summ := [F_code_Small.S]
theorem F_code_Text.eq : absF Try.prog F_code_Text.G F_code_Text.ann F_code_Text.sig Try.f56 = F_code_Text := by kernel_rfl
theorem F_code_Text.sound : Sound Try.prog F_code_Text.S := absF_sound (fn := Try.f56) (Γ := F_code_Text.G) (all_cons F_code_Small.sound all_nil) mix (by kernel_rfl) (by kernel_rfl) (fun m p => congrFun (congrFun F_code_Text.eq m) p)
/-! ### cloakroom/code.texts -/
noncomputable def F_code_texts.l26 (m : Fu) (a1 : List (List Int)) (x1 : Int) (x2 : (List Int) × Int) : Option (Step ((List Int) × Int) ((List Int))) :=
  bif decide (x2.2 < x1) then
    bif (decide ((0 : Int) ≤ x2.2)) && (decide (x2.2 < (a1.length : Int))) then
      (F_code_Text m (a1.getD x2.2.toNat [])).bind fun x5 =>
      bif Nat.ble (x2.1.length + x5.length) 140737488351232 then
        some (.next ((x2.1 ++ x5), (IntKind.i64.wrap (x2.2 + (1 : Int)))))
      else none
    else none
  else some (.fin x2.1)
noncomputable def F_code_texts (m : Fu) (p : (List Int) × (List (List Int))) : Option (List Int) :=
  let a0 := p.1
  let a1 := p.2
  (iter m (F_code_texts.l26 m a1 (a1.length : Int)) (a0, (0 : Int))).bind fun x8 =>
  some x8
def F_code_texts.ann : List (Nat × Ann) := [(26, .loop ⟨[(0, false, [.own (.int .u8) 96 .wr]), (9, false, [.dat (.int .i64)])], [], [], [0], 97⟩ [(.exit 0, ⟨[(0, false, [.own (.int .u8) 96 .wr])], [], [], [0], 97⟩)])]
def F_code_texts.sig : Sig := ⟨[.ow (.int .u8), .val false [.sl .str]], [(false, [.own (.int .u8) 0 .wr])]⟩
noncomputable def F_code_texts.S : Summ := ⟨97, F_code_texts.sig, F_code_texts⟩
noncomputable def F_code_texts.G : List Summ := [F_code_Text.S]
theorem F_code_texts.eq : absF Try.prog F_code_texts.G F_code_texts.ann F_code_texts.sig Try.f97 = F_code_texts := by kernel_rfl
theorem F_code_texts.sound : Sound Try.prog F_code_texts.S := absF_sound (fn := Try.f97) (Γ := F_code_texts.G) (all_cons F_code_Text.sound all_nil) mix (by kernel_rfl) (by kernel_rfl) (fun m p => congrFun (congrFun F_code_texts.eq m) p)
/-! ### cloakroom/code.put -/
noncomputable def F_code_put.s116 (_ : Fu) (a1 : Int) : Option (Bool) :=
  let x3 := a1 == (1 : Int)
  bif x3 then some x3 else
  let x4 := a1 == (2 : Int)
  bif x4 then some x4 else
  let x5 := a1 == (3 : Int)
  bif x5 then
    some x5
  else some (a1 == (5 : Int))
noncomputable def F_code_put.s14 (m : Fu) (a1 : Int) (a2 : Int) (x2 : List Int) : Option ((List Int)) :=
  (F_code_put.s116 m a1).bind fun x7 =>
  bif x7 then
    (F_code_nums m (x2, ([a2]))).bind fun x9 =>
    some x9
  else some x2
noncomputable def F_code_put.s3934 (_ : Fu) (a1 : Int) : Option (Bool) :=
  let x24 := a1 == (4 : Int)
  bif x24 then some x24 else
  let x25 := a1 == (5 : Int)
  bif x25 then some x25 else
  let x26 := a1 == (6 : Int)
  bif x26 then
    some x26
  else some (a1 == (7 : Int))
noncomputable def F_code_put.s30 (m : Fu) (a1 : Int) (a3 : List Int) (a4 : List Int) (a5 : Int) (a6 : Int) (a7 : Int) (a8 : List Int) (a9 : Int) (a10 : Int) (x10 : (List Int)) : Option ((List Int) ⊕ (List Int)) :=
  bif a1 == (1 : Int) then
    (F_code_texts m (x10, ([a3, a4]))).bind fun x13 =>
    (F_code_nums m (x13, ([(IntKind.i64.wrap a5), a6]))).bind fun x16 =>
    (F_code_Small m a7).bind fun x17 =>
    bif Nat.ble (x16.length + x17.length) 140737488351232 then
      some (Sum.inl (x16 ++ x17))
    else none
  else
    bif a1 == (2 : Int) then
      (F_code_texts m (x10, ([a8]))).bind fun x21 =>
      let x22 := [a9]
      bif Nat.ble (x21.length + x22.length) 140737488351232 then
        some (Sum.inl (x21 ++ x22))
      else none
    else
      (F_code_put.s3934 m a1).bind fun x28 =>
      bif x28 then
        (F_code_nums m (x10, ([a10]))).bind fun x30 =>
        some (Sum.inr x30)
      else some (Sum.inr x10)
noncomputable def F_code_put (m : Fu) (p : (List Int) × Int × Int × (List Int) × (List Int) × Int × Int × Int × (List Int) × Int × Int × Bool) : Option (List Int) :=
  let a0 := p.1
  let a1 := p.2.1
  let a2 := p.2.2.1
  let a3 := p.2.2.2.1
  let a4 := p.2.2.2.2.1
  let a5 := p.2.2.2.2.2.1
  let a6 := p.2.2.2.2.2.2.1
  let a7 := p.2.2.2.2.2.2.2.1
  let a8 := p.2.2.2.2.2.2.2.2.1
  let a9 := p.2.2.2.2.2.2.2.2.2.1
  let a10 := p.2.2.2.2.2.2.2.2.2.2.1
  let a11 := p.2.2.2.2.2.2.2.2.2.2.2
  let x1 := [a1]
  bif Nat.ble (a0.length + x1.length) 140737488351232 then
    (F_code_put.s14 m a1 a2 (a0 ++ x1)).bind fun x10 =>
    (F_code_put.s30 m a1 a3 a4 a5 a6 a7 a8 a9 a10 x10).bind fun x31 =>
    match x31 with
    | .inl x32 =>
      some x32
    | .inr x33 =>
      bif a1 == (6 : Int) then
        bif a11 then
          bif Nat.ble (x33.length + 1) 140737488351232 then
            some (x33 ++ ([1] : List Int))
          else none
        else
          bif Nat.ble (x33.length + 1) 140737488351232 then
            some (x33 ++ ([0] : List Int))
          else none
      else some x33
  else none
def F_code_put.ann : List (Nat × Ann) := [(14, .jnt [(.normal, ⟨[(0, false, [.own (.int .u8) 160 .wr])], [], [], [128], 161⟩)]),
  (30, .jnt [(.ret, ⟨[(4, false, [.own (.int .u8) 161 .wr])], [], [], [160], 162⟩), (.normal, ⟨[(0, false, [.own (.int .u8) 161 .wr])], [], [], [160], 162⟩)]),
  (116, .jnt [(.normal, ⟨[(12, false, [.dat .bool])], [], [], [], 192⟩)]),
  (3934, .jnt [(.normal, ⟨[(61, false, [.dat .bool])], [], [], [], 257⟩)])]
def F_code_put.sig : Sig := ⟨[.ow (.int .u8), .val true [.int .u8, .int .i64, .str, .str, .int .u32, .int .i64, .int .u64, .str, .int .u8, .int .i64, .bool]], [(false, [.own (.int .u8) 0 .wr])]⟩
noncomputable def F_code_put.S : Summ := ⟨66, F_code_put.sig, F_code_put⟩
noncomputable def F_code_put.G : List Summ := [F_code_nums.S, F_code_texts.S, F_code_Small.S]
theorem F_code_put.eq : absF Try.prog F_code_put.G F_code_put.ann F_code_put.sig Try.f66 = F_code_put := by kernel_rfl
theorem F_code_put.sound : Sound Try.prog F_code_put.S := absF_sound (fn := Try.f66) (Γ := F_code_put.G) (all_cons F_code_nums.sound (all_cons F_code_texts.sound (all_cons F_code_Small.sound all_nil))) mix (by kernel_rfl) (by kernel_rfl) (fun m p => congrFun (congrFun F_code_put.eq m) p)
/-! ### cloakroom/code.Changes -/
noncomputable def F_code_Changes.l58 (m : Fu) (a0 : List (Int × Int × ((List Int) × (List Int) × Int × Int × Int) × (List Int) × Int × Int × Bool)) (x3 : Int) (x4 : Int) : Option (Step Int (Int ⊕ Unit)) :=
  bif decide (x4 < x3) then
    bif (decide ((0 : Int) ≤ x4)) && (decide (x4 < (a0.length : Int))) then
      let x6 := a0.getD x4.toNat (0, (0, (([], ([], (0, (0, 0)))), ([], (0, (0, false))))))
      (F_code_may m (x6.1, x6.2.1, x6.2.2.1.1, x6.2.2.1.2.1, x6.2.2.1.2.2.1, x6.2.2.1.2.2.2.1, x6.2.2.1.2.2.2.2, x6.2.2.2)).bind fun x7 =>
      bif !x7 then
        some (.fin (Sum.inl (8 : Int)))
      else some (.next (IntKind.i64.wrap (x4 + (1 : Int))))
    else none
  else some (.fin (Sum.inr ()))
noncomputable def F_code_Changes.l250 (m : Fu) (a0 : List (Int × Int × ((List Int) × (List Int) × Int × Int × Int) × (List Int) × Int × Int × Bool)) (x16 : Int) (x17 : (List Int) × Int) : Option (Step ((List Int) × Int) (Int ⊕ (List Int))) :=
  bif decide (x17.2 < x16) then
    bif (decide ((0 : Int) ≤ x17.2)) && (decide (x17.2 < (a0.length : Int))) then
      let x19 := a0.getD x17.2.toNat (0, (0, (([], ([], (0, (0, 0)))), ([], (0, (0, false))))))
      (F_code_put m (x17.1, x19.1, x19.2.1, x19.2.2.1.1, x19.2.2.1.2.1, x19.2.2.1.2.2.1, x19.2.2.1.2.2.2.1, x19.2.2.1.2.2.2.2, x19.2.2.2)).bind fun x20 =>
      bif decide ((65536 : Int) < (x20.length : Int)) then
        some (.fin (Sum.inl (3 : Int)))
      else some (.next (x20, (IntKind.i64.wrap (x17.2 + (1 : Int)))))
    else none
  else some (.fin (Sum.inr x17.1))
noncomputable def F_code_Changes (m : Fu) (p : List (Int × Int × ((List Int) × (List Int) × Int × Int × Int) × (List Int) × Int × Int × Bool)) : Option ((List Int) × Int) :=
  let a0 := p
  bif decide ((4096 : Int) < (a0.length : Int)) then some (([] : List Int), (4 : Int)) else
  (iter m (F_code_Changes.l58 m a0 (a0.length : Int)) (0 : Int)).bind fun x10 =>
  match x10 with
  | .inl x11 =>
    some (([] : List Int), x11)
  | .inr _ =>
    (F_code_nums m (([] : List Int), ([(a0.length : Int)]))).bind fun x15 =>
    (iter m (F_code_Changes.l250 m a0 (a0.length : Int)) (x15, (0 : Int))).bind fun x24 =>
    match x24 with
    | .inl x25 =>
      some (([] : List Int), x25)
    | .inr x26 =>
      some (x26, (0 : Int))
def F_code_Changes.ann : List (Nat × Ann) := [(58, .loop ⟨[(14, false, [.dat (.int .i64)])], [], [], [], 144⟩ [(.ret, ⟨[(2, false, [.cst .nils]), (3, false, [.dat (.int .i64)])], [], [], [], 144⟩), (.exit 0, ⟨[], [], [], [], 144⟩)]),
  (250, .loop ⟨[(6, false, [.own (.int .u8) 272 .wr]), (28, false, [.dat (.int .i64)])], [], [], [192], 273⟩ [(.ret, ⟨[(2, false, [.cst .nils]), (3, false, [.dat (.int .i64)])], [], [], [192], 272⟩), (.exit 2, ⟨[(6, false, [.own (.int .u8) 272 .wr])], [], [], [192], 273⟩)])]
def F_code_Changes.sig : Sig := ⟨[.val false [.sl (.pr (.int .u8) (.pr (.int .i64) (.pr (.pr .str (.pr .str (.pr (.int .u32) (.pr (.int .i64) (.int .u64))))) (.pr .str (.pr (.int .u8) (.pr (.int .i64) .bool))))))]], [(false, [.own (.int .u8) 0 .wr]), (false, [.dat (.int .i64)])]⟩
noncomputable def F_code_Changes.S : Summ := ⟨34, F_code_Changes.sig, F_code_Changes⟩
noncomputable def F_code_Changes.G : List Summ := [F_code_may.S, F_code_nums.S, F_code_put.S]
theorem F_code_Changes.eq : absF Try.prog F_code_Changes.G F_code_Changes.ann F_code_Changes.sig Try.f34 = F_code_Changes := by kernel_rfl
theorem F_code_Changes.sound : Sound Try.prog F_code_Changes.S := absF_sound (fn := Try.f34) (Γ := F_code_Changes.G) (all_cons F_code_may.sound (all_cons F_code_nums.sound (all_cons F_code_put.sound all_nil))) mix (by kernel_rfl) (by kernel_rfl) (fun m p => congrFun (congrFun F_code_Changes.eq m) p)
/-! ### bytes.Equal -/
noncomputable def F_bytes_Equal (_ : Fu) (p : (List Int) × (List Int)) : Option (Bool) :=
  let a0 := p.1
  let a1 := p.2
  some (a0 == a1)
def F_bytes_Equal.ann : List (Nat × Ann) := []
def F_bytes_Equal.sig : Sig := ⟨[.val false [.sl (.int .u8)], .val false [.sl (.int .u8)]], [(false, [.dat .bool])]⟩
noncomputable def F_bytes_Equal.S : Summ := ⟨44, F_bytes_Equal.sig, F_bytes_Equal⟩
noncomputable def F_bytes_Equal.G : List Summ := []
theorem F_bytes_Equal.eq : absF Try.prog F_bytes_Equal.G F_bytes_Equal.ann F_bytes_Equal.sig Try.f44 = F_bytes_Equal := by kernel_rfl
theorem F_bytes_Equal.sound : Sound Try.prog F_bytes_Equal.S := absF_sound (fn := Try.f44) (Γ := F_bytes_Equal.G) all_nil mix (by kernel_rfl) (by kernel_rfl) (fun m p => congrFun (congrFun F_bytes_Equal.eq m) p)
/-! ### cloakroom/code.OfChanges -/
noncomputable def F_code_OfChanges.l250 (m : Fu) (x3 : Int × (List Int) × Bool) (x4 : (List (Int × Int × ((List Int) × (List Int) × Int × Int × Int) × (List Int) × Int × Int × Bool)) × Int × (List Int) × Bool) : Option (Step ((List (Int × Int × ((List Int) × (List Int) × Int × Int × Int) × (List Int) × Int × Int × Bool)) × Int × (List Int) × Bool) (Int ⊕ ((List (Int × Int × ((List Int) × (List Int) × Int × Int × Int) × (List Int) × Int × Int × Bool)) × (List Int) × Bool))) :=
  bif decide (x4.2.1 < x3.1) then
    (F_code_reader_change m x4.2.2).bind fun x6 =>
    let x7 := [(x6.1, (x6.2.1, ((x6.2.2.1, (x6.2.2.2.1, (x6.2.2.2.2.1, (x6.2.2.2.2.2.1, x6.2.2.2.2.2.2.1)))), (x6.2.2.2.2.2.2.2.1, (x6.2.2.2.2.2.2.2.2.1, (x6.2.2.2.2.2.2.2.2.2.1, x6.2.2.2.2.2.2.2.2.2.2.1))))))]
    bif Nat.ble (x4.1.length + x7.length) 4294967296 then
      bif x6.2.2.2.2.2.2.2.2.2.2.2.2 then
        some (.fin (Sum.inl (8 : Int)))
      else some (.next ((x4.1 ++ x7), (IntKind.i64.wrap (x4.2.1 + (1 : Int))), x6.2.2.2.2.2.2.2.2.2.2.2))
    else none
  else some (.fin (Sum.inr (x4.1, x4.2.2)))
noncomputable def F_code_OfChanges (m : Fu) (p : List Int) : Option ((List (Int × Int × ((List Int) × (List Int) × Int × Int × Int) × (List Int) × Int × Int × Bool)) × Int) :=
  let a0 := p
  bif decide ((65536 : Int) < (a0.length : Int)) then some (([] : List (Int × Int × ((List Int) × (List Int) × Int × Int × Int) × (List Int) × Int × Int × Bool)), (3 : Int)) else
  (F_code_reader_num m (a0, false, (4096 : Int))).bind fun x3 =>
  (iter m (F_code_OfChanges.l250 m x3) (([] : List (Int × Int × ((List Int) × (List Int) × Int × Int × Int) × (List Int) × Int × Int × Bool)), (0 : Int), x3.2)).bind fun x10 =>
  match x10 with
  | .inl x11 =>
    some (([] : List (Int × Int × ((List Int) × (List Int) × Int × Int × Int) × (List Int) × Int × Int × Bool)), x11)
  | .inr x12 =>
    (F_code_Changes m x12.1).bind fun x13 =>
    bif x12.2.2 then some (([] : List (Int × Int × ((List Int) × (List Int) × Int × Int × Int) × (List Int) × Int × Int × Bool)), (8 : Int)) else
    bif x13.2 != (0 : Int) then some (([] : List (Int × Int × ((List Int) × (List Int) × Int × Int × Int) × (List Int) × Int × Int × Bool)), (8 : Int)) else
    (F_bytes_Equal m (x13.1, a0)).bind fun x15 =>
    bif !x15 then
      some (([] : List (Int × Int × ((List Int) × (List Int) × Int × Int × Int) × (List Int) × Int × Int × Bool)), (8 : Int))
    else some (x12.1, (0 : Int))
def F_code_OfChanges.ann : List (Nat × Ann) := [(250, .loop ⟨[(5, false, [.own (.pr (.int .u8) (.pr (.int .i64) (.pr (.pr .str (.pr .str (.pr (.int .u32) (.pr (.int .i64) (.int .u64))))) (.pr .str (.pr (.int .u8) (.pr (.int .i64) .bool)))))) 224 .wr]), (16, false, [.dat (.int .i64)])], [(128, [.dat (.sl (.int .u8)), .dat .bool])], [], [], 225⟩ [(.ret, ⟨[(2, false, [.cst .nils]), (3, false, [.dat (.int .i64)])], [], [], [128], 224⟩), (.exit 0, ⟨[(5, false, [.own (.pr (.int .u8) (.pr (.int .i64) (.pr (.pr .str (.pr .str (.pr (.int .u32) (.pr (.int .i64) (.int .u64))))) (.pr .str (.pr (.int .u8) (.pr (.int .i64) .bool)))))) 224 .wr])], [(128, [.dat (.sl (.int .u8)), .dat .bool])], [], [], 225⟩)])]
def F_code_OfChanges.sig : Sig := ⟨[.val false [.sl (.int .u8)]], [(false, [.own (.pr (.int .u8) (.pr (.int .i64) (.pr (.pr .str (.pr .str (.pr (.int .u32) (.pr (.int .i64) (.int .u64))))) (.pr .str (.pr (.int .u8) (.pr (.int .i64) .bool)))))) 0 .wr]), (false, [.dat (.int .i64)])]⟩
noncomputable def F_code_OfChanges.S : Summ := ⟨78, F_code_OfChanges.sig, F_code_OfChanges⟩
noncomputable def F_code_OfChanges.G : List Summ := [F_code_reader_num.S, F_code_reader_change.S, F_code_Changes.S, F_bytes_Equal.S]
theorem F_code_OfChanges.eq : absF Try.prog F_code_OfChanges.G F_code_OfChanges.ann F_code_OfChanges.sig Try.f78 = F_code_OfChanges := by kernel_rfl
theorem F_code_OfChanges.sound : Sound Try.prog F_code_OfChanges.S := absF_sound (fn := Try.f78) (Γ := F_code_OfChanges.G) (all_cons F_code_reader_num.sound (all_cons F_code_reader_change.sound (all_cons F_code_Changes.sound (all_cons F_bytes_Equal.sound all_nil)))) mix (by kernel_rfl) (by kernel_rfl) (fun m p => congrFun (congrFun F_code_OfChanges.eq m) p)
/-! ### cloakroom/numbers.changes -/
noncomputable def F_numbers_changes (m : Fu) (p : List Int) : Option (Bool) :=
  let a0 := p
  (F_code_OfChanges m a0).bind fun x1 =>
  some (x1.2 == (0 : Int))
def F_numbers_changes.ann : List (Nat × Ann) := []
def F_numbers_changes.sig : Sig := ⟨[.val false [.sl (.int .u8)]], [(false, [.dat .bool])]⟩
noncomputable def F_numbers_changes.S : Summ := ⟨51, F_numbers_changes.sig, F_numbers_changes⟩
noncomputable def F_numbers_changes.G : List Summ := [F_code_OfChanges.S]
theorem F_numbers_changes.eq : absF Try.prog F_numbers_changes.G F_numbers_changes.ann F_numbers_changes.sig Try.f51 = F_numbers_changes := by kernel_rfl
theorem F_numbers_changes.sound : Sound Try.prog F_numbers_changes.S := absF_sound (fn := Try.f51) (Γ := F_numbers_changes.G) (all_cons F_code_OfChanges.sound all_nil) mix (by kernel_rfl) (by kernel_rfl) (fun m p => congrFun (congrFun F_numbers_changes.eq m) p)
/-! ### cloakroom/numbers.Check$1 -/
noncomputable def F_numbers_Check_c1 (m : Fu) (p : List Int) : Option (Bool) :=
  let a0 := p
  (F_numbers_changes m a0).bind fun x1 =>
  some (!x1)
def F_numbers_Check_c1.ann : List (Nat × Ann) := []
def F_numbers_Check_c1.sig : Sig := ⟨[.val false [.sl (.int .u8)]], [(false, [.dat .bool])]⟩
noncomputable def F_numbers_Check_c1.S : Summ := ⟨50, F_numbers_Check_c1.sig, F_numbers_Check_c1⟩
noncomputable def F_numbers_Check_c1.G : List Summ := [F_numbers_changes.S]
theorem F_numbers_Check_c1.eq : absF Try.prog F_numbers_Check_c1.G F_numbers_Check_c1.ann F_numbers_Check_c1.sig Try.f50 = F_numbers_Check_c1 := by kernel_rfl
theorem F_numbers_Check_c1.sound : Sound Try.prog F_numbers_Check_c1.S := absF_sound (fn := Try.f50) (Γ := F_numbers_Check_c1.G) (all_cons F_numbers_changes.sound all_nil) mix (by kernel_rfl) (by kernel_rfl) (fun m p => congrFun (congrFun F_numbers_Check_c1.eq m) p)
/-! ### slices.IndexFunc[[][]byte,[]byte] -/
noncomputable def F_slices_IndexFunc_byte.l26 (m : Fu) (a0 : List (List Int)) (x1 : Int) (x2 : Int) : Option (Step Int (Int ⊕ Unit)) :=
  bif decide (x2 < x1) then
    bif (decide ((0 : Int) ≤ x2)) && (decide (x2 < (a0.length : Int))) then
      (F_numbers_Check_c1 m (a0.getD x2.toNat [])).bind fun x5 =>
      bif x5 then
        some (.fin (Sum.inl x2))
      else some (.next (IntKind.i64.wrap (x2 + (1 : Int))))
    else none
  else some (.fin (Sum.inr ()))
noncomputable def F_slices_IndexFunc_byte (m : Fu) (p : List (List Int)) : Option (Int) :=
  let a0 := p
  (iter m (F_slices_IndexFunc_byte.l26 m a0 (a0.length : Int)) (0 : Int)).bind fun x7 =>
  match x7 with
  | .inl x8 =>
    some x8
  | .inr _ =>
    some (-1 : Int)
def F_slices_IndexFunc_byte.ann : List (Nat × Ann) := [(26, .loop ⟨[(8, false, [.dat (.int .i64)])], [], [], [], 96⟩ [(.ret, ⟨[(4, false, [.dat (.int .i64)])], [], [], [], 96⟩), (.exit 0, ⟨[], [], [], [], 96⟩)])]
def F_slices_IndexFunc_byte.sig : Sig := ⟨[.val false [.sl (.sl (.int .u8))], .fn 50 []], [(false, [.dat (.int .i64)])]⟩
noncomputable def F_slices_IndexFunc_byte.S : Summ := ⟨77, F_slices_IndexFunc_byte.sig, F_slices_IndexFunc_byte⟩
noncomputable def F_slices_IndexFunc_byte.G : List Summ := [F_numbers_Check_c1.S]
theorem F_slices_IndexFunc_byte.eq : absF Try.prog F_slices_IndexFunc_byte.G F_slices_IndexFunc_byte.ann F_slices_IndexFunc_byte.sig Try.f77 = F_slices_IndexFunc_byte := by kernel_rfl
theorem F_slices_IndexFunc_byte.sound : Sound Try.prog F_slices_IndexFunc_byte.S := absF_sound (fn := Try.f77) (Γ := F_slices_IndexFunc_byte.G) (all_cons F_numbers_Check_c1.sound all_nil) mix (by kernel_rfl) (by kernel_rfl) (fun m p => congrFun (congrFun F_slices_IndexFunc_byte.eq m) p)
/-! ### slices.ContainsFunc[[][]byte,[]byte] -/
noncomputable def F_slices_ContainsFunc_byte (m : Fu) (p : List (List Int)) : Option (Bool) :=
  let a0 := p
  (F_slices_IndexFunc_byte m a0).bind fun x1 =>
  some (decide ((0 : Int) ≤ x1))
def F_slices_ContainsFunc_byte.ann : List (Nat × Ann) := []
def F_slices_ContainsFunc_byte.sig : Sig := ⟨[.val false [.sl (.sl (.int .u8))], .fn 50 []], [(false, [.dat .bool])]⟩
noncomputable def F_slices_ContainsFunc_byte.S : Summ := ⟨49, F_slices_ContainsFunc_byte.sig, F_slices_ContainsFunc_byte⟩
noncomputable def F_slices_ContainsFunc_byte.G : List Summ := [F_slices_IndexFunc_byte.S]
theorem F_slices_ContainsFunc_byte.eq : absF Try.prog F_slices_ContainsFunc_byte.G F_slices_ContainsFunc_byte.ann F_slices_ContainsFunc_byte.sig Try.f49 = F_slices_ContainsFunc_byte := by kernel_rfl
theorem F_slices_ContainsFunc_byte.sound : Sound Try.prog F_slices_ContainsFunc_byte.S := absF_sound (fn := Try.f49) (Γ := F_slices_ContainsFunc_byte.G) (all_cons F_slices_IndexFunc_byte.sound all_nil) mix (by kernel_rfl) (by kernel_rfl) (fun m p => congrFun (congrFun F_slices_ContainsFunc_byte.eq m) p)
/-! ### cloakroom/numbers.Check -/
noncomputable def F_numbers_Check (m : Fu) (p : Int × Int × Int × (List (List Int))) : Option (Int) :=
  let a0 := p.1
  let a1 := p.2.1
  let a2 := p.2.2.1
  let a3 := p.2.2.2
  (F_numbers_in m a0).bind fun x1 =>
  bif !x1 then some (8 : Int) else
  (F_numbers_in m a1).bind fun x3 =>
  bif !x3 then some (8 : Int) else
  bif decide (a2 < (0 : Int)) then some (8 : Int) else
  bif decide (a1 < a2) then some (8 : Int) else
  bif decide ((mnI (32 : Int) a1) < (a3.length : Int)) then some (8 : Int) else
  (F_slices_ContainsFunc_byte m a3).bind fun x10 =>
  bif x10 then
    some (8 : Int)
  else some (0 : Int)
def F_numbers_Check.ann : List (Nat × Ann) := []
def F_numbers_Check.sig : Sig := ⟨[.val true [.int .i64, .int .i64, .int .i64, .sl (.sl (.int .u8))]], [(false, [.dat (.int .i64)])]⟩
noncomputable def F_numbers_Check.S : Summ := ⟨19, F_numbers_Check.sig, F_numbers_Check⟩
noncomputable def F_numbers_Check.G : List Summ := [F_numbers_in.S, F_slices_ContainsFunc_byte.S]
theorem F_numbers_Check.eq : absF Try.prog F_numbers_Check.G F_numbers_Check.ann F_numbers_Check.sig Try.f19 = F_numbers_Check := by kernel_rfl
theorem F_numbers_Check.sound : Sound Try.prog F_numbers_Check.S := absF_sound (fn := Try.f19) (Γ := F_numbers_Check.G) (all_cons F_numbers_in.sound (all_cons F_slices_ContainsFunc_byte.sound all_nil)) mix (by kernel_rfl) (by kernel_rfl) (fun m p => congrFun (congrFun F_numbers_Check.eq m) p)
/-! ### bytes.Clone -/
noncomputable def F_bytes_Clone (_ : Fu) (p : List Int) : Option (List Int) :=
  let a0 := p
  match a0 with
  | [] => same2
   (
    some ([] : List Int))
   (
    bif Nat.ble (0 + a0.length) 140737488351232 then
      some (([] : List Int) ++ a0)
    else none)
  | _ :: _ =>
    bif Nat.ble (0 + a0.length) 140737488351232 then
      some (([] : List Int) ++ a0)
    else none
def F_bytes_Clone.ann : List (Nat × Ann) := []
def F_bytes_Clone.sig : Sig := ⟨[.val false [.sl (.int .u8)]], [(false, [.own (.int .u8) 0 .wr])]⟩
noncomputable def F_bytes_Clone.S : Summ := ⟨75, F_bytes_Clone.sig, F_bytes_Clone⟩
noncomputable def F_bytes_Clone.G : List Summ := []
theorem F_bytes_Clone.eq : absF Try.prog F_bytes_Clone.G F_bytes_Clone.ann F_bytes_Clone.sig Try.f75 = F_bytes_Clone := by kernel_rfl
theorem F_bytes_Clone.sound : Sound Try.prog F_bytes_Clone.S := absF_sound (fn := Try.f75) (Γ := F_bytes_Clone.G) all_nil mix (by kernel_rfl) (by kernel_rfl) (fun m p => congrFun (congrFun F_bytes_Clone.eq m) p)
noncomputable def C_bytes_Clone (m : Fu) (p : List Int) : Option (List Int) := bif Nat.ble p.length 140737488351232 then some p else none
theorem C_bytes_Clone.is : F_bytes_Clone = C_bytes_Clone := by
  funext m p
  have h0 : Nat.ble 0 140737488351232 = true := rfl
  cases p <;> simp [F_bytes_Clone, C_bytes_Clone, same2_self, h0]
noncomputable def C_bytes_Clone.S : Summ := ⟨75, F_bytes_Clone.sig, C_bytes_Clone⟩
theorem C_bytes_Clone.sound : Sound Try.prog C_bytes_Clone.S := by
  have h := F_bytes_Clone.sound
  unfold F_bytes_Clone.S at h
  rw [C_bytes_Clone.is] at h
  exact h
/-! ### cloakroom/numbers.twin -/
noncomputable def F_numbers_twin.l122 (m : Fu) (a3 : List (List Int)) (x1 : Int) (x2 : Int × Int × Int × Int × (List (List Int))) : Option (Step (Int × Int × Int × Int × (List (List Int))) ((Int × Int × Int × (List (List Int))))) :=
  bif decide (x2.1 < x1) then
    bif (decide ((0 : Int) ≤ x2.1)) && (decide (x2.1 < (a3.length : Int))) then
      (C_bytes_Clone m (a3.getD x2.1.toNat [])).bind fun x5 =>
      let x6 := [x5]
      bif Nat.ble (x2.2.2.2.2.length + x6.length) 4294967296 then
        some (.next ((IntKind.i64.wrap (x2.1 + (1 : Int))), x2.2.1, x2.2.2.1, x2.2.2.2.1, (x2.2.2.2.2 ++ x6)))
      else none
    else none
  else some (.fin x2.2)
noncomputable def F_numbers_twin (m : Fu) (p : Int × Int × Int × (List (List Int))) : Option (Int × Int × Int × (List (List Int))) :=
  let a0 := p.1
  let a1 := p.2.1
  let a2 := p.2.2.1
  let a3 := p.2.2.2
  (iter m (F_numbers_twin.l122 m a3 (a3.length : Int)) ((0 : Int), a0, a1, a2, ([] : List (List Int)))).bind fun x9 =>
  some x9
def F_numbers_twin.ann : List (Nat × Ann) := [(122, .loop ⟨[(11, false, [.dat (.int .i64)])], [(16, [.dat (.int .i64), .dat (.int .i64), .dat (.int .i64), .own (.pl false) 176 .wr])], [], [], 177⟩ [(.exit 0, ⟨[], [(16, [.dat (.int .i64), .dat (.int .i64), .dat (.int .i64), .own (.pl false) 176 .wr])], [], [], 177⟩)])]
def F_numbers_twin.sig : Sig := ⟨[.val true [.int .i64, .int .i64, .int .i64, .sl (.sl (.int .u8))]], [(true, [.dat (.int .i64), .dat (.int .i64), .dat (.int .i64), .own (.pl false) 0 .wr])]⟩
noncomputable def F_numbers_twin.S : Summ := ⟨53, F_numbers_twin.sig, F_numbers_twin⟩
noncomputable def F_numbers_twin.G : List Summ := [markS, C_bytes_Clone.S]
theorem F_numbers_twin.eq : absF Try.prog F_numbers_twin.G F_numbers_twin.ann F_numbers_twin.sig Try.f53 = F_numbers_twin := by kernel_rfl
theorem F_numbers_twin.sound : Sound Try.prog F_numbers_twin.S := absF_sound (fn := Try.f53) (Γ := F_numbers_twin.G) (all_cons mark_sound (all_cons C_bytes_Clone.sound all_nil)) mix (by kernel_rfl) (by kernel_rfl) (fun m p => congrFun (congrFun F_numbers_twin.eq m) p)
/-! ### cloakroom/numbers.message -/
noncomputable def F_numbers_message (m : Fu) (p : Int × Int × Int × (List (List Int)) × Int) : Option (Int × Int × Int × (List Int)) :=
  let a0 := p.1
  let a1 := p.2.1
  let a3 := p.2.2.2.1
  let a4 := p.2.2.2.2
  let x4 := IntKind.i64.wrap ((IntKind.i64.wrap ((a3.length : Int) - (1 : Int))) - (IntKind.i64.wrap (a1 - a4)))
  bif (decide ((0 : Int) ≤ x4)) && (decide (x4 < (a3.length : Int))) then
    (C_bytes_Clone m (a3.getD x4.toNat [])).bind fun x6 =>
    some ((1 : Int), a0, a4, x6)
  else none
def F_numbers_message.ann : List (Nat × Ann) := []
def F_numbers_message.sig : Sig := ⟨[.val true [.int .i64, .int .i64, .int .i64, .sl (.sl (.int .u8))], .val false [.int .i64]], [(true, [.dat (.int .u8), .dat (.int .i64), .dat (.int .i64), .own (.int .u8) 0 .wr])]⟩
noncomputable def F_numbers_message.S : Summ := ⟨58, F_numbers_message.sig, F_numbers_message⟩
noncomputable def F_numbers_message.G : List Summ := [C_bytes_Clone.S]
theorem F_numbers_message.eq : absF Try.prog F_numbers_message.G F_numbers_message.ann F_numbers_message.sig Try.f58 = F_numbers_message := by kernel_rfl
theorem F_numbers_message.sound : Sound Try.prog F_numbers_message.S := absF_sound (fn := Try.f58) (Γ := F_numbers_message.G) (all_cons C_bytes_Clone.sound all_nil) mix (by kernel_rfl) (by kernel_rfl) (fun m p => congrFun (congrFun F_numbers_message.eq m) p)
/-! ### cloakroom/numbers.Send -/
noncomputable def F_numbers_Send (m : Fu) (p : Int × Int × Int × (List (List Int)) × (List (Int × Int × ((List Int) × (List Int) × Int × Int × Int) × (List Int) × Int × Int × Bool))) : Option (Int × Int × Int × (List (List Int)) × Int × Int × Int × (List Int) × Int) :=
  let a0 := p.1
  let a1 := p.2.1
  let a2 := p.2.2.1
  let a3 := p.2.2.2.1
  let a4 := p.2.2.2.2
  (F_numbers_Check m (a0, a1, a2, a3)).bind fun x1 =>
  bif x1 != (0 : Int) then some ((0 : Int), (0 : Int), (0 : Int), ([] : List (List Int)), (0 : Int), (0 : Int), (0 : Int), ([] : List Int), x1) else
  (F_code_Changes m a4).bind fun x3 =>
  bif x3.2 != (0 : Int) then some ((0 : Int), (0 : Int), (0 : Int), ([] : List (List Int)), (0 : Int), (0 : Int), (0 : Int), ([] : List Int), x3.2) else
  bif a1 == (2147483647 : Int) then some ((0 : Int), (0 : Int), (0 : Int), ([] : List (List Int)), (0 : Int), (0 : Int), (0 : Int), ([] : List Int), (9 : Int)) else
  (F_numbers_twin m (a0, a1, a2, a3)).bind fun x6 =>
  let x7 := IntKind.i64.wrap (x6.2.1 + (1 : Int))
  let x8 := [x3.1]
  bif Nat.ble (x6.2.2.2.length + x8.length) 4294967296 then
    let x9 := x6.2.2.2 ++ x8
    let x12 := mxI (0 : Int) (IntKind.i64.wrap ((x9.length : Int) - (32 : Int)))
    bif (((decide ((0 : Int) ≤ x12)) && (decide (x12 ≤ (x9.length : Int)))) && (decide ((x9.length : Int) ≤ (x9.length : Int)))) && (decide ((x9.length : Int) ≤ (x9.length : Int))) then
      let x13 := (x9.take ((x9.length : Int).toNat)).drop x12.toNat
      (F_numbers_message m (x6.1, x7, x6.2.2.1, x13, x7)).bind fun x14 =>
      some (x6.1, x7, x6.2.2.1, x13, x14.1, x14.2.1, x14.2.2.1, x14.2.2.2, (0 : Int))
    else none
  else none
def F_numbers_Send.ann : List (Nat × Ann) := []
def F_numbers_Send.sig : Sig := ⟨[.val true [.int .i64, .int .i64, .int .i64, .sl (.sl (.int .u8))], .val false [.sl (.pr (.int .u8) (.pr (.int .i64) (.pr (.pr .str (.pr .str (.pr (.int .u32) (.pr (.int .i64) (.int .u64))))) (.pr .str (.pr (.int .u8) (.pr (.int .i64) .bool))))))]], [(true, [.dat (.int .i64), .dat (.int .i64), .dat (.int .i64), .dat (.sl (.pl false))]), (true, [.dat (.int .u8), .dat (.int .i64), .dat (.int .i64), .own (.int .u8) 0 .wr]), (false, [.dat (.int .i64)])]⟩
noncomputable def F_numbers_Send.S : Summ := ⟨27, F_numbers_Send.sig, F_numbers_Send⟩
noncomputable def F_numbers_Send.G : List Summ := [markS, F_numbers_Check.S, F_code_Changes.S, F_numbers_twin.S, F_numbers_message.S]
theorem F_numbers_Send.eq : absF Try.prog F_numbers_Send.G F_numbers_Send.ann F_numbers_Send.sig Try.f27 = F_numbers_Send := by kernel_rfl
theorem F_numbers_Send.sound : Sound Try.prog F_numbers_Send.S := absF_sound (fn := Try.f27) (Γ := F_numbers_Send.G) (all_cons mark_sound (all_cons F_numbers_Check.sound (all_cons F_code_Changes.sound (all_cons F_numbers_twin.sound (all_cons F_numbers_message.sound all_nil))))) mix (by kernel_rfl) (by kernel_rfl) (fun m p => congrFun (congrFun F_numbers_Send.eq m) p)
/-! ### cloakroom/cloakroomref01.Read -/
noncomputable def F_ref01_Read.s112 (_ : Fu) (a0 : List Int) (x1 : Int) : Option (Unit ⊕ Unit) :=
  bif decide (x1 < (a0.length : Int)) then
    bif decide (x1 < (10 : Int)) then
      bif (decide ((0 : Int) ≤ x1)) && (decide (x1 < (a0.length : Int))) then
        bif decide ((128 : Int) ≤ (a0.getD x1.toNat 0)) then
          some (Sum.inl ())
        else some (Sum.inr ())
      else none
    else some (Sum.inr ())
  else some (Sum.inr ())
noncomputable def F_ref01_Read.l28 (m : Fu) (a0 : List Int) (x1 : Int) : Option (Step Int Int) :=
  (F_ref01_Read.s112 m a0 x1).bind fun x7 =>
  match x7 with
  | .inl _ =>
    some (.next (IntKind.i64.wrap (x1 + (1 : Int))))
  | .inr _ =>
    some (.fin x1)
noncomputable def F_ref01_Read.s30 (_ : Fu) (a0 : List Int) (x11 : Int) : Option ((Int × Int × Int) ⊕ Unit) :=
  bif decide ((a0.length : Int) ≤ x11) then some (Sum.inl ((0 : Int), (0 : Int), (8 : Int))) else
  bif decide ((10 : Int) ≤ x11) then some (Sum.inl ((0 : Int), (0 : Int), (8 : Int))) else
  bif x11 == (9 : Int) then
    bif decide ((9 : Int) < (a0.length : Int)) then
      bif decide ((1 : Int) < (a0.getD 9 0)) then some (Sum.inl ((0 : Int), (0 : Int), (8 : Int))) else
      bif decide ((0 : Int) < x11) then
        bif (decide ((0 : Int) ≤ x11)) && (decide (x11 < (a0.length : Int))) then
          bif (a0.getD x11.toNat 0) == (0 : Int) then
            some (Sum.inl ((0 : Int), (0 : Int), (8 : Int)))
          else some (Sum.inr ())
        else none
      else some (Sum.inr ())
    else none
  else
    bif decide ((0 : Int) < x11) then
      bif (decide ((0 : Int) ≤ x11)) && (decide (x11 < (a0.length : Int))) then
        bif (a0.getD x11.toNat 0) == (0 : Int) then
          some (Sum.inl ((0 : Int), (0 : Int), (8 : Int)))
        else some (Sum.inr ())
      else none
    else some (Sum.inr ())
noncomputable def F_ref01_Read.l506 (_ : Fu) (a0 : List Int) (x27 : Int × Int) : Option (Step (Int × Int) Int) :=
  bif decide ((0 : Int) ≤ x27.2) then
    bif (decide ((0 : Int) ≤ x27.2)) && (decide (x27.2 < (a0.length : Int))) then
      some (.next ((IntKind.u64.wrap ((IntKind.u64.wrap (x27.1 * (128 : Int))) + (IntKind.u64.wrap ((a0.getD x27.2.toNat 0).tmod (128 : Int))))), (IntKind.i64.wrap (x27.2 - (1 : Int)))))
    else none
  else some (.fin x27.1)
noncomputable def F_ref01_Read (m : Fu) (p : List Int) : Option (Int × Int × Int) :=
  let a0 := p
  (iter m (F_ref01_Read.l28 m a0) (0 : Int)).bind fun x11 =>
  (F_ref01_Read.s30 m a0 x11).bind fun x24 =>
  match x24 with
  | .inl x25 =>
    some x25
  | .inr _ =>
    (iter m (F_ref01_Read.l506 m a0) ((0 : Int), x11)).bind fun x35 =>
    some (x35, (IntKind.i64.wrap (x11 + (1 : Int))), (0 : Int))
def F_ref01_Read.ann : List (Nat × Ann) := [(28, .loop ⟨[(5, false, [.dat (.int .i64)])], [], [], [], 80⟩ [(.exit 0, ⟨[(5, false, [.dat (.int .i64)])], [], [], [], 80⟩)]),
  (30, .jnt [(.ret, ⟨[(2, false, [.dat (.int .u64)]), (3, false, [.dat (.int .i64)]), (4, false, [.dat (.int .i64)])], [], [], [], 80⟩), (.normal, ⟨[], [], [], [], 80⟩)]),
  (112, .jnt [(.normal, ⟨[], [], [], [], 80⟩), (.exit 0, ⟨[], [], [], [], 80⟩)]),
  (506, .loop ⟨[(6, false, [.dat (.int .u64)]), (7, false, [.dat (.int .i64)])], [], [], [], 128⟩ [(.exit 2, ⟨[(6, false, [.dat (.int .u64)])], [], [], [], 128⟩)])]
def F_ref01_Read.sig : Sig := ⟨[.val false [.sl (.int .u8)]], [(false, [.dat (.int .u64)]), (false, [.dat (.int .i64)]), (false, [.dat (.int .i64)])]⟩
noncomputable def F_ref01_Read.S : Summ := ⟨76, F_ref01_Read.sig, F_ref01_Read⟩
noncomputable def F_ref01_Read.G : List Summ := []
theorem F_ref01_Read.eq : absF Try.prog F_ref01_Read.G F_ref01_Read.ann F_ref01_Read.sig Try.f76 = F_ref01_Read := by kernel_rfl
theorem F_ref01_Read.sound : Sound Try.prog F_ref01_Read.S := absF_sound (fn := Try.f76) (Γ := F_ref01_Read.G) all_nil mix (by kernel_rfl) (by kernel_rfl) (fun m p => congrFun (congrFun F_ref01_Read.eq m) p)
/-! ### (*cloakroom/cloakroomref01.Reader).Number -/
noncomputable def F_ref01_Reader_Number.s28 (_ : Fu) (a2 : Int) (x1 : Int × Int × Int) : Option (Bool) :=
  bif x1.2.2 != (0 : Int) then
    some true
  else some (decide (a2 < x1.1))
noncomputable def F_ref01_Reader_Number (m : Fu) (p : (List Int) × Bool × Int) : Option (Int × (List Int) × Bool) :=
  let a0 := p.1
  let a1 := p.2.1
  let a2 := p.2.2
  (F_ref01_Read m a0).bind fun x1 =>
  (F_ref01_Reader_Number.s28 m a2 x1).bind fun x4 =>
  bif x4 then some ((0 : Int), a0, true) else
  bif (((decide ((0 : Int) ≤ x1.2.1)) && (decide (x1.2.1 ≤ (a0.length : Int)))) && (decide ((a0.length : Int) ≤ (a0.length : Int)))) && (decide ((a0.length : Int) ≤ (a0.length : Int))) then
    some (x1.1, ((a0.take ((a0.length : Int).toNat)).drop x1.2.1.toNat), a1)
  else none
def F_ref01_Reader_Number.ann : List (Nat × Ann) := [(28, .jnt [(.normal, ⟨[(23, false, [.dat .bool])], [], [], [], 240⟩)])]
def F_ref01_Reader_Number.sig : Sig := ⟨[.box [.sl (.int .u8), .bool], .val false [.int .u64]], [(false, [.dat (.int .u64)])]⟩
noncomputable def F_ref01_Reader_Number.S : Summ := ⟨46, F_ref01_Reader_Number.sig, F_ref01_Reader_Number⟩
noncomputable def F_ref01_Reader_Number.G : List Summ := [F_ref01_Read.S]
theorem F_ref01_Reader_Number.eq : absF Try.prog F_ref01_Reader_Number.G F_ref01_Reader_Number.ann F_ref01_Reader_Number.sig Try.f46 = F_ref01_Reader_Number := by kernel_rfl
theorem F_ref01_Reader_Number.sound : Sound Try.prog F_ref01_Reader_Number.S := absF_sound (fn := Try.f46) (Γ := F_ref01_Reader_Number.G) (all_cons F_ref01_Read.sound all_nil) mix (by kernel_rfl) (by kernel_rfl) (fun m p => congrFun (congrFun F_ref01_Reader_Number.eq m) p)
/-! ### (*cloakroom/cloakroomref01.Reader).Byte -/
noncomputable def F_ref01_Reader_Byte (_ : Fu) (p : (List Int) × Bool) : Option (Int × (List Int) × Bool) :=
  let a0 := p.1
  let a1 := p.2
  bif (a0.length : Int) == (0 : Int) then some ((0 : Int), a0, true) else
  bif decide ((0 : Int) < (a0.length : Int)) then
    bif ((decide ((1 : Int) ≤ (a0.length : Int))) && (decide ((a0.length : Int) ≤ (a0.length : Int)))) && (decide ((a0.length : Int) ≤ (a0.length : Int))) then
      some ((a0.getD 0 0), ((a0.take ((a0.length : Int).toNat)).drop 1), a1)
    else none
  else none
def F_ref01_Reader_Byte.ann : List (Nat × Ann) := []
def F_ref01_Reader_Byte.sig : Sig := ⟨[.box [.sl (.int .u8), .bool]], [(false, [.dat (.int .u8)])]⟩
noncomputable def F_ref01_Reader_Byte.S : Summ := ⟨45, F_ref01_Reader_Byte.sig, F_ref01_Reader_Byte⟩
noncomputable def F_ref01_Reader_Byte.G : List Summ := []
theorem F_ref01_Reader_Byte.eq : absF Try.prog F_ref01_Reader_Byte.G F_ref01_Reader_Byte.ann F_ref01_Reader_Byte.sig Try.f45 = F_ref01_Reader_Byte := by kernel_rfl
theorem F_ref01_Reader_Byte.sound : Sound Try.prog F_ref01_Reader_Byte.S := absF_sound (fn := Try.f45) (Γ := F_ref01_Reader_Byte.G) all_nil mix (by kernel_rfl) (by kernel_rfl) (fun m p => congrFun (congrFun F_ref01_Reader_Byte.eq m) p)
/-! ### (*cloakroom/cloakroomref01.Reader).Text -/
noncomputable def F_ref01_Reader_Text.s28 (_ : Fu) (a0 : List Int) (x1 : Int × Int × Int) : Option (Bool) :=
  bif x1.2.2 != (0 : Int) then
    some true
  else some (decide ((IntKind.u64.wrap (IntKind.i64.wrap ((a0.length : Int) - x1.2.1))) < x1.1))
noncomputable def F_ref01_Reader_Text (m : Fu) (p : (List Int) × Bool) : Option ((List Int) × (List Int) × Bool) :=
  let a0 := p.1
  let a1 := p.2
  (F_ref01_Read m a0).bind fun x1 =>
  (F_ref01_Reader_Text.s28 m a0 x1).bind fun x7 =>
  bif x7 then some (([] : List Int), a0, true) else
  let x9 := IntKind.i64.wrap (x1.2.1 + (IntKind.i64.wrap x1.1))
  bif (((decide ((0 : Int) ≤ x1.2.1)) && (decide (x1.2.1 ≤ x9))) && (decide (x9 ≤ (a0.length : Int)))) && (decide ((a0.length : Int) ≤ (a0.length : Int))) then
    let x12 := IntKind.i64.wrap (x1.2.1 + (IntKind.i64.wrap x1.1))
    bif (((decide ((0 : Int) ≤ x12)) && (decide (x12 ≤ (a0.length : Int)))) && (decide ((a0.length : Int) ≤ (a0.length : Int)))) && (decide ((a0.length : Int) ≤ (a0.length : Int))) then
      some (((a0.take x9.toNat).drop x1.2.1.toNat), ((a0.take ((a0.length : Int).toNat)).drop x12.toNat), a1)
    else none
  else none
def F_ref01_Reader_Text.ann : List (Nat × Ann) := [(28, .jnt [(.normal, ⟨[(29, false, [.dat .bool])], [], [], [], 224⟩)])]
def F_ref01_Reader_Text.sig : Sig := ⟨[.box [.sl (.int .u8), .bool]], [(false, [.dat .str])]⟩
noncomputable def F_ref01_Reader_Text.S : Summ := ⟨47, F_ref01_Reader_Text.sig, F_ref01_Reader_Text⟩
noncomputable def F_ref01_Reader_Text.G : List Summ := [F_ref01_Read.S]
theorem F_ref01_Reader_Text.eq : absF Try.prog F_ref01_Reader_Text.G F_ref01_Reader_Text.ann F_ref01_Reader_Text.sig Try.f47 = F_ref01_Reader_Text := by kernel_rfl
theorem F_ref01_Reader_Text.sound : Sound Try.prog F_ref01_Reader_Text.S := absF_sound (fn := Try.f47) (Γ := F_ref01_Reader_Text.G) (all_cons F_ref01_Read.sound all_nil) mix (by kernel_rfl) (by kernel_rfl) (fun m p => congrFun (congrFun F_ref01_Reader_Text.eq m) p)
/-! ### (*cloakroom/cloakroomref01.Reader).Item -/
noncomputable def F_ref01_Reader_Item (m : Fu) (p : (List Int) × Bool) : Option ((List Int) × (List Int) × Int × Int × Int × (List Int) × Bool) :=
  let a0 := p.1
  let a1 := p.2
  (F_ref01_Reader_Text m (a0, a1)).bind fun x1 =>
  (F_ref01_Reader_Text m x1.2).bind fun x2 =>
  (F_ref01_Reader_Number m (x2.2.1, x2.2.2, (4294967295 : Int))).bind fun x3 =>
  (F_ref01_Reader_Number m (x3.2.1, x3.2.2, (1099511627776 : Int))).bind fun x5 =>
  (F_ref01_Reader_Number m (x5.2.1, x5.2.2, (18446744073709551615 : Int))).bind fun x7 =>
  some (x1.1, x2.1, (IntKind.u32.wrap x3.1), (IntKind.i64.wrap x5.1), x7)
def F_ref01_Reader_Item.ann : List (Nat × Ann) := []
def F_ref01_Reader_Item.sig : Sig := ⟨[.box [.sl (.int .u8), .bool]], [(true, [.dat .str, .dat .str, .dat (.int .u32), .dat (.int .i64), .dat (.int .u64)])]⟩
noncomputable def F_ref01_Reader_Item.S : Summ := ⟨102, F_ref01_Reader_Item.sig, F_ref01_Reader_Item⟩
noncomputable def F_ref01_Reader_Item.G : List Summ := [F_ref01_Reader_Text.S, F_ref01_Reader_Number.S]
theorem F_ref01_Reader_Item.eq : absF Try.prog F_ref01_Reader_Item.G F_ref01_Reader_Item.ann F_ref01_Reader_Item.sig Try.f102 = F_ref01_Reader_Item := by kernel_rfl
theorem F_ref01_Reader_Item.sound : Sound Try.prog F_ref01_Reader_Item.S := absF_sound (fn := Try.f102) (Γ := F_ref01_Reader_Item.G) (all_cons F_ref01_Reader_Text.sound (all_cons F_ref01_Reader_Number.sound all_nil)) mix (by kernel_rfl) (by kernel_rfl) (fun m p => congrFun (congrFun F_ref01_Reader_Item.eq m) p)
/-! ### (*cloakroom/cloakroomref01.Reader).change -/
noncomputable def F_ref01_Reader_change.s14 (m : Fu) (x1 : Int × (List Int) × Bool) : Option (((List Int) × Bool × Int × Int × (List Int) × (List Int) × Int × Int × Int × (List Int) × Int × Int × Bool)) :=
  bif x1.1 == (1 : Int) then
    (F_ref01_Reader_Number m (x1.2.1, x1.2.2, (4 : Int))).bind fun x3 =>
    (F_ref01_Reader_Item m x3.2).bind fun x5 =>
    some (x5.2.2.2.2.2.1, x5.2.2.2.2.2.2, x1.1, (IntKind.i64.wrap x3.1), x5.1, x5.2.1, x5.2.2.1, x5.2.2.2.1, x5.2.2.2.2.1, ([] : List Int), (0 : Int), (0 : Int), false)
  else
    bif x1.1 == (2 : Int) then
      (F_ref01_Reader_Number m (x1.2.1, x1.2.2, (4 : Int))).bind fun x7 =>
      (F_ref01_Reader_Text m x7.2).bind fun x9 =>
      (F_ref01_Reader_Byte m x9.2).bind fun x10 =>
      some (x10.2.1, x10.2.2, x1.1, (IntKind.i64.wrap x7.1), ([] : List Int), ([] : List Int), (0 : Int), (0 : Int), (0 : Int), x9.1, x10.1, (0 : Int), false)
    else
      bif x1.1 == (3 : Int) then
        (F_ref01_Reader_Number m (x1.2.1, x1.2.2, (4 : Int))).bind fun x12 =>
        some (x12.2.1, x12.2.2, x1.1, (IntKind.i64.wrap x12.1), ([] : List Int), ([] : List Int), (0 : Int), (0 : Int), (0 : Int), ([] : List Int), (0 : Int), (0 : Int), false)
      else
        bif x1.1 == (4 : Int) then
          (F_ref01_Reader_Number m (x1.2.1, x1.2.2, (1099511627776 : Int))).bind fun x15 =>
          some (x15.2.1, x15.2.2, x1.1, (0 : Int), ([] : List Int), ([] : List Int), (0 : Int), (0 : Int), (0 : Int), ([] : List Int), (0 : Int), (IntKind.i64.wrap x15.1), false)
        else
          bif x1.1 == (5 : Int) then
            (F_ref01_Reader_Number m (x1.2.1, x1.2.2, (4 : Int))).bind fun x18 =>
            (F_ref01_Reader_Number m (x18.2.1, x18.2.2, (16 : Int))).bind fun x20 =>
            some (x20.2.1, x20.2.2, x1.1, (IntKind.i64.wrap x18.1), ([] : List Int), ([] : List Int), (0 : Int), (0 : Int), (0 : Int), ([] : List Int), (0 : Int), (IntKind.i64.wrap x20.1), false)
          else
            bif x1.1 == (6 : Int) then
              (F_ref01_Reader_Number m (x1.2.1, x1.2.2, (2147483647 : Int))).bind fun x23 =>
              (F_ref01_Reader_Byte m x23.2).bind fun x25 =>
              some (x25.2.1, x25.2.2, x1.1, (0 : Int), ([] : List Int), ([] : List Int), (0 : Int), (0 : Int), (0 : Int), ([] : List Int), (0 : Int), (IntKind.i64.wrap x23.1), (x25.1 == (1 : Int)))
            else
              bif x1.1 == (7 : Int) then
                (F_ref01_Reader_Number m (x1.2.1, x1.2.2, (2147483647 : Int))).bind fun x28 =>
                some (x28.2.1, x28.2.2, x1.1, (0 : Int), ([] : List Int), ([] : List Int), (0 : Int), (0 : Int), (0 : Int), ([] : List Int), (0 : Int), (IntKind.i64.wrap x28.1), false)
              else some (x1.2.1, true, x1.1, (0 : Int), ([] : List Int), ([] : List Int), (0 : Int), (0 : Int), (0 : Int), ([] : List Int), (0 : Int), (0 : Int), false)
noncomputable def F_ref01_Reader_change (m : Fu) (p : (List Int) × Bool) : Option (Int × Int × (List Int) × (List Int) × Int × Int × Int × (List Int) × Int × Int × Bool × (List Int) × Bool) :=
  let a0 := p.1
  let a1 := p.2
  (F_ref01_Reader_Byte m (a0, a1)).bind fun x1 =>
  (F_ref01_Reader_change.s14 m x1).bind fun x30 =>
  some (x30.2.2.1, x30.2.2.2.1, x30.2.2.2.2.1, x30.2.2.2.2.2.1, x30.2.2.2.2.2.2.1, x30.2.2.2.2.2.2.2.1, x30.2.2.2.2.2.2.2.2.1, x30.2.2.2.2.2.2.2.2.2.1, x30.2.2.2.2.2.2.2.2.2.2.1, x30.2.2.2.2.2.2.2.2.2.2.2.1, x30.2.2.2.2.2.2.2.2.2.2.2.2, x30.1, x30.2.1)
def F_ref01_Reader_change.ann : List (Nat × Ann) := [(14, .jnt [(.normal, ⟨[], [(0, [.dat (.sl (.int .u8)), .dat .bool]), (80, [.dat (.int .u8), .dat (.int .i64), .dat .str, .dat .str, .dat (.int .u32), .dat (.int .i64), .dat (.int .u64), .dat .str, .dat (.int .u8), .dat (.int .i64), .dat .bool])], [], [], 112⟩)])]
def F_ref01_Reader_change.sig : Sig := ⟨[.box [.sl (.int .u8), .bool]], [(true, [.dat (.int .u8), .dat (.int .i64), .dat .str, .dat .str, .dat (.int .u32), .dat (.int .i64), .dat (.int .u64), .dat .str, .dat (.int .u8), .dat (.int .i64), .dat .bool])]⟩
noncomputable def F_ref01_Reader_change.S : Summ := ⟨93, F_ref01_Reader_change.sig, F_ref01_Reader_change⟩
noncomputable def F_ref01_Reader_change.G : List Summ := [F_ref01_Reader_Byte.S, F_ref01_Reader_Number.S, F_ref01_Reader_Item.S, F_ref01_Reader_Text.S]
theorem F_ref01_Reader_change.eq : absF Try.prog F_ref01_Reader_change.G F_ref01_Reader_change.ann F_ref01_Reader_change.sig Try.f93 = F_ref01_Reader_change := by kernel_rfl
theorem F_ref01_Reader_change.sound : Sound Try.prog F_ref01_Reader_change.S := absF_sound (fn := Try.f93) (Γ := F_ref01_Reader_change.G) (all_cons F_ref01_Reader_Byte.sound (all_cons F_ref01_Reader_Number.sound (all_cons F_ref01_Reader_Item.sound (all_cons F_ref01_Reader_Text.sound all_nil)))) mix (by kernel_rfl) (by kernel_rfl) (fun m p => congrFun (congrFun F_ref01_Reader_change.eq m) p)
/-! ### cloakroom/cloakroomref01.Small -/
noncomputable def F_ref01_Small.l28 (_ : Fu) (x1 : Int × (List Int)) : Option (Step (Int × (List Int)) ((Int × (List Int)))) :=
  bif decide ((128 : Int) ≤ x1.1) then
    let x6 := [(IntKind.u8.wrap ((IntKind.u8.wrap (x1.1.tmod (128 : Int))) + (128 : Int)))]
    bif Nat.ble (x1.2.length + x6.length) 140737488351232 then
      some (.next ((IntKind.u64.wrap (x1.1.tdiv (128 : Int))), (x1.2 ++ x6)))
    else none
  else some (.fin x1)
noncomputable def F_ref01_Small (m : Fu) (p : Int) : Option (List Int) :=
  let a0 := p
  (iter m (F_ref01_Small.l28 m) (a0, ([] : List Int))).bind fun x9 =>
  let x11 := [(IntKind.u8.wrap x9.1)]
  bif Nat.ble (x9.2.length + x11.length) 140737488351232 then
    some (x9.2 ++ x11)
  else none
def F_ref01_Small.ann : List (Nat × Ann) := [(28, .loop ⟨[(0, false, [.dat (.int .u64)]), (3, false, [.own (.int .u8) 48 .wr])], [], [], [], 49⟩ [(.exit 0, ⟨[(0, false, [.dat (.int .u64)]), (3, false, [.own (.int .u8) 48 .wr])], [], [], [], 49⟩)])]
def F_ref01_Small.sig : Sig := ⟨[.val false [.int .u64]], [(false, [.own (.int .u8) 0 .wr])]⟩
noncomputable def F_ref01_Small.S : Summ := ⟨40, F_ref01_Small.sig, F_ref01_Small⟩
noncomputable def F_ref01_Small.G : List Summ := []
theorem F_ref01_Small.eq : absF Try.prog F_ref01_Small.G F_ref01_Small.ann F_ref01_Small.sig Try.f40 = F_ref01_Small := by kernel_rfl
theorem F_ref01_Small.sound : Sound Try.prog F_ref01_Small.S := absF_sound (fn := Try.f40) (Γ := F_ref01_Small.G) all_nil mix (by kernel_rfl) (by kernel_rfl) (fun m p => congrFun (congrFun F_ref01_Small.eq m) p)
/-! ### cloakroom/cloakroomref01.small -/
noncomputable def F_ref01_small.l58 (m : Fu) (a0 : List Int) (x1 : (List Int) × Int) : Option (Step ((List Int) × Int) ((List Int))) :=
  bif decide (x1.2 < (a0.length : Int)) then
    bif (decide ((0 : Int) ≤ x1.2)) && (decide (x1.2 < (a0.length : Int))) then
      (F_ref01_Small m (IntKind.u64.wrap (a0.getD x1.2.toNat 0))).bind fun x6 =>
      bif Nat.ble (x1.1.length + x6.length) 140737488351232 then
        some (.next ((x1.1 ++ x6), (IntKind.i64.wrap (x1.2 + (1 : Int)))))
      else none
    else none
  else some (.fin x1.1)
noncomputable def F_ref01_small (m : Fu) (p : List Int) : Option (List Int) :=
  let a0 := p
  (iter m (F_ref01_small.l58 m a0) (([] : List Int), (0 : Int))).bind fun x9 =>
  some x9
def F_ref01_small.ann : List (Nat × Ann) := [(58, .loop ⟨[(3, false, [.own (.int .u8) 64 .wr]), (4, false, [.dat (.int .i64)])], [], [], [], 65⟩ [(.exit 0, ⟨[(3, false, [.own (.int .u8) 64 .wr])], [], [], [], 65⟩)])]
def F_ref01_small.sig : Sig := ⟨[.val false [.sl (.int .i64)]], [(false, [.own (.int .u8) 0 .wr])]⟩
noncomputable def F_ref01_small.S : Summ := ⟨84, F_ref01_small.sig, F_ref01_small⟩
noncomputable def F_ref01_small.G : List Summ := [F_ref01_Small.S]
theorem F_ref01_small.eq : absF Try.prog F_ref01_small.G F_ref01_small.ann F_ref01_small.sig Try.f84 = F_ref01_small := by kernel_rfl
theorem F_ref01_small.sound : Sound Try.prog F_ref01_small.S := absF_sound (fn := Try.f84) (Γ := F_ref01_small.G) (all_cons F_ref01_Small.sound all_nil) mix (by kernel_rfl) (by kernel_rfl) (fun m p => congrFun (congrFun F_ref01_small.eq m) p)
/-! ### cloakroom/cloakroomref01.bare -/
noncomputable def F_ref01_bare.s14 (_ : Fu) (a0 : Int) (a1 : Int) (a2 : List Int) (a3 : List Int) (a4 : Int) (a5 : Int) (a6 : Int) (a7 : List Int) (a8 : Int) (a9 : Int) (a10 : Bool) : Option ((Int × Int × (List Int) × (List Int) × Int × Int × Int × (List Int) × Int × Int × Bool)) :=
  bif a0 == (1 : Int) then some (a0, a1, a2, a3, a4, a5, a6, ([] : List Int), (0 : Int), (0 : Int), false) else
  bif a0 == (2 : Int) then some (a0, a1, ([] : List Int), ([] : List Int), (0 : Int), (0 : Int), (0 : Int), a7, a8, (0 : Int), false) else
  bif a0 == (3 : Int) then some (a0, a1, ([] : List Int), ([] : List Int), (0 : Int), (0 : Int), (0 : Int), ([] : List Int), (0 : Int), (0 : Int), false) else
  bif a0 == (4 : Int) then some (a0, (0 : Int), ([] : List Int), ([] : List Int), (0 : Int), (0 : Int), (0 : Int), ([] : List Int), (0 : Int), a9, false) else
  bif a0 == (5 : Int) then some (a0, a1, ([] : List Int), ([] : List Int), (0 : Int), (0 : Int), (0 : Int), ([] : List Int), (0 : Int), a9, false) else
  bif a0 == (6 : Int) then some (a0, (0 : Int), ([] : List Int), ([] : List Int), (0 : Int), (0 : Int), (0 : Int), ([] : List Int), (0 : Int), a9, a10) else
  bif a0 == (7 : Int) then
    some (a0, (0 : Int), ([] : List Int), ([] : List Int), (0 : Int), (0 : Int), (0 : Int), ([] : List Int), (0 : Int), a9, false)
  else some (a0, (0 : Int), ([] : List Int), ([] : List Int), (0 : Int), (0 : Int), (0 : Int), ([] : List Int), (0 : Int), (0 : Int), false)
noncomputable def F_ref01_bare (m : Fu) (p : Int × Int × (List Int) × (List Int) × Int × Int × Int × (List Int) × Int × Int × Bool) : Option (Int × Int × (List Int) × (List Int) × Int × Int × Int × (List Int) × Int × Int × Bool) :=
  let a0 := p.1
  let a1 := p.2.1
  let a2 := p.2.2.1
  let a3 := p.2.2.2.1
  let a4 := p.2.2.2.2.1
  let a5 := p.2.2.2.2.2.1
  let a6 := p.2.2.2.2.2.2.1
  let a7 := p.2.2.2.2.2.2.2.1
  let a8 := p.2.2.2.2.2.2.2.2.1
  let a9 := p.2.2.2.2.2.2.2.2.2.1
  let a10 := p.2.2.2.2.2.2.2.2.2.2
  (F_ref01_bare.s14 m a0 a1 a2 a3 a4 a5 a6 a7 a8 a9 a10).bind fun x8 =>
  some x8
def F_ref01_bare.ann : List (Nat × Ann) := [(14, .jnt [(.normal, ⟨[], [(96, [.dat (.int .u8), .dat (.int .i64), .dat .str, .dat .str, .dat (.int .u32), .dat (.int .i64), .dat (.int .u64), .dat .str, .dat (.int .u8), .dat (.int .i64), .dat .bool])], [], [], 128⟩)])]
def F_ref01_bare.sig : Sig := ⟨[.val true [.int .u8, .int .i64, .str, .str, .int .u32, .int .i64, .int .u64, .str, .int .u8, .int .i64, .bool]], [(true, [.dat (.int .u8), .dat (.int .i64), .dat .str, .dat .str, .dat (.int .u32), .dat (.int .i64), .dat (.int .u64), .dat .str, .dat (.int .u8), .dat (.int .i64), .dat .bool])]⟩
noncomputable def F_ref01_bare.S : Summ := ⟨108, F_ref01_bare.sig, F_ref01_bare⟩
noncomputable def F_ref01_bare.G : List Summ := []
theorem F_ref01_bare.eq : absF Try.prog F_ref01_bare.G F_ref01_bare.ann F_ref01_bare.sig Try.f108 = F_ref01_bare := by kernel_rfl
theorem F_ref01_bare.sound : Sound Try.prog F_ref01_bare.S := absF_sound (fn := Try.f108) (Γ := F_ref01_bare.G) all_nil mix (by kernel_rfl) (by kernel_rfl) (fun m p => congrFun (congrFun F_ref01_bare.eq m) p)
/-! ### cloakroom/cloakroomref01.Tenant -/
noncomputable def F_ref01_Tenant (_ : Fu) (p : Int) : Option (Bool) :=
  let a0 := p
  bif decide ((0 : Int) ≤ a0) then
    some (decide (a0 < (4 : Int)))
  else some false
def F_ref01_Tenant.ann : List (Nat × Ann) := []
def F_ref01_Tenant.sig : Sig := ⟨[.val false [.int .i64]], [(false, [.dat .bool])]⟩
noncomputable def F_ref01_Tenant.S : Summ := ⟨109, F_ref01_Tenant.sig, F_ref01_Tenant⟩
noncomputable def F_ref01_Tenant.G : List Summ := []
theorem F_ref01_Tenant.eq : absF Try.prog F_ref01_Tenant.G F_ref01_Tenant.ann F_ref01_Tenant.sig Try.f109 = F_ref01_Tenant := by kernel_rfl
theorem F_ref01_Tenant.sound : Sound Try.prog F_ref01_Tenant.S := absF_sound (fn := Try.f109) (Γ := F_ref01_Tenant.G) all_nil mix (by kernel_rfl) (by kernel_rfl) (fun m p => congrFun (congrFun F_ref01_Tenant.eq m) p)
/-! ### cloakroom/cloakroomref01.Key -/
noncomputable def F_ref01_Key (_ : Fu) (p : List Int) : Option (Bool) :=
  let a0 := p
  bif decide ((1 : Int) ≤ (a0.length : Int)) then
    some (decide ((a0.length : Int) ≤ (32 : Int)))
  else some false
def F_ref01_Key.ann : List (Nat × Ann) := []
def F_ref01_Key.sig : Sig := ⟨[.val false [.str]], [(false, [.dat .bool])]⟩
noncomputable def F_ref01_Key.S : Summ := ⟨110, F_ref01_Key.sig, F_ref01_Key⟩
noncomputable def F_ref01_Key.G : List Summ := []
theorem F_ref01_Key.eq : absF Try.prog F_ref01_Key.G F_ref01_Key.ann F_ref01_Key.sig Try.f110 = F_ref01_Key := by kernel_rfl
theorem F_ref01_Key.sound : Sound Try.prog F_ref01_Key.S := absF_sound (fn := Try.f110) (Γ := F_ref01_Key.G) all_nil mix (by kernel_rfl) (by kernel_rfl) (fun m p => congrFun (congrFun F_ref01_Key.eq m) p)
/-! ### cloakroom/cloakroomref01.Item -/
noncomputable def F_ref01_Item (m : Fu) (p : (List Int) × (List Int) × Int × Int × Int) : Option (Bool) :=
  let a0 := p.1
  let a1 := p.2.1
  let a3 := p.2.2.2.1
  (F_ref01_Key m a0).bind fun x1 =>
  bif x1 then
    bif decide ((a1.length : Int) ≤ (512 : Int)) then
      bif decide ((0 : Int) ≤ a3) then
        some (decide (a3 ≤ (1099511627776 : Int)))
      else some false
    else some false
  else some false
def F_ref01_Item.ann : List (Nat × Ann) := []
def F_ref01_Item.sig : Sig := ⟨[.val true [.str, .str, .int .u32, .int .i64, .int .u64]], [(false, [.dat .bool])]⟩
noncomputable def F_ref01_Item.S : Summ := ⟨88, F_ref01_Item.sig, F_ref01_Item⟩
noncomputable def F_ref01_Item.G : List Summ := [F_ref01_Key.S]
theorem F_ref01_Item.eq : absF Try.prog F_ref01_Item.G F_ref01_Item.ann F_ref01_Item.sig Try.f88 = F_ref01_Item := by kernel_rfl
theorem F_ref01_Item.sound : Sound Try.prog F_ref01_Item.S := absF_sound (fn := Try.f88) (Γ := F_ref01_Item.G) (all_cons F_ref01_Key.sound all_nil) mix (by kernel_rfl) (by kernel_rfl) (fun m p => congrFun (congrFun F_ref01_Item.eq m) p)
/-! ### cloakroom/cloakroomref01.Change -/
noncomputable def F_ref01_Change (m : Fu) (p : Int × Int × (List Int) × (List Int) × Int × Int × Int × (List Int) × Int × Int × Bool) : Option (Bool) :=
  let a0 := p.1
  let a1 := p.2.1
  let a2 := p.2.2.1
  let a3 := p.2.2.2.1
  let a4 := p.2.2.2.2.1
  let a5 := p.2.2.2.2.2.1
  let a6 := p.2.2.2.2.2.2.1
  let a7 := p.2.2.2.2.2.2.2.1
  let a8 := p.2.2.2.2.2.2.2.2.1
  let a9 := p.2.2.2.2.2.2.2.2.2.1
  let a10 := p.2.2.2.2.2.2.2.2.2.2
  (F_ref01_bare m (a0, a1, a2, a3, a4, a5, a6, a7, a8, a9, a10)).bind fun x1 =>
  bif !((x1.1 == a0) && ((x1.2.1 == a1) && (((x1.2.2.1 == a2) && ((x1.2.2.2.1 == a3) && ((x1.2.2.2.2.1 == a4) && ((x1.2.2.2.2.2.1 == a5) && ((x1.2.2.2.2.2.2.1 == a6) && true))))) && ((x1.2.2.2.2.2.2.2.1 == a7) && ((x1.2.2.2.2.2.2.2.2.1 == a8) && ((x1.2.2.2.2.2.2.2.2.2.1 == a9) && ((x1.2.2.2.2.2.2.2.2.2.2 == a10) && true))))))) then some false else
  (F_ref01_Tenant m a1).bind fun x3 =>
  bif !x3 then some false else
  bif a0 == (1 : Int) then
    (F_ref01_Item m (a2, a3, a4, a5, a6)).bind fun x6 =>
    some x6
  else
    bif a0 == (2 : Int) then
      (F_ref01_Key m a7).bind fun x8 =>
      bif x8 then
        bif a8 == (1 : Int) then
          some true
        else some (a8 == (2 : Int))
      else some false
    else
      bif a0 == (3 : Int) then some true else
      bif a0 == (4 : Int) then
        bif decide ((0 : Int) ≤ a9) then
          some (decide (a9 ≤ (1099511627776 : Int)))
        else some false
      else
        bif a0 == (5 : Int) then
          bif decide ((0 : Int) ≤ a9) then
            some (decide (a9 ≤ (16 : Int)))
          else some false
        else
          bif a0 == (6 : Int) then
            bif decide ((0 : Int) ≤ a9) then
              some (decide (a9 ≤ (2147483647 : Int)))
            else some false
          else
            bif a0 == (7 : Int) then
              bif decide ((0 : Int) ≤ a9) then
                some (decide (a9 ≤ (2147483647 : Int)))
              else some false
            else some false
def F_ref01_Change.ann : List (Nat × Ann) := []
def F_ref01_Change.sig : Sig := ⟨[.val true [.int .u8, .int .i64, .str, .str, .int .u32, .int .i64, .int .u64, .str, .int .u8, .int .i64, .bool]], [(false, [.dat .bool])]⟩
noncomputable def F_ref01_Change.S : Summ := ⟨85, F_ref01_Change.sig, F_ref01_Change⟩
noncomputable def F_ref01_Change.G : List Summ := [F_ref01_bare.S, F_ref01_Tenant.S, F_ref01_Item.S, F_ref01_Key.S]
theorem F_ref01_Change.eq : absF Try.prog F_ref01_Change.G F_ref01_Change.ann F_ref01_Change.sig Try.f85 = F_ref01_Change := by kernel_rfl
theorem F_ref01_Change.sound : Sound Try.prog F_ref01_Change.S := absF_sound (fn := Try.f85) (Γ := F_ref01_Change.G) (all_cons F_ref01_bare.sound (all_cons F_ref01_Tenant.sound (all_cons F_ref01_Item.sound (all_cons F_ref01_Key.sound all_nil)))) mix (by kernel_rfl) (by kernel_rfl) (fun m p => congrFun (congrFun F_ref01_Change.eq m) p)
/-! ### cloakroom/cloakroomref01.Text -/
noncomputable def F_ref01_Text (m : Fu) (p : List Int) : Option (List Int) :=
  let a0 := p
  (F_ref01_Small m (IntKind.u64.wrap (a0.length : Int))).bind fun x3 =>
  bif Nat.ble (x3.length + a0.length) 140737488351232 then
    some (x3 ++ a0)
  else none
def F_ref01_Text.ann : List (Nat × Ann) := []
def F_ref01_Text.sig : Sig := ⟨[.val false [.str]], [(false, [.own (.int .u8) 0 .wr])]⟩
noncomputable def F_ref01_Text.S : Summ := ⟨41, F_ref01_Text.sig, F_ref01_Text⟩
noncomputable def F_ref01_Text.G : List Summ := [F_ref01_Small.S]
theorem F_ref01_Text.eq : absF Try.prog F_ref01_Text.G F_ref01_Text.ann F_ref01_Text.sig Try.f41 = F_ref01_Text := by kernel_rfl
theorem F_ref01_Text.sound : Sound Try.prog F_ref01_Text.S := absF_sound (fn := Try.f41) (Γ := F_ref01_Text.G) (all_cons F_ref01_Small.sound all_nil) mix (by kernel_rfl) (by kernel_rfl) (fun m p => congrFun (congrFun F_ref01_Text.eq m) p)
/-! ### cloakroom/cloakroomref01.ItemBytes -/
noncomputable def F_ref01_ItemBytes (m : Fu) (p : (List Int) × (List Int) × Int × Int × Int) : Option (List Int) :=
  let a0 := p.1
  let a1 := p.2.1
  let a2 := p.2.2.1
  let a3 := p.2.2.2.1
  let a4 := p.2.2.2.2
  (F_ref01_Text m a0).bind fun x1 =>
  (F_ref01_Text m a1).bind fun x2 =>
  bif Nat.ble (x1.length + x2.length) 140737488351232 then
    let x3 := x1 ++ x2
    (F_ref01_Small m (IntKind.u64.wrap a2)).bind fun x5 =>
    bif Nat.ble (x3.length + x5.length) 140737488351232 then
      let x6 := x3 ++ x5
      (F_ref01_small m ([a3])).bind fun x8 =>
      bif Nat.ble (x6.length + x8.length) 140737488351232 then
        let x9 := x6 ++ x8
        (F_ref01_Small m a4).bind fun x10 =>
        bif Nat.ble (x9.length + x10.length) 140737488351232 then
          some (x9 ++ x10)
        else none
      else none
    else none
  else none
def F_ref01_ItemBytes.ann : List (Nat × Ann) := []
def F_ref01_ItemBytes.sig : Sig := ⟨[.val true [.str, .str, .int .u32, .int .i64, .int .u64]], [(false, [.own (.int .u8) 0 .wr])]⟩
noncomputable def F_ref01_ItemBytes.S : Summ := ⟨92, F_ref01_ItemBytes.sig, F_ref01_ItemBytes⟩
noncomputable def F_ref01_ItemBytes.G : List Summ := [F_ref01_Text.S, F_ref01_Small.S, F_ref01_small.S]
theorem F_ref01_ItemBytes.eq : absF Try.prog F_ref01_ItemBytes.G F_ref01_ItemBytes.ann F_ref01_ItemBytes.sig Try.f92 = F_ref01_ItemBytes := by kernel_rfl
theorem F_ref01_ItemBytes.sound : Sound Try.prog F_ref01_ItemBytes.S := absF_sound (fn := Try.f92) (Γ := F_ref01_ItemBytes.G) (all_cons F_ref01_Text.sound (all_cons F_ref01_Small.sound (all_cons F_ref01_small.sound all_nil))) mix (by kernel_rfl) (by kernel_rfl) (fun m p => congrFun (congrFun F_ref01_ItemBytes.eq m) p)
/-! ### cloakroom/cloakroomref01.one -/
noncomputable def F_ref01_one (m : Fu) (p : Int × Int × (List Int) × (List Int) × Int × Int × Int × (List Int) × Int × Int × Bool) : Option (List Int) :=
  let a0 := p.1
  let a1 := p.2.1
  let a2 := p.2.2.1
  let a3 := p.2.2.2.1
  let a4 := p.2.2.2.2.1
  let a5 := p.2.2.2.2.2.1
  let a6 := p.2.2.2.2.2.2.1
  let a7 := p.2.2.2.2.2.2.2.1
  let a8 := p.2.2.2.2.2.2.2.2.1
  let a9 := p.2.2.2.2.2.2.2.2.2.1
  let a10 := p.2.2.2.2.2.2.2.2.2.2
  let x1 := [a0]
  bif a0 == (1 : Int) then
    (F_ref01_small m ([a1])).bind fun x4 =>
    bif Nat.ble (x1.length + x4.length) 140737488351232 then
      let x5 := x1 ++ x4
      (F_ref01_ItemBytes m (a2, a3, a4, a5, a6)).bind fun x6 =>
      bif Nat.ble (x5.length + x6.length) 140737488351232 then
        some (x5 ++ x6)
      else none
    else none
  else
    bif a0 == (2 : Int) then
      (F_ref01_small m ([a1])).bind fun x10 =>
      bif Nat.ble (x1.length + x10.length) 140737488351232 then
        let x11 := x1 ++ x10
        (F_ref01_Text m a7).bind fun x12 =>
        bif Nat.ble (x11.length + x12.length) 140737488351232 then
          let x13 := x11 ++ x12
          let x14 := [a8]
          bif Nat.ble (x13.length + x14.length) 140737488351232 then
            some (x13 ++ x14)
          else none
        else none
      else none
    else
      bif a0 == (3 : Int) then
        (F_ref01_small m ([a1])).bind fun x18 =>
        bif Nat.ble (x1.length + x18.length) 140737488351232 then
          some (x1 ++ x18)
        else none
      else
        bif a0 == (4 : Int) then
          (F_ref01_small m ([a9])).bind fun x22 =>
          bif Nat.ble (x1.length + x22.length) 140737488351232 then
            some (x1 ++ x22)
          else none
        else
          bif a0 == (5 : Int) then
            (F_ref01_small m ([a1, a9])).bind fun x26 =>
            bif Nat.ble (x1.length + x26.length) 140737488351232 then
              some (x1 ++ x26)
            else none
          else
            bif a0 == (7 : Int) then
              (F_ref01_small m ([a9])).bind fun x30 =>
              bif Nat.ble (x1.length + x30.length) 140737488351232 then
                some (x1 ++ x30)
              else none
            else
              bif a0 == (6 : Int) then
                (F_ref01_small m ([a9])).bind fun x34 =>
                bif Nat.ble (x1.length + x34.length) 140737488351232 then
                  let x35 := x1 ++ x34
                  bif a10 then
                    bif Nat.ble (x35.length + 1) 140737488351232 then
                      some (x35 ++ ([1] : List Int))
                    else none
                  else
                    bif Nat.ble (x35.length + 1) 140737488351232 then
                      some (x35 ++ ([0] : List Int))
                    else none
                else none
              else some x1
def F_ref01_one.ann : List (Nat × Ann) := []
def F_ref01_one.sig : Sig := ⟨[.val true [.int .u8, .int .i64, .str, .str, .int .u32, .int .i64, .int .u64, .str, .int .u8, .int .i64, .bool]], [(false, [.own (.int .u8) 0 .wr])]⟩
noncomputable def F_ref01_one.S : Summ := ⟨86, F_ref01_one.sig, F_ref01_one⟩
noncomputable def F_ref01_one.G : List Summ := [F_ref01_small.S, F_ref01_ItemBytes.S, F_ref01_Text.S]
theorem F_ref01_one.eq : absF Try.prog F_ref01_one.G F_ref01_one.ann F_ref01_one.sig Try.f86 = F_ref01_one := by kernel_rfl
theorem F_ref01_one.sound : Sound Try.prog F_ref01_one.S := absF_sound (fn := Try.f86) (Γ := F_ref01_one.G) (all_cons F_ref01_small.sound (all_cons F_ref01_ItemBytes.sound (all_cons F_ref01_Text.sound all_nil))) mix (by kernel_rfl) (by kernel_rfl) (fun m p => congrFun (congrFun F_ref01_one.eq m) p)
/-! ### cloakroom/cloakroomref01.Changes -/
noncomputable def F_ref01_Changes.l122 (m : Fu) (a0 : List (Int × Int × ((List Int) × (List Int) × Int × Int × Int) × (List Int) × Int × Int × Bool)) (x6 : Int) : Option (Step Int (Int ⊕ Unit)) :=
  bif decide (x6 < (a0.length : Int)) then
    bif (decide ((0 : Int) ≤ x6)) && (decide (x6 < (a0.length : Int))) then
      let x9 := a0.getD x6.toNat (0, (0, (([], ([], (0, (0, 0)))), ([], (0, (0, false))))))
      (F_ref01_Change m (x9.1, x9.2.1, x9.2.2.1.1, x9.2.2.1.2.1, x9.2.2.1.2.2.1, x9.2.2.1.2.2.2.1, x9.2.2.1.2.2.2.2, x9.2.2.2)).bind fun x10 =>
      bif !x10 then
        some (.fin (Sum.inl (8 : Int)))
      else some (.next (IntKind.i64.wrap (x6 + (1 : Int))))
    else none
  else some (.fin (Sum.inr ()))
noncomputable def F_ref01_Changes.s1000 (_ : Fu) (a0 : List (Int × Int × ((List Int) × (List Int) × Int × Int × Int) × (List Int) × Int × Int × Bool)) (x16 : (List Int) × Int) : Option (Unit ⊕ Unit) :=
  bif decide (x16.2 < (a0.length : Int)) then
    bif decide ((x16.1.length : Int) ≤ (65536 : Int)) then
      some (Sum.inl ())
    else some (Sum.inr ())
  else some (Sum.inr ())
noncomputable def F_ref01_Changes.l250 (m : Fu) (a0 : List (Int × Int × ((List Int) × (List Int) × Int × Int × Int) × (List Int) × Int × Int × Bool)) (x16 : (List Int) × Int) : Option (Step ((List Int) × Int) ((List Int))) :=
  (F_ref01_Changes.s1000 m a0 x16).bind fun x21 =>
  match x21 with
  | .inl _ =>
    bif (decide ((0 : Int) ≤ x16.2)) && (decide (x16.2 < (a0.length : Int))) then
      let x23 := a0.getD x16.2.toNat (0, (0, (([], ([], (0, (0, 0)))), ([], (0, (0, false))))))
      (F_ref01_one m (x23.1, x23.2.1, x23.2.2.1.1, x23.2.2.1.2.1, x23.2.2.1.2.2.1, x23.2.2.1.2.2.2.1, x23.2.2.1.2.2.2.2, x23.2.2.2)).bind fun x24 =>
      bif Nat.ble (x16.1.length + x24.length) 140737488351232 then
        some (.next ((x16.1 ++ x24), (IntKind.i64.wrap (x16.2 + (1 : Int)))))
      else none
    else none
  | .inr _ =>
    some (.fin x16.1)
noncomputable def F_ref01_Changes (m : Fu) (p : List (Int × Int × ((List Int) × (List Int) × Int × Int × Int) × (List Int) × Int × Int × Bool)) : Option ((List Int) × Int) :=
  let a0 := p
  bif decide ((4096 : Int) < (a0.length : Int)) then some (([] : List Int), (4 : Int)) else
  (F_ref01_small m ([(a0.length : Int)])).bind fun x5 =>
  (iter m (F_ref01_Changes.l122 m a0) (0 : Int)).bind fun x13 =>
  match x13 with
  | .inl x14 =>
    some (([] : List Int), x14)
  | .inr _ =>
    (iter m (F_ref01_Changes.l250 m a0) (x5, (0 : Int))).bind fun x28 =>
    bif decide ((65536 : Int) < (x28.length : Int)) then
      some (([] : List Int), (3 : Int))
    else some (x28, (0 : Int))
def F_ref01_Changes.ann : List (Nat × Ann) := [(122, .loop ⟨[(5, false, [.dat (.int .i64)])], [], [], [], 192⟩ [(.ret, ⟨[(2, false, [.cst .nils]), (3, false, [.dat (.int .i64)])], [], [], [], 192⟩), (.exit 0, ⟨[], [], [], [], 192⟩)]),
  (250, .loop ⟨[(4, false, [.own (.int .u8) 208 .wr]), (6, false, [.dat (.int .i64)])], [], [], [144], 209⟩ [(.exit 2, ⟨[(4, false, [.own (.int .u8) 208 .wr])], [], [], [144], 209⟩)]),
  (1000, .jnt [(.normal, ⟨[], [], [], [], 209⟩), (.exit 2, ⟨[], [], [], [], 209⟩)])]
def F_ref01_Changes.sig : Sig := ⟨[.val false [.sl (.pr (.int .u8) (.pr (.int .i64) (.pr (.pr .str (.pr .str (.pr (.int .u32) (.pr (.int .i64) (.int .u64))))) (.pr .str (.pr (.int .u8) (.pr (.int .i64) .bool))))))]], [(false, [.own (.int .u8) 0 .wr]), (false, [.dat (.int .i64)])]⟩
noncomputable def F_ref01_Changes.S : Summ := ⟨59, F_ref01_Changes.sig, F_ref01_Changes⟩
noncomputable def F_ref01_Changes.G : List Summ := [F_ref01_small.S, F_ref01_Change.S, F_ref01_one.S]
theorem F_ref01_Changes.eq : absF Try.prog F_ref01_Changes.G F_ref01_Changes.ann F_ref01_Changes.sig Try.f59 = F_ref01_Changes := by kernel_rfl
theorem F_ref01_Changes.sound : Sound Try.prog F_ref01_Changes.S := absF_sound (fn := Try.f59) (Γ := F_ref01_Changes.G) (all_cons F_ref01_small.sound (all_cons F_ref01_Change.sound (all_cons F_ref01_one.sound all_nil))) mix (by kernel_rfl) (by kernel_rfl) (fun m p => congrFun (congrFun F_ref01_Changes.eq m) p)
/-! ### cloakroom/cloakroomref01.OfChanges -/
noncomputable def F_ref01_OfChanges.s2024 (_ : Fu) (x3 : Int × (List Int) × Bool) (x4 : (List (Int × Int × ((List Int) × (List Int) × Int × Int × Int) × (List Int) × Int × Int × Bool)) × Int × (List Int) × Bool) : Option (Unit ⊕ Unit) :=
  bif decide (x4.2.1 < x3.1) then
    bif !x4.2.2.2 then
      some (Sum.inl ())
    else some (Sum.inr ())
  else some (Sum.inr ())
noncomputable def F_ref01_OfChanges.l506 (m : Fu) (x3 : Int × (List Int) × Bool) (x4 : (List (Int × Int × ((List Int) × (List Int) × Int × Int × Int) × (List Int) × Int × Int × Bool)) × Int × (List Int) × Bool) : Option (Step ((List (Int × Int × ((List Int) × (List Int) × Int × Int × Int) × (List Int) × Int × Int × Bool)) × Int × (List Int) × Bool) (((List (Int × Int × ((List Int) × (List Int) × Int × Int × Int) × (List Int) × Int × Int × Bool)) × (List Int) × Bool))) :=
  (F_ref01_OfChanges.s2024 m x3 x4).bind fun x7 =>
  match x7 with
  | .inl _ =>
    (F_ref01_Reader_change m x4.2.2).bind fun x9 =>
    let x10 := [(x9.1, (x9.2.1, ((x9.2.2.1, (x9.2.2.2.1, (x9.2.2.2.2.1, (x9.2.2.2.2.2.1, x9.2.2.2.2.2.2.1)))), (x9.2.2.2.2.2.2.2.1, (x9.2.2.2.2.2.2.2.2.1, (x9.2.2.2.2.2.2.2.2.2.1, x9.2.2.2.2.2.2.2.2.2.2.1))))))]
    bif Nat.ble (x4.1.length + x10.length) 4294967296 then
      some (.next ((x4.1 ++ x10), (IntKind.u64.wrap (x4.2.1 + (1 : Int))), x9.2.2.2.2.2.2.2.2.2.2.2))
    else none
  | .inr _ =>
    some (.fin (x4.1, x4.2.2))
noncomputable def F_ref01_OfChanges (m : Fu) (p : List Int) : Option ((List (Int × Int × ((List Int) × (List Int) × Int × Int × Int) × (List Int) × Int × Int × Bool)) × Int) :=
  let a0 := p
  bif decide ((65536 : Int) < (a0.length : Int)) then some (([] : List (Int × Int × ((List Int) × (List Int) × Int × Int × Int) × (List Int) × Int × Int × Bool)), (3 : Int)) else
  (F_ref01_Reader_Number m (a0, false, (4096 : Int))).bind fun x3 =>
  (iter m (F_ref01_OfChanges.l506 m x3) (([] : List (Int × Int × ((List Int) × (List Int) × Int × Int × Int) × (List Int) × Int × Int × Bool)), (0 : Int), x3.2)).bind fun x14 =>
  bif x14.2.2 then some (([] : List (Int × Int × ((List Int) × (List Int) × Int × Int × Int) × (List Int) × Int × Int × Bool)), (8 : Int)) else
  (F_ref01_Changes m x14.1).bind fun x15 =>
  bif x15.2 != (0 : Int) then some (([] : List (Int × Int × ((List Int) × (List Int) × Int × Int × Int) × (List Int) × Int × Int × Bool)), (8 : Int)) else
  bif !(x15.1 == a0) then
    some (([] : List (Int × Int × ((List Int) × (List Int) × Int × Int × Int) × (List Int) × Int × Int × Bool)), (8 : Int))
  else some (x14.1, (0 : Int))
def F_ref01_OfChanges.ann : List (Nat × Ann) := [(506, .loop ⟨[(6, false, [.own (.pr (.int .u8) (.pr (.int .i64) (.pr (.pr .str (.pr .str (.pr (.int .u32) (.pr (.int .i64) (.int .u64))))) (.pr .str (.pr (.int .u8) (.pr (.int .i64) .bool)))))) 240 .wr]), (7, false, [.dat (.int .u64)])], [(128, [.dat (.sl (.int .u8)), .dat .bool])], [], [], 241⟩ [(.exit 0, ⟨[(6, false, [.own (.pr (.int .u8) (.pr (.int .i64) (.pr (.pr .str (.pr .str (.pr (.int .u32) (.pr (.int .i64) (.int .u64))))) (.pr .str (.pr (.int .u8) (.pr (.int .i64) .bool)))))) 240 .wr])], [(128, [.dat (.sl (.int .u8)), .dat .bool])], [], [], 241⟩)]),
  (2024, .jnt [(.normal, ⟨[], [], [], [], 241⟩), (.exit 0, ⟨[], [], [], [], 241⟩)])]
def F_ref01_OfChanges.sig : Sig := ⟨[.val false [.sl (.int .u8)]], [(false, [.own (.pr (.int .u8) (.pr (.int .i64) (.pr (.pr .str (.pr .str (.pr (.int .u32) (.pr (.int .i64) (.int .u64))))) (.pr .str (.pr (.int .u8) (.pr (.int .i64) .bool)))))) 0 .wr]), (false, [.dat (.int .i64)])]⟩
noncomputable def F_ref01_OfChanges.S : Summ := ⟨63, F_ref01_OfChanges.sig, F_ref01_OfChanges⟩
noncomputable def F_ref01_OfChanges.G : List Summ := [F_ref01_Reader_Number.S, F_ref01_Reader_change.S, F_ref01_Changes.S]
theorem F_ref01_OfChanges.eq : absF Try.prog F_ref01_OfChanges.G F_ref01_OfChanges.ann F_ref01_OfChanges.sig Try.f63 = F_ref01_OfChanges := by kernel_rfl
theorem F_ref01_OfChanges.sound : Sound Try.prog F_ref01_OfChanges.S := absF_sound (fn := Try.f63) (Γ := F_ref01_OfChanges.G) (all_cons F_ref01_Reader_Number.sound (all_cons F_ref01_Reader_change.sound (all_cons F_ref01_Changes.sound all_nil))) mix (by kernel_rfl) (by kernel_rfl) (fun m p => congrFun (congrFun F_ref01_OfChanges.eq m) p)
/-! ### cloakroom/cloakroomref24.Check -/
noncomputable def F_ref24_Check.l58 (m : Fu) (a3 : List (List Int)) (x11 : Int) : Option (Step Int (Int ⊕ Unit)) :=
  bif decide (x11 < (a3.length : Int)) then
    bif (decide ((0 : Int) ≤ x11)) && (decide (x11 < (a3.length : Int))) then
      (F_ref01_OfChanges m (a3.getD x11.toNat [])).bind fun x15 =>
      bif x15.2 != (0 : Int) then
        some (.fin (Sum.inl (8 : Int)))
      else some (.next (IntKind.i64.wrap (x11 + (1 : Int))))
    else none
  else some (.fin (Sum.inr ()))
noncomputable def F_ref24_Check (m : Fu) (p : Int × Int × Int × (List (List Int))) : Option (Int) :=
  let a0 := p.1
  let a1 := p.2.1
  let a2 := p.2.2.1
  let a3 := p.2.2.2
  (F_ref24_in m a0).bind fun x1 =>
  bif !x1 then some (8 : Int) else
  (F_ref24_in m a1).bind fun x3 =>
  bif !x3 then some (8 : Int) else
  bif decide (a2 < (0 : Int)) then some (8 : Int) else
  bif decide (a1 < a2) then some (8 : Int) else
  bif decide ((32 : Int) < (a3.length : Int)) then some (8 : Int) else
  bif decide (a1 < (a3.length : Int)) then some (8 : Int) else
  (iter m (F_ref24_Check.l58 m a3) (0 : Int)).bind fun x18 =>
  match x18 with
  | .inl x19 =>
    some x19
  | .inr _ =>
    some (0 : Int)
def F_ref24_Check.ann : List (Nat × Ann) := [(58, .loop ⟨[(3, false, [.dat (.int .i64)])], [], [], [], 640⟩ [(.ret, ⟨[(2, false, [.dat (.int .i64)])], [], [], [], 640⟩), (.exit 0, ⟨[], [], [], [], 640⟩)])]
def F_ref24_Check.sig : Sig := ⟨[.val true [.int .i64, .int .i64, .int .i64, .sl (.sl (.int .u8))]], [(false, [.dat (.int .i64)])]⟩
noncomputable def F_ref24_Check.S : Summ := ⟨33, F_ref24_Check.sig, F_ref24_Check⟩
noncomputable def F_ref24_Check.G : List Summ := [F_ref24_in.S, F_ref01_OfChanges.S]
theorem F_ref24_Check.eq : absF Try.prog F_ref24_Check.G F_ref24_Check.ann F_ref24_Check.sig Try.f33 = F_ref24_Check := by kernel_rfl
theorem F_ref24_Check.sound : Sound Try.prog F_ref24_Check.S := absF_sound (fn := Try.f33) (Γ := F_ref24_Check.G) (all_cons F_ref24_in.sound (all_cons F_ref01_OfChanges.sound all_nil)) mix (by kernel_rfl) (by kernel_rfl) (fun m p => congrFun (congrFun F_ref24_Check.eq m) p)
/-! ### cloakroom/cloakroomref24.Send -/
noncomputable def F_ref24_Send.s2046 (_ : Fu) (x6 : Int × Int × Int × (List (List Int))) (x7 : Int) (x9 : List (List Int)) : Option ((Int × Int × Int × (List (List Int)))) :=
  bif decide ((32 : Int) < (x9.length : Int)) then
    bif ((decide ((1 : Int) ≤ (x9.length : Int))) && (decide ((x9.length : Int) ≤ (x9.length : Int)))) && (decide ((x9.length : Int) ≤ (x9.length : Int))) then
      some (x6.1, x7, x6.2.2.1, ((x9.take ((x9.length : Int).toNat)).drop 1))
    else none
  else some (x6.1, x7, x6.2.2.1, x9)
noncomputable def F_ref24_Send (m : Fu) (p : Int × Int × Int × (List (List Int)) × (List (Int × Int × ((List Int) × (List Int) × Int × Int × Int) × (List Int) × Int × Int × Bool))) : Option (Int × Int × Int × (List (List Int)) × Int × Int × Int × (List Int) × Int) :=
  let a0 := p.1
  let a1 := p.2.1
  let a2 := p.2.2.1
  let a3 := p.2.2.2.1
  let a4 := p.2.2.2.2
  (F_ref24_Check m (a0, a1, a2, a3)).bind fun x1 =>
  bif x1 != (0 : Int) then some ((0 : Int), (0 : Int), (0 : Int), ([] : List (List Int)), (0 : Int), (0 : Int), (0 : Int), ([] : List Int), x1) else
  (F_ref01_Changes m a4).bind fun x3 =>
  bif x3.2 != (0 : Int) then some ((0 : Int), (0 : Int), (0 : Int), ([] : List (List Int)), (0 : Int), (0 : Int), (0 : Int), ([] : List Int), x3.2) else
  bif a1 == (2147483647 : Int) then some ((0 : Int), (0 : Int), (0 : Int), ([] : List (List Int)), (0 : Int), (0 : Int), (0 : Int), ([] : List Int), (9 : Int)) else
  (F_ref24_Twin m (a0, a1, a2, a3)).bind fun x6 =>
  bif Nat.ble x3.1.length 140737488351232 then
    let x8 := [x3.1]
    bif Nat.ble (x6.2.2.2.length + x8.length) 4294967296 then
      (F_ref24_Send.s2046 m x6 (IntKind.i64.wrap (a1 + (1 : Int))) (x6.2.2.2 ++ x8)).bind fun x13 =>
      some (x13.1, x13.2.1, x13.2.2.1, x13.2.2.2, (1 : Int), a0, x13.2.1, x3.1, (0 : Int))
    else none
  else none
def F_ref24_Send.ann : List (Nat × Ann) := [(2046, .jnt [(.normal, ⟨[], [(400, [.dat (.int .i64), .dat (.int .i64), .dat (.int .i64), .dat (.sl (.sl (.int .u8)))])], [], [592], 640⟩)])]
def F_ref24_Send.sig : Sig := ⟨[.val true [.int .i64, .int .i64, .int .i64, .sl (.sl (.int .u8))], .val false [.sl (.pr (.int .u8) (.pr (.int .i64) (.pr (.pr .str (.pr .str (.pr (.int .u32) (.pr (.int .i64) (.int .u64))))) (.pr .str (.pr (.int .u8) (.pr (.int .i64) .bool))))))]], [(true, [.dat (.int .i64), .dat (.int .i64), .dat (.int .i64), .dat (.sl (.sl (.int .u8)))]), (true, [.dat (.int .u8), .dat (.int .i64), .dat (.int .i64), .own (.int .u8) 0 .wr]), (false, [.dat (.int .i64)])]⟩
noncomputable def F_ref24_Send.S : Summ := ⟨28, F_ref24_Send.sig, F_ref24_Send⟩
noncomputable def F_ref24_Send.G : List Summ := [F_ref24_Check.S, F_ref01_Changes.S, F_ref24_Twin.S]
theorem F_ref24_Send.eq : absF Try.prog F_ref24_Send.G F_ref24_Send.ann F_ref24_Send.sig Try.f28 = F_ref24_Send := by kernel_rfl
theorem F_ref24_Send.sound : Sound Try.prog F_ref24_Send.S := absF_sound (fn := Try.f28) (Γ := F_ref24_Send.G) (all_cons F_ref24_Check.sound (all_cons F_ref01_Changes.sound (all_cons F_ref24_Twin.sound all_nil))) mix (by kernel_rfl) (by kernel_rfl) (fun m p => congrFun (congrFun F_ref24_Send.eq m) p)
/-! ### cloakroom/image.in -/
noncomputable def F_image_in (_ : Fu) (p : Int × Int) : Option (Bool) :=
  let a0 := p.1
  let a1 := p.2
  bif decide ((0 : Int) ≤ a0) then
    some (decide (a0 ≤ a1))
  else some false
def F_image_in.ann : List (Nat × Ann) := []
def F_image_in.sig : Sig := ⟨[.val false [.int .i64], .val false [.int .i64]], [(false, [.dat .bool])]⟩
noncomputable def F_image_in.S : Summ := ⟨79, F_image_in.sig, F_image_in⟩
noncomputable def F_image_in.G : List Summ := []
theorem F_image_in.eq : absF Try.prog F_image_in.G F_image_in.ann F_image_in.sig Try.f79 = F_image_in := by kernel_rfl
theorem F_image_in.sound : Sound Try.prog F_image_in.S := absF_sound (fn := Try.f79) (Γ := F_image_in.G) all_nil mix (by kernel_rfl) (by kernel_rfl) (fun m p => congrFun (congrFun F_image_in.eq m) p)
/-! ### cloakroom/image.quotas$1 -/
noncomputable def F_image_quotas_c1 (m : Fu) (p : Int) : Option (Bool) :=
  let a0 := p
  (F_image_in m (a0, (16 : Int))).bind fun x1 =>
  some (!x1)
def F_image_quotas_c1.ann : List (Nat × Ann) := []
def F_image_quotas_c1.sig : Sig := ⟨[.val false [.int .i64]], [(false, [.dat .bool])]⟩
noncomputable def F_image_quotas_c1.S : Summ := ⟨106, F_image_quotas_c1.sig, F_image_quotas_c1⟩
noncomputable def F_image_quotas_c1.G : List Summ := [F_image_in.S]
theorem F_image_quotas_c1.eq : absF Try.prog F_image_quotas_c1.G F_image_quotas_c1.ann F_image_quotas_c1.sig Try.f106 = F_image_quotas_c1 := by kernel_rfl
theorem F_image_quotas_c1.sound : Sound Try.prog F_image_quotas_c1.S := absF_sound (fn := Try.f106) (Γ := F_image_quotas_c1.G) (all_cons F_image_in.sound all_nil) mix (by kernel_rfl) (by kernel_rfl) (fun m p => congrFun (congrFun F_image_quotas_c1.eq m) p)
/-! ### slices.IndexFunc[[]int,int] -/
noncomputable def F_slices_IndexFunc_int.l26 (m : Fu) (a0 : List Int) (x1 : Int) (x2 : Int) : Option (Step Int (Int ⊕ Unit)) :=
  bif decide (x2 < x1) then
    bif (decide ((0 : Int) ≤ x2)) && (decide (x2 < (a0.length : Int))) then
      (F_image_quotas_c1 m (a0.getD x2.toNat 0)).bind fun x5 =>
      bif x5 then
        some (.fin (Sum.inl x2))
      else some (.next (IntKind.i64.wrap (x2 + (1 : Int))))
    else none
  else some (.fin (Sum.inr ()))
noncomputable def F_slices_IndexFunc_int (m : Fu) (p : List Int) : Option (Int) :=
  let a0 := p
  (iter m (F_slices_IndexFunc_int.l26 m a0 (a0.length : Int)) (0 : Int)).bind fun x7 =>
  match x7 with
  | .inl x8 =>
    some x8
  | .inr _ =>
    some (-1 : Int)
def F_slices_IndexFunc_int.ann : List (Nat × Ann) := [(26, .loop ⟨[(8, false, [.dat (.int .i64)])], [], [], [], 96⟩ [(.ret, ⟨[(4, false, [.dat (.int .i64)])], [], [], [], 96⟩), (.exit 0, ⟨[], [], [], [], 96⟩)])]
def F_slices_IndexFunc_int.sig : Sig := ⟨[.val false [.sl (.int .i64)], .fn 106 []], [(false, [.dat (.int .i64)])]⟩
noncomputable def F_slices_IndexFunc_int.S : Summ := ⟨114, F_slices_IndexFunc_int.sig, F_slices_IndexFunc_int⟩
noncomputable def F_slices_IndexFunc_int.G : List Summ := [F_image_quotas_c1.S]
theorem F_slices_IndexFunc_int.eq : absF Try.prog F_slices_IndexFunc_int.G F_slices_IndexFunc_int.ann F_slices_IndexFunc_int.sig Try.f114 = F_slices_IndexFunc_int := by kernel_rfl
theorem F_slices_IndexFunc_int.sound : Sound Try.prog F_slices_IndexFunc_int.S := absF_sound (fn := Try.f114) (Γ := F_slices_IndexFunc_int.G) (all_cons F_image_quotas_c1.sound all_nil) mix (by kernel_rfl) (by kernel_rfl) (fun m p => congrFun (congrFun F_slices_IndexFunc_int.eq m) p)
/-! ### slices.ContainsFunc[[]int,int] -/
noncomputable def F_slices_ContainsFunc_int (m : Fu) (p : List Int) : Option (Bool) :=
  let a0 := p
  (F_slices_IndexFunc_int m a0).bind fun x1 =>
  some (decide ((0 : Int) ≤ x1))
def F_slices_ContainsFunc_int.ann : List (Nat × Ann) := []
def F_slices_ContainsFunc_int.sig : Sig := ⟨[.val false [.sl (.int .i64)], .fn 106 []], [(false, [.dat .bool])]⟩
noncomputable def F_slices_ContainsFunc_int.S : Summ := ⟨105, F_slices_ContainsFunc_int.sig, F_slices_ContainsFunc_int⟩
noncomputable def F_slices_ContainsFunc_int.G : List Summ := [F_slices_IndexFunc_int.S]
theorem F_slices_ContainsFunc_int.eq : absF Try.prog F_slices_ContainsFunc_int.G F_slices_ContainsFunc_int.ann F_slices_ContainsFunc_int.sig Try.f105 = F_slices_ContainsFunc_int := by kernel_rfl
theorem F_slices_ContainsFunc_int.sound : Sound Try.prog F_slices_ContainsFunc_int.S := absF_sound (fn := Try.f105) (Γ := F_slices_ContainsFunc_int.G) (all_cons F_slices_IndexFunc_int.sound all_nil) mix (by kernel_rfl) (by kernel_rfl) (fun m p => congrFun (congrFun F_slices_ContainsFunc_int.eq m) p)
/-! ### cloakroom/image.quotas -/
noncomputable def F_image_quotas (m : Fu) (p : List Int) : Option (Bool) :=
  let a0 := p
  bif decide ((0 : Int) < (a0.length : Int)) then
    bif decide ((a0.length : Int) ≤ (4 : Int)) then
      (F_slices_ContainsFunc_int m a0).bind fun x5 =>
      some (!x5)
    else some false
  else some false
def F_image_quotas.ann : List (Nat × Ann) := []
def F_image_quotas.sig : Sig := ⟨[.val false [.sl (.int .i64)]], [(false, [.dat .bool])]⟩
noncomputable def F_image_quotas.S : Summ := ⟨80, F_image_quotas.sig, F_image_quotas⟩
noncomputable def F_image_quotas.G : List Summ := [F_slices_ContainsFunc_int.S]
theorem F_image_quotas.eq : absF Try.prog F_image_quotas.G F_image_quotas.ann F_image_quotas.sig Try.f80 = F_image_quotas := by kernel_rfl
theorem F_image_quotas.sound : Sound Try.prog F_image_quotas.S := absF_sound (fn := Try.f80) (Γ := F_image_quotas.G) (all_cons F_slices_ContainsFunc_int.sound all_nil) mix (by kernel_rfl) (by kernel_rfl) (fun m p => congrFun (congrFun F_image_quotas.eq m) p)
/-! ### cloakroom/image.size -/
noncomputable def F_image_size (_ : Fu) (p : (List Int) × (List Int) × Int × Int × Int) : Option (Int) :=
  let a0 := p.1
  let a1 := p.2.1
  some (IntKind.i64.wrap ((IntKind.i64.wrap ((8 : Int) + (a0.length : Int))) + (a1.length : Int)))
def F_image_size.ann : List (Nat × Ann) := []
def F_image_size.sig : Sig := ⟨[.val true [.str, .str, .int .u32, .int .i64, .int .u64]], [(false, [.dat (.int .i64)])]⟩
noncomputable def F_image_size.S : Summ := ⟨107, F_image_size.sig, F_image_size⟩
noncomputable def F_image_size.G : List Summ := []
theorem F_image_size.eq : absF Try.prog F_image_size.G F_image_size.ann F_image_size.sig Try.f107 = F_image_size := by kernel_rfl
theorem F_image_size.sound : Sound Try.prog F_image_size.S := absF_sound (fn := Try.f107) (Γ := F_image_size.G) all_nil mix (by kernel_rfl) (by kernel_rfl) (fun m p => congrFun (congrFun F_image_size.eq m) p)
/-! ### cloakroom/image.may -/
noncomputable def F_image_may (m : Fu) (p : (List Int) × (List Int) × Int × Int × Int) : Option (Bool) :=
  let a0 := p.1
  let a1 := p.2.1
  let a2 := p.2.2.1
  let a3 := p.2.2.2.1
  let a4 := p.2.2.2.2
  bif !(a0 == ([] : List Int)) then
    bif decide ((a0.length : Int) ≤ (32 : Int)) then
      (F_image_size m (a0, a1, a2, a3, a4)).bind fun x4 =>
      bif decide (x4 ≤ (256 : Int)) then
        (F_image_in m (a3, (1099511627776 : Int))).bind fun x6 =>
        some x6
      else some false
    else some false
  else some false
def F_image_may.ann : List (Nat × Ann) := []
def F_image_may.sig : Sig := ⟨[.val true [.str, .str, .int .u32, .int .i64, .int .u64]], [(false, [.dat .bool])]⟩
noncomputable def F_image_may.S : Summ := ⟨81, F_image_may.sig, F_image_may⟩
noncomputable def F_image_may.G : List Summ := [F_image_size.S, F_image_in.S]
theorem F_image_may.eq : absF Try.prog F_image_may.G F_image_may.ann F_image_may.sig Try.f81 = F_image_may := by kernel_rfl
theorem F_image_may.sound : Sound Try.prog F_image_may.S := absF_sound (fn := Try.f81) (Γ := F_image_may.G) (all_cons F_image_size.sound (all_cons F_image_in.sound all_nil)) mix (by kernel_rfl) (by kernel_rfl) (fun m p => congrFun (congrFun F_image_may.eq m) p)
/-! ### cloakroom/image.due -/
noncomputable def F_image_due (_ : Fu) (p : (List Int) × (List Int) × Int × Int × Int × Int) : Option (Bool) :=
  let a3 := p.2.2.2.1
  let a5 := p.2.2.2.2.2
  bif a3 != (0 : Int) then
    some (decide (a3 ≤ a5))
  else some false
def F_image_due.ann : List (Nat × Ann) := []
def F_image_due.sig : Sig := ⟨[.val true [.str, .str, .int .u32, .int .i64, .int .u64], .val false [.int .i64]], [(false, [.dat .bool])]⟩
noncomputable def F_image_due.S : Summ := ⟨82, F_image_due.sig, F_image_due⟩
noncomputable def F_image_due.G : List Summ := []
theorem F_image_due.eq : absF Try.prog F_image_due.G F_image_due.ann F_image_due.sig Try.f82 = F_image_due := by kernel_rfl
theorem F_image_due.sound : Sound Try.prog F_image_due.S := absF_sound (fn := Try.f82) (Γ := F_image_due.G) all_nil mix (by kernel_rfl) (by kernel_rfl) (fun m p => congrFun (congrFun F_image_due.eq m) p)
/-! ### cloakroom/image.places -/
noncomputable def F_image_places.l58 (_ : Fu) (a0 : List (Int × (List Int) × (List Int) × Int × Int × Int)) (x1 : Int) (x2 : Int × (List ((Int × (List Int)) × Int))) : Option (Step (Int × (List ((Int × (List Int)) × Int))) ((List ((Int × (List Int)) × Int)))) :=
  bif decide (x2.1 < x1) then
    bif (decide ((0 : Int) ≤ x2.1)) && (decide (x2.1 < (a0.length : Int))) then
      let x4 := a0.getD x2.1.toNat (0, ([], ([], (0, (0, 0)))))
      bif Nat.blt x2.2.length 4294967296 then
        some (.next ((IntKind.i64.wrap (x2.1 + (1 : Int))), (mset (keyEq (.pr (.int .i64) .str)) x2.2 (x4.1, x4.2.1) x2.1)))
      else none
    else none
  else some (.fin x2.2)
noncomputable def F_image_places (m : Fu) (p : List (Int × (List Int) × (List Int) × Int × Int × Int)) : Option (List ((Int × (List Int)) × Int)) :=
  let a0 := p
  (iter m (F_image_places.l58 m a0 (a0.length : Int)) ((0 : Int), ([] : List ((Int × (List Int)) × Int)))).bind fun x7 =>
  some x7
def F_image_places.ann : List (Nat × Ann) := [(58, .loop ⟨[(9, false, [.dat (.int .i64)])], [], [(32, .pr (.pr (.int .i64) .str) (.int .i64), (.mp true false))], [], 112⟩ [(.exit 0, ⟨[], [], [(32, .pr (.pr (.int .i64) .str) (.int .i64), (.mp true false))], [], 112⟩)])]
def F_image_places.sig : Sig := ⟨[.val false [.sl (.pr (.int .i64) (.pr .str (.pr .str (.pr (.int .u32) (.pr (.int .i64) (.int .u64))))))]], [(false, [.own (.pr (.pr (.int .i64) .str) (.int .i64)) 0 (.mp true false)])]⟩
noncomputable def F_image_places.S : Summ := ⟨83, F_image_places.sig, F_image_places⟩
noncomputable def F_image_places.G : List Summ := []
theorem F_image_places.eq : absF Try.prog F_image_places.G F_image_places.ann F_image_places.sig Try.f83 = F_image_places := by kernel_rfl
theorem F_image_places.sound : Sound Try.prog F_image_places.S := absF_sound (fn := Try.f83) (Γ := F_image_places.G) all_nil mix (by kernel_rfl) (by kernel_rfl) (fun m p => congrFun (congrFun F_image_places.eq m) p)
/-! ### cloakroom/image.Check -/
noncomputable def F_image_Check.l58 (m : Fu) (a0 : Int) (a1 : List Int) (a2 : List (Int × (List Int) × (List Int) × Int × Int × Int)) (x11 : Int) (x12 : Int) : Option (Step Int (Int ⊕ Unit)) :=
  bif decide (x12 < x11) then
    bif (decide ((0 : Int) ≤ x12)) && (decide (x12 < (a2.length : Int))) then
      let x14 := a2.getD x12.toNat (0, ([], ([], (0, (0, 0)))))
      (F_image_in m (x14.1, (IntKind.i64.wrap ((a1.length : Int) - (1 : Int))))).bind fun x17 =>
      bif !x17 then some (.fin (Sum.inl (8 : Int))) else
      (F_image_may m x14.2).bind fun x19 =>
      bif !x19 then some (.fin (Sum.inl (8 : Int))) else
      (F_image_due m (x14.2.1, x14.2.2.1, x14.2.2.2.1, x14.2.2.2.2.1, x14.2.2.2.2.2, a0)).bind fun x21 =>
      bif x21 then
        some (.fin (Sum.inl (8 : Int)))
      else some (.next (IntKind.i64.wrap (x12 + (1 : Int))))
    else none
  else some (.fin (Sum.inr ()))
noncomputable def F_image_Check (m : Fu) (p : Int × (List Int) × (List (Int × (List Int) × (List Int) × Int × Int × Int)) × Int × Int × Bool) : Option (Int) :=
  let a0 := p.1
  let a1 := p.2.1
  let a2 := p.2.2.1
  let a3 := p.2.2.2.1
  let a4 := p.2.2.2.2.1
  (F_image_in m (a0, (1099511627776 : Int))).bind fun x1 =>
  bif !x1 then some (8 : Int) else
  (F_image_quotas m a1).bind fun x3 =>
  bif !x3 then some (8 : Int) else
  bif decide ((1024 : Int) < (a2.length : Int)) then some (8 : Int) else
  (F_image_in m (a3, (2147483647 : Int))).bind fun x7 =>
  bif !x7 then some (8 : Int) else
  (F_image_in m (a4, (2147483647 : Int))).bind fun x9 =>
  bif !x9 then some (8 : Int) else
  (iter m (F_image_Check.l58 m a0 a1 a2 (a2.length : Int)) (0 : Int)).bind fun x23 =>
  match x23 with
  | .inl x24 =>
    some x24
  | .inr _ =>
    (F_image_places m a2).bind fun x26 =>
    bif (x26.length : Int) != (a2.length : Int) then
      some (8 : Int)
    else some (0 : Int)
def F_image_Check.ann : List (Nat × Ann) := [(58, .loop ⟨[(36, false, [.dat (.int .i64)])], [], [], [], 560⟩ [(.ret, ⟨[(2, false, [.dat (.int .i64)])], [], [], [], 560⟩), (.exit 0, ⟨[], [], [], [], 560⟩)])]
def F_image_Check.sig : Sig := ⟨[.val true [.int .i64, .sl (.int .i64), .sl (.pr (.int .i64) (.pr .str (.pr .str (.pr (.int .u32) (.pr (.int .i64) (.int .u64)))))), .int .i64, .int .i64, .bool]], [(false, [.dat (.int .i64)])]⟩
noncomputable def F_image_Check.S : Summ := ⟨52, F_image_Check.sig, F_image_Check⟩
noncomputable def F_image_Check.G : List Summ := [F_image_in.S, F_image_quotas.S, F_image_may.S, F_image_due.S, F_image_places.S]
theorem F_image_Check.eq : absF Try.prog F_image_Check.G F_image_Check.ann F_image_Check.sig Try.f52 = F_image_Check := by kernel_rfl
theorem F_image_Check.sound : Sound Try.prog F_image_Check.S := absF_sound (fn := Try.f52) (Γ := F_image_Check.G) (all_cons F_image_in.sound (all_cons F_image_quotas.sound (all_cons F_image_may.sound (all_cons F_image_due.sound (all_cons F_image_places.sound all_nil))))) mix (by kernel_rfl) (by kernel_rfl) (fun m p => congrFun (congrFun F_image_Check.eq m) p)
/-! ### (*cloakroom/image.reader).wide -/
noncomputable def F_image_reader_wide.s14 (_ : Fu) (a0 : List Int) (a1 : Bool) (x1 : Int × Int × Int) : Option (((List Int) × Bool)) :=
  bif a1 then
    some (a0, true)
  else some (a0, (x1.2.2 != (0 : Int)))
noncomputable def F_image_reader_wide (m : Fu) (p : (List Int) × Bool) : Option (Int × (List Int) × Bool) :=
  let a0 := p.1
  let a1 := p.2
  (F_code_Read m a0).bind fun x1 =>
  (F_image_reader_wide.s14 m a0 a1 x1).bind fun x3 =>
  bif (((decide ((0 : Int) ≤ x1.2.1)) && (decide (x1.2.1 ≤ (x3.1.length : Int)))) && (decide ((x3.1.length : Int) ≤ (x3.1.length : Int)))) && (decide ((x3.1.length : Int) ≤ (x3.1.length : Int))) then
    some (x1.1, ((x3.1.take ((x3.1.length : Int).toNat)).drop x1.2.1.toNat), x3.2)
  else none
def F_image_reader_wide.ann : List (Nat × Ann) := [(14, .jnt [(.normal, ⟨[], [(0, [.dat (.sl (.int .u8)), .dat .bool])], [], [], 224⟩)])]
def F_image_reader_wide.sig : Sig := ⟨[.box [.sl (.int .u8), .bool]], [(false, [.dat (.int .u64)])]⟩
noncomputable def F_image_reader_wide.S : Summ := ⟨101, F_image_reader_wide.sig, F_image_reader_wide⟩
noncomputable def F_image_reader_wide.G : List Summ := [F_code_Read.S]
theorem F_image_reader_wide.eq : absF Try.prog F_image_reader_wide.G F_image_reader_wide.ann F_image_reader_wide.sig Try.f101 = F_image_reader_wide := by kernel_rfl
theorem F_image_reader_wide.sound : Sound Try.prog F_image_reader_wide.S := absF_sound (fn := Try.f101) (Γ := F_image_reader_wide.G) (all_cons F_code_Read.sound all_nil) mix (by kernel_rfl) (by kernel_rfl) (fun m p => congrFun (congrFun F_image_reader_wide.eq m) p)
/-! ### (*cloakroom/image.reader).num -/
noncomputable def F_image_reader_num (m : Fu) (p : (List Int) × Bool × Int) : Option (Int × (List Int) × Bool) :=
  let a0 := p.1
  let a1 := p.2.1
  let a2 := p.2.2
  (F_image_reader_wide m (a0, a1)).bind fun x1 =>
  bif decide ((IntKind.u64.wrap a2) < x1.1) then
    some ((0 : Int), x1.2.1, true)
  else some ((IntKind.i64.wrap x1.1), x1.2)
def F_image_reader_num.ann : List (Nat × Ann) := []
def F_image_reader_num.sig : Sig := ⟨[.box [.sl (.int .u8), .bool], .val false [.int .i64]], [(false, [.dat (.int .i64)])]⟩
noncomputable def F_image_reader_num.S : Summ := ⟨99, F_image_reader_num.sig, F_image_reader_num⟩
noncomputable def F_image_reader_num.G : List Summ := [F_image_reader_wide.S]
theorem F_image_reader_num.eq : absF Try.prog F_image_reader_num.G F_image_reader_num.ann F_image_reader_num.sig Try.f99 = F_image_reader_num := by kernel_rfl
theorem F_image_reader_num.sound : Sound Try.prog F_image_reader_num.S := absF_sound (fn := Try.f99) (Γ := F_image_reader_num.G) (all_cons F_image_reader_wide.sound all_nil) mix (by kernel_rfl) (by kernel_rfl) (fun m p => congrFun (congrFun F_image_reader_num.eq m) p)
/-! ### (*cloakroom/image.reader).text -/
noncomputable def F_image_reader_text (m : Fu) (p : (List Int) × Bool) : Option ((List Int) × (List Int) × Bool) :=
  let a0 := p.1
  let a1 := p.2
  (F_image_reader_num m (a0, a1, (a0.length : Int))).bind fun x2 =>
  bif decide ((x2.2.1.length : Int) < x2.1) then some (([] : List Int), x2.2.1, true) else
  bif ((decide ((0 : Int) ≤ x2.1)) && (decide (x2.1 ≤ (x2.2.1.length : Int)))) && (decide ((x2.2.1.length : Int) ≤ (x2.2.1.length : Int))) then
    bif (((decide ((0 : Int) ≤ x2.1)) && (decide (x2.1 ≤ (x2.2.1.length : Int)))) && (decide ((x2.2.1.length : Int) ≤ (x2.2.1.length : Int)))) && (decide ((x2.2.1.length : Int) ≤ (x2.2.1.length : Int))) then
      some (((x2.2.1.take x2.1.toNat).drop 0), ((x2.2.1.take ((x2.2.1.length : Int).toNat)).drop x2.1.toNat), x2.2.2)
    else none
  else none
def F_image_reader_text.ann : List (Nat × Ann) := []
def F_image_reader_text.sig : Sig := ⟨[.box [.sl (.int .u8), .bool]], [(false, [.dat .str])]⟩
noncomputable def F_image_reader_text.S : Summ := ⟨100, F_image_reader_text.sig, F_image_reader_text⟩
noncomputable def F_image_reader_text.G : List Summ := [F_image_reader_num.S]
theorem F_image_reader_text.eq : absF Try.prog F_image_reader_text.G F_image_reader_text.ann F_image_reader_text.sig Try.f100 = F_image_reader_text := by kernel_rfl
theorem F_image_reader_text.sound : Sound Try.prog F_image_reader_text.S := absF_sound (fn := Try.f100) (Γ := F_image_reader_text.G) (all_cons F_image_reader_num.sound all_nil) mix (by kernel_rfl) (by kernel_rfl) (fun m p => congrFun (congrFun F_image_reader_text.eq m) p)
/-! ### cloakroom/image.nums -/
noncomputable def F_image_nums.l26 (m : Fu) (a1 : List Int) (x1 : Int) (x2 : (List Int) × Int) : Option (Step ((List Int) × Int) ((List Int))) :=
  bif decide (x2.2 < x1) then
    bif (decide ((0 : Int) ≤ x2.2)) && (decide (x2.2 < (a1.length : Int))) then
      (F_code_Small m (IntKind.u64.wrap (a1.getD x2.2.toNat 0))).bind fun x6 =>
      bif Nat.ble (x2.1.length + x6.length) 140737488351232 then
        some (.next ((x2.1 ++ x6), (IntKind.i64.wrap (x2.2 + (1 : Int)))))
      else none
    else none
  else some (.fin x2.1)
noncomputable def F_image_nums (m : Fu) (p : (List Int) × (List Int)) : Option (List Int) :=
  let a0 := p.1
  let a1 := p.2
  (iter m (F_image_nums.l26 m a1 (a1.length : Int)) (a0, (0 : Int))).bind fun x9 =>
  some x9
def F_image_nums.ann : List (Nat × Ann) := [(26, .loop ⟨[(0, false, [.own (.int .u8) 96 .wr]), (9, false, [.dat (.int .i64)])], [], [], [0], 97⟩ [(.exit 0, ⟨[(0, false, [.own (.int .u8) 96 .wr])], [], [], [0], 97⟩)])]
def F_image_nums.sig : Sig := ⟨[.ow (.int .u8), .val false [.sl (.int .i64)]], [(false, [.own (.int .u8) 0 .wr])]⟩
noncomputable def F_image_nums.S : Summ := ⟨55, F_image_nums.sig, F_image_nums⟩
noncomputable def F_image_nums.G : List Summ := [F_code_Small.S]
theorem F_image_nums.eq : absF Try.prog F_image_nums.G F_image_nums.ann F_image_nums.sig Try.f55 = F_image_nums := by kernel_rfl
theorem F_image_nums.sound : Sound Try.prog F_image_nums.S := absF_sound (fn := Try.f55) (Γ := F_image_nums.G) (all_cons F_code_Small.sound all_nil) mix (by kernel_rfl) (by kernel_rfl) (fun m p => congrFun (congrFun F_image_nums.eq m) p)
/-! ### cloakroom/image.Write -/
noncomputable def F_image_Write.s30 (_ : Fu) (a5 : Bool) (x8 : List Int) : Option ((List Int)) :=
  bif a5 then
    bif Nat.ble (x8.length + 1) 140737488351232 then
      some (x8 ++ ([1] : List Int))
    else none
  else
    bif Nat.ble (x8.length + 1) 140737488351232 then
      some (x8 ++ ([0] : List Int))
    else none
noncomputable def F_image_Write.l506 (m : Fu) (a2 : List (Int × (List Int) × (List Int) × Int × Int × Int)) (x15 : Int) (x16 : (List Int) × Int) : Option (Step ((List Int) × Int) ((List Int))) :=
  bif decide (x16.2 < x15) then
    bif (decide ((0 : Int) ≤ x16.2)) && (decide (x16.2 < (a2.length : Int))) then
      let x18 := a2.getD x16.2.toNat (0, ([], ([], (0, (0, 0)))))
      (F_image_nums m (x16.1, ([x18.1]))).bind fun x20 =>
      (F_code_Text m x18.2.1).bind fun x21 =>
      bif Nat.ble (x20.length + x21.length) 140737488351232 then
        let x22 := x20 ++ x21
        (F_code_Text m x18.2.2.1).bind fun x23 =>
        bif Nat.ble (x22.length + x23.length) 140737488351232 then
          (F_image_nums m ((x22 ++ x23), ([(IntKind.i64.wrap x18.2.2.2.1), x18.2.2.2.2.1]))).bind fun x27 =>
          (F_code_Small m x18.2.2.2.2.2).bind fun x28 =>
          bif Nat.ble (x27.length + x28.length) 140737488351232 then
            some (.next ((x27 ++ x28), (IntKind.i64.wrap (x16.2 + (1 : Int)))))
          else none
        else none
      else none
    else none
  else some (.fin x16.1)
noncomputable def F_image_Write (m : Fu) (p : Int × (List Int) × (List (Int × (List Int) × (List Int) × Int × Int × Int)) × Int × Int × Bool) : Option ((List Int) × Int) :=
  let a0 := p.1
  let a1 := p.2.1
  let a2 := p.2.2.1
  let a3 := p.2.2.2.1
  let a4 := p.2.2.2.2.1
  let a5 := p.2.2.2.2.2
  (F_image_Check m (a0, a1, a2, a3, a4, a5)).bind fun x1 =>
  bif x1 != (0 : Int) then some (([] : List Int), x1) else
  (F_image_nums m (([] : List Int), ([a0, (a1.length : Int)]))).bind fun x5 =>
  (F_image_nums m (x5, a1)).bind fun x6 =>
  (F_image_nums m (x6, ([a3, a4]))).bind fun x8 =>
  (F_image_Write.s30 m a5 x8).bind fun x11 =>
  (F_image_nums m (x11, ([(a2.length : Int)]))).bind fun x14 =>
  (iter m (F_image_Write.l506 m a2 (a2.length : Int)) (x14, (0 : Int))).bind fun x31 =>
  bif decide ((65536 : Int) < (x31.length : Int)) then
    some (([] : List Int), (3 : Int))
  else some (x31, (0 : Int))
def F_image_Write.ann : List (Nat × Ann) := [(30, .jnt [(.normal, ⟨[(5, false, [.own (.int .u8) 416 .wr])], [], [], [384], 417⟩)]),
  (506, .loop ⟨[(5, false, [.own (.int .u8) 593 .wr]), (46, false, [.dat (.int .i64)])], [], [], [497], 594⟩ [(.exit 0, ⟨[(5, false, [.own (.int .u8) 593 .wr])], [], [], [497], 594⟩)])]
def F_image_Write.sig : Sig := ⟨[.val true [.int .i64, .sl (.int .i64), .sl (.pr (.int .i64) (.pr .str (.pr .str (.pr (.int .u32) (.pr (.int .i64) (.int .u64)))))), .int .i64, .int .i64, .bool]], [(false, [.own (.int .u8) 0 .wr]), (false, [.dat (.int .i64)])]⟩
noncomputable def F_image_Write.S : Summ := ⟨22, F_image_Write.sig, F_image_Write⟩
noncomputable def F_image_Write.G : List Summ := [F_image_Check.S, F_image_nums.S, F_code_Text.S, F_code_Small.S]
theorem F_image_Write.eq : absF Try.prog F_image_Write.G F_image_Write.ann F_image_Write.sig Try.f22 = F_image_Write := by kernel_rfl
theorem F_image_Write.sound : Sound Try.prog F_image_Write.S := absF_sound (fn := Try.f22) (Γ := F_image_Write.G) (all_cons F_image_Check.sound (all_cons F_image_nums.sound (all_cons F_code_Text.sound (all_cons F_code_Small.sound all_nil)))) mix (by kernel_rfl) (by kernel_rfl) (fun m p => congrFun (congrFun F_image_Write.eq m) p)
/-! ### cloakroom/image.Read -/
noncomputable def F_image_Read.l250 (m : Fu) (x4 : Int × (List Int) × Bool) (x5 : Int × (List Int) × Bool × Int × (List Int) × Int × Int × Bool) : Option (Step (Int × (List Int) × Bool × Int × (List Int) × Int × Int × Bool) (((List Int) × Bool × Int × (List Int) × Int × Int × Bool))) :=
  bif decide (x5.1 < x4.1) then
    (F_image_reader_num m (x5.2.1, x5.2.2.1, (16 : Int))).bind fun x7 =>
    let x8 := [x7.1]
    bif Nat.ble (x5.2.2.2.2.1.length + x8.length) 4294967296 then
      some (.next ((IntKind.i64.wrap (x5.1 + (1 : Int))), x7.2.1, x7.2.2, x5.2.2.2.1, (x5.2.2.2.2.1 ++ x8), x5.2.2.2.2.2))
    else none
  else some (.fin x5.2)
noncomputable def F_image_Read.l2042 (m : Fu) (x16 : Int × (List Int) × Bool) (x17 : Int × (List Int) × Bool × Int × (List Int) × (List (Int × (List Int) × (List Int) × Int × Int × Int)) × Int × Int × Bool) : Option (Step (Int × (List Int) × Bool × Int × (List Int) × (List (Int × (List Int) × (List Int) × Int × Int × Int)) × Int × Int × Bool) ((Int × Int × Int × Int × Bool) ⊕ ((List Int) × Bool × Int × (List Int) × (List (Int × (List Int) × (List Int) × Int × Int × Int)) × Int × Int × Bool))) :=
  bif decide (x17.1 < x16.1) then
    (F_image_reader_num m (x17.2.1, x17.2.2.1, (4 : Int))).bind fun x19 =>
    (F_image_reader_text m x19.2).bind fun x20 =>
    (F_image_reader_text m x20.2).bind fun x21 =>
    (F_image_reader_num m (x21.2.1, x21.2.2, (4294967295 : Int))).bind fun x22 =>
    (F_image_reader_num m (x22.2.1, x22.2.2, (1099511627776 : Int))).bind fun x24 =>
    (F_image_reader_wide m x24.2).bind fun x25 =>
    let x26 := [(x19.1, (x20.1, (x21.1, ((IntKind.u32.wrap x22.1), (x24.1, x25.1)))))]
    bif Nat.ble (x17.2.2.2.2.2.1.length + x26.length) 4294967296 then
      bif x25.2.2 then
        some (.fin (Sum.inl ((8 : Int), (0 : Int), (0 : Int), (0 : Int), false)))
      else some (.next ((IntKind.i64.wrap (x17.1 + (1 : Int))), x25.2.1, x25.2.2, x17.2.2.2.1, x17.2.2.2.2.1, (x17.2.2.2.2.2.1 ++ x26), x17.2.2.2.2.2.2))
    else none
  else some (.fin (Sum.inr x17.2))
noncomputable def F_image_Read (m : Fu) (p : List Int) : Option (Int × (List Int) × (List (Int × (List Int) × (List Int) × Int × Int × Int)) × Int × Int × Bool × Int) :=
  let a0 := p
  bif decide ((65536 : Int) < (a0.length : Int)) then some ((0 : Int), ([] : List Int), ([] : List (Int × (List Int) × (List Int) × Int × Int × Int)), (0 : Int), (0 : Int), false, (3 : Int)) else
  (F_image_reader_num m (a0, false, (1099511627776 : Int))).bind fun x3 =>
  (F_image_reader_num m (x3.2.1, x3.2.2, (4 : Int))).bind fun x4 =>
  (iter m (F_image_Read.l250 m x4) ((0 : Int), x4.2.1, x4.2.2, x3.1, ([] : List Int), (0 : Int), (0 : Int), false)).bind fun x11 =>
  (F_image_reader_num m (x11.1, x11.2.1, (2147483647 : Int))).bind fun x12 =>
  (F_image_reader_num m (x12.2.1, x12.2.2, (2147483647 : Int))).bind fun x13 =>
  (F_image_reader_num m (x13.2.1, x13.2.2, (255 : Int))).bind fun x14 =>
  (F_image_reader_num m (x14.2.1, x14.2.2, (1024 : Int))).bind fun x16 =>
  (iter m (F_image_Read.l2042 m x16) ((0 : Int), x16.2.1, x16.2.2, x11.2.2.1, x11.2.2.2.1, ([] : List (Int × (List Int) × (List Int) × Int × Int × Int)), x12.1, x13.1, (x14.1 == (1 : Int)))).bind fun x29 =>
  match x29 with
  | .inl x30 =>
    some (x30.2.1, ([] : List Int), ([] : List (Int × (List Int) × (List Int) × Int × Int × Int)), x30.2.2.1, x30.2.2.2.1, x30.2.2.2.2, x30.1)
  | .inr x31 =>
    (F_image_Write m x31.2.2).bind fun x32 =>
    bif x31.2.1 then some ((0 : Int), ([] : List Int), ([] : List (Int × (List Int) × (List Int) × Int × Int × Int)), (0 : Int), (0 : Int), false, (8 : Int)) else
    bif x32.2 != (0 : Int) then some ((0 : Int), ([] : List Int), ([] : List (Int × (List Int) × (List Int) × Int × Int × Int)), (0 : Int), (0 : Int), false, (8 : Int)) else
    (F_bytes_Equal m (x32.1, a0)).bind fun x34 =>
    bif !x34 then
      some ((0 : Int), ([] : List Int), ([] : List (Int × (List Int) × (List Int) × Int × Int × Int)), (0 : Int), (0 : Int), false, (8 : Int))
    else some (x31.2.2.1, x31.2.2.2.1, x31.2.2.2.2.1, x31.2.2.2.2.2.1, x31.2.2.2.2.2.2.1, x31.2.2.2.2.2.2.2, (0 : Int))
def F_image_Read.ann : List (Nat × Ann) := [(250, .loop ⟨[(21, false, [.dat (.int .i64)])], [(128, [.dat (.sl (.int .u8)), .dat .bool]), (208, [.dat (.int .i64), .own (.int .i64) 288 .wr, .cst .nils, .dat (.int .i64), .dat (.int .i64), .dat .bool])], [], [], 289⟩ [(.exit 0, ⟨[], [(128, [.dat (.sl (.int .u8)), .dat .bool]), (208, [.dat (.int .i64), .own (.int .i64) 288 .wr, .cst .nils, .dat (.int .i64), .dat (.int .i64), .dat .bool])], [], [], 289⟩)]),
  (2042, .loop ⟨[(43, false, [.dat (.int .i64)])], [(128, [.dat (.sl (.int .u8)), .dat .bool]), (208, [.dat (.int .i64), .own (.int .i64) 545 .wr, .own (.pr (.int .i64) (.pr .str (.pr .str (.pr (.int .u32) (.pr (.int .i64) (.int .u64)))))) 546 .wr, .dat (.int .i64), .dat (.int .i64), .dat .bool])], [], [288], 547⟩ [(.ret, ⟨[(3, false, [.dat (.int .i64)])], [(16, [.dat (.int .i64), .cst .nils, .cst .nils, .dat (.int .i64), .dat (.int .i64), .dat .bool])], [], [128, 208, 288], 545⟩), (.exit 2, ⟨[], [(128, [.dat (.sl (.int .u8)), .dat .bool]), (208, [.dat (.int .i64), .own (.int .i64) 545 .wr, .own (.pr (.int .i64) (.pr .str (.pr .str (.pr (.int .u32) (.pr (.int .i64) (.int .u64)))))) 546 .wr, .dat (.int .i64), .dat (.int .i64), .dat .bool])], [], [288], 547⟩)])]
def F_image_Read.sig : Sig := ⟨[.val false [.sl (.int .u8)]], [(true, [.dat (.int .i64), .own (.int .i64) 0 .wr, .own (.pr (.int .i64) (.pr .str (.pr .str (.pr (.int .u32) (.pr (.int .i64) (.int .u64)))))) 0 .wr, .dat (.int .i64), .dat (.int .i64), .dat .bool]), (false, [.dat (.int .i64)])]⟩
noncomputable def F_image_Read.S : Summ := ⟨72, F_image_Read.sig, F_image_Read⟩
noncomputable def F_image_Read.G : List Summ := [F_image_reader_num.S, F_image_reader_text.S, F_image_reader_wide.S, F_image_Write.S, F_bytes_Equal.S]
theorem F_image_Read.eq : absF Try.prog F_image_Read.G F_image_Read.ann F_image_Read.sig Try.f72 = F_image_Read := by kernel_rfl
theorem F_image_Read.sound : Sound Try.prog F_image_Read.S := absF_sound (fn := Try.f72) (Γ := F_image_Read.G) (all_cons F_image_reader_num.sound (all_cons F_image_reader_text.sound (all_cons F_image_reader_wide.sound (all_cons F_image_Write.sound (all_cons F_bytes_Equal.sound all_nil))))) mix (by kernel_rfl) (by kernel_rfl) (fun m p => congrFun (congrFun F_image_Read.eq m) p)
/-! ### cloakroom/numbers.may$4 -/
noncomputable def F_numbers_may_c4 (m : Fu) (p : Int × Int × Int × (List Int)) : Option (Bool × Int × Int × Int × (List Int)) :=
  let a0 := p.1
  let a1 := p.2.1
  let a2 := p.2.2.1
  let a3 := p.2.2.2
  (F_image_Read m a3).bind fun x1 =>
  some ((x1.2.2.2.2.2.2 == (0 : Int)), a0, a1, a2, a3)
def F_numbers_may_c4.ann : List (Nat × Ann) := []
def F_numbers_may_c4.sig : Sig := ⟨[.box [.int .u8, .int .i64, .int .i64, .sl (.int .u8)]], [(false, [.dat .bool])]⟩
noncomputable def F_numbers_may_c4.S : Summ := ⟨71, F_numbers_may_c4.sig, F_numbers_may_c4⟩
noncomputable def F_numbers_may_c4.G : List Summ := [F_image_Read.S]
theorem F_numbers_may_c4.eq : absF Try.prog F_numbers_may_c4.G F_numbers_may_c4.ann F_numbers_may_c4.sig Try.f71 = F_numbers_may_c4 := by kernel_rfl
theorem F_numbers_may_c4.sound : Sound Try.prog F_numbers_may_c4.S := absF_sound (fn := Try.f71) (Γ := F_numbers_may_c4.G) (all_cons F_image_Read.sound all_nil) mix (by kernel_rfl) (by kernel_rfl) (fun m p => congrFun (congrFun F_numbers_may_c4.eq m) p)
/-! ### cloakroom/numbers.may$3 -/
noncomputable def F_numbers_may_c3 (_ : Fu) (p : Int × Int × Int × (List Int)) : Option (Bool × Int × Int × Int × (List Int)) :=
  let a0 := p.1
  let a1 := p.2.1
  let a2 := p.2.2.1
  let a3 := p.2.2.2
  some (((a3.length : Int) == (0 : Int)), a0, a1, a2, a3)
def F_numbers_may_c3.ann : List (Nat × Ann) := []
def F_numbers_may_c3.sig : Sig := ⟨[.box [.int .u8, .int .i64, .int .i64, .sl (.int .u8)]], [(false, [.dat .bool])]⟩
noncomputable def F_numbers_may_c3.S : Summ := ⟨70, F_numbers_may_c3.sig, F_numbers_may_c3⟩
noncomputable def F_numbers_may_c3.G : List Summ := []
theorem F_numbers_may_c3.eq : absF Try.prog F_numbers_may_c3.G F_numbers_may_c3.ann F_numbers_may_c3.sig Try.f70 = F_numbers_may_c3 := by kernel_rfl
theorem F_numbers_may_c3.sound : Sound Try.prog F_numbers_may_c3.S := absF_sound (fn := Try.f70) (Γ := F_numbers_may_c3.G) all_nil mix (by kernel_rfl) (by kernel_rfl) (fun m p => congrFun (congrFun F_numbers_may_c3.eq m) p)
/-! ### cloakroom/numbers.may$2 -/
noncomputable def F_numbers_may_c2 (_ : Fu) (p : Int × Int × Int × (List Int)) : Option (Bool × Int × Int × Int × (List Int)) :=
  let a0 := p.1
  let a1 := p.2.1
  let a2 := p.2.2.1
  let a3 := p.2.2.2
  some (((a3.length : Int) == (0 : Int)), a0, a1, a2, a3)
def F_numbers_may_c2.ann : List (Nat × Ann) := []
def F_numbers_may_c2.sig : Sig := ⟨[.box [.int .u8, .int .i64, .int .i64, .sl (.int .u8)]], [(false, [.dat .bool])]⟩
noncomputable def F_numbers_may_c2.S : Summ := ⟨69, F_numbers_may_c2.sig, F_numbers_may_c2⟩
noncomputable def F_numbers_may_c2.G : List Summ := []
theorem F_numbers_may_c2.eq : absF Try.prog F_numbers_may_c2.G F_numbers_may_c2.ann F_numbers_may_c2.sig Try.f69 = F_numbers_may_c2 := by kernel_rfl
theorem F_numbers_may_c2.sound : Sound Try.prog F_numbers_may_c2.S := absF_sound (fn := Try.f69) (Γ := F_numbers_may_c2.G) all_nil mix (by kernel_rfl) (by kernel_rfl) (fun m p => congrFun (congrFun F_numbers_may_c2.eq m) p)
/-! ### cloakroom/numbers.may$1 -/
noncomputable def F_numbers_may_c1 (m : Fu) (p : Int × Int × Int × (List Int)) : Option (Bool × Int × Int × Int × (List Int)) :=
  let a0 := p.1
  let a1 := p.2.1
  let a2 := p.2.2.1
  let a3 := p.2.2.2
  bif decide ((0 : Int) < a2) then
    (F_numbers_changes m a3).bind fun x2 =>
    some (x2, a0, a1, a2, a3)
  else some (false, a0, a1, a2, a3)
def F_numbers_may_c1.ann : List (Nat × Ann) := []
def F_numbers_may_c1.sig : Sig := ⟨[.box [.int .u8, .int .i64, .int .i64, .sl (.int .u8)]], [(false, [.dat .bool])]⟩
noncomputable def F_numbers_may_c1.S : Summ := ⟨68, F_numbers_may_c1.sig, F_numbers_may_c1⟩
noncomputable def F_numbers_may_c1.G : List Summ := [F_numbers_changes.S]
theorem F_numbers_may_c1.eq : absF Try.prog F_numbers_may_c1.G F_numbers_may_c1.ann F_numbers_may_c1.sig Try.f68 = F_numbers_may_c1 := by kernel_rfl
theorem F_numbers_may_c1.sound : Sound Try.prog F_numbers_may_c1.S := absF_sound (fn := Try.f68) (Γ := F_numbers_may_c1.G) (all_cons F_numbers_changes.sound all_nil) mix (by kernel_rfl) (by kernel_rfl) (fun m p => congrFun (congrFun F_numbers_may_c1.eq m) p)
/-! ### cloakroom/numbers.may -/
noncomputable def F_numbers_may (m : Fu) (p : Int × Int × Int × (List Int)) : Option (Bool) :=
  let a0 := p.1
  let a1 := p.2.1
  let a2 := p.2.2.1
  let a3 := p.2.2.2
  (F_numbers_in m a1).bind fun x1 =>
  bif x1 then
    (F_numbers_in m a2).bind fun x2 =>
    bif x2 then
      bif decide ((0 : Int) < a0) then
        bif decide ((IntKind.i64.wrap a0) < (5 : Int)) then
          bif a0 == (0 : Int) then none else
          bif a0 == (1 : Int) then
            (F_numbers_may_c1 m (a0, a1, a2, a3)).bind fun x9 =>
            some x9.1
          else
            bif a0 == (2 : Int) then
              (F_numbers_may_c2 m (a0, a1, a2, a3)).bind fun x8 =>
              some x8.1
            else
              bif a0 == (3 : Int) then
                (F_numbers_may_c3 m (a0, a1, a2, a3)).bind fun x7 =>
                some x7.1
              else
                bif a0 == (4 : Int) then
                  (F_numbers_may_c4 m (a0, a1, a2, a3)).bind fun x6 =>
                  some x6.1
                else none
        else some false
      else some false
    else some false
  else some false
def F_numbers_may.ann : List (Nat × Ann) := []
def F_numbers_may.sig : Sig := ⟨[.val true [.int .u8, .int .i64, .int .i64, .sl (.int .u8)]], [(false, [.dat .bool])]⟩
noncomputable def F_numbers_may.S : Summ := ⟨37, F_numbers_may.sig, F_numbers_may⟩
noncomputable def F_numbers_may.G : List Summ := [F_numbers_in.S, F_numbers_may_c4.S, F_numbers_may_c3.S, F_numbers_may_c2.S, F_numbers_may_c1.S]
theorem F_numbers_may.eq : absF Try.prog F_numbers_may.G F_numbers_may.ann F_numbers_may.sig Try.f37 = F_numbers_may := by kernel_rfl
theorem F_numbers_may.sound : Sound Try.prog F_numbers_may.S := absF_sound (fn := Try.f37) (Γ := F_numbers_may.G) (all_cons F_numbers_in.sound (all_cons F_numbers_may_c4.sound (all_cons F_numbers_may_c3.sound (all_cons F_numbers_may_c2.sound (all_cons F_numbers_may_c1.sound all_nil))))) mix (by kernel_rfl) (by kernel_rfl) (fun m p => congrFun (congrFun F_numbers_may.eq m) p)
/-! ### cloakroom/numbers.twin -/
noncomputable def F_numbers_twin_v2.l122 (m : Fu) (a3 : List (List Int)) (x1 : Int) (x2 : Int × Int × Int × Int × (List (List Int))) : Option (Step (Int × Int × Int × Int × (List (List Int))) ((Int × Int × Int × (List (List Int))))) :=
  bif decide (x2.1 < x1) then
    bif (decide ((0 : Int) ≤ x2.1)) && (decide (x2.1 < (a3.length : Int))) then
      (C_bytes_Clone m (a3.getD x2.1.toNat [])).bind fun x5 =>
      let x6 := [x5]
      bif Nat.ble (x2.2.2.2.2.length + x6.length) 4294967296 then
        some (.next ((IntKind.i64.wrap (x2.1 + (1 : Int))), x2.2.1, x2.2.2.1, x2.2.2.2.1, (x2.2.2.2.2 ++ x6)))
      else none
    else none
  else some (.fin x2.2)
noncomputable def F_numbers_twin_v2 (m : Fu) (p : Int × Int × Int × (List (List Int))) : Option (Int × Int × Int × (List (List Int))) :=
  let a0 := p.1
  let a1 := p.2.1
  let a2 := p.2.2.1
  let a3 := p.2.2.2
  (iter m (F_numbers_twin_v2.l122 m a3 (a3.length : Int)) ((0 : Int), a0, a1, a2, ([] : List (List Int)))).bind fun x9 =>
  some x9
def F_numbers_twin_v2.ann : List (Nat × Ann) := [(122, .loop ⟨[(11, false, [.dat (.int .i64)])], [(16, [.dat (.int .i64), .dat (.int .i64), .dat (.int .i64), .own (.sl (.int .u8)) 176 .wr])], [], [], 177⟩ [(.exit 0, ⟨[], [(16, [.dat (.int .i64), .dat (.int .i64), .dat (.int .i64), .own (.sl (.int .u8)) 176 .wr])], [], [], 177⟩)])]
def F_numbers_twin_v2.sig : Sig := ⟨[.val true [.int .i64, .int .i64, .int .i64, .sl (.sl (.int .u8))]], [(true, [.dat (.int .i64), .dat (.int .i64), .dat (.int .i64), .own (.sl (.int .u8)) 0 .wr])]⟩
noncomputable def F_numbers_twin_v2.S : Summ := ⟨53, F_numbers_twin_v2.sig, F_numbers_twin_v2⟩
noncomputable def F_numbers_twin_v2.G : List Summ := [C_bytes_Clone.S]
theorem F_numbers_twin_v2.eq : absF Try.prog F_numbers_twin_v2.G F_numbers_twin_v2.ann F_numbers_twin_v2.sig Try.f53 = F_numbers_twin_v2 := by kernel_rfl
theorem F_numbers_twin_v2.sound : Sound Try.prog F_numbers_twin_v2.S := absF_sound (fn := Try.f53) (Γ := F_numbers_twin_v2.G) (all_cons C_bytes_Clone.sound all_nil) mix (by kernel_rfl) (by kernel_rfl) (fun m p => congrFun (congrFun F_numbers_twin_v2.eq m) p)
/-! ### cloakroom/numbers.behind -/
noncomputable def F_numbers_behind.l26 (m : Fu) (a0 : Int) (a1 : Int) (a2 : Int) (a3 : List (List Int)) (x5 : Int × (List (Int × Int × Int × (List Int)))) : Option (Step (Int × (List (Int × Int × Int × (List Int)))) ((List (Int × Int × Int × (List Int))))) :=
  bif decide (x5.1 ≤ a1) then
    (F_numbers_message m (a0, a1, a2, a3, x5.1)).bind fun x7 =>
    let x8 := [x7]
    bif Nat.ble (x5.2.length + x8.length) 4294967296 then
      some (.next ((IntKind.i64.wrap (x5.1 + (1 : Int))), (x5.2 ++ x8)))
    else none
  else some (.fin x5.2)
noncomputable def F_numbers_behind (m : Fu) (p : Int × Int × Int × (List (List Int)) × Int) : Option (List (Int × Int × Int × (List Int))) :=
  let a0 := p.1
  let a1 := p.2.1
  let a2 := p.2.2.1
  let a3 := p.2.2.2.1
  let a4 := p.2.2.2.2
  (iter m (F_numbers_behind.l26 m a0 a1 a2 a3) ((IntKind.i64.wrap ((mxI a4 (IntKind.i64.wrap (a1 - (a3.length : Int)))) + (1 : Int))), ([] : List (Int × Int × Int × (List Int))))).bind fun x11 =>
  some x11
def F_numbers_behind.ann : List (Nat × Ann) := [(26, .loop ⟨[(1, false, [.dat (.int .i64)]), (4, false, [.own (.pr (.int .u8) (.pr (.int .i64) (.pr (.int .i64) (.pl false)))) 224 .wr])], [], [], [], 225⟩ [(.exit 0, ⟨[(4, false, [.own (.pr (.int .u8) (.pr (.int .i64) (.pr (.int .i64) (.pl false)))) 224 .wr])], [], [], [], 225⟩)])]
def F_numbers_behind.sig : Sig := ⟨[.val true [.int .i64, .int .i64, .int .i64, .sl (.sl (.int .u8))], .val false [.int .i64]], [(false, [.own (.pr (.int .u8) (.pr (.int .i64) (.pr (.int .i64) (.pl false)))) 0 .wr])]⟩
noncomputable def F_numbers_behind.S : Summ := ⟨54, F_numbers_behind.sig, F_numbers_behind⟩
noncomputable def F_numbers_behind.G : List Summ := [markS, F_numbers_message.S]
theorem F_numbers_behind.eq : absF Try.prog F_numbers_behind.G F_numbers_behind.ann F_numbers_behind.sig Try.f54 = F_numbers_behind := by kernel_rfl
theorem F_numbers_behind.sound : Sound Try.prog F_numbers_behind.S := absF_sound (fn := Try.f54) (Γ := F_numbers_behind.G) (all_cons mark_sound (all_cons F_numbers_message.sound all_nil)) mix (by kernel_rfl) (by kernel_rfl) (fun m p => congrFun (congrFun F_numbers_behind.eq m) p)
/-! ### cloakroom/numbers.Hear -/
noncomputable def F_numbers_Hear.s126 (_ : Fu) (a11 : Int) (a12 : Int) (x7 : Int × Int × Int × (List (List Int))) : Option (Bool) :=
  bif a11 == x7.1 then
    some (decide (a12 ≤ x7.2.1))
  else some false
noncomputable def F_numbers_Hear.s65208 (_ : Fu) (a12 : Int) (x7 : Int × Int × Int × (List (List Int))) (x10 : Bool) : Option (Bool) :=
  bif x10 then
    some (decide ((IntKind.i64.wrap (x7.2.1 - (x7.2.2.2.length : Int))) ≤ a12))
  else some false
noncomputable def F_numbers_Hear.s32604 (m : Fu) (a12 : Int) (x7 : Int × Int × Int × (List (List Int))) (x10 : Bool) : Option (((List (Int × Int × Int × (List Int))) × Int × Int × Int × Int × (List (List Int))) ⊕ Unit) :=
  (F_numbers_Hear.s65208 m a12 x7 x10).bind fun x17 =>
  bif x17 then
    (F_numbers_behind m (x7.1, x7.2.1, x7.2.2.1, x7.2.2.2, a12)).bind fun x18 =>
    some (Sum.inl (x18, (0 : Int), x7))
  else some (Sum.inr ())
noncomputable def F_numbers_Hear.s254 (m : Fu) (a4 : Int) (a5 : List Int) (a6 : List (Int × (List Int) × (List Int) × Int × Int × Int)) (a7 : Int) (a8 : Int) (a9 : Bool) (a10 : Int) (a12 : Int) (x7 : Int × Int × Int × (List (List Int))) (x10 : Bool) : Option ((Int × Int × Int × (List (List Int))) ⊕ ((List (Int × Int × Int × (List Int))) × Int × Int × Int × Int × (List (List Int)))) :=
  bif a10 == (2 : Int) then
    bif x10 then
      some (Sum.inl (x7.1, x7.2.1, (mxI x7.2.2.1 a12), x7.2.2.2))
    else some (Sum.inl x7)
  else
    bif a10 == (3 : Int) then
      (F_numbers_Hear.s32604 m a12 x7 x10).bind fun x19 =>
      match x19 with
      | .inl x20 =>
        some (Sum.inr x20)
      | .inr _ =>
        (F_image_Write m (a4, a5, a6, a7, a8, a9)).bind fun x22 =>
        bif x22.2 != (0 : Int) then
          some (Sum.inr (([] : List (Int × Int × Int × (List Int))), x22.2, (0 : Int), (0 : Int), (0 : Int), ([] : List (List Int))))
        else some (Sum.inr (([((4 : Int), (x7.1, (x7.2.1, x22.1)))]), (0 : Int), x7))
    else some (Sum.inl x7)
noncomputable def F_numbers_Hear (m : Fu) (p : Int × Int × Int × (List (List Int)) × Int × (List Int) × (List (Int × (List Int) × (List Int) × Int × Int × Int)) × Int × Int × Bool × Int × Int × Int × (List Int)) : Option (Int × Int × Int × (List (List Int)) × (List (Int × Int × Int × (List Int))) × Int) :=
  let a0 := p.1
  let a1 := p.2.1
  let a2 := p.2.2.1
  let a3 := p.2.2.2.1
  let a4 := p.2.2.2.2.1
  let a5 := p.2.2.2.2.2.1
  let a6 := p.2.2.2.2.2.2.1
  let a7 := p.2.2.2.2.2.2.2.1
  let a8 := p.2.2.2.2.2.2.2.2.1
  let a9 := p.2.2.2.2.2.2.2.2.2.1
  let a10 := p.2.2.2.2.2.2.2.2.2.2.1
  let a11 := p.2.2.2.2.2.2.2.2.2.2.2.1
  let a12 := p.2.2.2.2.2.2.2.2.2.2.2.2.1
  let a13 := p.2.2.2.2.2.2.2.2.2.2.2.2.2
  (F_numbers_Check m (a0, a1, a2, a3)).bind fun x1 =>
  bif x1 != (0 : Int) then some ((0 : Int), (0 : Int), (0 : Int), ([] : List (List Int)), ([] : List (Int × Int × Int × (List Int))), x1) else
  (F_image_Check m (a4, a5, a6, a7, a8, a9)).bind fun x3 =>
  bif x3 != (0 : Int) then some ((0 : Int), (0 : Int), (0 : Int), ([] : List (List Int)), ([] : List (Int × Int × Int × (List Int))), x3) else
  (F_numbers_may m (a10, a11, a12, a13)).bind fun x5 =>
  bif !x5 then some ((0 : Int), (0 : Int), (0 : Int), ([] : List (List Int)), ([] : List (Int × Int × Int × (List Int))), (8 : Int)) else
  (F_numbers_twin m (a0, a1, a2, a3)).bind fun x7 =>
  (F_numbers_Hear.s126 m a11 a12 x7).bind fun x10 =>
  (F_numbers_Hear.s254 m a4 a5 a6 a7 a8 a9 a10 a12 x7 x10).bind fun x25 =>
  match x25 with
  | .inl x26 =>
    some (x26.1, x26.2.1, x26.2.2.1, x26.2.2.2, ([] : List (Int × Int × Int × (List Int))), (0 : Int))
  | .inr x27 =>
    some (x27.2.2.1, x27.2.2.2.1, x27.2.2.2.2.1, x27.2.2.2.2.2, x27.1, x27.2.1)
def F_numbers_Hear.ann : List (Nat × Ann) := [(126, .jnt [(.normal, ⟨[(11, false, [.dat .bool])], [], [], [], 400⟩)]),
  (254, .jnt [(.normal, ⟨[], [(48, [.dat (.int .i64), .dat (.int .i64), .dat (.int .i64), .own (.sl (.int .u8)) 400 .wr])], [], [368], 401⟩), (.ret, ⟨[(7, false, [.own (.pr (.int .u8) (.pr (.int .i64) (.pr (.int .i64) (.pl false)))) 400 .wr]), (8, false, [.dat (.int .i64)])], [(96, [.dat (.int .i64), .dat (.int .i64), .dat (.int .i64), .own (.sl (.int .u8)) 401 .wr])], [], [368], 402⟩)]),
  (32604, .jnt [(.ret, ⟨[(7, false, [.own (.pr (.int .u8) (.pr (.int .i64) (.pr (.int .i64) (.pl false)))) 496 .wr]), (8, false, [.dat (.int .i64)])], [(96, [.dat (.int .i64), .dat (.int .i64), .dat (.int .i64), .own (.sl (.int .u8)) 497 .wr])], [], [368], 498⟩), (.normal, ⟨[], [], [], [], 496⟩)]),
  (65208, .jnt [(.normal, ⟨[(68, false, [.dat .bool])], [], [], [], 496⟩)])]
def F_numbers_Hear.sig : Sig := ⟨[.val true [.int .i64, .int .i64, .int .i64, .sl (.sl (.int .u8))], .val true [.int .i64, .sl (.int .i64), .sl (.pr (.int .i64) (.pr .str (.pr .str (.pr (.int .u32) (.pr (.int .i64) (.int .u64)))))), .int .i64, .int .i64, .bool], .val true [.int .u8, .int .i64, .int .i64, .sl (.int .u8)]], [(true, [.dat (.int .i64), .dat (.int .i64), .dat (.int .i64), .own (.sl (.int .u8)) 0 .wr]), (false, [.own (.pr (.int .u8) (.pr (.int .i64) (.pr (.int .i64) (.pl false)))) 0 .wr]), (false, [.dat (.int .i64)])]⟩
noncomputable def F_numbers_Hear.S : Summ := ⟨20, F_numbers_Hear.sig, F_numbers_Hear⟩
noncomputable def F_numbers_Hear.G : List Summ := [markS, F_numbers_Check.S, F_image_Check.S, F_numbers_may.S, F_numbers_twin_v2.S, F_numbers_behind.S, F_image_Write.S]
theorem F_numbers_Hear.eq : absF Try.prog F_numbers_Hear.G F_numbers_Hear.ann F_numbers_Hear.sig Try.f20 = F_numbers_Hear := by kernel_rfl
theorem F_numbers_Hear.sound : Sound Try.prog F_numbers_Hear.S := absF_sound (fn := Try.f20) (Γ := F_numbers_Hear.G) (all_cons mark_sound (all_cons F_numbers_Check.sound (all_cons F_image_Check.sound (all_cons F_numbers_may.sound (all_cons F_numbers_twin_v2.sound (all_cons F_numbers_behind.sound (all_cons F_image_Write.sound all_nil))))))) mix (by kernel_rfl) (by kernel_rfl) (fun m p => congrFun (congrFun F_numbers_Hear.eq m) p)
/-! ### cloakroom/cloakroomref21.quotas -/
noncomputable def F_ref21_quotas.l58 (_ : Fu) (a0 : List Int) (x5 : Int) : Option (Step Int (Bool ⊕ Unit)) :=
  bif decide (x5 < (a0.length : Int)) then
    bif (decide ((0 : Int) ≤ x5)) && (decide (x5 < (a0.length : Int))) then
      bif decide ((a0.getD x5.toNat 0) < (0 : Int)) then some (.fin (Sum.inl false)) else
      bif (decide ((0 : Int) ≤ x5)) && (decide (x5 < (a0.length : Int))) then
        bif decide ((16 : Int) < (a0.getD x5.toNat 0)) then
          some (.fin (Sum.inl false))
        else some (.next (IntKind.i64.wrap (x5 + (1 : Int))))
      else none
    else none
  else some (.fin (Sum.inr ()))
noncomputable def F_ref21_quotas (m : Fu) (p : List Int) : Option (Bool) :=
  let a0 := p
  bif decide ((a0.length : Int) < (1 : Int)) then some false else
  bif decide ((4 : Int) < (a0.length : Int)) then some false else
  (iter m (F_ref21_quotas.l58 m a0) (0 : Int)).bind fun x13 =>
  match x13 with
  | .inl x14 =>
    some x14
  | .inr _ =>
    some true
def F_ref21_quotas.ann : List (Nat × Ann) := [(58, .loop ⟨[(3, false, [.dat (.int .i64)])], [], [], [], 176⟩ [(.ret, ⟨[(2, false, [.dat .bool])], [], [], [], 176⟩), (.exit 0, ⟨[], [], [], [], 176⟩)])]
def F_ref21_quotas.sig : Sig := ⟨[.val false [.sl (.int .i64)]], [(false, [.dat .bool])]⟩
noncomputable def F_ref21_quotas.S : Summ := ⟨87, F_ref21_quotas.sig, F_ref21_quotas⟩
noncomputable def F_ref21_quotas.G : List Summ := []
theorem F_ref21_quotas.eq : absF Try.prog F_ref21_quotas.G F_ref21_quotas.ann F_ref21_quotas.sig Try.f87 = F_ref21_quotas := by kernel_rfl
theorem F_ref21_quotas.sound : Sound Try.prog F_ref21_quotas.S := absF_sound (fn := Try.f87) (Γ := F_ref21_quotas.G) all_nil mix (by kernel_rfl) (by kernel_rfl) (fun m p => congrFun (congrFun F_ref21_quotas.eq m) p)
/-! ### cloakroom/cloakroomref21.Size -/
noncomputable def F_ref21_Size (_ : Fu) (p : (List Int) × (List Int) × Int × Int × Int) : Option (Int) :=
  let a0 := p.1
  let a1 := p.2.1
  some (IntKind.i64.wrap ((IntKind.i64.wrap ((8 : Int) + (a0.length : Int))) + (a1.length : Int)))
def F_ref21_Size.ann : List (Nat × Ann) := []
def F_ref21_Size.sig : Sig := ⟨[.val true [.str, .str, .int .u32, .int .i64, .int .u64]], [(false, [.dat (.int .i64)])]⟩
noncomputable def F_ref21_Size.S : Summ := ⟨89, F_ref21_Size.sig, F_ref21_Size⟩
noncomputable def F_ref21_Size.G : List Summ := []
theorem F_ref21_Size.eq : absF Try.prog F_ref21_Size.G F_ref21_Size.ann F_ref21_Size.sig Try.f89 = F_ref21_Size := by kernel_rfl
theorem F_ref21_Size.sound : Sound Try.prog F_ref21_Size.S := absF_sound (fn := Try.f89) (Γ := F_ref21_Size.G) all_nil mix (by kernel_rfl) (by kernel_rfl) (fun m p => congrFun (congrFun F_ref21_Size.eq m) p)
/-! ### cloakroom/cloakroomref20.Due -/
noncomputable def F_ref20_Due (_ : Fu) (p : (List Int) × (List Int) × Int × Int × Int × Int) : Option (Bool) :=
  let a3 := p.2.2.2.1
  let a5 := p.2.2.2.2.2
  bif a3 != (0 : Int) then
    some (decide (a3 ≤ a5))
  else some false
def F_ref20_Due.ann : List (Nat × Ann) := []
def F_ref20_Due.sig : Sig := ⟨[.val true [.str, .str, .int .u32, .int .i64, .int .u64], .val false [.int .i64]], [(false, [.dat .bool])]⟩
noncomputable def F_ref20_Due.S : Summ := ⟨90, F_ref20_Due.sig, F_ref20_Due⟩
noncomputable def F_ref20_Due.G : List Summ := []
theorem F_ref20_Due.eq : absF Try.prog F_ref20_Due.G F_ref20_Due.ann F_ref20_Due.sig Try.f90 = F_ref20_Due := by kernel_rfl
theorem F_ref20_Due.sound : Sound Try.prog F_ref20_Due.S := absF_sound (fn := Try.f90) (Γ := F_ref20_Due.G) all_nil mix (by kernel_rfl) (by kernel_rfl) (fun m p => congrFun (congrFun F_ref20_Due.eq m) p)
/-! ### cloakroom/cloakroomref21.Check -/
noncomputable def F_ref21_Check.l14926 (_ : Fu) (a2 : List (Int × (List Int) × (List Int) × Int × Int × Int)) (x11 : Int) (x14 : Int × (List Int) × (List Int) × Int × Int × Int) (x23 : Int) : Option (Step Int (Int ⊕ Unit)) :=
  bif decide (x23 < x11) then
    bif (decide ((0 : Int) ≤ x23)) && (decide (x23 < (a2.length : Int))) then
      bif ((a2.getD x23.toNat (0, ([], ([], (0, (0, 0)))))).1) == x14.1 then
        bif (decide ((0 : Int) ≤ x23)) && (decide (x23 < (a2.length : Int))) then
          bif (((a2.getD x23.toNat (0, ([], ([], (0, (0, 0)))))).2).1) == x14.2.1 then
            some (.fin (Sum.inl (8 : Int)))
          else some (.next (IntKind.i64.wrap (x23 + (1 : Int))))
        else none
      else some (.next (IntKind.i64.wrap (x23 + (1 : Int))))
    else none
  else some (.fin (Sum.inr ()))
noncomputable def F_ref21_Check.l58 (m : Fu) (a0 : Int) (a1 : List Int) (a2 : List (Int × (List Int) × (List Int) × Int × Int × Int)) (x11 : Int) : Option (Step Int (Int ⊕ Unit)) :=
  bif decide (x11 < (a2.length : Int)) then
    bif (decide ((0 : Int) ≤ x11)) && (decide (x11 < (a2.length : Int))) then
      let x14 := a2.getD x11.toNat (0, ([], ([], (0, (0, 0)))))
      bif decide (x14.1 < (0 : Int)) then some (.fin (Sum.inl (8 : Int))) else
      bif decide ((a1.length : Int) ≤ x14.1) then some (.fin (Sum.inl (8 : Int))) else
      (F_ref01_Item m x14.2).bind fun x18 =>
      bif !x18 then some (.fin (Sum.inl (8 : Int))) else
      (F_ref21_Size m x14.2).bind fun x20 =>
      bif decide ((256 : Int) < x20) then some (.fin (Sum.inl (8 : Int))) else
      (F_ref20_Due m (x14.2.1, x14.2.2.1, x14.2.2.2.1, x14.2.2.2.2.1, x14.2.2.2.2.2, a0)).bind fun x22 =>
      bif x22 then some (.fin (Sum.inl (8 : Int))) else
      (iter m (F_ref21_Check.l14926 m a2 x11 x14) (0 : Int)).bind fun x31 =>
      match x31 with
      | .inl x32 =>
        some (.fin (Sum.inl x32))
      | .inr _ =>
        some (.next (IntKind.i64.wrap (x11 + (1 : Int))))
    else none
  else some (.fin (Sum.inr ()))
noncomputable def F_ref21_Check (m : Fu) (p : Int × (List Int) × (List (Int × (List Int) × (List Int) × Int × Int × Int)) × Int × Int × Bool) : Option (Int) :=
  let a0 := p.1
  let a1 := p.2.1
  let a2 := p.2.2.1
  let a3 := p.2.2.2.1
  let a4 := p.2.2.2.2.1
  bif decide (a0 < (0 : Int)) then some (8 : Int) else
  bif decide ((1099511627776 : Int) < a0) then some (8 : Int) else
  (F_ref21_quotas m a1).bind fun x3 =>
  bif !x3 then some (8 : Int) else
  bif decide ((1024 : Int) < (a2.length : Int)) then some (8 : Int) else
  bif decide (a3 < (0 : Int)) then some (8 : Int) else
  bif decide ((2147483647 : Int) < a3) then some (8 : Int) else
  bif decide (a4 < (0 : Int)) then some (8 : Int) else
  bif decide ((2147483647 : Int) < a4) then some (8 : Int) else
  (iter m (F_ref21_Check.l58 m a0 a1 a2) (0 : Int)).bind fun x35 =>
  match x35 with
  | .inl x36 =>
    some x36
  | .inr _ =>
    some (0 : Int)
def F_ref21_Check.ann : List (Nat × Ann) := [(58, .loop ⟨[(3, false, [.dat (.int .i64)])], [], [], [], 704⟩ [(.ret, ⟨[(2, false, [.dat (.int .i64)])], [], [], [], 704⟩), (.exit 0, ⟨[], [], [], [], 704⟩)]),
  (14926, .loop ⟨[(5, false, [.dat (.int .i64)])], [], [], [], 1392⟩ [(.ret, ⟨[(2, false, [.dat (.int .i64)])], [], [], [], 1392⟩), (.exit 2, ⟨[], [], [], [], 1392⟩)])]
def F_ref21_Check.sig : Sig := ⟨[.val true [.int .i64, .sl (.int .i64), .sl (.pr (.int .i64) (.pr .str (.pr .str (.pr (.int .u32) (.pr (.int .i64) (.int .u64)))))), .int .i64, .int .i64, .bool]], [(false, [.dat (.int .i64)])]⟩
noncomputable def F_ref21_Check.S : Summ := ⟨60, F_ref21_Check.sig, F_ref21_Check⟩
noncomputable def F_ref21_Check.G : List Summ := [F_ref21_quotas.S, F_ref01_Item.S, F_ref21_Size.S, F_ref20_Due.S]
theorem F_ref21_Check.eq : absF Try.prog F_ref21_Check.G F_ref21_Check.ann F_ref21_Check.sig Try.f60 = F_ref21_Check := by kernel_rfl
theorem F_ref21_Check.sound : Sound Try.prog F_ref21_Check.S := absF_sound (fn := Try.f60) (Γ := F_ref21_Check.G) (all_cons F_ref21_quotas.sound (all_cons F_ref01_Item.sound (all_cons F_ref21_Size.sound (all_cons F_ref20_Due.sound all_nil)))) mix (by kernel_rfl) (by kernel_rfl) (fun m p => congrFun (congrFun F_ref21_Check.eq m) p)
/-! ### cloakroom/cloakroomref21.small -/
noncomputable def F_ref21_small.l58 (m : Fu) (a0 : List Int) (x1 : (List Int) × Int) : Option (Step ((List Int) × Int) ((List Int))) :=
  bif decide (x1.2 < (a0.length : Int)) then
    bif (decide ((0 : Int) ≤ x1.2)) && (decide (x1.2 < (a0.length : Int))) then
      (F_ref01_Small m (IntKind.u64.wrap (a0.getD x1.2.toNat 0))).bind fun x6 =>
      bif Nat.ble (x1.1.length + x6.length) 140737488351232 then
        some (.next ((x1.1 ++ x6), (IntKind.i64.wrap (x1.2 + (1 : Int)))))
      else none
    else none
  else some (.fin x1.1)
noncomputable def F_ref21_small (m : Fu) (p : List Int) : Option (List Int) :=
  let a0 := p
  (iter m (F_ref21_small.l58 m a0) (([] : List Int), (0 : Int))).bind fun x9 =>
  some x9
def F_ref21_small.ann : List (Nat × Ann) := [(58, .loop ⟨[(3, false, [.own (.int .u8) 64 .wr]), (4, false, [.dat (.int .i64)])], [], [], [], 65⟩ [(.exit 0, ⟨[(3, false, [.own (.int .u8) 64 .wr])], [], [], [], 65⟩)])]
def F_ref21_small.sig : Sig := ⟨[.val false [.sl (.int .i64)]], [(false, [.own (.int .u8) 0 .wr])]⟩
noncomputable def F_ref21_small.S : Summ := ⟨91, F_ref21_small.sig, F_ref21_small⟩
noncomputable def F_ref21_small.G : List Summ := [F_ref01_Small.S]
theorem F_ref21_small.eq : absF Try.prog F_ref21_small.G F_ref21_small.ann F_ref21_small.sig Try.f91 = F_ref21_small := by kernel_rfl
theorem F_ref21_small.sound : Sound Try.prog F_ref21_small.S := absF_sound (fn := Try.f91) (Γ := F_ref21_small.G) (all_cons F_ref01_Small.sound all_nil) mix (by kernel_rfl) (by kernel_rfl) (fun m p => congrFun (congrFun F_ref21_small.eq m) p)
/-! ### cloakroom/cloakroomref21.Write -/
noncomputable def F_ref21_Write.s254 (_ : Fu) (a5 : Bool) (x10 : List Int) : Option ((List Int)) :=
  bif a5 then
    bif Nat.ble (x10.length + 1) 140737488351232 then
      some (x10 ++ ([1] : List Int))
    else none
  else
    bif Nat.ble (x10.length + 1) 140737488351232 then
      some (x10 ++ ([0] : List Int))
    else none
noncomputable def F_ref21_Write.l4090 (m : Fu) (a2 : List (Int × (List Int) × (List Int) × Int × Int × Int)) (x18 : (List Int) × Int) : Option (Step ((List Int) × Int) ((List Int))) :=
  bif decide (x18.2 < (a2.length : Int)) then
    bif (decide ((0 : Int) ≤ x18.2)) && (decide (x18.2 < (a2.length : Int))) then
      (F_ref21_small m ([((a2.getD x18.2.toNat (0, ([], ([], (0, (0, 0)))))).1)])).bind fun x23 =>
      bif Nat.ble (x18.1.length + x23.length) 140737488351232 then
        let x24 := x18.1 ++ x23
        bif (decide ((0 : Int) ≤ x18.2)) && (decide (x18.2 < (a2.length : Int))) then
          (F_ref01_ItemBytes m ((a2.getD x18.2.toNat (0, ([], ([], (0, (0, 0)))))).2)).bind fun x26 =>
          bif Nat.ble (x24.length + x26.length) 140737488351232 then
            some (.next ((x24 ++ x26), (IntKind.i64.wrap (x18.2 + (1 : Int)))))
          else none
        else none
      else none
    else none
  else some (.fin x18.1)
noncomputable def F_ref21_Write (m : Fu) (p : Int × (List Int) × (List (Int × (List Int) × (List Int) × Int × Int × Int)) × Int × Int × Bool) : Option ((List Int) × Int) :=
  let a0 := p.1
  let a1 := p.2.1
  let a2 := p.2.2.1
  let a3 := p.2.2.2.1
  let a4 := p.2.2.2.2.1
  let a5 := p.2.2.2.2.2
  (F_ref21_Check m (a0, a1, a2, a3, a4, a5)).bind fun x1 =>
  bif x1 != (0 : Int) then some (([] : List Int), x1) else
  (F_ref21_small m ([a0, (a1.length : Int)])).bind fun x5 =>
  (F_ref21_small m a1).bind fun x6 =>
  bif Nat.ble (x5.length + x6.length) 140737488351232 then
    let x7 := x5 ++ x6
    (F_ref21_small m ([a3, a4])).bind fun x9 =>
    bif Nat.ble (x7.length + x9.length) 140737488351232 then
      (F_ref21_Write.s254 m a5 (x7 ++ x9)).bind fun x13 =>
      (F_ref21_small m ([(a2.length : Int)])).bind fun x16 =>
      bif Nat.ble (x13.length + x16.length) 140737488351232 then
        (iter m (F_ref21_Write.l4090 m a2) ((x13 ++ x16), (0 : Int))).bind fun x29 =>
        bif decide ((65536 : Int) < (x29.length : Int)) then
          some (([] : List Int), (3 : Int))
        else some (x29, (0 : Int))
      else none
    else none
  else none
def F_ref21_Write.ann : List (Nat × Ann) := [(254, .jnt [(.normal, ⟨[(5, false, [.own (.int .u8) 512 .wr])], [], [], [480], 513⟩)]),
  (4090, .loop ⟨[(5, false, [.own (.int .u8) 657 .wr]), (6, false, [.dat (.int .i64)])], [], [], [609], 658⟩ [(.exit 0, ⟨[(5, false, [.own (.int .u8) 657 .wr])], [], [], [609], 658⟩)])]
def F_ref21_Write.sig : Sig := ⟨[.val true [.int .i64, .sl (.int .i64), .sl (.pr (.int .i64) (.pr .str (.pr .str (.pr (.int .u32) (.pr (.int .i64) (.int .u64)))))), .int .i64, .int .i64, .bool]], [(false, [.own (.int .u8) 0 .wr]), (false, [.dat (.int .i64)])]⟩
noncomputable def F_ref21_Write.S : Summ := ⟨62, F_ref21_Write.sig, F_ref21_Write⟩
noncomputable def F_ref21_Write.G : List Summ := [F_ref21_Check.S, F_ref21_small.S, F_ref01_ItemBytes.S]
theorem F_ref21_Write.eq : absF Try.prog F_ref21_Write.G F_ref21_Write.ann F_ref21_Write.sig Try.f62 = F_ref21_Write := by kernel_rfl
theorem F_ref21_Write.sound : Sound Try.prog F_ref21_Write.S := absF_sound (fn := Try.f62) (Γ := F_ref21_Write.G) (all_cons F_ref21_Check.sound (all_cons F_ref21_small.sound (all_cons F_ref01_ItemBytes.sound all_nil))) mix (by kernel_rfl) (by kernel_rfl) (fun m p => congrFun (congrFun F_ref21_Write.eq m) p)
/-! ### cloakroom/cloakroomref21.Read -/
noncomputable def F_ref21_Read.s2024 (_ : Fu) (x5 : Int × (List Int) × Bool) (x6 : Int × (List Int) × Bool × Int × (List Int) × Int × Int × Bool) : Option (Unit ⊕ Unit) :=
  bif decide (x6.1 < x5.1) then
    bif !x6.2.2.1 then
      some (Sum.inl ())
    else some (Sum.inr ())
  else some (Sum.inr ())
noncomputable def F_ref21_Read.l506 (m : Fu) (x5 : Int × (List Int) × Bool) (x6 : Int × (List Int) × Bool × Int × (List Int) × Int × Int × Bool) : Option (Step (Int × (List Int) × Bool × Int × (List Int) × Int × Int × Bool) (((List Int) × Bool × Int × (List Int) × Int × Int × Bool))) :=
  (F_ref21_Read.s2024 m x5 x6).bind fun x9 =>
  match x9 with
  | .inl _ =>
    (F_ref01_Reader_Number m (x6.2.1, x6.2.2.1, (16 : Int))).bind fun x11 =>
    let x13 := [(IntKind.i64.wrap x11.1)]
    bif Nat.ble (x6.2.2.2.2.1.length + x13.length) 4294967296 then
      some (.next ((IntKind.u64.wrap (x6.1 + (1 : Int))), x11.2.1, x11.2.2, x6.2.2.2.1, (x6.2.2.2.2.1 ++ x13), x6.2.2.2.2.2))
    else none
  | .inr _ =>
    some (.fin x6.2)
noncomputable def F_ref21_Read.s65512 (_ : Fu) (x24 : Int × (List Int) × Bool) (x25 : Int × (List Int) × Bool × Int × (List Int) × (List (Int × (List Int) × (List Int) × Int × Int × Int)) × Int × Int × Bool) : Option (Unit ⊕ Unit) :=
  bif decide (x25.1 < x24.1) then
    bif !x25.2.2.1 then
      some (Sum.inl ())
    else some (Sum.inr ())
  else some (Sum.inr ())
noncomputable def F_ref21_Read.l16378 (m : Fu) (x24 : Int × (List Int) × Bool) (x25 : Int × (List Int) × Bool × Int × (List Int) × (List (Int × (List Int) × (List Int) × Int × Int × Int)) × Int × Int × Bool) : Option (Step (Int × (List Int) × Bool × Int × (List Int) × (List (Int × (List Int) × (List Int) × Int × Int × Int)) × Int × Int × Bool) (((List Int) × Bool × Int × (List Int) × (List (Int × (List Int) × (List Int) × Int × Int × Int)) × Int × Int × Bool))) :=
  (F_ref21_Read.s65512 m x24 x25).bind fun x28 =>
  match x28 with
  | .inl _ =>
    (F_ref01_Reader_Number m (x25.2.1, x25.2.2.1, (4 : Int))).bind fun x30 =>
    (F_ref01_Reader_Item m x30.2).bind fun x32 =>
    let x33 := [((IntKind.i64.wrap x30.1), (x32.1, (x32.2.1, (x32.2.2.1, (x32.2.2.2.1, x32.2.2.2.2.1)))))]
    bif Nat.ble (x25.2.2.2.2.2.1.length + x33.length) 4294967296 then
      some (.next ((IntKind.u64.wrap (x25.1 + (1 : Int))), x32.2.2.2.2.2.1, x32.2.2.2.2.2.2, x25.2.2.2.1, x25.2.2.2.2.1, (x25.2.2.2.2.2.1 ++ x33), x25.2.2.2.2.2.2))
    else none
  | .inr _ =>
    some (.fin x25.2)
noncomputable def F_ref21_Read (m : Fu) (p : List Int) : Option (Int × (List Int) × (List (Int × (List Int) × (List Int) × Int × Int × Int)) × Int × Int × Bool × Int) :=
  let a0 := p
  bif decide ((65536 : Int) < (a0.length : Int)) then some ((0 : Int), ([] : List Int), ([] : List (Int × (List Int) × (List Int) × Int × Int × Int)), (0 : Int), (0 : Int), false, (3 : Int)) else
  (F_ref01_Reader_Number m (a0, false, (1099511627776 : Int))).bind fun x3 =>
  (F_ref01_Reader_Number m (x3.2.1, x3.2.2, (4 : Int))).bind fun x5 =>
  (iter m (F_ref21_Read.l506 m x5) ((0 : Int), x5.2.1, x5.2.2, (IntKind.i64.wrap x3.1), ([] : List Int), (0 : Int), (0 : Int), false)).bind fun x17 =>
  (F_ref01_Reader_Number m (x17.1, x17.2.1, (2147483647 : Int))).bind fun x18 =>
  (F_ref01_Reader_Number m (x18.2.1, x18.2.2, (2147483647 : Int))).bind fun x20 =>
  (F_ref01_Reader_Byte m x20.2).bind fun x22 =>
  (F_ref01_Reader_Number m (x22.2.1, x22.2.2, (1024 : Int))).bind fun x24 =>
  (iter m (F_ref21_Read.l16378 m x24) ((0 : Int), x24.2.1, x24.2.2, x17.2.2.1, x17.2.2.2.1, ([] : List (Int × (List Int) × (List Int) × Int × Int × Int)), (IntKind.i64.wrap x18.1), (IntKind.i64.wrap x20.1), (x22.1 == (1 : Int)))).bind fun x37 =>
  bif x37.2.1 then some ((0 : Int), ([] : List Int), ([] : List (Int × (List Int) × (List Int) × Int × Int × Int)), (0 : Int), (0 : Int), false, (8 : Int)) else
  (F_ref21_Write m x37.2.2).bind fun x38 =>
  bif x38.2 != (0 : Int) then some ((0 : Int), ([] : List Int), ([] : List (Int × (List Int) × (List Int) × Int × Int × Int)), (0 : Int), (0 : Int), false, (8 : Int)) else
  bif !(x38.1 == a0) then
    some ((0 : Int), ([] : List Int), ([] : List (Int × (List Int) × (List Int) × Int × Int × Int)), (0 : Int), (0 : Int), false, (8 : Int))
  else some (x37.2.2.1, x37.2.2.2.1, x37.2.2.2.2.1, x37.2.2.2.2.2.1, x37.2.2.2.2.2.2.1, x37.2.2.2.2.2.2.2, (0 : Int))
def F_ref21_Read.ann : List (Nat × Ann) := [(506, .loop ⟨[(7, false, [.dat (.int .u64)])], [(128, [.dat (.sl (.int .u8)), .dat .bool]), (224, [.dat (.int .i64), .own (.int .i64) 320 .wr, .cst .nils, .dat (.int .i64), .dat (.int .i64), .dat .bool])], [], [], 321⟩ [(.exit 0, ⟨[], [(128, [.dat (.sl (.int .u8)), .dat .bool]), (224, [.dat (.int .i64), .own (.int .i64) 320 .wr, .cst .nils, .dat (.int .i64), .dat (.int .i64), .dat .bool])], [], [], 321⟩)]),
  (2024, .jnt [(.normal, ⟨[], [], [], [], 321⟩), (.exit 0, ⟨[], [], [], [], 321⟩)]),
  (16378, .loop ⟨[(8, false, [.dat (.int .u64)])], [(128, [.dat (.sl (.int .u8)), .dat .bool]), (224, [.dat (.int .i64), .own (.int .i64) 625 .wr, .own (.pr (.int .i64) (.pr .str (.pr .str (.pr (.int .u32) (.pr (.int .i64) (.int .u64)))))) 626 .wr, .dat (.int .i64), .dat (.int .i64), .dat .bool])], [], [320], 627⟩ [(.exit 2, ⟨[], [(128, [.dat (.sl (.int .u8)), .dat .bool]), (224, [.dat (.int .i64), .own (.int .i64) 625 .wr, .own (.pr (.int .i64) (.pr .str (.pr .str (.pr (.int .u32) (.pr (.int .i64) (.int .u64)))))) 626 .wr, .dat (.int .i64), .dat (.int .i64), .dat .bool])], [], [320], 627⟩)]),
  (65512, .jnt [(.normal, ⟨[], [], [], [], 627⟩), (.exit 2, ⟨[], [], [], [], 627⟩)])]
def F_ref21_Read.sig : Sig := ⟨[.val false [.sl (.int .u8)]], [(true, [.dat (.int .i64), .own (.int .i64) 0 .wr, .own (.pr (.int .i64) (.pr .str (.pr .str (.pr (.int .u32) (.pr (.int .i64) (.int .u64)))))) 0 .wr, .dat (.int .i64), .dat (.int .i64), .dat .bool]), (false, [.dat (.int .i64)])]⟩
noncomputable def F_ref21_Read.S : Summ := ⟨73, F_ref21_Read.sig, F_ref21_Read⟩
noncomputable def F_ref21_Read.G : List Summ := [F_ref01_Reader_Number.S, F_ref01_Reader_Byte.S, F_ref01_Reader_Item.S, F_ref21_Write.S]
theorem F_ref21_Read.eq : absF Try.prog F_ref21_Read.G F_ref21_Read.ann F_ref21_Read.sig Try.f73 = F_ref21_Read := by kernel_rfl
theorem F_ref21_Read.sound : Sound Try.prog F_ref21_Read.S := absF_sound (fn := Try.f73) (Γ := F_ref21_Read.G) (all_cons F_ref01_Reader_Number.sound (all_cons F_ref01_Reader_Byte.sound (all_cons F_ref01_Reader_Item.sound (all_cons F_ref21_Write.sound all_nil)))) mix (by kernel_rfl) (by kernel_rfl) (fun m p => congrFun (congrFun F_ref21_Read.eq m) p)
/-! ### cloakroom/cloakroomref24.May -/
noncomputable def F_ref24_May (m : Fu) (p : Int × Int × Int × (List Int)) : Option (Bool) :=
  let a0 := p.1
  let a1 := p.2.1
  let a2 := p.2.2.1
  let a3 := p.2.2.2
  (F_ref24_in m a1).bind fun x1 =>
  bif !x1 then some false else
  (F_ref24_in m a2).bind fun x3 =>
  bif !x3 then some false else
  bif a0 == (1 : Int) then
    (F_ref01_OfChanges m a3).bind fun x6 =>
    bif decide ((1 : Int) ≤ a2) then
      some (x6.2 == (0 : Int))
    else some false
  else
    bif a0 == (2 : Int) then some ((a3.length : Int) == (0 : Int)) else
    bif a0 == (3 : Int) then some ((a3.length : Int) == (0 : Int)) else
    bif a0 == (4 : Int) then
      (F_ref21_Read m a3).bind fun x16 =>
      some (x16.2.2.2.2.2.2 == (0 : Int))
    else some false
def F_ref24_May.ann : List (Nat × Ann) := []
def F_ref24_May.sig : Sig := ⟨[.val true [.int .u8, .int .i64, .int .i64, .sl (.int .u8)]], [(false, [.dat .bool])]⟩
noncomputable def F_ref24_May.S : Summ := ⟨39, F_ref24_May.sig, F_ref24_May⟩
noncomputable def F_ref24_May.G : List Summ := [F_ref24_in.S, F_ref01_OfChanges.S, F_ref21_Read.S]
theorem F_ref24_May.eq : absF Try.prog F_ref24_May.G F_ref24_May.ann F_ref24_May.sig Try.f39 = F_ref24_May := by kernel_rfl
theorem F_ref24_May.sound : Sound Try.prog F_ref24_May.S := absF_sound (fn := Try.f39) (Γ := F_ref24_May.G) (all_cons F_ref24_in.sound (all_cons F_ref01_OfChanges.sound (all_cons F_ref21_Read.sound all_nil))) mix (by kernel_rfl) (by kernel_rfl) (fun m p => congrFun (congrFun F_ref24_May.eq m) p)
/-! ### cloakroom/cloakroomref24.behind -/
noncomputable def F_ref24_behind.l58 (_ : Fu) (a0 : Int) (a1 : Int) (a3 : List (List Int)) (a4 : Int) (x1 : (List (Int × Int × Int × (List Int))) × Int) : Option (Step ((List (Int × Int × Int × (List Int))) × Int) ((List (Int × Int × Int × (List Int))))) :=
  bif decide (x1.2 < (a3.length : Int)) then
    let x7 := IntKind.i64.wrap ((IntKind.i64.wrap ((IntKind.i64.wrap (a1 - (a3.length : Int))) + (1 : Int))) + x1.2)
    bif decide (a4 < x7) then
      bif (decide ((0 : Int) ≤ x1.2)) && (decide (x1.2 < (a3.length : Int))) then
        let x9 := a3.getD x1.2.toNat []
        bif Nat.ble x9.length 140737488351232 then
          let x10 := [((1 : Int), (a0, (x7, x9)))]
          bif Nat.ble (x1.1.length + x10.length) 4294967296 then
            some (.next ((x1.1 ++ x10), (IntKind.i64.wrap (x1.2 + (1 : Int)))))
          else none
        else none
      else none
    else some (.next (x1.1, (IntKind.i64.wrap (x1.2 + (1 : Int)))))
  else some (.fin x1.1)
noncomputable def F_ref24_behind (m : Fu) (p : Int × Int × Int × (List (List Int)) × Int) : Option (List (Int × Int × Int × (List Int))) :=
  let a0 := p.1
  let a1 := p.2.1
  let a3 := p.2.2.2.1
  let a4 := p.2.2.2.2
  (iter m (F_ref24_behind.l58 m a0 a1 a3 a4) (([] : List (Int × Int × Int × (List Int))), (0 : Int))).bind fun x14 =>
  some x14
def F_ref24_behind.ann : List (Nat × Ann) := [(58, .loop ⟨[(5, false, [.own (.pr (.int .u8) (.pr (.int .i64) (.pr (.int .i64) (.sl (.int .u8))))) 96 .wr]), (6, false, [.dat (.int .i64)])], [], [], [], 97⟩ [(.exit 0, ⟨[(5, false, [.own (.pr (.int .u8) (.pr (.int .i64) (.pr (.int .i64) (.sl (.int .u8))))) 96 .wr])], [], [], [], 97⟩)])]
def F_ref24_behind.sig : Sig := ⟨[.val true [.int .i64, .int .i64, .int .i64, .sl (.sl (.int .u8))], .val false [.int .i64]], [(false, [.own (.pr (.int .u8) (.pr (.int .i64) (.pr (.int .i64) (.sl (.int .u8))))) 0 .wr])]⟩
noncomputable def F_ref24_behind.S : Summ := ⟨61, F_ref24_behind.sig, F_ref24_behind⟩
noncomputable def F_ref24_behind.G : List Summ := []
theorem F_ref24_behind.eq : absF Try.prog F_ref24_behind.G F_ref24_behind.ann F_ref24_behind.sig Try.f61 = F_ref24_behind := by kernel_rfl
theorem F_ref24_behind.sound : Sound Try.prog F_ref24_behind.S := absF_sound (fn := Try.f61) (Γ := F_ref24_behind.G) all_nil mix (by kernel_rfl) (by kernel_rfl) (fun m p => congrFun (congrFun F_ref24_behind.eq m) p)
/-! ### cloakroom/cloakroomref24.Hear -/
noncomputable def F_ref24_Hear.s14 (m : Fu) (a4 : Int) (a5 : List Int) (a6 : List (Int × (List Int) × (List Int) × Int × Int × Int)) (a7 : Int) (a8 : Int) (a9 : Bool) (x1 : Int) : Option (Int) :=
  bif x1 == (0 : Int) then
    (F_ref21_Check m (a4, a5, a6, a7, a8, a9)).bind fun x3 =>
    some x3
  else some x1
noncomputable def F_ref24_Hear.s30 (m : Fu) (a10 : Int) (a11 : Int) (a12 : Int) (a13 : List Int) (x4 : Int) : Option (Int) :=
  bif x4 == (0 : Int) then
    (F_ref24_May m (a10, a11, a12, a13)).bind fun x6 =>
    bif !x6 then
      some (8 : Int)
    else some x4
  else some x4
noncomputable def F_ref24_Hear.s508 (_ : Fu) (a0 : Int) (a1 : Int) (a10 : Int) (a11 : Int) (a12 : Int) : Option (Bool) :=
  bif a10 == (2 : Int) then
    bif a11 == a0 then
      some (decide (a12 ≤ a1))
    else some false
  else some false
noncomputable def F_ref24_Hear.s254 (m : Fu) (a0 : Int) (a1 : Int) (a2 : Int) (a10 : Int) (a11 : Int) (a12 : Int) (x10 : Int × Int × Int × (List (List Int))) : Option ((Int × Int × Int × (List (List Int)))) :=
  (F_ref24_Hear.s508 m a0 a1 a10 a11 a12).bind fun x14 =>
  bif x14 then
    some (x10.1, x10.2.1, (mxI a2 a12), x10.2.2.2)
  else some x10
noncomputable def F_ref24_Hear.s2044 (_ : Fu) (a0 : Int) (a1 : Int) (a3 : List (List Int)) (a11 : Int) (a12 : Int) : Option (Bool) :=
  bif a11 == a0 then
    bif decide (a12 ≤ a1) then
      some (decide ((IntKind.i64.wrap (a1 - (a3.length : Int))) ≤ a12))
    else some false
  else some false
noncomputable def F_ref24_Hear.s1022 (m : Fu) (a0 : Int) (a1 : Int) (a2 : Int) (a3 : List (List Int)) (a11 : Int) (a12 : Int) (x16 : (Int × Int × Int × (List (List Int)))) : Option (((List (Int × Int × Int × (List Int))) × Int × Int × Int × Int × (List (List Int))) ⊕ Unit) :=
  (F_ref24_Hear.s2044 m a0 a1 a3 a11 a12).bind fun x23 =>
  bif x23 then
    (F_ref24_behind m (a0, a1, a2, a3, a12)).bind fun x24 =>
    some (Sum.inl (x24, (0 : Int), x16))
  else some (Sum.inr ())
noncomputable def F_ref24_Hear (m : Fu) (p : Int × Int × Int × (List (List Int)) × Int × (List Int) × (List (Int × (List Int) × (List Int) × Int × Int × Int)) × Int × Int × Bool × Int × Int × Int × (List Int)) : Option (Int × Int × Int × (List (List Int)) × (List (Int × Int × Int × (List Int))) × Int) :=
  let a0 := p.1
  let a1 := p.2.1
  let a2 := p.2.2.1
  let a3 := p.2.2.2.1
  let a4 := p.2.2.2.2.1
  let a5 := p.2.2.2.2.2.1
  let a6 := p.2.2.2.2.2.2.1
  let a7 := p.2.2.2.2.2.2.2.1
  let a8 := p.2.2.2.2.2.2.2.2.1
  let a9 := p.2.2.2.2.2.2.2.2.2.1
  let a10 := p.2.2.2.2.2.2.2.2.2.2.1
  let a11 := p.2.2.2.2.2.2.2.2.2.2.2.1
  let a12 := p.2.2.2.2.2.2.2.2.2.2.2.2.1
  let a13 := p.2.2.2.2.2.2.2.2.2.2.2.2.2
  (F_ref24_Check m (a0, a1, a2, a3)).bind fun x1 =>
  (F_ref24_Hear.s14 m a4 a5 a6 a7 a8 a9 x1).bind fun x4 =>
  (F_ref24_Hear.s30 m a10 a11 a12 a13 x4).bind fun x8 =>
  bif x8 != (0 : Int) then some ((0 : Int), (0 : Int), (0 : Int), ([] : List (List Int)), ([] : List (Int × Int × Int × (List Int))), x8) else
  (F_ref24_Twin m (a0, a1, a2, a3)).bind fun x10 =>
  (F_ref24_Hear.s254 m a0 a1 a2 a10 a11 a12 x10).bind fun x16 =>
  bif a10 != (3 : Int) then some (x16.1, x16.2.1, x16.2.2.1, x16.2.2.2, ([] : List (Int × Int × Int × (List Int))), (0 : Int)) else
  (F_ref24_Hear.s1022 m a0 a1 a2 a3 a11 a12 x16).bind fun x25 =>
  match x25 with
  | .inl x26 =>
    some (x26.2.2.1, x26.2.2.2.1, x26.2.2.2.2.1, x26.2.2.2.2.2, x26.1, x26.2.1)
  | .inr _ =>
    (F_ref21_Write m (a4, a5, a6, a7, a8, a9)).bind fun x28 =>
    bif x28.2 != (0 : Int) then
      some ((0 : Int), (0 : Int), (0 : Int), ([] : List (List Int)), ([] : List (Int × Int × Int × (List Int))), x28.2)
    else some (x16.1, x16.2.1, x16.2.2.1, x16.2.2.2, ([((4 : Int), (a0, (a1, x28.1)))]), (0 : Int))
def F_ref24_Hear.ann : List (Nat × Ann) := [(14, .jnt [(.normal, ⟨[(9, false, [.dat (.int .i64)])], [], [], [], 192⟩)]),
  (30, .jnt [(.normal, ⟨[(9, false, [.dat (.int .i64)])], [], [], [], 192⟩)]),
  (254, .jnt [(.normal, ⟨[], [(256, [.dat (.int .i64), .dat (.int .i64), .dat (.int .i64), .own (.sl (.int .u8)) 288 .wr])], [], [240], 289⟩)]),
  (508, .jnt [(.normal, ⟨[(47, false, [.dat .bool])], [], [], [], 288⟩)]),
  (1022, .jnt [(.ret, ⟨[(7, false, [.own (.pr (.int .u8) (.pr (.int .i64) (.pr (.int .i64) (.sl (.int .u8))))) 337 .wr]), (8, false, [.dat (.int .i64)])], [(96, [.dat (.int .i64), .dat (.int .i64), .dat (.int .i64), .own (.sl (.int .u8)) 338 .wr])], [], [288], 339⟩), (.normal, ⟨[], [], [], [], 337⟩)]),
  (2044, .jnt [(.normal, ⟨[(80, false, [.dat .bool])], [], [], [], 337⟩)])]
def F_ref24_Hear.sig : Sig := ⟨[.val true [.int .i64, .int .i64, .int .i64, .sl (.sl (.int .u8))], .val true [.int .i64, .sl (.int .i64), .sl (.pr (.int .i64) (.pr .str (.pr .str (.pr (.int .u32) (.pr (.int .i64) (.int .u64)))))), .int .i64, .int .i64, .bool], .val true [.int .u8, .int .i64, .int .i64, .sl (.int .u8)]], [(true, [.dat (.int .i64), .dat (.int .i64), .dat (.int .i64), .own (.sl (.int .u8)) 0 .wr]), (false, [.own (.pr (.int .u8) (.pr (.int .i64) (.pr (.int .i64) (.sl (.int .u8))))) 0 .wr]), (false, [.dat (.int .i64)])]⟩
noncomputable def F_ref24_Hear.S : Summ := ⟨29, F_ref24_Hear.sig, F_ref24_Hear⟩
noncomputable def F_ref24_Hear.G : List Summ := [F_ref24_Check.S, F_ref21_Check.S, F_ref24_May.S, F_ref24_Twin.S, F_ref24_behind.S, F_ref21_Write.S]
theorem F_ref24_Hear.eq : absF Try.prog F_ref24_Hear.G F_ref24_Hear.ann F_ref24_Hear.sig Try.f29 = F_ref24_Hear := by kernel_rfl
theorem F_ref24_Hear.sound : Sound Try.prog F_ref24_Hear.S := absF_sound (fn := Try.f29) (Γ := F_ref24_Hear.G) (all_cons F_ref24_Check.sound (all_cons F_ref21_Check.sound (all_cons F_ref24_May.sound (all_cons F_ref24_Twin.sound (all_cons F_ref24_behind.sound (all_cons F_ref21_Write.sound all_nil)))))) mix (by kernel_rfl) (by kernel_rfl) (fun m p => congrFun (congrFun F_ref24_Hear.eq m) p)
/-! ### cloakroom/numbers.Again -/
noncomputable def F_numbers_Again (m : Fu) (p : Int × Int × Int × (List (List Int))) : Option ((List (Int × Int × Int × (List Int))) × Int) :=
  let a0 := p.1
  let a1 := p.2.1
  let a2 := p.2.2.1
  let a3 := p.2.2.2
  (F_numbers_Check m (a0, a1, a2, a3)).bind fun x1 =>
  bif x1 != (0 : Int) then some (([] : List (Int × Int × Int × (List Int))), x1) else
  (F_numbers_behind m (a0, a1, a2, a3, a2)).bind fun x3 =>
  some (x3, (0 : Int))
def F_numbers_Again.ann : List (Nat × Ann) := []
def F_numbers_Again.sig : Sig := ⟨[.val true [.int .i64, .int .i64, .int .i64, .sl (.sl (.int .u8))]], [(false, [.own (.pr (.int .u8) (.pr (.int .i64) (.pr (.int .i64) (.pl false)))) 0 .wr]), (false, [.dat (.int .i64)])]⟩
noncomputable def F_numbers_Again.S : Summ := ⟨30, F_numbers_Again.sig, F_numbers_Again⟩
noncomputable def F_numbers_Again.G : List Summ := [markS, F_numbers_Check.S, F_numbers_behind.S]
theorem F_numbers_Again.eq : absF Try.prog F_numbers_Again.G F_numbers_Again.ann F_numbers_Again.sig Try.f30 = F_numbers_Again := by kernel_rfl
theorem F_numbers_Again.sound : Sound Try.prog F_numbers_Again.S := absF_sound (fn := Try.f30) (Γ := F_numbers_Again.G) (all_cons mark_sound (all_cons F_numbers_Check.sound (all_cons F_numbers_behind.sound all_nil))) mix (by kernel_rfl) (by kernel_rfl) (fun m p => congrFun (congrFun F_numbers_Again.eq m) p)
/-! ### cloakroom/cloakroomref24.Again -/
noncomputable def F_ref24_Again (m : Fu) (p : Int × Int × Int × (List (List Int))) : Option ((List (Int × Int × Int × (List Int))) × Int) :=
  let a0 := p.1
  let a1 := p.2.1
  let a2 := p.2.2.1
  let a3 := p.2.2.2
  (F_ref24_Check m (a0, a1, a2, a3)).bind fun x1 =>
  bif x1 != (0 : Int) then some (([] : List (Int × Int × Int × (List Int))), x1) else
  (F_ref24_behind m (a0, a1, a2, a3, a2)).bind fun x3 =>
  some (x3, (0 : Int))
def F_ref24_Again.ann : List (Nat × Ann) := []
def F_ref24_Again.sig : Sig := ⟨[.val true [.int .i64, .int .i64, .int .i64, .sl (.sl (.int .u8))]], [(false, [.own (.pr (.int .u8) (.pr (.int .i64) (.pr (.int .i64) (.sl (.int .u8))))) 0 .wr]), (false, [.dat (.int .i64)])]⟩
noncomputable def F_ref24_Again.S : Summ := ⟨31, F_ref24_Again.sig, F_ref24_Again⟩
noncomputable def F_ref24_Again.G : List Summ := [F_ref24_Check.S, F_ref24_behind.S]
theorem F_ref24_Again.eq : absF Try.prog F_ref24_Again.G F_ref24_Again.ann F_ref24_Again.sig Try.f31 = F_ref24_Again := by kernel_rfl
theorem F_ref24_Again.sound : Sound Try.prog F_ref24_Again.S := absF_sound (fn := Try.f31) (Γ := F_ref24_Again.G) (all_cons F_ref24_Check.sound (all_cons F_ref24_behind.sound all_nil)) mix (by kernel_rfl) (by kernel_rfl) (fun m p => congrFun (congrFun F_ref24_Again.eq m) p)
/-! ### cloakroom/cloakroomref24.SameSender -/
noncomputable def F_ref24_SameSender.l58 (_ : Fu) (a3 : List (List Int)) (a7 : List (List Int)) (x7 : Int) : Option (Step Int (Bool ⊕ Unit)) :=
  bif decide (x7 < (a3.length : Int)) then
    bif (decide ((0 : Int) ≤ x7)) && (decide (x7 < (a3.length : Int))) then
      bif (decide ((0 : Int) ≤ x7)) && (decide (x7 < (a7.length : Int))) then
        bif !((a3.getD x7.toNat []) == (a7.getD x7.toNat [])) then
          some (.fin (Sum.inl false))
        else some (.next (IntKind.i64.wrap (x7 + (1 : Int))))
      else none
    else none
  else some (.fin (Sum.inr ()))
noncomputable def F_ref24_SameSender (m : Fu) (p : Int × Int × Int × (List (List Int)) × Int × Int × Int × (List (List Int))) : Option (Bool) :=
  let a0 := p.1
  let a1 := p.2.1
  let a2 := p.2.2.1
  let a3 := p.2.2.2.1
  let a4 := p.2.2.2.2.1
  let a5 := p.2.2.2.2.2.1
  let a6 := p.2.2.2.2.2.2.1
  let a7 := p.2.2.2.2.2.2.2
  bif a0 != a4 then some false else
  bif a1 != a5 then some false else
  bif a2 != a6 then some false else
  bif (a3.length : Int) != (a7.length : Int) then some false else
  (iter m (F_ref24_SameSender.l58 m a3 a7) (0 : Int)).bind fun x14 =>
  match x14 with
  | .inl x15 =>
    some x15
  | .inr _ =>
    some true
def F_ref24_SameSender.ann : List (Nat × Ann) := [(58, .loop ⟨[(5, false, [.dat (.int .i64)])], [], [], [], 544⟩ [(.ret, ⟨[(4, false, [.dat .bool])], [], [], [], 544⟩), (.exit 0, ⟨[], [], [], [], 544⟩)])]
def F_ref24_SameSender.sig : Sig := ⟨[.val true [.int .i64, .int .i64, .int .i64, .sl (.sl (.int .u8))], .val true [.int .i64, .int .i64, .int .i64, .sl (.sl (.int .u8))]], [(false, [.dat .bool])]⟩
noncomputable def F_ref24_SameSender.S : Summ := ⟨21, F_ref24_SameSender.sig, F_ref24_SameSender⟩
noncomputable def F_ref24_SameSender.G : List Summ := []
theorem F_ref24_SameSender.eq : absF Try.prog F_ref24_SameSender.G F_ref24_SameSender.ann F_ref24_SameSender.sig Try.f21 = F_ref24_SameSender := by kernel_rfl
theorem F_ref24_SameSender.sound : Sound Try.prog F_ref24_SameSender.S := absF_sound (fn := Try.f21) (Γ := F_ref24_SameSender.G) all_nil mix (by kernel_rfl) (by kernel_rfl) (fun m p => congrFun (congrFun F_ref24_SameSender.eq m) p)
/-! ### cloakroom/cloakroomref24.SameMessage -/
noncomputable def F_ref24_SameMessage (_ : Fu) (p : Int × Int × Int × (List Int) × Int × Int × Int × (List Int)) : Option (Bool) :=
  let a0 := p.1
  let a1 := p.2.1
  let a2 := p.2.2.1
  let a3 := p.2.2.2.1
  let a4 := p.2.2.2.2.1
  let a5 := p.2.2.2.2.2.1
  let a6 := p.2.2.2.2.2.2.1
  let a7 := p.2.2.2.2.2.2.2
  bif a0 == a4 then
    bif a1 == a5 then
      bif a2 == a6 then
        some (a3 == a7)
      else some false
    else some false
  else some false
def F_ref24_SameMessage.ann : List (Nat × Ann) := []
def F_ref24_SameMessage.sig : Sig := ⟨[.val true [.int .u8, .int .i64, .int .i64, .sl (.int .u8)], .val true [.int .u8, .int .i64, .int .i64, .sl (.int .u8)]], [(false, [.dat .bool])]⟩
noncomputable def F_ref24_SameMessage.S : Summ := ⟨15, F_ref24_SameMessage.sig, F_ref24_SameMessage⟩
noncomputable def F_ref24_SameMessage.G : List Summ := []
theorem F_ref24_SameMessage.eq : absF Try.prog F_ref24_SameMessage.G F_ref24_SameMessage.ann F_ref24_SameMessage.sig Try.f15 = F_ref24_SameMessage := by kernel_rfl
theorem F_ref24_SameMessage.sound : Sound Try.prog F_ref24_SameMessage.S := absF_sound (fn := Try.f15) (Γ := F_ref24_SameMessage.G) all_nil mix (by kernel_rfl) (by kernel_rfl) (fun m p => congrFun (congrFun F_ref24_SameMessage.eq m) p)
/-! ### cloakroom/cloakroomref24.SameMessages -/
noncomputable def F_ref24_SameMessages.l58 (m : Fu) (a0 : List (Int × Int × Int × (List Int))) (a1 : List (Int × Int × Int × (List Int))) (x4 : Int) : Option (Step Int (Bool ⊕ Unit)) :=
  bif decide (x4 < (a0.length : Int)) then
    bif (decide ((0 : Int) ≤ x4)) && (decide (x4 < (a0.length : Int))) then
      let x7 := a0.getD x4.toNat (0, (0, (0, [])))
      bif (decide ((0 : Int) ≤ x4)) && (decide (x4 < (a1.length : Int))) then
        (F_ref24_SameMessage m (x7.1, x7.2.1, x7.2.2.1, x7.2.2.2, (a1.getD x4.toNat (0, (0, (0, [])))))).bind fun x9 =>
        bif !x9 then
          some (.fin (Sum.inl false))
        else some (.next (IntKind.i64.wrap (x4 + (1 : Int))))
      else none
    else none
  else some (.fin (Sum.inr ()))
noncomputable def F_ref24_SameMessages (m : Fu) (p : (List (Int × Int × Int × (List Int))) × (List (Int × Int × Int × (List Int)))) : Option (Bool) :=
  let a0 := p.1
  let a1 := p.2
  bif (a0.length : Int) != (a1.length : Int) then some false else
  (iter m (F_ref24_SameMessages.l58 m a0 a1) (0 : Int)).bind fun x12 =>
  match x12 with
  | .inl x13 =>
    some x13
  | .inr _ =>
    some true
def F_ref24_SameMessages.ann : List (Nat × Ann) := [(58, .loop ⟨[(5, false, [.dat (.int .i64)])], [], [], [], 144⟩ [(.ret, ⟨[(4, false, [.dat .bool])], [], [], [], 144⟩), (.exit 0, ⟨[], [], [], [], 144⟩)])]
def F_ref24_SameMessages.sig : Sig := ⟨[.val false [.sl (.pr (.int .u8) (.pr (.int .i64) (.pr (.int .i64) (.sl (.int .u8)))))], .val false [.sl (.pr (.int .u8) (.pr (.int .i64) (.pr (.int .i64) (.sl (.int .u8)))))]], [(false, [.dat .bool])]⟩
noncomputable def F_ref24_SameMessages.S : Summ := ⟨32, F_ref24_SameMessages.sig, F_ref24_SameMessages⟩
noncomputable def F_ref24_SameMessages.G : List Summ := [F_ref24_SameMessage.S]
theorem F_ref24_SameMessages.eq : absF Try.prog F_ref24_SameMessages.G F_ref24_SameMessages.ann F_ref24_SameMessages.sig Try.f32 = F_ref24_SameMessages := by kernel_rfl
theorem F_ref24_SameMessages.sound : Sound Try.prog F_ref24_SameMessages.S := absF_sound (fn := Try.f32) (Γ := F_ref24_SameMessages.G) (all_cons F_ref24_SameMessage.sound all_nil) mix (by kernel_rfl) (by kernel_rfl) (fun m p => congrFun (congrFun F_ref24_SameMessages.eq m) p)
/-! ### cloakroom/cloakroomlaw24.NumbersSends -/
noncomputable def F_law24_NumbersSends.l65530 (_ : Fu) (x34 : Int × (List Int)) : Option (Step (Int × (List Int)) Unit) :=
  bif decide (x34.1 < (x34.2.length : Int)) then
    bif (decide ((0 : Int) ≤ x34.1)) && (decide (x34.1 < (x34.2.length : Int))) then
      bif Nat.blt x34.1.toNat x34.2.length then
        bif (decide ((0 : Int) ≤ x34.1)) && (decide (x34.1 < (x34.2.length : Int))) then
          bif Nat.blt x34.1.toNat x34.2.length then
            some (.next ((IntKind.i64.wrap (x34.1 + (1 : Int))), (x34.2.set x34.1.toNat (IntKind.u8.wrap ((x34.2.getD x34.1.toNat 0) + (1 : Int))))))
          else none
        else none
      else none
    else none
  else some (.fin ())
noncomputable def F_law24_NumbersSends.l16776850 (_ : Fu) (x9 : Int × Int × Int × (List (List Int)) × Int × Int × Int × (List Int) × Int) (x44 : Int) (x47 : Int) : Option (Step Int Unit) :=
  bif (decide ((0 : Int) ≤ x44)) && (decide (x44 < (x9.2.2.2.1.length : Int))) then
    bif decide (x47 < ((x9.2.2.2.1.getD x44.toNat []).length : Int)) then
      bif (decide ((0 : Int) ≤ x44)) && (decide (x44 < (x9.2.2.2.1.length : Int))) then
        bif (decide ((0 : Int) ≤ x44)) && (decide (x44 < (x9.2.2.2.1.length : Int))) then
          bif (decide ((0 : Int) ≤ x47)) && (decide (x47 < ((x9.2.2.2.1.getD x44.toNat []).length : Int))) then
            bif (decide ((0 : Int) ≤ x47)) && (decide (x47 < ((x9.2.2.2.1.getD x44.toNat []).length : Int))) then
              some (.next (IntKind.i64.wrap (x47 + (1 : Int))))
            else none
          else none
        else none
      else none
    else some (.fin ())
  else none
noncomputable def F_law24_NumbersSends.l262138 (m : Fu) (x9 : Int × Int × Int × (List (List Int)) × Int × Int × Int × (List Int) × Int) (x44 : Int) : Option (Step Int Unit) :=
  bif decide (x44 < (x9.2.2.2.1.length : Int)) then
    (iter m (F_law24_NumbersSends.l16776850 m x9 x44) (0 : Int)).bind fun _ =>
    some (.next (IntKind.i64.wrap (x44 + (1 : Int))))
  else some (.fin ())
noncomputable def F_law24_NumbersSends.l33554066 (_ : Fu) (x13 : (List (Int × Int × Int × (List Int))) × Int) (x57 : Int) (x60 : Int) : Option (Step Int Unit) :=
  bif (decide ((0 : Int) ≤ x57)) && (decide (x57 < (x13.1.length : Int))) then
    bif Nat.blt x57.toNat x13.1.length then
      bif decide (x60 < (((((x13.1.getD x57.toNat (0, (0, (0, [])))).2).2).2).length : Int)) then
        bif (decide ((0 : Int) ≤ x57)) && (decide (x57 < (x13.1.length : Int))) then
          bif Nat.blt x57.toNat x13.1.length then
            bif (decide ((0 : Int) ≤ x57)) && (decide (x57 < (x13.1.length : Int))) then
              bif Nat.blt x57.toNat x13.1.length then
                bif (decide ((0 : Int) ≤ x60)) && (decide (x60 < (((((x13.1.getD x57.toNat (0, (0, (0, [])))).2).2).2).length : Int))) then
                  bif (decide ((0 : Int) ≤ x60)) && (decide (x60 < (((((x13.1.getD x57.toNat (0, (0, (0, [])))).2).2).2).length : Int))) then
                    some (.next (IntKind.i64.wrap (x60 + (1 : Int))))
                  else none
                else none
              else none
            else none
          else none
        else none
      else some (.fin ())
    else none
  else none
noncomputable def F_law24_NumbersSends.l524282 (m : Fu) (x13 : (List (Int × Int × Int × (List Int))) × Int) (x57 : Int) : Option (Step Int Unit) :=
  bif decide (x57 < (x13.1.length : Int)) then
    (iter m (F_law24_NumbersSends.l33554066 m x13 x57) (0 : Int)).bind fun _ =>
    some (.next (IntKind.i64.wrap (x57 + (1 : Int))))
  else some (.fin ())
noncomputable def F_law24_NumbersSends.l67108498 (_ : Fu) (x11 : Int × Int × Int × (List (List Int)) × (List (Int × Int × Int × (List Int))) × Int) (x70 : Int) (x73 : Int) : Option (Step Int Unit) :=
  bif (decide ((0 : Int) ≤ x70)) && (decide (x70 < (x11.2.2.2.2.1.length : Int))) then
    bif Nat.blt x70.toNat x11.2.2.2.2.1.length then
      bif decide (x73 < (((((x11.2.2.2.2.1.getD x70.toNat (0, (0, (0, [])))).2).2).2).length : Int)) then
        bif (decide ((0 : Int) ≤ x70)) && (decide (x70 < (x11.2.2.2.2.1.length : Int))) then
          bif Nat.blt x70.toNat x11.2.2.2.2.1.length then
            bif (decide ((0 : Int) ≤ x70)) && (decide (x70 < (x11.2.2.2.2.1.length : Int))) then
              bif Nat.blt x70.toNat x11.2.2.2.2.1.length then
                bif (decide ((0 : Int) ≤ x73)) && (decide (x73 < (((((x11.2.2.2.2.1.getD x70.toNat (0, (0, (0, [])))).2).2).2).length : Int))) then
                  bif (decide ((0 : Int) ≤ x73)) && (decide (x73 < (((((x11.2.2.2.2.1.getD x70.toNat (0, (0, (0, [])))).2).2).2).length : Int))) then
                    some (.next (IntKind.i64.wrap (x73 + (1 : Int))))
                  else none
                else none
              else none
            else none
          else none
        else none
      else some (.fin ())
    else none
  else none
noncomputable def F_law24_NumbersSends.l1048570 (m : Fu) (x11 : Int × Int × Int × (List (List Int)) × (List (Int × Int × Int × (List Int))) × Int) (x70 : Int) : Option (Step Int Unit) :=
  bif decide (x70 < (x11.2.2.2.2.1.length : Int)) then
    (iter m (F_law24_NumbersSends.l67108498 m x11 x70) (0 : Int)).bind fun _ =>
    some (.next (IntKind.i64.wrap (x70 + (1 : Int))))
  else some (.fin ())
noncomputable def F_law24_NumbersSends (m : Fu) (p : Int × Int × Int × (List (List Int)) × Int × Int × (List (Int × Int × ((List Int) × (List Int) × Int × Int × Int) × (List Int) × Int × Int × Bool)) × Int × (List Int) × (List (Int × (List Int) × (List Int) × Int × Int × Int)) × Int × Int × Bool × Int × Int × Int × (List Int)) : Option (Bool) :=
  let a0 := p.1
  let a1 := p.2.1
  let a2 := p.2.2.1
  let a3 := p.2.2.2.1
  let a4 := p.2.2.2.2.1
  let a5 := p.2.2.2.2.2.1
  let a6 := p.2.2.2.2.2.2.1
  let a7 := p.2.2.2.2.2.2.2.1
  let a8 := p.2.2.2.2.2.2.2.2.1
  let a9 := p.2.2.2.2.2.2.2.2.2.1
  let a10 := p.2.2.2.2.2.2.2.2.2.2.1
  let a11 := p.2.2.2.2.2.2.2.2.2.2.2.1
  let a12 := p.2.2.2.2.2.2.2.2.2.2.2.2.1
  let a13 := p.2.2.2.2.2.2.2.2.2.2.2.2.2.1
  let a14 := p.2.2.2.2.2.2.2.2.2.2.2.2.2.2.1
  let a15 := p.2.2.2.2.2.2.2.2.2.2.2.2.2.2.2.1
  let a16 := p.2.2.2.2.2.2.2.2.2.2.2.2.2.2.2.2
  (F_ref24_Great m (a0, a1, a2, a3)).bind fun x1 =>
  bif x1 then some true else
  (F_ref01_Heavy m a6).bind fun x2 =>
  bif x2 then some true else
  (F_ref21_Great m (a7, a8, a9, a10, a11, a12)).bind fun x3 =>
  bif x3 then some true else
  bif decide ((100000 : Int) < (a16.length : Int)) then some true else
  (F_ref24_Twin m (a0, a1, a2, a3)).bind fun x6 =>
  (F_numbers_New m (a4, a5)).bind fun x7 =>
  (F_ref24_New m (a4, a5)).bind fun x8 =>
  (F_numbers_Send m (x6.1, x6.2.1, x6.2.2.1, x6.2.2.2, a6)).bind fun x9 =>
  (F_ref24_Send m (a0, a1, a2, a3, a6)).bind fun x10 =>
  (F_numbers_Hear m (x6.1, x6.2.1, x6.2.2.1, x6.2.2.2, a7, a8, a9, a10, a11, a12, a13, a14, a15, a16)).bind fun x11 =>
  (F_ref24_Hear m (a0, a1, a2, a3, a7, a8, a9, a10, a11, a12, a13, a14, a15, a16)).bind fun x12 =>
  (F_numbers_Again m x6).bind fun x13 =>
  (F_ref24_Again m (a0, a1, a2, a3)).bind fun x14 =>
  (F_ref24_SameSender m (x7.1, x7.2.1, x7.2.2.1, x7.2.2.2.1, x8.1, x8.2.1, x8.2.2.1, x8.2.2.2.1)).bind fun x15 =>
  bif !x15 then some false else
  bif x7.2.2.2.2 != x8.2.2.2.2 then some false else
  (F_ref24_SameSender m (x9.1, x9.2.1, x9.2.2.1, x9.2.2.2.1, x10.1, x10.2.1, x10.2.2.1, x10.2.2.2.1)).bind fun x18 =>
  bif !x18 then some false else
  (F_ref24_SameMessage m (x9.2.2.2.2.1, x9.2.2.2.2.2.1, x9.2.2.2.2.2.2.1, x9.2.2.2.2.2.2.2.1, x10.2.2.2.2.1, x10.2.2.2.2.2.1, x10.2.2.2.2.2.2.1, x10.2.2.2.2.2.2.2.1)).bind fun x20 =>
  bif !x20 then some false else
  bif x9.2.2.2.2.2.2.2.2 != x10.2.2.2.2.2.2.2.2 then some false else
  (F_ref24_SameSender m (x11.1, x11.2.1, x11.2.2.1, x11.2.2.2.1, x12.1, x12.2.1, x12.2.2.1, x12.2.2.2.1)).bind fun x23 =>
  bif !x23 then some false else
  (F_ref24_SameMessages m (x11.2.2.2.2.1, x12.2.2.2.2.1)).bind fun x25 =>
  bif !x25 then some false else
  bif x11.2.2.2.2.2 != x12.2.2.2.2.2 then some false else
  (F_ref24_SameMessages m (x13.1, x14.1)).bind fun x28 =>
  bif !x28 then some false else
  bif x13.2 != x14.2 then some false else
  (F_numbers_Check m x6).bind fun x31 =>
  (F_ref24_Check m (a0, a1, a2, a3)).bind fun x32 =>
  bif x31 != x32 then some false else
  (iter m (F_law24_NumbersSends.l65530 m) ((0 : Int), x9.2.2.2.2.2.2.2.1)).bind fun _ =>
  (F_ref24_SameSender m (x9.1, x9.2.1, x9.2.2.1, x9.2.2.2.1, x10.1, x10.2.1, x10.2.2.1, x10.2.2.2.1)).bind fun x42 =>
  bif !x42 then some false else
  (iter m (F_law24_NumbersSends.l262138 m x9) (0 : Int)).bind fun _ =>
  (iter m (F_law24_NumbersSends.l524282 m x13) (0 : Int)).bind fun _ =>
  (iter m (F_law24_NumbersSends.l1048570 m x11) (0 : Int)).bind fun _ =>
  (F_ref24_SameSender m (x6.1, x6.2.1, x6.2.2.1, x6.2.2.2, a0, a1, a2, a3)).bind fun x83 =>
  bif x83 then
    (F_ref24_SameSender m (x11.1, x11.2.1, x11.2.2.1, x11.2.2.2.1, x12.1, x12.2.1, x12.2.2.1, x12.2.2.2.1)).bind fun x84 =>
    some x84
  else some false
def F_law24_NumbersSends.ann : List (Nat × Ann) := [(0, .thaw 14),
  (65530, .loop ⟨[(34, false, [.dat (.int .i64)])], [], [(800, .int .u8, .wr)], [], 2752⟩ [(.exit 0, ⟨[], [], [], [800], 2752⟩)]),
  (262138, .loop ⟨[(35, false, [.dat (.int .i64)])], [], [], [], 2832⟩ [(.exit 2, ⟨[], [], [], [], 2832⟩)]),
  (524282, .loop ⟨[(37, false, [.dat (.int .i64)])], [], [], [], 2848⟩ [(.exit 6, ⟨[], [], [], [], 2848⟩)]),
  (1048570, .loop ⟨[(39, false, [.dat (.int .i64)])], [], [], [], 2864⟩ [(.exit 10, ⟨[], [], [], [], 2864⟩)]),
  (16776850, .loop ⟨[(36, false, [.dat (.int .i64)])], [], [], [], 2928⟩ [(.exit 4, ⟨[], [], [], [], 2928⟩)]),
  (33554066, .loop ⟨[(38, false, [.dat (.int .i64)])], [], [], [], 2928⟩ [(.exit 8, ⟨[], [], [], [], 2928⟩)]),
  (67108498, .loop ⟨[(40, false, [.dat (.int .i64)])], [], [], [], 2944⟩ [(.exit 12, ⟨[], [], [], [], 2944⟩)])]
def F_law24_NumbersSends.sig : Sig := ⟨[.val true [.int .i64, .int .i64, .int .i64, .sl (.sl (.int .u8))], .val false [.int .i64], .val false [.int .i64], .val false [.sl (.pr (.int .u8) (.pr (.int .i64) (.pr (.pr .str (.pr .str (.pr (.int .u32) (.pr (.int .i64) (.int .u64))))) (.pr .str (.pr (.int .u8) (.pr (.int .i64) .bool))))))], .val true [.int .i64, .sl (.int .i64), .sl (.pr (.int .i64) (.pr .str (.pr .str (.pr (.int .u32) (.pr (.int .i64) (.int .u64)))))), .int .i64, .int .i64, .bool], .val true [.int .u8, .int .i64, .int .i64, .sl (.int .u8)]], [(false, [.dat .bool])]⟩
noncomputable def F_law24_NumbersSends.S : Summ := ⟨7, F_law24_NumbersSends.sig, F_law24_NumbersSends⟩
noncomputable def F_law24_NumbersSends.G : List Summ := [F_ref24_Great.S, F_ref01_Heavy.S, F_ref21_Great.S, F_ref24_Twin.S, F_numbers_New.S, F_ref24_New.S, F_numbers_Send.S, F_ref24_Send.S, F_numbers_Hear.S, F_ref24_Hear.S, F_numbers_Again.S, F_ref24_Again.S, F_ref24_SameSender.S, F_ref24_SameMessage.S, F_ref24_SameMessages.S, F_numbers_Check.S, F_ref24_Check.S]
theorem F_law24_NumbersSends.eq : absF Try.prog F_law24_NumbersSends.G F_law24_NumbersSends.ann F_law24_NumbersSends.sig Try.f7 = F_law24_NumbersSends := by kernel_rfl
theorem F_law24_NumbersSends.sound : Sound Try.prog F_law24_NumbersSends.S := absF_sound (fn := Try.f7) (Γ := F_law24_NumbersSends.G) (all_cons F_ref24_Great.sound (all_cons F_ref01_Heavy.sound (all_cons F_ref21_Great.sound (all_cons F_ref24_Twin.sound (all_cons F_numbers_New.sound (all_cons F_ref24_New.sound (all_cons F_numbers_Send.sound (all_cons F_ref24_Send.sound (all_cons F_numbers_Hear.sound (all_cons F_ref24_Hear.sound (all_cons F_numbers_Again.sound (all_cons F_ref24_Again.sound (all_cons F_ref24_SameSender.sound (all_cons F_ref24_SameMessage.sound (all_cons F_ref24_SameMessages.sound (all_cons F_numbers_Check.sound (all_cons F_ref24_Check.sound all_nil))))))))))))))))) mix (by kernel_rfl) (by kernel_rfl) (fun m p => congrFun (congrFun F_law24_NumbersSends.eq m) p)
end Go.Proofs.Ytmkfifilpkhfoaa
