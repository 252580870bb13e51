/- The pure functions that the program's functions compute, and that they compute them. Printed by a program of this session (gen.py). -/
import Derived.Test.YtmkfifilpkhfoaaProg
import Derived.Test.YtmkfifilpkhfoaaA3
namespace Go.Proofs.Ytmkfifilpkhfoaa
open Go.Abs
set_option maxRecDepth 100000
theorem mix : Try.prog.follows .mixedOrders = true := by kernel_rfl
/-! ### cloakroom/numbers.in -/
noncomputable def F_numbers_in (_ : Fu) (p : Int) : Option (Bool) :=
  let a0 := p
  bif decide ((0 : Int) ≤ a0) then
    some (decide (a0 ≤ (2147483647 : Int)))
  else some false
def F_numbers_in.ann : List (Nat × Ann) := []
def F_numbers_in.sig : Sig := ⟨[.val false [.int .i64]], [(false, [.dat .bool])]⟩
noncomputable def F_numbers_in.S : Summ := ⟨48, F_numbers_in.sig, F_numbers_in⟩
noncomputable def F_numbers_in.G : List Summ := []
theorem F_numbers_in.eq : absF Try.prog F_numbers_in.G F_numbers_in.ann F_numbers_in.sig Try.f48 = F_numbers_in := by kernel_rfl
theorem F_numbers_in.sound : Sound Try.prog F_numbers_in.S := absF_sound (fn := Try.f48) (Γ := F_numbers_in.G) all_nil mix (by kernel_rfl) (by kernel_rfl) (fun m p => congrFun (congrFun F_numbers_in.eq m) p)
/-! ### cloakroom/numbers.New -/
noncomputable def F_numbers_New (m : Fu) (p : Int × Int) : Option (Int × Int × Int × (List (List Int)) × Int) :=
  let a0 := p.1
  let a1 := p.2
  (F_numbers_in m a0).bind fun x1 =>
  bif !x1 then some ((0 : Int), (0 : Int), (0 : Int), ([] : List (List Int)), (2 : Int)) else
  (F_numbers_in m a1).bind fun x3 =>
  bif !x3 then
    some ((0 : Int), (0 : Int), (0 : Int), ([] : List (List Int)), (2 : Int))
  else some (a0, a1, (0 : Int), ([] : List (List Int)), (0 : Int))
def F_numbers_New.ann : List (Nat × Ann) := []
def F_numbers_New.sig : Sig := ⟨[.val false [.int .i64], .val false [.int .i64]], [(true, [.dat (.int .i64), .dat (.int .i64), .dat (.int .i64), .dat (.sl (.sl (.int .u8)))]), (false, [.dat (.int .i64)])]⟩
noncomputable def F_numbers_New.S : Summ := ⟨25, F_numbers_New.sig, F_numbers_New⟩
noncomputable def F_numbers_New.G : List Summ := [F_numbers_in.S]
theorem F_numbers_New.eq : absF Try.prog F_numbers_New.G F_numbers_New.ann F_numbers_New.sig Try.f25 = F_numbers_New := by kernel_rfl
theorem F_numbers_New.sound : Sound Try.prog F_numbers_New.S := absF_sound (fn := Try.f25) (Γ := F_numbers_New.G) (all_cons F_numbers_in.sound all_nil) mix (by kernel_rfl) (by kernel_rfl) (fun m p => congrFun (congrFun F_numbers_New.eq m) p)
/-! ### cloakroom/cloakroomlaw24.clock -/
noncomputable def F_law24_clock (_ : Fu) (p : Int) : Option (List (Int × Int × ((List Int) × (List Int) × Int × Int × Int) × (List Int) × Int × Int × Bool)) :=
  let a0 := p
  some ([((4 : Int), ((0 : Int), ((([] : List Int), (([] : List Int), ((0 : Int), ((0 : Int), (0 : Int))))), (([] : List Int), ((0 : Int), (a0, false))))))])
def F_law24_clock.ann : List (Nat × Ann) := []
def F_law24_clock.sig : Sig := ⟨[.val false [.int .i64]], [(false, [.own (.pr (.int .u8) (.pr (.int .i64) (.pr (.pr .str (.pr .str (.pr (.int .u32) (.pr (.int .i64) (.int .u64))))) (.pr .str (.pr (.int .u8) (.pr (.int .i64) .bool)))))) 0 .wr])]⟩
noncomputable def F_law24_clock.S : Summ := ⟨36, F_law24_clock.sig, F_law24_clock⟩
noncomputable def F_law24_clock.G : List Summ := []
theorem F_law24_clock.eq : absF Try.prog F_law24_clock.G F_law24_clock.ann F_law24_clock.sig Try.f36 = F_law24_clock := by kernel_rfl
theorem F_law24_clock.sound : Sound Try.prog F_law24_clock.S := absF_sound (fn := Try.f36) (Γ := F_law24_clock.G) all_nil mix (by kernel_rfl) (by kernel_rfl) (fun m p => congrFun (congrFun F_law24_clock.eq m) p)
/-! ### cloakroom/code.Read -/
noncomputable def F_code_Read.s7474 (_ : Fu) (x2 : Int × Int) (x4 : Int) : Option (Unit ⊕ Unit) :=
  bif x2.2 == (9 : Int) then
    bif decide ((1 : Int) < x4) then
      some (Sum.inl ())
    else some (Sum.inr ())
  else some (Sum.inr ())
noncomputable def F_code_Read.l58 (m : Fu) (a0 : List Int) (x1 : Int) (x2 : Int × Int) : Option (Step (Int × Int) (Unit ⊕ (Int × Int × Int))) :=
  bif decide (x2.2 < x1) then
    bif (decide ((0 : Int) ≤ x2.2)) && (decide (x2.2 < (a0.length : Int))) then
      let x4 := a0.getD x2.2.toNat 0
      (F_code_Read.s7474 m x2 x4).bind fun x7 =>
      match x7 with
      | .inl _ =>
        some (.fin (Sum.inl ()))
      | .inr _ =>
        let x12 := IntKind.i64.wrap ((7 : Int) * x2.2)
        bif decide (x12 < (0 : Int)) then none else
        let x14 := bitsOp .or .u64 x2.1 (shlOp .u64 (IntKind.u64.wrap (bitsOp .and .u8 x4 (127 : Int))) x12)
        bif decide (x4 < (128 : Int)) then
          bif x4 == (0 : Int) then
            bif decide ((0 : Int) < x2.2) then
              some (.fin (Sum.inl ()))
            else some (.fin (Sum.inr (x14, (IntKind.i64.wrap (x2.2 + (1 : Int))), (0 : Int))))
          else some (.fin (Sum.inr (x14, (IntKind.i64.wrap (x2.2 + (1 : Int))), (0 : Int))))
        else some (.next (x14, (IntKind.i64.wrap (x2.2 + (1 : Int)))))
    else none
  else some (.fin (Sum.inl ()))
noncomputable def F_code_Read (m : Fu) (p : List Int) : Option (Int × Int × Int) :=
  let a0 := p
  (iter m (F_code_Read.l58 m a0 (a0.length : Int)) ((0 : Int), (0 : Int))).bind fun x21 =>
  match x21 with
  | .inl _ =>
    some ((0 : Int), (0 : Int), (8 : Int))
  | .inr x23 =>
    some x23
def F_code_Read.ann : List (Nat × Ann) := [(58, .loop ⟨[(5, false, [.dat (.int .u64)]), (10, false, [.dat (.int .i64)])], [], [], [], 128⟩ [(.exit 0, ⟨[], [], [], [], 128⟩), (.ret, ⟨[(2, false, [.dat (.int .u64)]), (3, false, [.dat (.int .i64)]), (4, false, [.dat (.int .i64)])], [], [], [], 128⟩)]),
  (7474, .jnt [(.exit 0, ⟨[], [], [], [], 224⟩), (.normal, ⟨[], [], [], [], 224⟩)])]
def F_code_Read.sig : Sig := ⟨[.val false [.sl (.int .u8)]], [(false, [.dat (.int .u64)]), (false, [.dat (.int .i64)]), (false, [.dat (.int .i64)])]⟩
noncomputable def F_code_Read.S : Summ := ⟨42, F_code_Read.sig, F_code_Read⟩
noncomputable def F_code_Read.G : List Summ := []
theorem F_code_Read.eq : absF Try.prog F_code_Read.G F_code_Read.ann F_code_Read.sig Try.f42 = F_code_Read := by kernel_rfl
theorem F_code_Read.sound : Sound Try.prog F_code_Read.S := absF_sound (fn := Try.f42) (Γ := F_code_Read.G) all_nil mix (by kernel_rfl) (by kernel_rfl) (fun m p => congrFun (congrFun F_code_Read.eq m) p)
/-! ### (*cloakroom/code.reader).wide -/
noncomputable def F_code_reader_wide.s14 (_ : Fu) (a0 : List Int) (a1 : Bool) (x1 : Int × Int × Int) : Option (((List Int) × Bool)) :=
  bif a1 then
    some (a0, true)
  else some (a0, (x1.2.2 != (0 : Int)))
noncomputable def F_code_reader_wide (m : Fu) (p : (List Int) × Bool) : Option (Int × (List Int) × Bool) :=
  let a0 := p.1
  let a1 := p.2
  (F_code_Read m a0).bind fun x1 =>
  (F_code_reader_wide.s14 m a0 a1 x1).bind fun x3 =>
  bif (((decide ((0 : Int) ≤ x1.2.1)) && (decide (x1.2.1 ≤ (x3.1.length : Int)))) && (decide ((x3.1.length : Int) ≤ (x3.1.length : Int)))) && (decide ((x3.1.length : Int) ≤ (x3.1.length : Int))) then
    some (x1.1, ((x3.1.take ((x3.1.length : Int).toNat)).drop x1.2.1.toNat), x3.2)
  else none
def F_code_reader_wide.ann : List (Nat × Ann) := [(14, .jnt [(.normal, ⟨[], [(0, [.dat (.sl (.int .u8)), .dat .bool])], [], [], 224⟩)])]
def F_code_reader_wide.sig : Sig := ⟨[.box [.sl (.int .u8), .bool]], [(false, [.dat (.int .u64)])]⟩
noncomputable def F_code_reader_wide.S : Summ := ⟨111, F_code_reader_wide.sig, F_code_reader_wide⟩
noncomputable def F_code_reader_wide.G : List Summ := [F_code_Read.S]
theorem F_code_reader_wide.eq : absF Try.prog F_code_reader_wide.G F_code_reader_wide.ann F_code_reader_wide.sig Try.f111 = F_code_reader_wide := by kernel_rfl
theorem F_code_reader_wide.sound : Sound Try.prog F_code_reader_wide.S := absF_sound (fn := Try.f111) (Γ := F_code_reader_wide.G) (all_cons F_code_Read.sound all_nil) mix (by kernel_rfl) (by kernel_rfl) (fun m p => congrFun (congrFun F_code_reader_wide.eq m) p)
/-! ### (*cloakroom/code.reader).num -/
noncomputable def F_code_reader_num (m : Fu) (p : (List Int) × Bool × Int) : Option (Int × (List Int) × Bool) :=
  let a0 := p.1
  let a1 := p.2.1
  let a2 := p.2.2
  (F_code_reader_wide m (a0, a1)).bind fun x1 =>
  bif decide ((IntKind.u64.wrap a2) < x1.1) then
    some ((0 : Int), x1.2.1, true)
  else some ((IntKind.i64.wrap x1.1), x1.2)
def F_code_reader_num.ann : List (Nat × Ann) := []
def F_code_reader_num.sig : Sig := ⟨[.box [.sl (.int .u8), .bool], .val false [.int .i64]], [(false, [.dat (.int .i64)])]⟩
noncomputable def F_code_reader_num.S : Summ := ⟨103, F_code_reader_num.sig, F_code_reader_num⟩
noncomputable def F_code_reader_num.G : List Summ := [F_code_reader_wide.S]
theorem F_code_reader_num.eq : absF Try.prog F_code_reader_num.G F_code_reader_num.ann F_code_reader_num.sig Try.f103 = F_code_reader_num := by kernel_rfl
theorem F_code_reader_num.sound : Sound Try.prog F_code_reader_num.S := absF_sound (fn := Try.f103) (Γ := F_code_reader_num.G) (all_cons F_code_reader_wide.sound all_nil) mix (by kernel_rfl) (by kernel_rfl) (fun m p => congrFun (congrFun F_code_reader_num.eq m) p)
/-! ### (*cloakroom/code.reader).byte -/
noncomputable def F_code_reader_byte (_ : Fu) (p : (List Int) × Bool) : Option (Int × (List Int) × Bool) :=
  let a0 := p.1
  let a1 := p.2
  bif (a0.length : Int) == (0 : Int) then some ((0 : Int), a0, true) else
  bif decide ((0 : Int) < (a0.length : Int)) then
    bif ((decide ((1 : Int) ≤ (a0.length : Int))) && (decide ((a0.length : Int) ≤ (a0.length : Int)))) && (decide ((a0.length : Int) ≤ (a0.length : Int))) then
      some ((a0.getD 0 0), ((a0.take ((a0.length : Int).toNat)).drop 1), a1)
    else none
  else none
def F_code_reader_byte.ann : List (Nat × Ann) := []
def F_code_reader_byte.sig : Sig := ⟨[.box [.sl (.int .u8), .bool]], [(false, [.dat (.int .u8)])]⟩
noncomputable def F_code_reader_byte.S : Summ := ⟨112, F_code_reader_byte.sig, F_code_reader_byte⟩
noncomputable def F_code_reader_byte.G : List Summ := []
theorem F_code_reader_byte.eq : absF Try.prog F_code_reader_byte.G F_code_reader_byte.ann F_code_reader_byte.sig Try.f112 = F_code_reader_byte := by kernel_rfl
theorem F_code_reader_byte.sound : Sound Try.prog F_code_reader_byte.S := absF_sound (fn := Try.f112) (Γ := F_code_reader_byte.G) all_nil mix (by kernel_rfl) (by kernel_rfl) (fun m p => congrFun (congrFun F_code_reader_byte.eq m) p)
/-! ### cloakroom/code.cut -/
noncomputable def F_code_cut (m : Fu) (p : List Int) : Option ((List Int) × (List Int) × Int) :=
  let a0 := p
  (F_code_Read m a0).bind fun x1 =>
  bif x1.2.2 != (0 : Int) then some (([] : List Int), ([] : List Int), (8 : Int)) else
  bif decide ((IntKind.u64.wrap (IntKind.i64.wrap ((a0.length : Int) - x1.2.1))) < x1.1) then some (([] : List Int), ([] : List Int), (8 : Int)) else
  bif (((decide ((0 : Int) ≤ x1.2.1)) && (decide (x1.2.1 ≤ (a0.length : Int)))) && (decide ((a0.length : Int) ≤ (a0.length : Int)))) && (decide ((a0.length : Int) ≤ (a0.length : Int))) then
    let x7 := (a0.take ((a0.length : Int).toNat)).drop x1.2.1.toNat
    bif ((decide ((0 : Int) ≤ x1.1)) && (decide (x1.1 ≤ (x7.length : Int)))) && (decide ((x7.length : Int) ≤ (x7.length : Int))) then
      let x10 := IntKind.i64.wrap (x1.2.1 + (IntKind.i64.wrap x1.1))
      bif (((decide ((0 : Int) ≤ x10)) && (decide (x10 ≤ (a0.length : Int)))) && (decide ((a0.length : Int) ≤ (a0.length : Int)))) && (decide ((a0.length : Int) ≤ (a0.length : Int))) then
        some (((x7.take x1.1.toNat).drop 0), ((a0.take ((a0.length : Int).toNat)).drop x10.toNat), (0 : Int))
      else none
    else none
  else none
def F_code_cut.ann : List (Nat × Ann) := []
def F_code_cut.sig : Sig := ⟨[.val false [.sl (.int .u8)]], [(false, [.dat (.sl (.int .u8))]), (false, [.dat (.sl (.int .u8))]), (false, [.dat (.int .i64)])]⟩
noncomputable def F_code_cut.S : Summ := ⟨74, F_code_cut.sig, F_code_cut⟩
noncomputable def F_code_cut.G : List Summ := [F_code_Read.S]
theorem F_code_cut.eq : absF Try.prog F_code_cut.G F_code_cut.ann F_code_cut.sig Try.f74 = F_code_cut := by kernel_rfl
theorem F_code_cut.sound : Sound Try.prog F_code_cut.S := absF_sound (fn := Try.f74) (Γ := F_code_cut.G) (all_cons F_code_Read.sound all_nil) mix (by kernel_rfl) (by kernel_rfl) (fun m p => congrFun (congrFun F_code_cut.eq m) p)
/-! ### (*cloakroom/code.reader).text -/
noncomputable def F_code_reader_text (m : Fu) (p : (List Int) × Bool) : Option ((List Int) × (List Int) × Bool) :=
  let a0 := p.1
  let a1 := p.2
  (F_code_cut m a0).bind fun x1 =>
  bif x1.2.2 != (0 : Int) then
    some (([] : List Int), a0, true)
  else some (x1.1, x1.2.1, a1)
def F_code_reader_text.ann : List (Nat × Ann) := []
def F_code_reader_text.sig : Sig := ⟨[.box [.sl (.int .u8), .bool]], [(false, [.dat .str])]⟩
noncomputable def F_code_reader_text.S : Summ := ⟨113, F_code_reader_text.sig, F_code_reader_text⟩
noncomputable def F_code_reader_text.G : List Summ := [F_code_cut.S]
theorem F_code_reader_text.eq : absF Try.prog F_code_reader_text.G F_code_reader_text.ann F_code_reader_text.sig Try.f113 = F_code_reader_text := by kernel_rfl
theorem F_code_reader_text.sound : Sound Try.prog F_code_reader_text.S := absF_sound (fn := Try.f113) (Γ := F_code_reader_text.G) (all_cons F_code_cut.sound all_nil) mix (by kernel_rfl) (by kernel_rfl) (fun m p => congrFun (congrFun F_code_reader_text.eq m) p)
/-! ### (*cloakroom/code.reader).change -/
noncomputable def F_code_reader_change.s116 (_ : Fu) (x1 : Int × (List Int) × Bool) : Option (Bool) :=
  let x2 := x1.1 == (1 : Int)
  bif x2 then some x2 else
  let x3 := x1.1 == (2 : Int)
  bif x3 then some x3 else
  let x4 := x1.1 == (3 : Int)
  bif x4 then
    some x4
  else some (x1.1 == (5 : Int))
noncomputable def F_code_reader_change.s14 (m : Fu) (x1 : Int × (List Int) × Bool) : Option (((List Int) × Bool × Int × Int × (List Int) × (List Int) × Int × Int × Int × (List Int) × Int × Int × Bool)) :=
  (F_code_reader_change.s116 m x1).bind fun x6 =>
  bif x6 then
    (F_code_reader_num m (x1.2.1, x1.2.2, (4 : Int))).bind fun x7 =>
    some (x7.2.1, x7.2.2, x1.1, x7.1, ([] : List Int), ([] : List Int), (0 : Int), (0 : Int), (0 : Int), ([] : List Int), (0 : Int), (0 : Int), false)
  else some (x1.2.1, x1.2.2, x1.1, (0 : Int), ([] : List Int), ([] : List Int), (0 : Int), (0 : Int), (0 : Int), ([] : List Int), (0 : Int), (0 : Int), false)
noncomputable def F_code_reader_change.s3934 (_ : Fu) (x8 : ((List Int) × Bool × Int × Int × (List Int) × (List Int) × Int × Int × Int × (List Int) × Int × Int × Bool)) : Option (Bool) :=
  let x19 := x8.2.2.1 == (4 : Int)
  bif x19 then some x19 else
  let x20 := x8.2.2.1 == (5 : Int)
  bif x20 then some x20 else
  let x21 := x8.2.2.1 == (6 : Int)
  bif x21 then
    some x21
  else some (x8.2.2.1 == (7 : Int))
noncomputable def F_code_reader_change.s30 (m : Fu) (x8 : ((List Int) × Bool × Int × Int × (List Int) × (List Int) × Int × Int × Int × (List Int) × Int × Int × Bool)) : Option (((List Int) × Bool × Int × Int × (List Int) × (List Int) × Int × Int × Int × (List Int) × Int × Int × Bool)) :=
  bif x8.2.2.1 == (1 : Int) then
    (F_code_reader_text m (x8.1, x8.2.1)).bind fun x10 =>
    (F_code_reader_text m x10.2).bind fun x11 =>
    (F_code_reader_num m (x11.2.1, x11.2.2, (4294967295 : Int))).bind fun x12 =>
    (F_code_reader_num m (x12.2.1, x12.2.2, (1099511627776 : Int))).bind fun x14 =>
    (F_code_reader_wide m x14.2).bind fun x15 =>
    some (x15.2.1, x15.2.2, x8.2.2.1, x8.2.2.2.1, x10.1, x11.1, (IntKind.u32.wrap x12.1), x14.1, x15.1, x8.2.2.2.2.2.2.2.2.2)
  else
    bif x8.2.2.1 == (2 : Int) then
      (F_code_reader_text m (x8.1, x8.2.1)).bind fun x17 =>
      (F_code_reader_byte m x17.2).bind fun x18 =>
      some (x18.2.1, x18.2.2, x8.2.2.1, x8.2.2.2.1, x8.2.2.2.2.1, x8.2.2.2.2.2.1, x8.2.2.2.2.2.2.1, x8.2.2.2.2.2.2.2.1, x8.2.2.2.2.2.2.2.2.1, x17.1, x18.1, x8.2.2.2.2.2.2.2.2.2.2.2)
    else
      (F_code_reader_change.s3934 m x8).bind fun x23 =>
      bif x23 then
        (F_code_reader_num m (x8.1, x8.2.1, (1099511627776 : Int))).bind fun x24 =>
        some (x24.2.1, x24.2.2, x8.2.2.1, x8.2.2.2.1, x8.2.2.2.2.1, x8.2.2.2.2.2.1, x8.2.2.2.2.2.2.1, x8.2.2.2.2.2.2.2.1, x8.2.2.2.2.2.2.2.2.1, x8.2.2.2.2.2.2.2.2.2.1, x8.2.2.2.2.2.2.2.2.2.2.1, x24.1, x8.2.2.2.2.2.2.2.2.2.2.2.2)
      else some x8
noncomputable def F_code_reader_change.s62 (m : Fu) (x25 : ((List Int) × Bool × Int × Int × (List Int) × (List Int) × Int × Int × Int × (List Int) × Int × Int × Bool)) : Option (((List Int) × Bool × Int × Int × (List Int) × (List Int) × Int × Int × Int × (List Int) × Int × Int × Bool)) :=
  bif x25.2.2.1 == (6 : Int) then
    (F_code_reader_byte m (x25.1, x25.2.1)).bind fun x27 =>
    some (x27.2.1, x27.2.2, x25.2.2.1, x25.2.2.2.1, x25.2.2.2.2.1, x25.2.2.2.2.2.1, x25.2.2.2.2.2.2.1, x25.2.2.2.2.2.2.2.1, x25.2.2.2.2.2.2.2.2.1, x25.2.2.2.2.2.2.2.2.2.1, x25.2.2.2.2.2.2.2.2.2.2.1, x25.2.2.2.2.2.2.2.2.2.2.2.1, (x27.1 == (1 : Int)))
  else some x25
noncomputable def F_code_reader_change (m : Fu) (p : (List Int) × Bool) : Option (Int × Int × (List Int) × (List Int) × Int × Int × Int × (List Int) × Int × Int × Bool × (List Int) × Bool) :=
  let a0 := p.1
  let a1 := p.2
  (F_code_reader_byte m (a0, a1)).bind fun x1 =>
  (F_code_reader_change.s14 m x1).bind fun x8 =>
  (F_code_reader_change.s30 m x8).bind fun x25 =>
  (F_code_reader_change.s62 m x25).bind fun x29 =>
  some (x29.2.2.1, x29.2.2.2.1, x29.2.2.2.2.1, x29.2.2.2.2.2.1, x29.2.2.2.2.2.2.1, x29.2.2.2.2.2.2.2.1, x29.2.2.2.2.2.2.2.2.1, x29.2.2.2.2.2.2.2.2.2.1, x29.2.2.2.2.2.2.2.2.2.2.1, x29.2.2.2.2.2.2.2.2.2.2.2.1, x29.2.2.2.2.2.2.2.2.2.2.2.2, x29.1, x29.2.1)
def F_code_reader_change.ann : List (Nat × Ann) := [(14, .jnt [(.normal, ⟨[], [(0, [.dat (.sl (.int .u8)), .dat .bool]), (80, [.dat (.int .u8), .dat (.int .i64), .dat .str, .dat .str, .dat (.int .u32), .dat (.int .i64), .dat (.int .u64), .dat .str, .dat (.int .u8), .dat (.int .i64), .dat .bool])], [], [], 112⟩)]),
  (30, .jnt [(.normal, ⟨[], [(0, [.dat (.sl (.int .u8)), .dat .bool]), (80, [.dat (.int .u8), .dat (.int .i64), .dat .str, .dat .str, .dat (.int .u32), .dat (.int .i64), .dat (.int .u64), .dat .str, .dat (.int .u8), .dat (.int .i64), .dat .bool])], [], [], 112⟩)]),
  (62, .jnt [(.normal, ⟨[], [(0, [.dat (.sl (.int .u8)), .dat .bool]), (80, [.dat (.int .u8), .dat (.int .i64), .dat .str, .dat .str, .dat (.int .u32), .dat (.int .i64), .dat (.int .u64), .dat .str, .dat (.int .u8), .dat (.int .i64), .dat .bool])], [], [], 112⟩)]),
  (116, .jnt [(.normal, ⟨[(9, false, [.dat .bool])], [], [], [], 144⟩)]),
  (3934, .jnt [(.normal, ⟨[(42, false, [.dat .bool])], [], [], [], 208⟩)])]
def F_code_reader_change.sig : Sig := ⟨[.box [.sl (.int .u8), .bool]], [(true, [.dat (.int .u8), .dat (.int .i64), .dat .str, .dat .str, .dat (.int .u32), .dat (.int .i64), .dat (.int .u64), .dat .str, .dat (.int .u8), .dat (.int .i64), .dat .bool])]⟩
noncomputable def F_code_reader_change.S : Summ := ⟨104, F_code_reader_change.sig, F_code_reader_change⟩
noncomputable def F_code_reader_change.G : List Summ := [F_code_reader_byte.S, F_code_reader_num.S, F_code_reader_text.S, F_code_reader_wide.S]
theorem F_code_reader_change.eq : absF Try.prog F_code_reader_change.G F_code_reader_change.ann F_code_reader_change.sig Try.f104 = F_code_reader_change := by kernel_rfl
theorem F_code_reader_change.sound : Sound Try.prog F_code_reader_change.S := absF_sound (fn := Try.f104) (Γ := F_code_reader_change.G) (all_cons F_code_reader_byte.sound (all_cons F_code_reader_num.sound (all_cons F_code_reader_text.sound (all_cons F_code_reader_wide.sound all_nil)))) mix (by kernel_rfl) (by kernel_rfl) (fun m p => congrFun (congrFun F_code_reader_change.eq m) p)
/-! ### cloakroom/code.keyed -/
noncomputable def F_code_keyed (_ : Fu) (p : List Int) : Option (Bool) :=
  let a0 := p
  bif !(a0 == ([] : List Int)) then
    some (decide ((a0.length : Int) ≤ (32 : Int)))
  else some false
def F_code_keyed.ann : List (Nat × Ann) := []
def F_code_keyed.sig : Sig := ⟨[.val false [.str]], [(false, [.dat .bool])]⟩
noncomputable def F_code_keyed.S : Summ := ⟨94, F_code_keyed.sig, F_code_keyed⟩
noncomputable def F_code_keyed.G : List Summ := []
theorem F_code_keyed.eq : absF Try.prog F_code_keyed.G F_code_keyed.ann F_code_keyed.sig Try.f94 = F_code_keyed := by kernel_rfl
theorem F_code_keyed.sound : Sound Try.prog F_code_keyed.S := absF_sound (fn := Try.f94) (Γ := F_code_keyed.G) all_nil mix (by kernel_rfl) (by kernel_rfl) (fun m p => congrFun (congrFun F_code_keyed.eq m) p)
/-! ### cloakroom/code.in -/
noncomputable def F_code_in (_ : Fu) (p : Int × Int) : Option (Bool) :=
  let a0 := p.1
  let a1 := p.2
  bif decide ((0 : Int) ≤ a0) then
    some (decide (a0 ≤ a1))
  else some false
def F_code_in.ann : List (Nat × Ann) := []
def F_code_in.sig : Sig := ⟨[.val false [.int .i64], .val false [.int .i64]], [(false, [.dat .bool])]⟩
noncomputable def F_code_in.S : Summ := ⟨95, F_code_in.sig, F_code_in⟩
noncomputable def F_code_in.G : List Summ := []
theorem F_code_in.eq : absF Try.prog F_code_in.G F_code_in.ann F_code_in.sig Try.f95 = F_code_in := by kernel_rfl
theorem F_code_in.sound : Sound Try.prog F_code_in.S := absF_sound (fn := Try.f95) (Γ := F_code_in.G) all_nil mix (by kernel_rfl) (by kernel_rfl) (fun m p => congrFun (congrFun F_code_in.eq m) p)
/-! ### cloakroom/code.tenanted -/
noncomputable def F_code_tenanted (_ : Fu) (p : Int) : Option (Bool) :=
  let a0 := p
  bif decide ((0 : Int) ≤ a0) then
    some (decide (a0 < (4 : Int)))
  else some false
def F_code_tenanted.ann : List (Nat × Ann) := []
def F_code_tenanted.sig : Sig := ⟨[.val false [.int .i64]], [(false, [.dat .bool])]⟩
noncomputable def F_code_tenanted.S : Summ := ⟨96, F_code_tenanted.sig, F_code_tenanted⟩
noncomputable def F_code_tenanted.G : List Summ := []
theorem F_code_tenanted.eq : absF Try.prog F_code_tenanted.G F_code_tenanted.ann F_code_tenanted.sig Try.f96 = F_code_tenanted := by kernel_rfl
theorem F_code_tenanted.sound : Sound Try.prog F_code_tenanted.S := absF_sound (fn := Try.f96) (Γ := F_code_tenanted.G) all_nil mix (by kernel_rfl) (by kernel_rfl) (fun m p => congrFun (congrFun F_code_tenanted.eq m) p)
/-! ### cloakroom/code.may -/
noncomputable def F_code_may.s30 (m : Fu) (a0 : Int) (a1 : Int) (a2 : List Int) (a3 : List Int) (a4 : Int) (a5 : Int) (a6 : Int) (a7 : List Int) (a8 : Int) (a9 : Int) (a10 : Bool) : Option ((Bool × Int × Int × (List Int) × (List Int) × Int × Int × Int × (List Int) × Int × Int × Bool)) :=
  bif a0 == (1 : Int) then
    (F_code_keyed m a2).bind fun x2 =>
    bif x2 then
      bif decide ((a3.length : Int) ≤ (512 : Int)) then
        (F_code_in m (a5, (1099511627776 : Int))).bind fun x5 =>
        some (x5, a0, a1, a2, a3, a4, a5, a6, ([] : List Int), (0 : Int), (0 : Int), false)
      else some (false, a0, a1, a2, a3, a4, a5, a6, ([] : List Int), (0 : Int), (0 : Int), false)
    else some (false, a0, a1, a2, a3, a4, a5, a6, ([] : List Int), (0 : Int), (0 : Int), false)
  else
    bif a0 == (2 : Int) then
      (F_code_keyed m a7).bind fun x7 =>
      bif x7 then
        bif a8 == (1 : Int) then
          some (true, a0, a1, ([] : List Int), ([] : List Int), (0 : Int), (0 : Int), (0 : Int), a7, a8, (0 : Int), false)
        else some ((a8 == (2 : Int)), a0, a1, ([] : List Int), ([] : List Int), (0 : Int), (0 : Int), (0 : Int), a7, a8, (0 : Int), false)
      else some (false, a0, a1, ([] : List Int), ([] : List Int), (0 : Int), (0 : Int), (0 : Int), a7, a8, (0 : Int), false)
    else
      bif a0 == (3 : Int) then some (true, a0, a1, ([] : List Int), ([] : List Int), (0 : Int), (0 : Int), (0 : Int), ([] : List Int), (0 : Int), (0 : Int), false) else
      bif a0 == (4 : Int) then
        (F_code_in m (a9, (1099511627776 : Int))).bind fun x12 =>
        some (x12, a0, (0 : Int), ([] : List Int), ([] : List Int), (0 : Int), (0 : Int), (0 : Int), ([] : List Int), (0 : Int), a9, false)
      else
        bif a0 == (5 : Int) then
          (F_code_in m (a9, (16 : Int))).bind fun x14 =>
          some (x14, a0, a1, ([] : List Int), ([] : List Int), (0 : Int), (0 : Int), (0 : Int), ([] : List Int), (0 : Int), a9, false)
        else
          bif a0 == (6 : Int) then
            (F_code_in m (a9, (2147483647 : Int))).bind fun x16 =>
            some (x16, a0, (0 : Int), ([] : List Int), ([] : List Int), (0 : Int), (0 : Int), (0 : Int), ([] : List Int), (0 : Int), a9, a10)
          else
            bif a0 == (7 : Int) then
              (F_code_in m (a9, (2147483647 : Int))).bind fun x18 =>
              some (x18, a0, (0 : Int), ([] : List Int), ([] : List Int), (0 : Int), (0 : Int), (0 : Int), ([] : List Int), (0 : Int), a9, false)
            else some (false, a0, (0 : Int), ([] : List Int), ([] : List Int), (0 : Int), (0 : Int), (0 : Int), ([] : List Int), (0 : Int), (0 : Int), false)
noncomputable def F_code_may (m : Fu) (p : Int × Int × (List Int) × (List Int) × Int × Int × Int × (List Int) × Int × Int × Bool) : Option (Bool) :=
  let a0 := p.1
  let a1 := p.2.1
  let a2 := p.2.2.1
  let a3 := p.2.2.2.1
  let a4 := p.2.2.2.2.1
  let a5 := p.2.2.2.2.2.1
  let a6 := p.2.2.2.2.2.2.1
  let a7 := p.2.2.2.2.2.2.2.1
  let a8 := p.2.2.2.2.2.2.2.2.1
  let a9 := p.2.2.2.2.2.2.2.2.2.1
  let a10 := p.2.2.2.2.2.2.2.2.2.2
  (F_code_may.s30 m a0 a1 a2 a3 a4 a5 a6 a7 a8 a9 a10).bind fun x19 =>
  bif x19.1 then
    (F_code_tenanted m a1).bind fun x20 =>
    bif x20 then
      some ((x19.2.1 == a0) && ((x19.2.2.1 == a1) && (((x19.2.2.2.1 == a2) && ((x19.2.2.2.2.1 == a3) && ((x19.2.2.2.2.2.1 == a4) && ((x19.2.2.2.2.2.2.1 == a5) && ((x19.2.2.2.2.2.2.2.1 == a6) && true))))) && ((x19.2.2.2.2.2.2.2.2.1 == a7) && ((x19.2.2.2.2.2.2.2.2.2.1 == a8) && ((x19.2.2.2.2.2.2.2.2.2.2.1 == a9) && ((x19.2.2.2.2.2.2.2.2.2.2.2 == a10) && true)))))))
    else some false
  else some false
def F_code_may.ann : List (Nat × Ann) := [(30, .jnt [(.normal, ⟨[(4, false, [.dat .bool])], [(96, [.dat (.int .u8), .dat (.int .i64), .dat .str, .dat .str, .dat (.int .u32), .dat (.int .i64), .dat (.int .u64), .dat .str, .dat (.int .u8), .dat (.int .i64), .dat .bool])], [], [], 144⟩)])]
def F_code_may.sig : Sig := ⟨[.val true [.int .u8, .int .i64, .str, .str, .int .u32, .int .i64, .int .u64, .str, .int .u8, .int .i64, .bool]], [(false, [.dat .bool])]⟩
noncomputable def F_code_may.S : Summ := ⟨64, F_code_may.sig, F_code_may⟩
noncomputable def F_code_may.G : List Summ := [F_code_keyed.S, F_code_in.S, F_code_tenanted.S]
theorem F_code_may.eq : absF Try.prog F_code_may.G F_code_may.ann F_code_may.sig Try.f64 = F_code_may := by kernel_rfl
theorem F_code_may.sound : Sound Try.prog F_code_may.S := absF_sound (fn := Try.f64) (Γ := F_code_may.G) (all_cons F_code_keyed.sound (all_cons F_code_in.sound (all_cons F_code_tenanted.sound all_nil))) mix (by kernel_rfl) (by kernel_rfl) (fun m p => congrFun (congrFun F_code_may.eq m) p)
/-! ### cloakroom/code.Small -/
noncomputable def F_code_Small.l28 (_ : Fu) (x1 : Int × (List Int)) : Option (Step (Int × (List Int)) ((Int × (List Int)))) :=
  bif decide ((127 : Int) < x1.1) then
    let x5 := [(bitsOp .or .u8 (IntKind.u8.wrap x1.1) (128 : Int))]
    bif Nat.ble (x1.2.length + x5.length) 140737488351232 then
      some (.next ((shrOp .u64 x1.1 (7 : Int)), (x1.2 ++ x5)))
    else none
  else some (.fin x1)
noncomputable def F_code_Small (m : Fu) (p : Int) : Option (List Int) :=
  let a0 := p
  (iter m (F_code_Small.l28 m) (a0, ([] : List Int))).bind fun x8 =>
  let x10 := [(IntKind.u8.wrap x8.1)]
  bif Nat.ble (x8.2.length + x10.length) 140737488351232 then
    some (x8.2 ++ x10)
  else none
def F_code_Small.ann : List (Nat × Ann) := [(28, .loop ⟨[(0, false, [.dat (.int .u64)]), (3, false, [.own (.int .u8) 48 .wr])], [], [], [], 49⟩ [(.exit 0, ⟨[(0, false, [.dat (.int .u64)]), (3, false, [.own (.int .u8) 48 .wr])], [], [], [], 49⟩)])]
def F_code_Small.sig : Sig := ⟨[.val false [.int .u64]], [(false, [.own (.int .u8) 0 .wr])]⟩
noncomputable def F_code_Small.S : Summ := ⟨38, F_code_Small.sig, F_code_Small⟩
noncomputable def F_code_Small.G : List Summ := []
theorem F_code_Small.eq : absF Try.prog F_code_Small.G F_code_Small.ann F_code_Small.sig Try.f38 = F_code_Small := by kernel_rfl
theorem F_code_Small.sound : Sound Try.prog F_code_Small.S := absF_sound (fn := Try.f38) (Γ := F_code_Small.G) all_nil mix (by kernel_rfl) (by kernel_rfl) (fun m p => congrFun (congrFun F_code_Small.eq m) p)
/-! ### cloakroom/code.nums -/
noncomputable def F_code_nums.l26 (m : Fu) (a1 : List Int) (x1 : Int) (x2 : (List Int) × Int) : Option (Step ((List Int) × Int) ((List Int))) :=
  bif decide (x2.2 < x1) then
    bif (decide ((0 : Int) ≤ x2.2)) && (decide (x2.2 < (a1.length : Int))) then
      (F_code_Small m (IntKind.u64.wrap (a1.getD x2.2.toNat 0))).bind fun x6 =>
      bif Nat.ble (x2.1.length + x6.length) 140737488351232 then
        some (.next ((x2.1 ++ x6), (IntKind.i64.wrap (x2.2 + (1 : Int)))))
      else none
    else none
  else some (.fin x2.1)
noncomputable def F_code_nums (m : Fu) (p : (List Int) × (List Int)) : Option (List Int) :=
  let a0 := p.1
  let a1 := p.2
  (iter m (F_code_nums.l26 m a1 (a1.length : Int)) (a0, (0 : Int))).bind fun x9 =>
  some x9
def F_code_nums.ann : List (Nat × Ann) := [(26, .loop ⟨[(0, false, [.own (.int .u8) 96 .fr]), (9, false, [.dat (.int .i64)])], [], [], [0], 97⟩ [(.exit 0, ⟨[(0, false, [.own (.int .u8) 96 .fr])], [], [], [0], 97⟩)])]
def F_code_nums.sig : Sig := ⟨[.own (.int .u8), .val false [.sl (.int .i64)]], [(false, [.own (.int .u8) 0 .fr])]⟩
noncomputable def F_code_nums.S : Summ := ⟨65, F_code_nums.sig, F_code_nums⟩
noncomputable def F_code_nums.G : List Summ := [F_code_Small.S]
theorem F_code_nums.eq : absF Try.prog F_code_nums.G F_code_nums.ann F_code_nums.sig Try.f65 = F_code_nums := by kernel_rfl
theorem F_code_nums.sound : Sound Try.prog F_code_nums.S := absF_sound (fn := Try.f65) (Γ := F_code_nums.G) (all_cons F_code_Small.sound all_nil) mix (by kernel_rfl) (by kernel_rfl) (fun m p => congrFun (congrFun F_code_nums.eq m) p)
/-! ### cloakroom/code.Text -/
noncomputable def F_code_Text (m : Fu) (p : List Int) : Option (List Int) :=
  let a0 := p
  (F_code_Small m (IntKind.u64.wrap (a0.length : Int))).bind fun x3 =>
  bif Nat.ble (x3.length + a0.length) 140737488351232 then
    some (x3 ++ a0)
  else none
def F_code_Text.ann : List (Nat × Ann) := []
def F_code_Text.sig : Sig := ⟨[.val false [.str]], [(false, [.own (.int .u8) 0 .wr])]⟩
noncomputable def F_code_Text.S : Summ := ⟨56, F_code_Text.sig, F_code_Text⟩
noncomputable def F_code_Text.G : List Summ := [F_code_Small.S]
theorem F_code_Text.eq : absF Try.prog F_code_Text.G F_code_Text.ann F_code_Text.sig Try.f56 = F_code_Text := by kernel_rfl
theorem F_code_Text.sound : Sound Try.prog F_code_Text.S := absF_sound (fn := Try.f56) (Γ := F_code_Text.G) (all_cons F_code_Small.sound all_nil) mix (by kernel_rfl) (by kernel_rfl) (fun m p => congrFun (congrFun F_code_Text.eq m) p)
/-! ### cloakroom/code.texts -/
noncomputable def F_code_texts.l26 (m : Fu) (a1 : List (List Int)) (x1 : Int) (x2 : (List Int) × Int) : Option (Step ((List Int) × Int) ((List Int))) :=
  bif decide (x2.2 < x1) then
    bif (decide ((0 : Int) ≤ x2.2)) && (decide (x2.2 < (a1.length : Int))) then
      (F_code_Text m (a1.getD x2.2.toNat [])).bind fun x5 =>
      bif Nat.ble (x2.1.length + x5.length) 140737488351232 then
        some (.next ((x2.1 ++ x5), (IntKind.i64.wrap (x2.2 + (1 : Int)))))
      else none
    else none
  else some (.fin x2.1)
noncomputable def F_code_texts (m : Fu) (p : (List Int) × (List (List Int))) : Option (List Int) :=
  let a0 := p.1
  let a1 := p.2
  (iter m (F_code_texts.l26 m a1 (a1.length : Int)) (a0, (0 : Int))).bind fun x8 =>
  some x8
def F_code_texts.ann : List (Nat × Ann) := [(26, .loop ⟨[(0, false, [.own (.int .u8) 96 .fr]), (9, false, [.dat (.int .i64)])], [], [], [0], 97⟩ [(.exit 0, ⟨[(0, false, [.own (.int .u8) 96 .fr])], [], [], [0], 97⟩)])]
def F_code_texts.sig : Sig := ⟨[.own (.int .u8), .val false [.sl .str]], [(false, [.own (.int .u8) 0 .fr])]⟩
noncomputable def F_code_texts.S : Summ := ⟨97, F_code_texts.sig, F_code_texts⟩
noncomputable def F_code_texts.G : List Summ := [F_code_Text.S]
theorem F_code_texts.eq : absF Try.prog F_code_texts.G F_code_texts.ann F_code_texts.sig Try.f97 = F_code_texts := by kernel_rfl
theorem F_code_texts.sound : Sound Try.prog F_code_texts.S := absF_sound (fn := Try.f97) (Γ := F_code_texts.G) (all_cons F_code_Text.sound all_nil) mix (by kernel_rfl) (by kernel_rfl) (fun m p => congrFun (congrFun F_code_texts.eq m) p)
/-! ### cloakroom/code.put -/
noncomputable def F_code_put.s116 (_ : Fu) (a1 : Int) : Option (Bool) :=
  let x3 := a1 == (1 : Int)
  bif x3 then some x3 else
  let x4 := a1 == (2 : Int)
  bif x4 then some x4 else
  let x5 := a1 == (3 : Int)
  bif x5 then
    some x5
  else some (a1 == (5 : Int))
noncomputable def F_code_put.s14 (m : Fu) (a1 : Int) (a2 : Int) (x2 : List Int) : Option ((List Int)) :=
  (F_code_put.s116 m a1).bind fun x7 =>
  bif x7 then
    (F_code_nums m (x2, ([a2]))).bind fun x9 =>
    some x9
  else some x2
noncomputable def F_code_put.s3934 (_ : Fu) (a1 : Int) : Option (Bool) :=
  let x24 := a1 == (4 : Int)
  bif x24 then some x24 else
  let x25 := a1 == (5 : Int)
  bif x25 then some x25 else
  let x26 := a1 == (6 : Int)
  bif x26 then
    some x26
  else some (a1 == (7 : Int))
noncomputable def F_code_put.s30 (m : Fu) (a1 : Int) (a3 : List Int) (a4 : List Int) (a5 : Int) (a6 : Int) (a7 : Int) (a8 : List Int) (a9 : Int) (a10 : Int) (x10 : (List Int)) : Option ((List Int) ⊕ (List Int)) :=
  bif a1 == (1 : Int) then
    (F_code_texts m (x10, ([a3, a4]))).bind fun x13 =>
    (F_code_nums m (x13, ([(IntKind.i64.wrap a5), a6]))).bind fun x16 =>
    (F_code_Small m a7).bind fun x17 =>
    bif Nat.ble (x16.length + x17.length) 140737488351232 then
      some (Sum.inl (x16 ++ x17))
    else none
  else
    bif a1 == (2 : Int) then
      (F_code_texts m (x10, ([a8]))).bind fun x21 =>
      let x22 := [a9]
      bif Nat.ble (x21.length + x22.length) 140737488351232 then
        some (Sum.inl (x21 ++ x22))
      else none
    else
      (F_code_put.s3934 m a1).bind fun x28 =>
      bif x28 then
        (F_code_nums m (x10, ([a10]))).bind fun x30 =>
        some (Sum.inr x30)
      else some (Sum.inr x10)
noncomputable def F_code_put (m : Fu) (p : (List Int) × Int × Int × (List Int) × (List Int) × Int × Int × Int × (List Int) × Int × Int × Bool) : Option (List Int) :=
  let a0 := p.1
  let a1 := p.2.1
  let a2 := p.2.2.1
  let a3 := p.2.2.2.1
  let a4 := p.2.2.2.2.1
  let a5 := p.2.2.2.2.2.1
  let a6 := p.2.2.2.2.2.2.1
  let a7 := p.2.2.2.2.2.2.2.1
  let a8 := p.2.2.2.2.2.2.2.2.1
  let a9 := p.2.2.2.2.2.2.2.2.2.1
  let a10 := p.2.2.2.2.2.2.2.2.2.2.1
  let a11 := p.2.2.2.2.2.2.2.2.2.2.2
  let x1 := [a1]
  bif Nat.ble (a0.length + x1.length) 140737488351232 then
    (F_code_put.s14 m a1 a2 (a0 ++ x1)).bind fun x10 =>
    (F_code_put.s30 m a1 a3 a4 a5 a6 a7 a8 a9 a10 x10).bind fun x31 =>
    match x31 with
    | .inl x32 =>
      some x32
    | .inr x33 =>
      bif a1 == (6 : Int) then
        bif a11 then
          bif Nat.ble (x33.length + 1) 140737488351232 then
            some (x33 ++ ([1] : List Int))
          else none
        else
          bif Nat.ble (x33.length + 1) 140737488351232 then
            some (x33 ++ ([0] : List Int))
          else none
      else some x33
  else none
def F_code_put.ann : List (Nat × Ann) := [(14, .jnt [(.normal, ⟨[(0, false, [.own (.int .u8) 160 .fr])], [], [], [128], 161⟩)]),
  (30, .jnt [(.ret, ⟨[(4, false, [.own (.int .u8) 161 .fr])], [], [], [160], 162⟩), (.normal, ⟨[(0, false, [.own (.int .u8) 161 .fr])], [], [], [160], 162⟩)]),
  (116, .jnt [(.normal, ⟨[(12, false, [.dat .bool])], [], [], [], 192⟩)]),
  (3934, .jnt [(.normal, ⟨[(61, false, [.dat .bool])], [], [], [], 257⟩)])]
def F_code_put.sig : Sig := ⟨[.own (.int .u8), .val true [.int .u8, .int .i64, .str, .str, .int .u32, .int .i64, .int .u64, .str, .int .u8, .int .i64, .bool]], [(false, [.own (.int .u8) 0 .fr])]⟩
noncomputable def F_code_put.S : Summ := ⟨66, F_code_put.sig, F_code_put⟩
noncomputable def F_code_put.G : List Summ := [F_code_nums.S, F_code_texts.S, F_code_Small.S]
theorem F_code_put.eq : absF Try.prog F_code_put.G F_code_put.ann F_code_put.sig Try.f66 = F_code_put := by kernel_rfl
theorem F_code_put.sound : Sound Try.prog F_code_put.S := absF_sound (fn := Try.f66) (Γ := F_code_put.G) (all_cons F_code_nums.sound (all_cons F_code_texts.sound (all_cons F_code_Small.sound all_nil))) mix (by kernel_rfl) (by kernel_rfl) (fun m p => congrFun (congrFun F_code_put.eq m) p)
/-! ### cloakroom/code.Changes -/
noncomputable def F_code_Changes.l58 (m : Fu) (a0 : List (Int × Int × ((List Int) × (List Int) × Int × Int × Int) × (List Int) × Int × Int × Bool)) (x3 : Int) (x4 : Int) : Option (Step Int (Int ⊕ Unit)) :=
  bif decide (x4 < x3) then
    bif (decide ((0 : Int) ≤ x4)) && (decide (x4 < (a0.length : Int))) then
      let x6 := a0.getD x4.toNat (0, (0, (([], ([], (0, (0, 0)))), ([], (0, (0, false))))))
      (F_code_may m (x6.1, x6.2.1, x6.2.2.1.1, x6.2.2.1.2.1, x6.2.2.1.2.2.1, x6.2.2.1.2.2.2.1, x6.2.2.1.2.2.2.2, x6.2.2.2)).bind fun x7 =>
      bif !x7 then
        some (.fin (Sum.inl (8 : Int)))
      else some (.next (IntKind.i64.wrap (x4 + (1 : Int))))
    else none
  else some (.fin (Sum.inr ()))
noncomputable def F_code_Changes.l250 (m : Fu) (a0 : List (Int × Int × ((List Int) × (List Int) × Int × Int × Int) × (List Int) × Int × Int × Bool)) (x16 : Int) (x17 : (List Int) × Int) : Option (Step ((List Int) × Int) (Int ⊕ (List Int))) :=
  bif decide (x17.2 < x16) then
    bif (decide ((0 : Int) ≤ x17.2)) && (decide (x17.2 < (a0.length : Int))) then
      let x19 := a0.getD x17.2.toNat (0, (0, (([], ([], (0, (0, 0)))), ([], (0, (0, false))))))
      (F_code_put m (x17.1, x19.1, x19.2.1, x19.2.2.1.1, x19.2.2.1.2.1, x19.2.2.1.2.2.1, x19.2.2.1.2.2.2.1, x19.2.2.1.2.2.2.2, x19.2.2.2)).bind fun x20 =>
      bif decide ((65536 : Int) < (x20.length : Int)) then
        some (.fin (Sum.inl (3 : Int)))
      else some (.next (x20, (IntKind.i64.wrap (x17.2 + (1 : Int)))))
    else none
  else some (.fin (Sum.inr x17.1))
noncomputable def F_code_Changes (m : Fu) (p : List (Int × Int × ((List Int) × (List Int) × Int × Int × Int) × (List Int) × Int × Int × Bool)) : Option ((List Int) × Int) :=
  let a0 := p
  bif decide ((4096 : Int) < (a0.length : Int)) then some (([] : List Int), (4 : Int)) else
  (iter m (F_code_Changes.l58 m a0 (a0.length : Int)) (0 : Int)).bind fun x10 =>
  match x10 with
  | .inl x11 =>
    some (([] : List Int), x11)
  | .inr _ =>
    (F_code_nums m (([] : List Int), ([(a0.length : Int)]))).bind fun x15 =>
    (iter m (F_code_Changes.l250 m a0 (a0.length : Int)) (x15, (0 : Int))).bind fun x24 =>
    match x24 with
    | .inl x25 =>
      some (([] : List Int), x25)
    | .inr x26 =>
      some (x26, (0 : Int))
def F_code_Changes.ann : List (Nat × Ann) := [(58, .loop ⟨[(14, false, [.dat (.int .i64)])], [], [], [], 144⟩ [(.ret, ⟨[(2, false, [.cst .nils]), (3, false, [.dat (.int .i64)])], [], [], [], 144⟩), (.exit 0, ⟨[], [], [], [], 144⟩)]),
  (250, .loop ⟨[(6, false, [.own (.int .u8) 272 .fr]), (28, false, [.dat (.int .i64)])], [], [], [192], 273⟩ [(.ret, ⟨[(2, false, [.cst .nils]), (3, false, [.dat (.int .i64)])], [], [], [192], 272⟩), (.exit 2, ⟨[(6, false, [.own (.int .u8) 272 .fr])], [], [], [192], 273⟩)])]
def F_code_Changes.sig : Sig := ⟨[.val false [.sl (.pr (.int .u8) (.pr (.int .i64) (.pr (.pr .str (.pr .str (.pr (.int .u32) (.pr (.int .i64) (.int .u64))))) (.pr .str (.pr (.int .u8) (.pr (.int .i64) .bool))))))]], [(false, [.own (.int .u8) 0 .fr]), (false, [.dat (.int .i64)])]⟩
noncomputable def F_code_Changes.S : Summ := ⟨34, F_code_Changes.sig, F_code_Changes⟩
noncomputable def F_code_Changes.G : List Summ := [F_code_may.S, F_code_nums.S, F_code_put.S]
theorem F_code_Changes.eq : absF Try.prog F_code_Changes.G F_code_Changes.ann F_code_Changes.sig Try.f34 = F_code_Changes := by kernel_rfl
theorem F_code_Changes.sound : Sound Try.prog F_code_Changes.S := absF_sound (fn := Try.f34) (Γ := F_code_Changes.G) (all_cons F_code_may.sound (all_cons F_code_nums.sound (all_cons F_code_put.sound all_nil))) mix (by kernel_rfl) (by kernel_rfl) (fun m p => congrFun (congrFun F_code_Changes.eq m) p)
/-! ### bytes.Equal -/
noncomputable def F_bytes_Equal (_ : Fu) (p : (List Int) × (List Int)) : Option (Bool) :=
  let a0 := p.1
  let a1 := p.2
  some (a0 == a1)
def F_bytes_Equal.ann : List (Nat × Ann) := []
def F_bytes_Equal.sig : Sig := ⟨[.val false [.sl (.int .u8)], .val false [.sl (.int .u8)]], [(false, [.dat .bool])]⟩
noncomputable def F_bytes_Equal.S : Summ := ⟨44, F_bytes_Equal.sig, F_bytes_Equal⟩
noncomputable def F_bytes_Equal.G : List Summ := []
theorem F_bytes_Equal.eq : absF Try.prog F_bytes_Equal.G F_bytes_Equal.ann F_bytes_Equal.sig Try.f44 = F_bytes_Equal := by kernel_rfl
theorem F_bytes_Equal.sound : Sound Try.prog F_bytes_Equal.S := absF_sound (fn := Try.f44) (Γ := F_bytes_Equal.G) all_nil mix (by kernel_rfl) (by kernel_rfl) (fun m p => congrFun (congrFun F_bytes_Equal.eq m) p)
/-! ### cloakroom/code.OfChanges -/
noncomputable def F_code_OfChanges.l250 (m : Fu) (x3 : Int × (List Int) × Bool) (x4 : (List (Int × Int × ((List Int) × (List Int) × Int × Int × Int) × (List Int) × Int × Int × Bool)) × Int × (List Int) × Bool) : Option (Step ((List (Int × Int × ((List Int) × (List Int) × Int × Int × Int) × (List Int) × Int × Int × Bool)) × Int × (List Int) × Bool) (Int ⊕ ((List (Int × Int × ((List Int) × (List Int) × Int × Int × Int) × (List Int) × Int × Int × Bool)) × (List Int) × Bool))) :=
  bif decide (x4.2.1 < x3.1) then
    (F_code_reader_change m x4.2.2).bind fun x6 =>
    let x7 := [(x6.1, (x6.2.1, ((x6.2.2.1, (x6.2.2.2.1, (x6.2.2.2.2.1, (x6.2.2.2.2.2.1, x6.2.2.2.2.2.2.1)))), (x6.2.2.2.2.2.2.2.1, (x6.2.2.2.2.2.2.2.2.1, (x6.2.2.2.2.2.2.2.2.2.1, x6.2.2.2.2.2.2.2.2.2.2.1))))))]
    bif Nat.ble (x4.1.length + x7.length) 4294967296 then
      bif x6.2.2.2.2.2.2.2.2.2.2.2.2 then
        some (.fin (Sum.inl (8 : Int)))
      else some (.next ((x4.1 ++ x7), (IntKind.i64.wrap (x4.2.1 + (1 : Int))), x6.2.2.2.2.2.2.2.2.2.2.2))
    else none
  else some (.fin (Sum.inr (x4.1, x4.2.2)))
noncomputable def F_code_OfChanges (m : Fu) (p : List Int) : Option ((List (Int × Int × ((List Int) × (List Int) × Int × Int × Int) × (List Int) × Int × Int × Bool)) × Int) :=
  let a0 := p
  bif decide ((65536 : Int) < (a0.length : Int)) then some (([] : List (Int × Int × ((List Int) × (List Int) × Int × Int × Int) × (List Int) × Int × Int × Bool)), (3 : Int)) else
  (F_code_reader_num m (a0, false, (4096 : Int))).bind fun x3 =>
  (iter m (F_code_OfChanges.l250 m x3) (([] : List (Int × Int × ((List Int) × (List Int) × Int × Int × Int) × (List Int) × Int × Int × Bool)), (0 : Int), x3.2)).bind fun x10 =>
  match x10 with
  | .inl x11 =>
    some (([] : List (Int × Int × ((List Int) × (List Int) × Int × Int × Int) × (List Int) × Int × Int × Bool)), x11)
  | .inr x12 =>
    (F_code_Changes m x12.1).bind fun x13 =>
    bif x12.2.2 then some (([] : List (Int × Int × ((List Int) × (List Int) × Int × Int × Int) × (List Int) × Int × Int × Bool)), (8 : Int)) else
    bif x13.2 != (0 : Int) then some (([] : List (Int × Int × ((List Int) × (List Int) × Int × Int × Int) × (List Int) × Int × Int × Bool)), (8 : Int)) else
    (F_bytes_Equal m (x13.1, a0)).bind fun x15 =>
    bif !x15 then
      some (([] : List (Int × Int × ((List Int) × (List Int) × Int × Int × Int) × (List Int) × Int × Int × Bool)), (8 : Int))
    else some (x12.1, (0 : Int))
def F_code_OfChanges.ann : List (Nat × Ann) := [(250, .loop ⟨[(5, false, [.own (.pr (.int .u8) (.pr (.int .i64) (.pr (.pr .str (.pr .str (.pr (.int .u32) (.pr (.int .i64) (.int .u64))))) (.pr .str (.pr (.int .u8) (.pr (.int .i64) .bool)))))) 224 .wr]), (16, false, [.dat (.int .i64)])], [(128, [.dat (.sl (.int .u8)), .dat .bool])], [], [], 225⟩ [(.ret, ⟨[(2, false, [.cst .nils]), (3, false, [.dat (.int .i64)])], [], [], [128], 224⟩), (.exit 0, ⟨[(5, false, [.own (.pr (.int .u8) (.pr (.int .i64) (.pr (.pr .str (.pr .str (.pr (.int .u32) (.pr (.int .i64) (.int .u64))))) (.pr .str (.pr (.int .u8) (.pr (.int .i64) .bool)))))) 224 .wr])], [(128, [.dat (.sl (.int .u8)), .dat .bool])], [], [], 225⟩)])]
def F_code_OfChanges.sig : Sig := ⟨[.val false [.sl (.int .u8)]], [(false, [.own (.pr (.int .u8) (.pr (.int .i64) (.pr (.pr .str (.pr .str (.pr (.int .u32) (.pr (.int .i64) (.int .u64))))) (.pr .str (.pr (.int .u8) (.pr (.int .i64) .bool)))))) 0 .fr]), (false, [.dat (.int .i64)])]⟩
noncomputable def F_code_OfChanges.S : Summ := ⟨78, F_code_OfChanges.sig, F_code_OfChanges⟩
noncomputable def F_code_OfChanges.G : List Summ := [F_code_reader_num.S, F_code_reader_change.S, F_code_Changes.S, F_bytes_Equal.S]
theorem F_code_OfChanges.eq : absF Try.prog F_code_OfChanges.G F_code_OfChanges.ann F_code_OfChanges.sig Try.f78 = F_code_OfChanges := by kernel_rfl
theorem F_code_OfChanges.sound : Sound Try.prog F_code_OfChanges.S := absF_sound (fn := Try.f78) (Γ := F_code_OfChanges.G) (all_cons F_code_reader_num.sound (all_cons F_code_reader_change.sound (all_cons F_code_Changes.sound (all_cons F_bytes_Equal.sound all_nil)))) mix (by kernel_rfl) (by kernel_rfl) (fun m p => congrFun (congrFun F_code_OfChanges.eq m) p)
/-! ### cloakroom/numbers.changes -/
noncomputable def F_numbers_changes (m : Fu) (p : List Int) : Option (Bool) :=
  let a0 := p
  (F_code_OfChanges m a0).bind fun x1 =>
  some (x1.2 == (0 : Int))
def F_numbers_changes.ann : List (Nat × Ann) := []
def F_numbers_changes.sig : Sig := ⟨[.val false [.sl (.int .u8)]], [(false, [.dat .bool])]⟩
noncomputable def F_numbers_changes.S : Summ := ⟨51, F_numbers_changes.sig, F_numbers_changes⟩
noncomputable def F_numbers_changes.G : List Summ := [F_code_OfChanges.S]
theorem F_numbers_changes.eq : absF Try.prog F_numbers_changes.G F_numbers_changes.ann F_numbers_changes.sig Try.f51 = F_numbers_changes := by kernel_rfl
theorem F_numbers_changes.sound : Sound Try.prog F_numbers_changes.S := absF_sound (fn := Try.f51) (Γ := F_numbers_changes.G) (all_cons F_code_OfChanges.sound all_nil) mix (by kernel_rfl) (by kernel_rfl) (fun m p => congrFun (congrFun F_numbers_changes.eq m) p)
/-! ### cloakroom/numbers.Check$1 -/
noncomputable def F_numbers_Check_c1 (m : Fu) (p : List Int) : Option (Bool) :=
  let a0 := p
  (F_numbers_changes m a0).bind fun x1 =>
  some (!x1)
def F_numbers_Check_c1.ann : List (Nat × Ann) := []
def F_numbers_Check_c1.sig : Sig := ⟨[.val false [.sl (.int .u8)]], [(false, [.dat .bool])]⟩
noncomputable def F_numbers_Check_c1.S : Summ := ⟨50, F_numbers_Check_c1.sig, F_numbers_Check_c1⟩
noncomputable def F_numbers_Check_c1.G : List Summ := [F_numbers_changes.S]
theorem F_numbers_Check_c1.eq : absF Try.prog F_numbers_Check_c1.G F_numbers_Check_c1.ann F_numbers_Check_c1.sig Try.f50 = F_numbers_Check_c1 := by kernel_rfl
theorem F_numbers_Check_c1.sound : Sound Try.prog F_numbers_Check_c1.S := absF_sound (fn := Try.f50) (Γ := F_numbers_Check_c1.G) (all_cons F_numbers_changes.sound all_nil) mix (by kernel_rfl) (by kernel_rfl) (fun m p => congrFun (congrFun F_numbers_Check_c1.eq m) p)
/-! ### slices.IndexFunc[[][]byte,[]byte] -/
noncomputable def F_slices_IndexFunc_byte.l26 (m : Fu) (a0 : List (List Int)) (x1 : Int) (x2 : Int) : Option (Step Int (Int ⊕ Unit)) :=
  bif decide (x2 < x1) then
    bif (decide ((0 : Int) ≤ x2)) && (decide (x2 < (a0.length : Int))) then
      (F_numbers_Check_c1 m (a0.getD x2.toNat [])).bind fun x5 =>
      bif x5 then
        some (.fin (Sum.inl x2))
      else some (.next (IntKind.i64.wrap (x2 + (1 : Int))))
    else none
  else some (.fin (Sum.inr ()))
noncomputable def F_slices_IndexFunc_byte (m : Fu) (p : List (List Int)) : Option (Int) :=
  let a0 := p
  (iter m (F_slices_IndexFunc_byte.l26 m a0 (a0.length : Int)) (0 : Int)).bind fun x7 =>
  match x7 with
  | .inl x8 =>
    some x8
  | .inr _ =>
    some (-1 : Int)
def F_slices_IndexFunc_byte.ann : List (Nat × Ann) := [(26, .loop ⟨[(8, false, [.dat (.int .i64)])], [], [], [], 96⟩ [(.ret, ⟨[(4, false, [.dat (.int .i64)])], [], [], [], 96⟩), (.exit 0, ⟨[], [], [], [], 96⟩)])]
def F_slices_IndexFunc_byte.sig : Sig := ⟨[.val false [.sl (.sl (.int .u8))], .fn 50 []], [(false, [.dat (.int .i64)])]⟩
noncomputable def F_slices_IndexFunc_byte.S : Summ := ⟨77, F_slices_IndexFunc_byte.sig, F_slices_IndexFunc_byte⟩
noncomputable def F_slices_IndexFunc_byte.G : List Summ := [F_numbers_Check_c1.S]
theorem F_slices_IndexFunc_byte.eq : absF Try.prog F_slices_IndexFunc_byte.G F_slices_IndexFunc_byte.ann F_slices_IndexFunc_byte.sig Try.f77 = F_slices_IndexFunc_byte := by kernel_rfl
theorem F_slices_IndexFunc_byte.sound : Sound Try.prog F_slices_IndexFunc_byte.S := absF_sound (fn := Try.f77) (Γ := F_slices_IndexFunc_byte.G) (all_cons F_numbers_Check_c1.sound all_nil) mix (by kernel_rfl) (by kernel_rfl) (fun m p => congrFun (congrFun F_slices_IndexFunc_byte.eq m) p)
/-! ### slices.ContainsFunc[[][]byte,[]byte] -/
noncomputable def F_slices_ContainsFunc_byte (m : Fu) (p : List (List Int)) : Option (Bool) :=
  let a0 := p
  (F_slices_IndexFunc_byte m a0).bind fun x1 =>
  some (decide ((0 : Int) ≤ x1))
def F_slices_ContainsFunc_byte.ann : List (Nat × Ann) := []
def F_slices_ContainsFunc_byte.sig : Sig := ⟨[.val false [.sl (.sl (.int .u8))], .fn 50 []], [(false, [.dat .bool])]⟩
noncomputable def F_slices_ContainsFunc_byte.S : Summ := ⟨49, F_slices_ContainsFunc_byte.sig, F_slices_ContainsFunc_byte⟩
noncomputable def F_slices_ContainsFunc_byte.G : List Summ := [F_slices_IndexFunc_byte.S]
theorem F_slices_ContainsFunc_byte.eq : absF Try.prog F_slices_ContainsFunc_byte.G F_slices_ContainsFunc_byte.ann F_slices_ContainsFunc_byte.sig Try.f49 = F_slices_ContainsFunc_byte := by kernel_rfl
theorem F_slices_ContainsFunc_byte.sound : Sound Try.prog F_slices_ContainsFunc_byte.S := absF_sound (fn := Try.f49) (Γ := F_slices_ContainsFunc_byte.G) (all_cons F_slices_IndexFunc_byte.sound all_nil) mix (by kernel_rfl) (by kernel_rfl) (fun m p => congrFun (congrFun F_slices_ContainsFunc_byte.eq m) p)
/-! ### cloakroom/numbers.Check -/
noncomputable def F_numbers_Check (m : Fu) (p : Int × Int × Int × (List (List Int))) : Option (Int) :=
  let a0 := p.1
  let a1 := p.2.1
  let a2 := p.2.2.1
  let a3 := p.2.2.2
  (F_numbers_in m a0).bind fun x1 =>
  bif !x1 then some (8 : Int) else
  (F_numbers_in m a1).bind fun x3 =>
  bif !x3 then some (8 : Int) else
  bif decide (a2 < (0 : Int)) then some (8 : Int) else
  bif decide (a1 < a2) then some (8 : Int) else
  bif decide ((mnI (32 : Int) a1) < (a3.length : Int)) then some (8 : Int) else
  (F_slices_ContainsFunc_byte m a3).bind fun x10 =>
  bif x10 then
    some (8 : Int)
  else some (0 : Int)
def F_numbers_Check.ann : List (Nat × Ann) := []
def F_numbers_Check.sig : Sig := ⟨[.val true [.int .i64, .int .i64, .int .i64, .sl (.sl (.int .u8))]], [(false, [.dat (.int .i64)])]⟩
noncomputable def F_numbers_Check.S : Summ := ⟨19, F_numbers_Check.sig, F_numbers_Check⟩
noncomputable def F_numbers_Check.G : List Summ := [F_numbers_in.S, F_slices_ContainsFunc_byte.S]
theorem F_numbers_Check.eq : absF Try.prog F_numbers_Check.G F_numbers_Check.ann F_numbers_Check.sig Try.f19 = F_numbers_Check := by kernel_rfl
theorem F_numbers_Check.sound : Sound Try.prog F_numbers_Check.S := absF_sound (fn := Try.f19) (Γ := F_numbers_Check.G) (all_cons F_numbers_in.sound (all_cons F_slices_ContainsFunc_byte.sound all_nil)) mix (by kernel_rfl) (by kernel_rfl) (fun m p => congrFun (congrFun F_numbers_Check.eq m) p)
/-! ### bytes.Clone -/
noncomputable def F_bytes_Clone (_ : Fu) (p : List Int) : Option (List Int) :=
  let a0 := p
  match a0 with
  | [] => same2
   (
    some ([] : List Int))
   (
    bif Nat.ble (0 + a0.length) 140737488351232 then
      some (([] : List Int) ++ a0)
    else none)
  | _ :: _ =>
    bif Nat.ble (0 + a0.length) 140737488351232 then
      some (([] : List Int) ++ a0)
    else none
def F_bytes_Clone.ann : List (Nat × Ann) := []
def F_bytes_Clone.sig : Sig := ⟨[.val false [.sl (.int .u8)]], [(false, [.own (.int .u8) 0 .wr])]⟩
noncomputable def F_bytes_Clone.S : Summ := ⟨75, F_bytes_Clone.sig, F_bytes_Clone⟩
noncomputable def F_bytes_Clone.G : List Summ := []
theorem F_bytes_Clone.eq : absF Try.prog F_bytes_Clone.G F_bytes_Clone.ann F_bytes_Clone.sig Try.f75 = F_bytes_Clone := by kernel_rfl
theorem F_bytes_Clone.sound : Sound Try.prog F_bytes_Clone.S := absF_sound (fn := Try.f75) (Γ := F_bytes_Clone.G) all_nil mix (by kernel_rfl) (by kernel_rfl) (fun m p => congrFun (congrFun F_bytes_Clone.eq m) p)
noncomputable def C_bytes_Clone (m : Fu) (p : List Int) : Option (List Int) := bif Nat.ble p.length 140737488351232 then some p else none
theorem C_bytes_Clone.is : F_bytes_Clone = C_bytes_Clone := by
  funext m p
  have h0 : Nat.ble 0 140737488351232 = true := rfl
  cases p <;> simp [F_bytes_Clone, C_bytes_Clone, same2_self, h0]
noncomputable def C_bytes_Clone.S : Summ := ⟨75, F_bytes_Clone.sig, C_bytes_Clone⟩
theorem C_bytes_Clone.sound : Sound Try.prog C_bytes_Clone.S := by
  have h := F_bytes_Clone.sound
  unfold F_bytes_Clone.S at h
  rw [C_bytes_Clone.is] at h
  exact h
/-! ### cloakroom/numbers.twin -/
noncomputable def F_numbers_twin.l122 (m : Fu) (a3 : List (List Int)) (x1 : Int) (x2 : Int × Int × Int × Int × (List (List Int))) : Option (Step (Int × Int × Int × Int × (List (List Int))) ((Int × Int × Int × (List (List Int))))) :=
  bif decide (x2.1 < x1) then
    bif (decide ((0 : Int) ≤ x2.1)) && (decide (x2.1 < (a3.length : Int))) then
      (C_bytes_Clone m (a3.getD x2.1.toNat [])).bind fun x5 =>
      let x6 := [x5]
      bif Nat.ble (x2.2.2.2.2.length + x6.length) 4294967296 then
        some (.next ((IntKind.i64.wrap (x2.1 + (1 : Int))), x2.2.1, x2.2.2.1, x2.2.2.2.1, (x2.2.2.2.2 ++ x6)))
      else none
    else none
  else some (.fin x2.2)
noncomputable def F_numbers_twin (m : Fu) (p : Int × Int × Int × (List (List Int))) : Option (Int × Int × Int × (List (List Int))) :=
  let a0 := p.1
  let a1 := p.2.1
  let a2 := p.2.2.1
  let a3 := p.2.2.2
  (iter m (F_numbers_twin.l122 m a3 (a3.length : Int)) ((0 : Int), a0, a1, a2, ([] : List (List Int)))).bind fun x9 =>
  some x9
def F_numbers_twin.ann : List (Nat × Ann) := [(122, .loop ⟨[(11, false, [.dat (.int .i64)])], [(16, [.dat (.int .i64), .dat (.int .i64), .dat (.int .i64), .own (.sl (.int .u8)) 176 .wr])], [], [], 177⟩ [(.exit 0, ⟨[], [(16, [.dat (.int .i64), .dat (.int .i64), .dat (.int .i64), .own (.sl (.int .u8)) 176 .wr])], [], [], 177⟩)])]
def F_numbers_twin.sig : Sig := ⟨[.val true [.int .i64, .int .i64, .int .i64, .sl (.sl (.int .u8))]], [(true, [.dat (.int .i64), .dat (.int .i64), .dat (.int .i64), .own (.sl (.int .u8)) 0 .wr])]⟩
noncomputable def F_numbers_twin.S : Summ := ⟨53, F_numbers_twin.sig, F_numbers_twin⟩
noncomputable def F_numbers_twin.G : List Summ := [C_bytes_Clone.S]
theorem F_numbers_twin.eq : absF Try.prog F_numbers_twin.G F_numbers_twin.ann F_numbers_twin.sig Try.f53 = F_numbers_twin := by kernel_rfl
theorem F_numbers_twin.sound : Sound Try.prog F_numbers_twin.S := absF_sound (fn := Try.f53) (Γ := F_numbers_twin.G) (all_cons C_bytes_Clone.sound all_nil) mix (by kernel_rfl) (by kernel_rfl) (fun m p => congrFun (congrFun F_numbers_twin.eq m) p)
/-! ### cloakroom/numbers.message -/
noncomputable def F_numbers_message (m : Fu) (p : Int × Int × Int × (List (List Int)) × Int) : Option (Int × Int × Int × (List Int)) :=
  let a0 := p.1
  let a1 := p.2.1
  let a3 := p.2.2.2.1
  let a4 := p.2.2.2.2
  let x4 := IntKind.i64.wrap ((IntKind.i64.wrap ((a3.length : Int) - (1 : Int))) - (IntKind.i64.wrap (a1 - a4)))
  bif (decide ((0 : Int) ≤ x4)) && (decide (x4 < (a3.length : Int))) then
    (C_bytes_Clone m (a3.getD x4.toNat [])).bind fun x6 =>
    some ((1 : Int), a0, a4, x6)
  else none
def F_numbers_message.ann : List (Nat × Ann) := []
def F_numbers_message.sig : Sig := ⟨[.val true [.int .i64, .int .i64, .int .i64, .sl (.sl (.int .u8))], .val false [.int .i64]], [(true, [.dat (.int .u8), .dat (.int .i64), .dat (.int .i64), .own (.int .u8) 0 .wr])]⟩
noncomputable def F_numbers_message.S : Summ := ⟨58, F_numbers_message.sig, F_numbers_message⟩
noncomputable def F_numbers_message.G : List Summ := [C_bytes_Clone.S]
theorem F_numbers_message.eq : absF Try.prog F_numbers_message.G F_numbers_message.ann F_numbers_message.sig Try.f58 = F_numbers_message := by kernel_rfl
theorem F_numbers_message.sound : Sound Try.prog F_numbers_message.S := absF_sound (fn := Try.f58) (Γ := F_numbers_message.G) (all_cons C_bytes_Clone.sound all_nil) mix (by kernel_rfl) (by kernel_rfl) (fun m p => congrFun (congrFun F_numbers_message.eq m) p)
/-! ### cloakroom/numbers.Send -/
noncomputable def F_numbers_Send (m : Fu) (p : Int × Int × Int × (List (List Int)) × (List (Int × Int × ((List Int) × (List Int) × Int × Int × Int) × (List Int) × Int × Int × Bool))) : Option (Int × Int × Int × (List (List Int)) × Int × Int × Int × (List Int) × Int) :=
  let a0 := p.1
  let a1 := p.2.1
  let a2 := p.2.2.1
  let a3 := p.2.2.2.1
  let a4 := p.2.2.2.2
  (F_numbers_Check m (a0, a1, a2, a3)).bind fun x1 =>
  bif x1 != (0 : Int) then some ((0 : Int), (0 : Int), (0 : Int), ([] : List (List Int)), (0 : Int), (0 : Int), (0 : Int), ([] : List Int), x1) else
  (F_code_Changes m a4).bind fun x3 =>
  bif x3.2 != (0 : Int) then some ((0 : Int), (0 : Int), (0 : Int), ([] : List (List Int)), (0 : Int), (0 : Int), (0 : Int), ([] : List Int), x3.2) else
  bif a1 == (2147483647 : Int) then some ((0 : Int), (0 : Int), (0 : Int), ([] : List (List Int)), (0 : Int), (0 : Int), (0 : Int), ([] : List Int), (9 : Int)) else
  (F_numbers_twin m (a0, a1, a2, a3)).bind fun x6 =>
  let x7 := IntKind.i64.wrap (x6.2.1 + (1 : Int))
  let x8 := [x3.1]
  bif Nat.ble (x6.2.2.2.length + x8.length) 4294967296 then
    let x9 := x6.2.2.2 ++ x8
    let x12 := mxI (0 : Int) (IntKind.i64.wrap ((x9.length : Int) - (32 : Int)))
    bif (((decide ((0 : Int) ≤ x12)) && (decide (x12 ≤ (x9.length : Int)))) && (decide ((x9.length : Int) ≤ (x9.length : Int)))) && (decide ((x9.length : Int) ≤ (x9.length : Int))) then
      let x13 := (x9.take ((x9.length : Int).toNat)).drop x12.toNat
      (F_numbers_message m (x6.1, x7, x6.2.2.1, x13, x7)).bind fun x14 =>
      some (x6.1, x7, x6.2.2.1, x13, x14.1, x14.2.1, x14.2.2.1, x14.2.2.2, (0 : Int))
    else none
  else none
def F_numbers_Send.ann : List (Nat × Ann) := []
def F_numbers_Send.sig : Sig := ⟨[.val true [.int .i64, .int .i64, .int .i64, .sl (.sl (.int .u8))], .val false [.sl (.pr (.int .u8) (.pr (.int .i64) (.pr (.pr .str (.pr .str (.pr (.int .u32) (.pr (.int .i64) (.int .u64))))) (.pr .str (.pr (.int .u8) (.pr (.int .i64) .bool))))))]], [(true, [.dat (.int .i64), .dat (.int .i64), .dat (.int .i64), .dat (.sl (.sl (.int .u8)))]), (true, [.dat (.int .u8), .dat (.int .i64), .dat (.int .i64), .own (.int .u8) 0 .wr]), (false, [.dat (.int .i64)])]⟩
noncomputable def F_numbers_Send.S : Summ := ⟨27, F_numbers_Send.sig, F_numbers_Send⟩
noncomputable def F_numbers_Send.G : List Summ := [F_numbers_Check.S, F_code_Changes.S, F_numbers_twin.S, F_numbers_message.S]
theorem F_numbers_Send.eq : absF Try.prog F_numbers_Send.G F_numbers_Send.ann F_numbers_Send.sig Try.f27 = F_numbers_Send := by kernel_rfl
theorem F_numbers_Send.sound : Sound Try.prog F_numbers_Send.S := absF_sound (fn := Try.f27) (Γ := F_numbers_Send.G) (all_cons F_numbers_Check.sound (all_cons F_code_Changes.sound (all_cons F_numbers_twin.sound (all_cons F_numbers_message.sound all_nil)))) mix (by kernel_rfl) (by kernel_rfl) (fun m p => congrFun (congrFun F_numbers_Send.eq m) p)
/-! ### cloakroom/cloakroomlaw24.alive -/
noncomputable def F_law24_alive (m : Fu) (_ : Unit) : Option (Bool) :=
  (F_numbers_New m ((2 : Int), (5 : Int))).bind fun x1 =>
  (F_law24_clock m (7 : Int)).bind fun x2 =>
  (F_numbers_Send m (x1.1, x1.2.1, x1.2.2.1, x1.2.2.2.1, x2)).bind fun x3 =>
  bif x1.2.2.2.2 == (0 : Int) then
    bif x3.2.2.2.2.2.2.2.2 == (0 : Int) then
      bif x3.2.1 == (6 : Int) then
        bif x3.2.2.2.2.1 == (1 : Int) then
          bif x3.2.2.2.2.2.1 == (2 : Int) then
            bif x3.2.2.2.2.2.2.1 == (6 : Int) then
              some (x3.2.2.2.2.2.2.2.1 == ([1, 4, 7] : List Int))
            else some false
          else some false
        else some false
      else some false
    else some false
  else some false
def F_law24_alive.ann : List (Nat × Ann) := []
def F_law24_alive.sig : Sig := ⟨[], [(false, [.dat .bool])]⟩
noncomputable def F_law24_alive.S : Summ := ⟨16, F_law24_alive.sig, F_law24_alive⟩
noncomputable def F_law24_alive.G : List Summ := [F_numbers_New.S, F_law24_clock.S, F_numbers_Send.S]
theorem F_law24_alive.eq : absF Try.prog F_law24_alive.G F_law24_alive.ann F_law24_alive.sig Try.f16 = F_law24_alive := by kernel_rfl
theorem F_law24_alive.sound : Sound Try.prog F_law24_alive.S := absF_sound (fn := Try.f16) (Γ := F_law24_alive.G) (all_cons F_numbers_New.sound (all_cons F_law24_clock.sound (all_cons F_numbers_Send.sound all_nil))) mix (by kernel_rfl) (by kernel_rfl) (fun m p => congrFun (congrFun F_law24_alive.eq m) p)
/-! ### cloakroom/cloakroomref24.Great -/
noncomputable def F_ref24_Great.s232 (_ : Fu) (a3 : List (List Int)) (x1 : Int × Int) : Option (Unit ⊕ Unit) :=
  bif decide (x1.2 < (a3.length : Int)) then
    bif decide (x1.2 < (200 : Int)) then
      some (Sum.inl ())
    else some (Sum.inr ())
  else some (Sum.inr ())
noncomputable def F_ref24_Great.l58 (m : Fu) (a3 : List (List Int)) (x1 : Int × Int) : Option (Step (Int × Int) Int) :=
  (F_ref24_Great.s232 m a3 x1).bind fun x5 =>
  match x5 with
  | .inl _ =>
    bif (decide ((0 : Int) ≤ x1.2)) && (decide (x1.2 < (a3.length : Int))) then
      some (.next ((IntKind.i64.wrap (x1.1 + (mnI ((a3.getD x1.2.toNat []).length : Int) (200000 : Int)))), (IntKind.i64.wrap (x1.2 + (1 : Int)))))
    else none
  | .inr _ =>
    some (.fin x1.1)
noncomputable def F_ref24_Great (m : Fu) (p : Int × Int × Int × (List (List Int))) : Option (Bool) :=
  let a3 := p.2.2.2
  (iter m (F_ref24_Great.l58 m a3) ((0 : Int), (0 : Int))).bind fun x13 =>
  bif decide ((100 : Int) < (a3.length : Int)) then
    some true
  else some (decide ((200000 : Int) < x13))
def F_ref24_Great.ann : List (Nat × Ann) := [(58, .loop ⟨[(3, false, [.dat (.int .i64)]), (4, false, [.dat (.int .i64)])], [], [], [], 80⟩ [(.exit 0, ⟨[(3, false, [.dat (.int .i64)])], [], [], [], 80⟩)]),
  (232, .jnt [(.normal, ⟨[], [], [], [], 80⟩), (.exit 0, ⟨[], [], [], [], 80⟩)])]
def F_ref24_Great.sig : Sig := ⟨[.val true [.int .i64, .int .i64, .int .i64, .sl (.sl (.int .u8))]], [(false, [.dat .bool])]⟩
noncomputable def F_ref24_Great.S : Summ := ⟨17, F_ref24_Great.sig, F_ref24_Great⟩
noncomputable def F_ref24_Great.G : List Summ := []
theorem F_ref24_Great.eq : absF Try.prog F_ref24_Great.G F_ref24_Great.ann F_ref24_Great.sig Try.f17 = F_ref24_Great := by kernel_rfl
theorem F_ref24_Great.sound : Sound Try.prog F_ref24_Great.S := absF_sound (fn := Try.f17) (Γ := F_ref24_Great.G) all_nil mix (by kernel_rfl) (by kernel_rfl) (fun m p => congrFun (congrFun F_ref24_Great.eq m) p)
/-! ### cloakroom/cloakroomref21.Great -/
noncomputable def F_ref21_Great.s232 (_ : Fu) (a2 : List (Int × (List Int) × (List Int) × Int × Int × Int)) (x1 : Int × Int) : Option (Unit ⊕ Unit) :=
  bif decide (x1.2 < (a2.length : Int)) then
    bif decide (x1.2 < (3000 : Int)) then
      some (Sum.inl ())
    else some (Sum.inr ())
  else some (Sum.inr ())
noncomputable def F_ref21_Great.l58 (m : Fu) (a2 : List (Int × (List Int) × (List Int) × Int × Int × Int)) (x1 : Int × Int) : Option (Step (Int × Int) Int) :=
  (F_ref21_Great.s232 m a2 x1).bind fun x5 =>
  match x5 with
  | .inl _ =>
    bif (decide ((0 : Int) ≤ x1.2)) && (decide (x1.2 < (a2.length : Int))) then
      bif (decide ((0 : Int) ≤ x1.2)) && (decide (x1.2 < (a2.length : Int))) then
        some (.next ((IntKind.i64.wrap ((IntKind.i64.wrap (x1.1 + (mnI ((((a2.getD x1.2.toNat (0, ([], ([], (0, (0, 0)))))).2).1).length : Int) (100000 : Int)))) + (mnI (((((a2.getD x1.2.toNat (0, ([], ([], (0, (0, 0)))))).2).2).1).length : Int) (100000 : Int)))), (IntKind.i64.wrap (x1.2 + (1 : Int)))))
      else none
    else none
  | .inr _ =>
    some (.fin x1.1)
noncomputable def F_ref21_Great (m : Fu) (p : Int × (List Int) × (List (Int × (List Int) × (List Int) × Int × Int × Int)) × Int × Int × Bool) : Option (Bool) :=
  let a1 := p.2.1
  let a2 := p.2.2.1
  (iter m (F_ref21_Great.l58 m a2) ((0 : Int), (0 : Int))).bind fun x17 =>
  bif decide ((40 : Int) < (a1.length : Int)) then some true else
  bif decide ((1100 : Int) < (a2.length : Int)) then
    some true
  else some (decide ((400000 : Int) < x17))
def F_ref21_Great.ann : List (Nat × Ann) := [(58, .loop ⟨[(3, false, [.dat (.int .i64)]), (4, false, [.dat (.int .i64)])], [], [], [], 80⟩ [(.exit 0, ⟨[(3, false, [.dat (.int .i64)])], [], [], [], 80⟩)]),
  (232, .jnt [(.normal, ⟨[], [], [], [], 80⟩), (.exit 0, ⟨[], [], [], [], 80⟩)])]
def F_ref21_Great.sig : Sig := ⟨[.val true [.int .i64, .sl (.int .i64), .sl (.pr (.int .i64) (.pr .str (.pr .str (.pr (.int .u32) (.pr (.int .i64) (.int .u64)))))), .int .i64, .int .i64, .bool]], [(false, [.dat .bool])]⟩
noncomputable def F_ref21_Great.S : Summ := ⟨18, F_ref21_Great.sig, F_ref21_Great⟩
noncomputable def F_ref21_Great.G : List Summ := []
theorem F_ref21_Great.eq : absF Try.prog F_ref21_Great.G F_ref21_Great.ann F_ref21_Great.sig Try.f18 = F_ref21_Great := by kernel_rfl
theorem F_ref21_Great.sound : Sound Try.prog F_ref21_Great.S := absF_sound (fn := Try.f18) (Γ := F_ref21_Great.G) all_nil mix (by kernel_rfl) (by kernel_rfl) (fun m p => congrFun (congrFun F_ref21_Great.eq m) p)
/-! ### cloakroom/image.in -/
noncomputable def F_image_in (_ : Fu) (p : Int × Int) : Option (Bool) :=
  let a0 := p.1
  let a1 := p.2
  bif decide ((0 : Int) ≤ a0) then
    some (decide (a0 ≤ a1))
  else some false
def F_image_in.ann : List (Nat × Ann) := []
def F_image_in.sig : Sig := ⟨[.val false [.int .i64], .val false [.int .i64]], [(false, [.dat .bool])]⟩
noncomputable def F_image_in.S : Summ := ⟨79, F_image_in.sig, F_image_in⟩
noncomputable def F_image_in.G : List Summ := []
theorem F_image_in.eq : absF Try.prog F_image_in.G F_image_in.ann F_image_in.sig Try.f79 = F_image_in := by kernel_rfl
theorem F_image_in.sound : Sound Try.prog F_image_in.S := absF_sound (fn := Try.f79) (Γ := F_image_in.G) all_nil mix (by kernel_rfl) (by kernel_rfl) (fun m p => congrFun (congrFun F_image_in.eq m) p)
/-! ### cloakroom/image.quotas$1 -/
noncomputable def F_image_quotas_c1 (m : Fu) (p : Int) : Option (Bool) :=
  let a0 := p
  (F_image_in m (a0, (16 : Int))).bind fun x1 =>
  some (!x1)
def F_image_quotas_c1.ann : List (Nat × Ann) := []
def F_image_quotas_c1.sig : Sig := ⟨[.val false [.int .i64]], [(false, [.dat .bool])]⟩
noncomputable def F_image_quotas_c1.S : Summ := ⟨106, F_image_quotas_c1.sig, F_image_quotas_c1⟩
noncomputable def F_image_quotas_c1.G : List Summ := [F_image_in.S]
theorem F_image_quotas_c1.eq : absF Try.prog F_image_quotas_c1.G F_image_quotas_c1.ann F_image_quotas_c1.sig Try.f106 = F_image_quotas_c1 := by kernel_rfl
theorem F_image_quotas_c1.sound : Sound Try.prog F_image_quotas_c1.S := absF_sound (fn := Try.f106) (Γ := F_image_quotas_c1.G) (all_cons F_image_in.sound all_nil) mix (by kernel_rfl) (by kernel_rfl) (fun m p => congrFun (congrFun F_image_quotas_c1.eq m) p)
/-! ### slices.IndexFunc[[]int,int] -/
noncomputable def F_slices_IndexFunc_int.l26 (m : Fu) (a0 : List Int) (x1 : Int) (x2 : Int) : Option (Step Int (Int ⊕ Unit)) :=
  bif decide (x2 < x1) then
    bif (decide ((0 : Int) ≤ x2)) && (decide (x2 < (a0.length : Int))) then
      (F_image_quotas_c1 m (a0.getD x2.toNat 0)).bind fun x5 =>
      bif x5 then
        some (.fin (Sum.inl x2))
      else some (.next (IntKind.i64.wrap (x2 + (1 : Int))))
    else none
  else some (.fin (Sum.inr ()))
noncomputable def F_slices_IndexFunc_int (m : Fu) (p : List Int) : Option (Int) :=
  let a0 := p
  (iter m (F_slices_IndexFunc_int.l26 m a0 (a0.length : Int)) (0 : Int)).bind fun x7 =>
  match x7 with
  | .inl x8 =>
    some x8
  | .inr _ =>
    some (-1 : Int)
def F_slices_IndexFunc_int.ann : List (Nat × Ann) := [(26, .loop ⟨[(8, false, [.dat (.int .i64)])], [], [], [], 96⟩ [(.ret, ⟨[(4, false, [.dat (.int .i64)])], [], [], [], 96⟩), (.exit 0, ⟨[], [], [], [], 96⟩)])]
def F_slices_IndexFunc_int.sig : Sig := ⟨[.val false [.sl (.int .i64)], .fn 106 []], [(false, [.dat (.int .i64)])]⟩
noncomputable def F_slices_IndexFunc_int.S : Summ := ⟨114, F_slices_IndexFunc_int.sig, F_slices_IndexFunc_int⟩
noncomputable def F_slices_IndexFunc_int.G : List Summ := [F_image_quotas_c1.S]
theorem F_slices_IndexFunc_int.eq : absF Try.prog F_slices_IndexFunc_int.G F_slices_IndexFunc_int.ann F_slices_IndexFunc_int.sig Try.f114 = F_slices_IndexFunc_int := by kernel_rfl
theorem F_slices_IndexFunc_int.sound : Sound Try.prog F_slices_IndexFunc_int.S := absF_sound (fn := Try.f114) (Γ := F_slices_IndexFunc_int.G) (all_cons F_image_quotas_c1.sound all_nil) mix (by kernel_rfl) (by kernel_rfl) (fun m p => congrFun (congrFun F_slices_IndexFunc_int.eq m) p)
/-! ### slices.ContainsFunc[[]int,int] -/
noncomputable def F_slices_ContainsFunc_int (m : Fu) (p : List Int) : Option (Bool) :=
  let a0 := p
  (F_slices_IndexFunc_int m a0).bind fun x1 =>
  some (decide ((0 : Int) ≤ x1))
def F_slices_ContainsFunc_int.ann : List (Nat × Ann) := []
def F_slices_ContainsFunc_int.sig : Sig := ⟨[.val false [.sl (.int .i64)], .fn 106 []], [(false, [.dat .bool])]⟩
noncomputable def F_slices_ContainsFunc_int.S : Summ := ⟨105, F_slices_ContainsFunc_int.sig, F_slices_ContainsFunc_int⟩
noncomputable def F_slices_ContainsFunc_int.G : List Summ := [F_slices_IndexFunc_int.S]
theorem F_slices_ContainsFunc_int.eq : absF Try.prog F_slices_ContainsFunc_int.G F_slices_ContainsFunc_int.ann F_slices_ContainsFunc_int.sig Try.f105 = F_slices_ContainsFunc_int := by kernel_rfl
theorem F_slices_ContainsFunc_int.sound : Sound Try.prog F_slices_ContainsFunc_int.S := absF_sound (fn := Try.f105) (Γ := F_slices_ContainsFunc_int.G) (all_cons F_slices_IndexFunc_int.sound all_nil) mix (by kernel_rfl) (by kernel_rfl) (fun m p => congrFun (congrFun F_slices_ContainsFunc_int.eq m) p)
/-! ### cloakroom/image.quotas -/
noncomputable def F_image_quotas (m : Fu) (p : List Int) : Option (Bool) :=
  let a0 := p
  bif decide ((0 : Int) < (a0.length : Int)) then
    bif decide ((a0.length : Int) ≤ (4 : Int)) then
      (F_slices_ContainsFunc_int m a0).bind fun x5 =>
      some (!x5)
    else some false
  else some false
def F_image_quotas.ann : List (Nat × Ann) := []
def F_image_quotas.sig : Sig := ⟨[.val false [.sl (.int .i64)]], [(false, [.dat .bool])]⟩
noncomputable def F_image_quotas.S : Summ := ⟨80, F_image_quotas.sig, F_image_quotas⟩
noncomputable def F_image_quotas.G : List Summ := [F_slices_ContainsFunc_int.S]
theorem F_image_quotas.eq : absF Try.prog F_image_quotas.G F_image_quotas.ann F_image_quotas.sig Try.f80 = F_image_quotas := by kernel_rfl
theorem F_image_quotas.sound : Sound Try.prog F_image_quotas.S := absF_sound (fn := Try.f80) (Γ := F_image_quotas.G) (all_cons F_slices_ContainsFunc_int.sound all_nil) mix (by kernel_rfl) (by kernel_rfl) (fun m p => congrFun (congrFun F_image_quotas.eq m) p)
/-! ### cloakroom/image.size -/
noncomputable def F_image_size (_ : Fu) (p : (List Int) × (List Int) × Int × Int × Int) : Option (Int) :=
  let a0 := p.1
  let a1 := p.2.1
  some (IntKind.i64.wrap ((IntKind.i64.wrap ((8 : Int) + (a0.length : Int))) + (a1.length : Int)))
def F_image_size.ann : List (Nat × Ann) := []
def F_image_size.sig : Sig := ⟨[.val true [.str, .str, .int .u32, .int .i64, .int .u64]], [(false, [.dat (.int .i64)])]⟩
noncomputable def F_image_size.S : Summ := ⟨107, F_image_size.sig, F_image_size⟩
noncomputable def F_image_size.G : List Summ := []
theorem F_image_size.eq : absF Try.prog F_image_size.G F_image_size.ann F_image_size.sig Try.f107 = F_image_size := by kernel_rfl
theorem F_image_size.sound : Sound Try.prog F_image_size.S := absF_sound (fn := Try.f107) (Γ := F_image_size.G) all_nil mix (by kernel_rfl) (by kernel_rfl) (fun m p => congrFun (congrFun F_image_size.eq m) p)
/-! ### cloakroom/image.may -/
noncomputable def F_image_may (m : Fu) (p : (List Int) × (List Int) × Int × Int × Int) : Option (Bool) :=
  let a0 := p.1
  let a1 := p.2.1
  let a2 := p.2.2.1
  let a3 := p.2.2.2.1
  let a4 := p.2.2.2.2
  bif !(a0 == ([] : List Int)) then
    bif decide ((a0.length : Int) ≤ (32 : Int)) then
      (F_image_size m (a0, a1, a2, a3, a4)).bind fun x4 =>
      bif decide (x4 ≤ (256 : Int)) then
        (F_image_in m (a3, (1099511627776 : Int))).bind fun x6 =>
        some x6
      else some false
    else some false
  else some false
def F_image_may.ann : List (Nat × Ann) := []
def F_image_may.sig : Sig := ⟨[.val true [.str, .str, .int .u32, .int .i64, .int .u64]], [(false, [.dat .bool])]⟩
noncomputable def F_image_may.S : Summ := ⟨81, F_image_may.sig, F_image_may⟩
noncomputable def F_image_may.G : List Summ := [F_image_size.S, F_image_in.S]
theorem F_image_may.eq : absF Try.prog F_image_may.G F_image_may.ann F_image_may.sig Try.f81 = F_image_may := by kernel_rfl
theorem F_image_may.sound : Sound Try.prog F_image_may.S := absF_sound (fn := Try.f81) (Γ := F_image_may.G) (all_cons F_image_size.sound (all_cons F_image_in.sound all_nil)) mix (by kernel_rfl) (by kernel_rfl) (fun m p => congrFun (congrFun F_image_may.eq m) p)
/-! ### cloakroom/image.due -/
noncomputable def F_image_due (_ : Fu) (p : (List Int) × (List Int) × Int × Int × Int × Int) : Option (Bool) :=
  let a3 := p.2.2.2.1
  let a5 := p.2.2.2.2.2
  bif a3 != (0 : Int) then
    some (decide (a3 ≤ a5))
  else some false
def F_image_due.ann : List (Nat × Ann) := []
def F_image_due.sig : Sig := ⟨[.val true [.str, .str, .int .u32, .int .i64, .int .u64], .val false [.int .i64]], [(false, [.dat .bool])]⟩
noncomputable def F_image_due.S : Summ := ⟨82, F_image_due.sig, F_image_due⟩
noncomputable def F_image_due.G : List Summ := []
theorem F_image_due.eq : absF Try.prog F_image_due.G F_image_due.ann F_image_due.sig Try.f82 = F_image_due := by kernel_rfl
theorem F_image_due.sound : Sound Try.prog F_image_due.S := absF_sound (fn := Try.f82) (Γ := F_image_due.G) all_nil mix (by kernel_rfl) (by kernel_rfl) (fun m p => congrFun (congrFun F_image_due.eq m) p)
/-! ### cloakroom/image.places -/
noncomputable def F_image_places.l58 (_ : Fu) (a0 : List (Int × (List Int) × (List Int) × Int × Int × Int)) (x1 : Int) (x2 : Int × (List ((Int × (List Int)) × Int))) : Option (Step (Int × (List ((Int × (List Int)) × Int))) ((List ((Int × (List Int)) × Int)))) :=
  bif decide (x2.1 < x1) then
    bif (decide ((0 : Int) ≤ x2.1)) && (decide (x2.1 < (a0.length : Int))) then
      let x4 := a0.getD x2.1.toNat (0, ([], ([], (0, (0, 0)))))
      bif Nat.blt x2.2.length 4294967296 then
        some (.next ((IntKind.i64.wrap (x2.1 + (1 : Int))), (mset (keyEq (.pr (.int .i64) .str)) x2.2 (x4.1, x4.2.1) x2.1)))
      else none
    else none
  else some (.fin x2.2)
noncomputable def F_image_places (m : Fu) (p : List (Int × (List Int) × (List Int) × Int × Int × Int)) : Option (List ((Int × (List Int)) × Int)) :=
  let a0 := p
  (iter m (F_image_places.l58 m a0 (a0.length : Int)) ((0 : Int), ([] : List ((Int × (List Int)) × Int)))).bind fun x7 =>
  some x7
def F_image_places.ann : List (Nat × Ann) := [(58, .loop ⟨[(9, false, [.dat (.int .i64)])], [], [(32, .pr (.pr (.int .i64) .str) (.int .i64), (.mp true false))], [], 112⟩ [(.exit 0, ⟨[], [], [(32, .pr (.pr (.int .i64) .str) (.int .i64), (.mp true false))], [], 112⟩)])]
def F_image_places.sig : Sig := ⟨[.val false [.sl (.pr (.int .i64) (.pr .str (.pr .str (.pr (.int .u32) (.pr (.int .i64) (.int .u64))))))]], [(false, [.own (.pr (.pr (.int .i64) .str) (.int .i64)) 0 (.mp true false)])]⟩
noncomputable def F_image_places.S : Summ := ⟨83, F_image_places.sig, F_image_places⟩
noncomputable def F_image_places.G : List Summ := []
theorem F_image_places.eq : absF Try.prog F_image_places.G F_image_places.ann F_image_places.sig Try.f83 = F_image_places := by kernel_rfl
theorem F_image_places.sound : Sound Try.prog F_image_places.S := absF_sound (fn := Try.f83) (Γ := F_image_places.G) all_nil mix (by kernel_rfl) (by kernel_rfl) (fun m p => congrFun (congrFun F_image_places.eq m) p)
/-! ### cloakroom/image.Check -/
noncomputable def F_image_Check.l58 (m : Fu) (a0 : Int) (a1 : List Int) (a2 : List (Int × (List Int) × (List Int) × Int × Int × Int)) (x11 : Int) (x12 : Int) : Option (Step Int (Int ⊕ Unit)) :=
  bif decide (x12 < x11) then
    bif (decide ((0 : Int) ≤ x12)) && (decide (x12 < (a2.length : Int))) then
      let x14 := a2.getD x12.toNat (0, ([], ([], (0, (0, 0)))))
      (F_image_in m (x14.1, (IntKind.i64.wrap ((a1.length : Int) - (1 : Int))))).bind fun x17 =>
      bif !x17 then some (.fin (Sum.inl (8 : Int))) else
      (F_image_may m x14.2).bind fun x19 =>
      bif !x19 then some (.fin (Sum.inl (8 : Int))) else
      (F_image_due m (x14.2.1, x14.2.2.1, x14.2.2.2.1, x14.2.2.2.2.1, x14.2.2.2.2.2, a0)).bind fun x21 =>
      bif x21 then
        some (.fin (Sum.inl (8 : Int)))
      else some (.next (IntKind.i64.wrap (x12 + (1 : Int))))
    else none
  else some (.fin (Sum.inr ()))
noncomputable def F_image_Check (m : Fu) (p : Int × (List Int) × (List (Int × (List Int) × (List Int) × Int × Int × Int)) × Int × Int × Bool) : Option (Int) :=
  let a0 := p.1
  let a1 := p.2.1
  let a2 := p.2.2.1
  let a3 := p.2.2.2.1
  let a4 := p.2.2.2.2.1
  (F_image_in m (a0, (1099511627776 : Int))).bind fun x1 =>
  bif !x1 then some (8 : Int) else
  (F_image_quotas m a1).bind fun x3 =>
  bif !x3 then some (8 : Int) else
  bif decide ((1024 : Int) < (a2.length : Int)) then some (8 : Int) else
  (F_image_in m (a3, (2147483647 : Int))).bind fun x7 =>
  bif !x7 then some (8 : Int) else
  (F_image_in m (a4, (2147483647 : Int))).bind fun x9 =>
  bif !x9 then some (8 : Int) else
  (iter m (F_image_Check.l58 m a0 a1 a2 (a2.length : Int)) (0 : Int)).bind fun x23 =>
  match x23 with
  | .inl x24 =>
    some x24
  | .inr _ =>
    (F_image_places m a2).bind fun x26 =>
    bif (x26.length : Int) != (a2.length : Int) then
      some (8 : Int)
    else some (0 : Int)
def F_image_Check.ann : List (Nat × Ann) := [(58, .loop ⟨[(36, false, [.dat (.int .i64)])], [], [], [], 560⟩ [(.ret, ⟨[(2, false, [.dat (.int .i64)])], [], [], [], 560⟩), (.exit 0, ⟨[], [], [], [], 560⟩)])]
def F_image_Check.sig : Sig := ⟨[.val true [.int .i64, .sl (.int .i64), .sl (.pr (.int .i64) (.pr .str (.pr .str (.pr (.int .u32) (.pr (.int .i64) (.int .u64)))))), .int .i64, .int .i64, .bool]], [(false, [.dat (.int .i64)])]⟩
noncomputable def F_image_Check.S : Summ := ⟨52, F_image_Check.sig, F_image_Check⟩
noncomputable def F_image_Check.G : List Summ := [F_image_in.S, F_image_quotas.S, F_image_may.S, F_image_due.S, F_image_places.S]
theorem F_image_Check.eq : absF Try.prog F_image_Check.G F_image_Check.ann F_image_Check.sig Try.f52 = F_image_Check := by kernel_rfl
theorem F_image_Check.sound : Sound Try.prog F_image_Check.S := absF_sound (fn := Try.f52) (Γ := F_image_Check.G) (all_cons F_image_in.sound (all_cons F_image_quotas.sound (all_cons F_image_may.sound (all_cons F_image_due.sound (all_cons F_image_places.sound all_nil))))) mix (by kernel_rfl) (by kernel_rfl) (fun m p => congrFun (congrFun F_image_Check.eq m) p)
/-! ### (*cloakroom/image.reader).wide -/
noncomputable def F_image_reader_wide.s14 (_ : Fu) (a0 : List Int) (a1 : Bool) (x1 : Int × Int × Int) : Option (((List Int) × Bool)) :=
  bif a1 then
    some (a0, true)
  else some (a0, (x1.2.2 != (0 : Int)))
noncomputable def F_image_reader_wide (m : Fu) (p : (List Int) × Bool) : Option (Int × (List Int) × Bool) :=
  let a0 := p.1
  let a1 := p.2
  (F_code_Read m a0).bind fun x1 =>
  (F_image_reader_wide.s14 m a0 a1 x1).bind fun x3 =>
  bif (((decide ((0 : Int) ≤ x1.2.1)) && (decide (x1.2.1 ≤ (x3.1.length : Int)))) && (decide ((x3.1.length : Int) ≤ (x3.1.length : Int)))) && (decide ((x3.1.length : Int) ≤ (x3.1.length : Int))) then
    some (x1.1, ((x3.1.take ((x3.1.length : Int).toNat)).drop x1.2.1.toNat), x3.2)
  else none
def F_image_reader_wide.ann : List (Nat × Ann) := [(14, .jnt [(.normal, ⟨[], [(0, [.dat (.sl (.int .u8)), .dat .bool])], [], [], 224⟩)])]
def F_image_reader_wide.sig : Sig := ⟨[.box [.sl (.int .u8), .bool]], [(false, [.dat (.int .u64)])]⟩
noncomputable def F_image_reader_wide.S : Summ := ⟨101, F_image_reader_wide.sig, F_image_reader_wide⟩
noncomputable def F_image_reader_wide.G : List Summ := [F_code_Read.S]
theorem F_image_reader_wide.eq : absF Try.prog F_image_reader_wide.G F_image_reader_wide.ann F_image_reader_wide.sig Try.f101 = F_image_reader_wide := by kernel_rfl
theorem F_image_reader_wide.sound : Sound Try.prog F_image_reader_wide.S := absF_sound (fn := Try.f101) (Γ := F_image_reader_wide.G) (all_cons F_code_Read.sound all_nil) mix (by kernel_rfl) (by kernel_rfl) (fun m p => congrFun (congrFun F_image_reader_wide.eq m) p)
/-! ### (*cloakroom/image.reader).num -/
noncomputable def F_image_reader_num (m : Fu) (p : (List Int) × Bool × Int) : Option (Int × (List Int) × Bool) :=
  let a0 := p.1
  let a1 := p.2.1
  let a2 := p.2.2
  (F_image_reader_wide m (a0, a1)).bind fun x1 =>
  bif decide ((IntKind.u64.wrap a2) < x1.1) then
    some ((0 : Int), x1.2.1, true)
  else some ((IntKind.i64.wrap x1.1), x1.2)
def F_image_reader_num.ann : List (Nat × Ann) := []
def F_image_reader_num.sig : Sig := ⟨[.box [.sl (.int .u8), .bool], .val false [.int .i64]], [(false, [.dat (.int .i64)])]⟩
noncomputable def F_image_reader_num.S : Summ := ⟨99, F_image_reader_num.sig, F_image_reader_num⟩
noncomputable def F_image_reader_num.G : List Summ := [F_image_reader_wide.S]
theorem F_image_reader_num.eq : absF Try.prog F_image_reader_num.G F_image_reader_num.ann F_image_reader_num.sig Try.f99 = F_image_reader_num := by kernel_rfl
theorem F_image_reader_num.sound : Sound Try.prog F_image_reader_num.S := absF_sound (fn := Try.f99) (Γ := F_image_reader_num.G) (all_cons F_image_reader_wide.sound all_nil) mix (by kernel_rfl) (by kernel_rfl) (fun m p => congrFun (congrFun F_image_reader_num.eq m) p)
/-! ### (*cloakroom/image.reader).text -/
noncomputable def F_image_reader_text (m : Fu) (p : (List Int) × Bool) : Option ((List Int) × (List Int) × Bool) :=
  let a0 := p.1
  let a1 := p.2
  (F_image_reader_num m (a0, a1, (a0.length : Int))).bind fun x2 =>
  bif decide ((x2.2.1.length : Int) < x2.1) then some (([] : List Int), x2.2.1, true) else
  bif ((decide ((0 : Int) ≤ x2.1)) && (decide (x2.1 ≤ (x2.2.1.length : Int)))) && (decide ((x2.2.1.length : Int) ≤ (x2.2.1.length : Int))) then
    bif (((decide ((0 : Int) ≤ x2.1)) && (decide (x2.1 ≤ (x2.2.1.length : Int)))) && (decide ((x2.2.1.length : Int) ≤ (x2.2.1.length : Int)))) && (decide ((x2.2.1.length : Int) ≤ (x2.2.1.length : Int))) then
      some (((x2.2.1.take x2.1.toNat).drop 0), ((x2.2.1.take ((x2.2.1.length : Int).toNat)).drop x2.1.toNat), x2.2.2)
    else none
  else none
def F_image_reader_text.ann : List (Nat × Ann) := []
def F_image_reader_text.sig : Sig := ⟨[.box [.sl (.int .u8), .bool]], [(false, [.dat .str])]⟩
noncomputable def F_image_reader_text.S : Summ := ⟨100, F_image_reader_text.sig, F_image_reader_text⟩
noncomputable def F_image_reader_text.G : List Summ := [F_image_reader_num.S]
theorem F_image_reader_text.eq : absF Try.prog F_image_reader_text.G F_image_reader_text.ann F_image_reader_text.sig Try.f100 = F_image_reader_text := by kernel_rfl
theorem F_image_reader_text.sound : Sound Try.prog F_image_reader_text.S := absF_sound (fn := Try.f100) (Γ := F_image_reader_text.G) (all_cons F_image_reader_num.sound all_nil) mix (by kernel_rfl) (by kernel_rfl) (fun m p => congrFun (congrFun F_image_reader_text.eq m) p)
/-! ### cloakroom/image.nums -/
noncomputable def F_image_nums.l26 (m : Fu) (a1 : List Int) (x1 : Int) (x2 : (List Int) × Int) : Option (Step ((List Int) × Int) ((List Int))) :=
  bif decide (x2.2 < x1) then
    bif (decide ((0 : Int) ≤ x2.2)) && (decide (x2.2 < (a1.length : Int))) then
      (F_code_Small m (IntKind.u64.wrap (a1.getD x2.2.toNat 0))).bind fun x6 =>
      bif Nat.ble (x2.1.length + x6.length) 140737488351232 then
        some (.next ((x2.1 ++ x6), (IntKind.i64.wrap (x2.2 + (1 : Int)))))
      else none
    else none
  else some (.fin x2.1)
noncomputable def F_image_nums (m : Fu) (p : (List Int) × (List Int)) : Option (List Int) :=
  let a0 := p.1
  let a1 := p.2
  (iter m (F_image_nums.l26 m a1 (a1.length : Int)) (a0, (0 : Int))).bind fun x9 =>
  some x9
def F_image_nums.ann : List (Nat × Ann) := [(26, .loop ⟨[(0, false, [.own (.int .u8) 96 .fr]), (9, false, [.dat (.int .i64)])], [], [], [0], 97⟩ [(.exit 0, ⟨[(0, false, [.own (.int .u8) 96 .fr])], [], [], [0], 97⟩)])]
def F_image_nums.sig : Sig := ⟨[.own (.int .u8), .val false [.sl (.int .i64)]], [(false, [.own (.int .u8) 0 .fr])]⟩
noncomputable def F_image_nums.S : Summ := ⟨55, F_image_nums.sig, F_image_nums⟩
noncomputable def F_image_nums.G : List Summ := [F_code_Small.S]
theorem F_image_nums.eq : absF Try.prog F_image_nums.G F_image_nums.ann F_image_nums.sig Try.f55 = F_image_nums := by kernel_rfl
theorem F_image_nums.sound : Sound Try.prog F_image_nums.S := absF_sound (fn := Try.f55) (Γ := F_image_nums.G) (all_cons F_code_Small.sound all_nil) mix (by kernel_rfl) (by kernel_rfl) (fun m p => congrFun (congrFun F_image_nums.eq m) p)
/-! ### cloakroom/image.Write -/
noncomputable def F_image_Write.s30 (_ : Fu) (a5 : Bool) (x8 : List Int) : Option ((List Int)) :=
  bif a5 then
    bif Nat.ble (x8.length + 1) 140737488351232 then
      some (x8 ++ ([1] : List Int))
    else none
  else
    bif Nat.ble (x8.length + 1) 140737488351232 then
      some (x8 ++ ([0] : List Int))
    else none
noncomputable def F_image_Write.l506 (m : Fu) (a2 : List (Int × (List Int) × (List Int) × Int × Int × Int)) (x15 : Int) (x16 : (List Int) × Int) : Option (Step ((List Int) × Int) ((List Int))) :=
  bif decide (x16.2 < x15) then
    bif (decide ((0 : Int) ≤ x16.2)) && (decide (x16.2 < (a2.length : Int))) then
      let x18 := a2.getD x16.2.toNat (0, ([], ([], (0, (0, 0)))))
      (F_image_nums m (x16.1, ([x18.1]))).bind fun x20 =>
      (F_code_Text m x18.2.1).bind fun x21 =>
      bif Nat.ble (x20.length + x21.length) 140737488351232 then
        let x22 := x20 ++ x21
        (F_code_Text m x18.2.2.1).bind fun x23 =>
        bif Nat.ble (x22.length + x23.length) 140737488351232 then
          (F_image_nums m ((x22 ++ x23), ([(IntKind.i64.wrap x18.2.2.2.1), x18.2.2.2.2.1]))).bind fun x27 =>
          (F_code_Small m x18.2.2.2.2.2).bind fun x28 =>
          bif Nat.ble (x27.length + x28.length) 140737488351232 then
            some (.next ((x27 ++ x28), (IntKind.i64.wrap (x16.2 + (1 : Int)))))
          else none
        else none
      else none
    else none
  else some (.fin x16.1)
noncomputable def F_image_Write (m : Fu) (p : Int × (List Int) × (List (Int × (List Int) × (List Int) × Int × Int × Int)) × Int × Int × Bool) : Option ((List Int) × Int) :=
  let a0 := p.1
  let a1 := p.2.1
  let a2 := p.2.2.1
  let a3 := p.2.2.2.1
  let a4 := p.2.2.2.2.1
  let a5 := p.2.2.2.2.2
  (F_image_Check m (a0, a1, a2, a3, a4, a5)).bind fun x1 =>
  bif x1 != (0 : Int) then some (([] : List Int), x1) else
  (F_image_nums m (([] : List Int), ([a0, (a1.length : Int)]))).bind fun x5 =>
  (F_image_nums m (x5, a1)).bind fun x6 =>
  (F_image_nums m (x6, ([a3, a4]))).bind fun x8 =>
  (F_image_Write.s30 m a5 x8).bind fun x11 =>
  (F_image_nums m (x11, ([(a2.length : Int)]))).bind fun x14 =>
  (iter m (F_image_Write.l506 m a2 (a2.length : Int)) (x14, (0 : Int))).bind fun x31 =>
  bif decide ((65536 : Int) < (x31.length : Int)) then
    some (([] : List Int), (3 : Int))
  else some (x31, (0 : Int))
def F_image_Write.ann : List (Nat × Ann) := [(30, .jnt [(.normal, ⟨[(5, false, [.own (.int .u8) 416 .fr])], [], [], [384], 417⟩)]),
  (506, .loop ⟨[(5, false, [.own (.int .u8) 593 .fr]), (46, false, [.dat (.int .i64)])], [], [], [497], 594⟩ [(.exit 0, ⟨[(5, false, [.own (.int .u8) 593 .fr])], [], [], [497], 594⟩)])]
def F_image_Write.sig : Sig := ⟨[.val true [.int .i64, .sl (.int .i64), .sl (.pr (.int .i64) (.pr .str (.pr .str (.pr (.int .u32) (.pr (.int .i64) (.int .u64)))))), .int .i64, .int .i64, .bool]], [(false, [.own (.int .u8) 0 .fr]), (false, [.dat (.int .i64)])]⟩
noncomputable def F_image_Write.S : Summ := ⟨22, F_image_Write.sig, F_image_Write⟩
noncomputable def F_image_Write.G : List Summ := [F_image_Check.S, F_image_nums.S, F_code_Text.S, F_code_Small.S]
theorem F_image_Write.eq : absF Try.prog F_image_Write.G F_image_Write.ann F_image_Write.sig Try.f22 = F_image_Write := by kernel_rfl
theorem F_image_Write.sound : Sound Try.prog F_image_Write.S := absF_sound (fn := Try.f22) (Γ := F_image_Write.G) (all_cons F_image_Check.sound (all_cons F_image_nums.sound (all_cons F_code_Text.sound (all_cons F_code_Small.sound all_nil)))) mix (by kernel_rfl) (by kernel_rfl) (fun m p => congrFun (congrFun F_image_Write.eq m) p)
/-! ### cloakroom/image.Read -/
noncomputable def F_image_Read.l250 (m : Fu) (x4 : Int × (List Int) × Bool) (x5 : Int × (List Int) × Bool × Int × (List Int) × Int × Int × Bool) : Option (Step (Int × (List Int) × Bool × Int × (List Int) × Int × Int × Bool) (((List Int) × Bool × Int × (List Int) × Int × Int × Bool))) :=
  bif decide (x5.1 < x4.1) then
    (F_image_reader_num m (x5.2.1, x5.2.2.1, (16 : Int))).bind fun x7 =>
    let x8 := [x7.1]
    bif Nat.ble (x5.2.2.2.2.1.length + x8.length) 4294967296 then
      some (.next ((IntKind.i64.wrap (x5.1 + (1 : Int))), x7.2.1, x7.2.2, x5.2.2.2.1, (x5.2.2.2.2.1 ++ x8), x5.2.2.2.2.2))
    else none
  else some (.fin x5.2)
noncomputable def F_image_Read.l2042 (m : Fu) (x16 : Int × (List Int) × Bool) (x17 : Int × (List Int) × Bool × Int × (List Int) × (List (Int × (List Int) × (List Int) × Int × Int × Int)) × Int × Int × Bool) : Option (Step (Int × (List Int) × Bool × Int × (List Int) × (List (Int × (List Int) × (List Int) × Int × Int × Int)) × Int × Int × Bool) ((Int × Int × Int × Int × Bool) ⊕ ((List Int) × Bool × Int × (List Int) × (List (Int × (List Int) × (List Int) × Int × Int × Int)) × Int × Int × Bool))) :=
  bif decide (x17.1 < x16.1) then
    (F_image_reader_num m (x17.2.1, x17.2.2.1, (4 : Int))).bind fun x19 =>
    (F_image_reader_text m x19.2).bind fun x20 =>
    (F_image_reader_text m x20.2).bind fun x21 =>
    (F_image_reader_num m (x21.2.1, x21.2.2, (4294967295 : Int))).bind fun x22 =>
    (F_image_reader_num m (x22.2.1, x22.2.2, (1099511627776 : Int))).bind fun x24 =>
    (F_image_reader_wide m x24.2).bind fun x25 =>
    let x26 := [(x19.1, (x20.1, (x21.1, ((IntKind.u32.wrap x22.1), (x24.1, x25.1)))))]
    bif Nat.ble (x17.2.2.2.2.2.1.length + x26.length) 4294967296 then
      bif x25.2.2 then
        some (.fin (Sum.inl ((8 : Int), (0 : Int), (0 : Int), (0 : Int), false)))
      else some (.next ((IntKind.i64.wrap (x17.1 + (1 : Int))), x25.2.1, x25.2.2, x17.2.2.2.1, x17.2.2.2.2.1, (x17.2.2.2.2.2.1 ++ x26), x17.2.2.2.2.2.2))
    else none
  else some (.fin (Sum.inr x17.2))
noncomputable def F_image_Read (m : Fu) (p : List Int) : Option (Int × (List Int) × (List (Int × (List Int) × (List Int) × Int × Int × Int)) × Int × Int × Bool × Int) :=
  let a0 := p
  bif decide ((65536 : Int) < (a0.length : Int)) then some ((0 : Int), ([] : List Int), ([] : List (Int × (List Int) × (List Int) × Int × Int × Int)), (0 : Int), (0 : Int), false, (3 : Int)) else
  (F_image_reader_num m (a0, false, (1099511627776 : Int))).bind fun x3 =>
  (F_image_reader_num m (x3.2.1, x3.2.2, (4 : Int))).bind fun x4 =>
  (iter m (F_image_Read.l250 m x4) ((0 : Int), x4.2.1, x4.2.2, x3.1, ([] : List Int), (0 : Int), (0 : Int), false)).bind fun x11 =>
  (F_image_reader_num m (x11.1, x11.2.1, (2147483647 : Int))).bind fun x12 =>
  (F_image_reader_num m (x12.2.1, x12.2.2, (2147483647 : Int))).bind fun x13 =>
  (F_image_reader_num m (x13.2.1, x13.2.2, (255 : Int))).bind fun x14 =>
  (F_image_reader_num m (x14.2.1, x14.2.2, (1024 : Int))).bind fun x16 =>
  (iter m (F_image_Read.l2042 m x16) ((0 : Int), x16.2.1, x16.2.2, x11.2.2.1, x11.2.2.2.1, ([] : List (Int × (List Int) × (List Int) × Int × Int × Int)), x12.1, x13.1, (x14.1 == (1 : Int)))).bind fun x29 =>
  match x29 with
  | .inl x30 =>
    some (x30.2.1, ([] : List Int), ([] : List (Int × (List Int) × (List Int) × Int × Int × Int)), x30.2.2.1, x30.2.2.2.1, x30.2.2.2.2, x30.1)
  | .inr x31 =>
    (F_image_Write m x31.2.2).bind fun x32 =>
    bif x31.2.1 then some ((0 : Int), ([] : List Int), ([] : List (Int × (List Int) × (List Int) × Int × Int × Int)), (0 : Int), (0 : Int), false, (8 : Int)) else
    bif x32.2 != (0 : Int) then some ((0 : Int), ([] : List Int), ([] : List (Int × (List Int) × (List Int) × Int × Int × Int)), (0 : Int), (0 : Int), false, (8 : Int)) else
    (F_bytes_Equal m (x32.1, a0)).bind fun x34 =>
    bif !x34 then
      some ((0 : Int), ([] : List Int), ([] : List (Int × (List Int) × (List Int) × Int × Int × Int)), (0 : Int), (0 : Int), false, (8 : Int))
    else some (x31.2.2.1, x31.2.2.2.1, x31.2.2.2.2.1, x31.2.2.2.2.2.1, x31.2.2.2.2.2.2.1, x31.2.2.2.2.2.2.2, (0 : Int))
def F_image_Read.ann : List (Nat × Ann) := [(250, .loop ⟨[(21, false, [.dat (.int .i64)])], [(128, [.dat (.sl (.int .u8)), .dat .bool]), (208, [.dat (.int .i64), .own (.int .i64) 288 .wr, .cst .nils, .dat (.int .i64), .dat (.int .i64), .dat .bool])], [], [], 289⟩ [(.exit 0, ⟨[], [(128, [.dat (.sl (.int .u8)), .dat .bool]), (208, [.dat (.int .i64), .own (.int .i64) 288 .wr, .cst .nils, .dat (.int .i64), .dat (.int .i64), .dat .bool])], [], [], 289⟩)]),
  (2042, .loop ⟨[(43, false, [.dat (.int .i64)])], [(128, [.dat (.sl (.int .u8)), .dat .bool]), (208, [.dat (.int .i64), .own (.int .i64) 545 .wr, .own (.pr (.int .i64) (.pr .str (.pr .str (.pr (.int .u32) (.pr (.int .i64) (.int .u64)))))) 546 .wr, .dat (.int .i64), .dat (.int .i64), .dat .bool])], [], [288], 547⟩ [(.ret, ⟨[(3, false, [.dat (.int .i64)])], [(16, [.dat (.int .i64), .cst .nils, .cst .nils, .dat (.int .i64), .dat (.int .i64), .dat .bool])], [], [128, 208, 288], 545⟩), (.exit 2, ⟨[], [(128, [.dat (.sl (.int .u8)), .dat .bool]), (208, [.dat (.int .i64), .own (.int .i64) 545 .wr, .own (.pr (.int .i64) (.pr .str (.pr .str (.pr (.int .u32) (.pr (.int .i64) (.int .u64)))))) 546 .wr, .dat (.int .i64), .dat (.int .i64), .dat .bool])], [], [288], 547⟩)])]
def F_image_Read.sig : Sig := ⟨[.val false [.sl (.int .u8)]], [(true, [.dat (.int .i64), .own (.int .i64) 0 .fr, .own (.pr (.int .i64) (.pr .str (.pr .str (.pr (.int .u32) (.pr (.int .i64) (.int .u64)))))) 0 .fr, .dat (.int .i64), .dat (.int .i64), .dat .bool]), (false, [.dat (.int .i64)])]⟩
noncomputable def F_image_Read.S : Summ := ⟨72, F_image_Read.sig, F_image_Read⟩
noncomputable def F_image_Read.G : List Summ := [F_image_reader_num.S, F_image_reader_text.S, F_image_reader_wide.S, F_image_Write.S, F_bytes_Equal.S]
theorem F_image_Read.eq : absF Try.prog F_image_Read.G F_image_Read.ann F_image_Read.sig Try.f72 = F_image_Read := by kernel_rfl
theorem F_image_Read.sound : Sound Try.prog F_image_Read.S := absF_sound (fn := Try.f72) (Γ := F_image_Read.G) (all_cons F_image_reader_num.sound (all_cons F_image_reader_text.sound (all_cons F_image_reader_wide.sound (all_cons F_image_Write.sound (all_cons F_bytes_Equal.sound all_nil))))) mix (by kernel_rfl) (by kernel_rfl) (fun m p => congrFun (congrFun F_image_Read.eq m) p)
/-! ### cloakroom/numbers.may$4 -/
noncomputable def F_numbers_may_c4 (m : Fu) (p : Int × Int × Int × (List Int)) : Option (Bool × Int × Int × Int × (List Int)) :=
  let a0 := p.1
  let a1 := p.2.1
  let a2 := p.2.2.1
  let a3 := p.2.2.2
  (F_image_Read m a3).bind fun x1 =>
  some ((x1.2.2.2.2.2.2 == (0 : Int)), a0, a1, a2, a3)
def F_numbers_may_c4.ann : List (Nat × Ann) := []
def F_numbers_may_c4.sig : Sig := ⟨[.box [.int .u8, .int .i64, .int .i64, .sl (.int .u8)]], [(false, [.dat .bool])]⟩
noncomputable def F_numbers_may_c4.S : Summ := ⟨71, F_numbers_may_c4.sig, F_numbers_may_c4⟩
noncomputable def F_numbers_may_c4.G : List Summ := [F_image_Read.S]
theorem F_numbers_may_c4.eq : absF Try.prog F_numbers_may_c4.G F_numbers_may_c4.ann F_numbers_may_c4.sig Try.f71 = F_numbers_may_c4 := by kernel_rfl
theorem F_numbers_may_c4.sound : Sound Try.prog F_numbers_may_c4.S := absF_sound (fn := Try.f71) (Γ := F_numbers_may_c4.G) (all_cons F_image_Read.sound all_nil) mix (by kernel_rfl) (by kernel_rfl) (fun m p => congrFun (congrFun F_numbers_may_c4.eq m) p)
/-! ### cloakroom/numbers.may$3 -/
noncomputable def F_numbers_may_c3 (_ : Fu) (p : Int × Int × Int × (List Int)) : Option (Bool × Int × Int × Int × (List Int)) :=
  let a0 := p.1
  let a1 := p.2.1
  let a2 := p.2.2.1
  let a3 := p.2.2.2
  some (((a3.length : Int) == (0 : Int)), a0, a1, a2, a3)
def F_numbers_may_c3.ann : List (Nat × Ann) := []
def F_numbers_may_c3.sig : Sig := ⟨[.box [.int .u8, .int .i64, .int .i64, .sl (.int .u8)]], [(false, [.dat .bool])]⟩
noncomputable def F_numbers_may_c3.S : Summ := ⟨70, F_numbers_may_c3.sig, F_numbers_may_c3⟩
noncomputable def F_numbers_may_c3.G : List Summ := []
theorem F_numbers_may_c3.eq : absF Try.prog F_numbers_may_c3.G F_numbers_may_c3.ann F_numbers_may_c3.sig Try.f70 = F_numbers_may_c3 := by kernel_rfl
theorem F_numbers_may_c3.sound : Sound Try.prog F_numbers_may_c3.S := absF_sound (fn := Try.f70) (Γ := F_numbers_may_c3.G) all_nil mix (by kernel_rfl) (by kernel_rfl) (fun m p => congrFun (congrFun F_numbers_may_c3.eq m) p)
/-! ### cloakroom/numbers.may$2 -/
noncomputable def F_numbers_may_c2 (_ : Fu) (p : Int × Int × Int × (List Int)) : Option (Bool × Int × Int × Int × (List Int)) :=
  let a0 := p.1
  let a1 := p.2.1
  let a2 := p.2.2.1
  let a3 := p.2.2.2
  some (((a3.length : Int) == (0 : Int)), a0, a1, a2, a3)
def F_numbers_may_c2.ann : List (Nat × Ann) := []
def F_numbers_may_c2.sig : Sig := ⟨[.box [.int .u8, .int .i64, .int .i64, .sl (.int .u8)]], [(false, [.dat .bool])]⟩
noncomputable def F_numbers_may_c2.S : Summ := ⟨69, F_numbers_may_c2.sig, F_numbers_may_c2⟩
noncomputable def F_numbers_may_c2.G : List Summ := []
theorem F_numbers_may_c2.eq : absF Try.prog F_numbers_may_c2.G F_numbers_may_c2.ann F_numbers_may_c2.sig Try.f69 = F_numbers_may_c2 := by kernel_rfl
theorem F_numbers_may_c2.sound : Sound Try.prog F_numbers_may_c2.S := absF_sound (fn := Try.f69) (Γ := F_numbers_may_c2.G) all_nil mix (by kernel_rfl) (by kernel_rfl) (fun m p => congrFun (congrFun F_numbers_may_c2.eq m) p)
/-! ### cloakroom/numbers.may$1 -/
noncomputable def F_numbers_may_c1 (m : Fu) (p : Int × Int × Int × (List Int)) : Option (Bool × Int × Int × Int × (List Int)) :=
  let a0 := p.1
  let a1 := p.2.1
  let a2 := p.2.2.1
  let a3 := p.2.2.2
  bif decide ((0 : Int) < a2) then
    (F_numbers_changes m a3).bind fun x2 =>
    some (x2, a0, a1, a2, a3)
  else some (false, a0, a1, a2, a3)
def F_numbers_may_c1.ann : List (Nat × Ann) := []
def F_numbers_may_c1.sig : Sig := ⟨[.box [.int .u8, .int .i64, .int .i64, .sl (.int .u8)]], [(false, [.dat .bool])]⟩
noncomputable def F_numbers_may_c1.S : Summ := ⟨68, F_numbers_may_c1.sig, F_numbers_may_c1⟩
noncomputable def F_numbers_may_c1.G : List Summ := [F_numbers_changes.S]
theorem F_numbers_may_c1.eq : absF Try.prog F_numbers_may_c1.G F_numbers_may_c1.ann F_numbers_may_c1.sig Try.f68 = F_numbers_may_c1 := by kernel_rfl
theorem F_numbers_may_c1.sound : Sound Try.prog F_numbers_may_c1.S := absF_sound (fn := Try.f68) (Γ := F_numbers_may_c1.G) (all_cons F_numbers_changes.sound all_nil) mix (by kernel_rfl) (by kernel_rfl) (fun m p => congrFun (congrFun F_numbers_may_c1.eq m) p)
/-! ### cloakroom/numbers.may -/
noncomputable def F_numbers_may (m : Fu) (p : Int × Int × Int × (List Int)) : Option (Bool) :=
  let a0 := p.1
  let a1 := p.2.1
  let a2 := p.2.2.1
  let a3 := p.2.2.2
  (F_numbers_in m a1).bind fun x1 =>
  bif x1 then
    (F_numbers_in m a2).bind fun x2 =>
    bif x2 then
      bif decide ((0 : Int) < a0) then
        bif decide ((IntKind.i64.wrap a0) < (5 : Int)) then
          bif a0 == (0 : Int) then none else
          bif a0 == (1 : Int) then
            (F_numbers_may_c1 m (a0, a1, a2, a3)).bind fun x9 =>
            some x9.1
          else
            bif a0 == (2 : Int) then
              (F_numbers_may_c2 m (a0, a1, a2, a3)).bind fun x8 =>
              some x8.1
            else
              bif a0 == (3 : Int) then
                (F_numbers_may_c3 m (a0, a1, a2, a3)).bind fun x7 =>
                some x7.1
              else
                bif a0 == (4 : Int) then
                  (F_numbers_may_c4 m (a0, a1, a2, a3)).bind fun x6 =>
                  some x6.1
                else none
        else some false
      else some false
    else some false
  else some false
def F_numbers_may.ann : List (Nat × Ann) := []
def F_numbers_may.sig : Sig := ⟨[.val true [.int .u8, .int .i64, .int .i64, .sl (.int .u8)]], [(false, [.dat .bool])]⟩
noncomputable def F_numbers_may.S : Summ := ⟨37, F_numbers_may.sig, F_numbers_may⟩
noncomputable def F_numbers_may.G : List Summ := [F_numbers_in.S, F_numbers_may_c4.S, F_numbers_may_c3.S, F_numbers_may_c2.S, F_numbers_may_c1.S]
theorem F_numbers_may.eq : absF Try.prog F_numbers_may.G F_numbers_may.ann F_numbers_may.sig Try.f37 = F_numbers_may := by kernel_rfl
theorem F_numbers_may.sound : Sound Try.prog F_numbers_may.S := absF_sound (fn := Try.f37) (Γ := F_numbers_may.G) (all_cons F_numbers_in.sound (all_cons F_numbers_may_c4.sound (all_cons F_numbers_may_c3.sound (all_cons F_numbers_may_c2.sound (all_cons F_numbers_may_c1.sound all_nil))))) mix (by kernel_rfl) (by kernel_rfl) (fun m p => congrFun (congrFun F_numbers_may.eq m) p)
/-! ### cloakroom/numbers.behind -/
noncomputable def F_numbers_behind.l26 (m : Fu) (a0 : Int) (a1 : Int) (a2 : Int) (a3 : List (List Int)) (x5 : Int × (List (Int × Int × Int × (List Int)))) : Option (Step (Int × (List (Int × Int × Int × (List Int)))) ((List (Int × Int × Int × (List Int))))) :=
  bif decide (x5.1 ≤ a1) then
    (F_numbers_message m (a0, a1, a2, a3, x5.1)).bind fun x7 =>
    let x8 := [x7]
    bif Nat.ble (x5.2.length + x8.length) 4294967296 then
      some (.next ((IntKind.i64.wrap (x5.1 + (1 : Int))), (x5.2 ++ x8)))
    else none
  else some (.fin x5.2)
noncomputable def F_numbers_behind (m : Fu) (p : Int × Int × Int × (List (List Int)) × Int) : Option (List (Int × Int × Int × (List Int))) :=
  let a0 := p.1
  let a1 := p.2.1
  let a2 := p.2.2.1
  let a3 := p.2.2.2.1
  let a4 := p.2.2.2.2
  (iter m (F_numbers_behind.l26 m a0 a1 a2 a3) ((IntKind.i64.wrap ((mxI a4 (IntKind.i64.wrap (a1 - (a3.length : Int)))) + (1 : Int))), ([] : List (Int × Int × Int × (List Int))))).bind fun x11 =>
  some x11
def F_numbers_behind.ann : List (Nat × Ann) := [(26, .loop ⟨[(1, false, [.dat (.int .i64)]), (4, false, [.own (.pr (.int .u8) (.pr (.int .i64) (.pr (.int .i64) (.sl (.int .u8))))) 224 .wr])], [], [], [], 225⟩ [(.exit 0, ⟨[(4, false, [.own (.pr (.int .u8) (.pr (.int .i64) (.pr (.int .i64) (.sl (.int .u8))))) 224 .wr])], [], [], [], 225⟩)])]
def F_numbers_behind.sig : Sig := ⟨[.val true [.int .i64, .int .i64, .int .i64, .sl (.sl (.int .u8))], .val false [.int .i64]], [(false, [.own (.pr (.int .u8) (.pr (.int .i64) (.pr (.int .i64) (.sl (.int .u8))))) 0 .wr])]⟩
noncomputable def F_numbers_behind.S : Summ := ⟨54, F_numbers_behind.sig, F_numbers_behind⟩
noncomputable def F_numbers_behind.G : List Summ := [F_numbers_message.S]
theorem F_numbers_behind.eq : absF Try.prog F_numbers_behind.G F_numbers_behind.ann F_numbers_behind.sig Try.f54 = F_numbers_behind := by kernel_rfl
theorem F_numbers_behind.sound : Sound Try.prog F_numbers_behind.S := absF_sound (fn := Try.f54) (Γ := F_numbers_behind.G) (all_cons F_numbers_message.sound all_nil) mix (by kernel_rfl) (by kernel_rfl) (fun m p => congrFun (congrFun F_numbers_behind.eq m) p)
/-! ### cloakroom/numbers.Hear -/
noncomputable def F_numbers_Hear.s126 (_ : Fu) (a11 : Int) (a12 : Int) (x7 : Int × Int × Int × (List (List Int))) : Option (Bool) :=
  bif a11 == x7.1 then
    some (decide (a12 ≤ x7.2.1))
  else some false
noncomputable def F_numbers_Hear.s65208 (_ : Fu) (a12 : Int) (x7 : Int × Int × Int × (List (List Int))) (x10 : Bool) : Option (Bool) :=
  bif x10 then
    some (decide ((IntKind.i64.wrap (x7.2.1 - (x7.2.2.2.length : Int))) ≤ a12))
  else some false
noncomputable def F_numbers_Hear.s32604 (m : Fu) (a12 : Int) (x7 : Int × Int × Int × (List (List Int))) (x10 : Bool) : Option (((List (Int × Int × Int × (List Int))) × Int × Int × Int × Int × (List (List Int))) ⊕ Unit) :=
  (F_numbers_Hear.s65208 m a12 x7 x10).bind fun x17 =>
  bif x17 then
    (F_numbers_behind m (x7.1, x7.2.1, x7.2.2.1, x7.2.2.2, a12)).bind fun x18 =>
    some (Sum.inl (x18, (0 : Int), x7))
  else some (Sum.inr ())
noncomputable def F_numbers_Hear.s254 (m : Fu) (a4 : Int) (a5 : List Int) (a6 : List (Int × (List Int) × (List Int) × Int × Int × Int)) (a7 : Int) (a8 : Int) (a9 : Bool) (a10 : Int) (a12 : Int) (x7 : Int × Int × Int × (List (List Int))) (x10 : Bool) : Option ((Int × Int × Int × (List (List Int))) ⊕ ((List (Int × Int × Int × (List Int))) × Int × Int × Int × Int × (List (List Int)))) :=
  bif a10 == (2 : Int) then
    bif x10 then
      some (Sum.inl (x7.1, x7.2.1, (mxI x7.2.2.1 a12), x7.2.2.2))
    else some (Sum.inl x7)
  else
    bif a10 == (3 : Int) then
      (F_numbers_Hear.s32604 m a12 x7 x10).bind fun x19 =>
      match x19 with
      | .inl x20 =>
        some (Sum.inr x20)
      | .inr _ =>
        (F_image_Write m (a4, a5, a6, a7, a8, a9)).bind fun x22 =>
        bif x22.2 != (0 : Int) then
          some (Sum.inr (([] : List (Int × Int × Int × (List Int))), x22.2, (0 : Int), (0 : Int), (0 : Int), ([] : List (List Int))))
        else some (Sum.inr (([((4 : Int), (x7.1, (x7.2.1, x22.1)))]), (0 : Int), x7))
    else some (Sum.inl x7)
noncomputable def F_numbers_Hear (m : Fu) (p : Int × Int × Int × (List (List Int)) × Int × (List Int) × (List (Int × (List Int) × (List Int) × Int × Int × Int)) × Int × Int × Bool × Int × Int × Int × (List Int)) : Option (Int × Int × Int × (List (List Int)) × (List (Int × Int × Int × (List Int))) × Int) :=
  let a0 := p.1
  let a1 := p.2.1
  let a2 := p.2.2.1
  let a3 := p.2.2.2.1
  let a4 := p.2.2.2.2.1
  let a5 := p.2.2.2.2.2.1
  let a6 := p.2.2.2.2.2.2.1
  let a7 := p.2.2.2.2.2.2.2.1
  let a8 := p.2.2.2.2.2.2.2.2.1
  let a9 := p.2.2.2.2.2.2.2.2.2.1
  let a10 := p.2.2.2.2.2.2.2.2.2.2.1
  let a11 := p.2.2.2.2.2.2.2.2.2.2.2.1
  let a12 := p.2.2.2.2.2.2.2.2.2.2.2.2.1
  let a13 := p.2.2.2.2.2.2.2.2.2.2.2.2.2
  (F_numbers_Check m (a0, a1, a2, a3)).bind fun x1 =>
  bif x1 != (0 : Int) then some ((0 : Int), (0 : Int), (0 : Int), ([] : List (List Int)), ([] : List (Int × Int × Int × (List Int))), x1) else
  (F_image_Check m (a4, a5, a6, a7, a8, a9)).bind fun x3 =>
  bif x3 != (0 : Int) then some ((0 : Int), (0 : Int), (0 : Int), ([] : List (List Int)), ([] : List (Int × Int × Int × (List Int))), x3) else
  (F_numbers_may m (a10, a11, a12, a13)).bind fun x5 =>
  bif !x5 then some ((0 : Int), (0 : Int), (0 : Int), ([] : List (List Int)), ([] : List (Int × Int × Int × (List Int))), (8 : Int)) else
  (F_numbers_twin m (a0, a1, a2, a3)).bind fun x7 =>
  (F_numbers_Hear.s126 m a11 a12 x7).bind fun x10 =>
  (F_numbers_Hear.s254 m a4 a5 a6 a7 a8 a9 a10 a12 x7 x10).bind fun x25 =>
  match x25 with
  | .inl x26 =>
    some (x26.1, x26.2.1, x26.2.2.1, x26.2.2.2, ([] : List (Int × Int × Int × (List Int))), (0 : Int))
  | .inr x27 =>
    some (x27.2.2.1, x27.2.2.2.1, x27.2.2.2.2.1, x27.2.2.2.2.2, x27.1, x27.2.1)
def F_numbers_Hear.ann : List (Nat × Ann) := [(126, .jnt [(.normal, ⟨[(11, false, [.dat .bool])], [], [], [], 400⟩)]),
  (254, .jnt [(.normal, ⟨[], [(48, [.dat (.int .i64), .dat (.int .i64), .dat (.int .i64), .own (.sl (.int .u8)) 400 .wr])], [], [368], 401⟩), (.ret, ⟨[(7, false, [.own (.pr (.int .u8) (.pr (.int .i64) (.pr (.int .i64) (.sl (.int .u8))))) 400 .wr]), (8, false, [.dat (.int .i64)])], [(96, [.dat (.int .i64), .dat (.int .i64), .dat (.int .i64), .own (.sl (.int .u8)) 401 .fr])], [], [368], 402⟩)]),
  (32604, .jnt [(.ret, ⟨[(7, false, [.own (.pr (.int .u8) (.pr (.int .i64) (.pr (.int .i64) (.sl (.int .u8))))) 496 .wr]), (8, false, [.dat (.int .i64)])], [(96, [.dat (.int .i64), .dat (.int .i64), .dat (.int .i64), .own (.sl (.int .u8)) 497 .fr])], [], [368], 498⟩), (.normal, ⟨[], [], [], [], 496⟩)]),
  (65208, .jnt [(.normal, ⟨[(68, false, [.dat .bool])], [], [], [], 496⟩)])]
def F_numbers_Hear.sig : Sig := ⟨[.val true [.int .i64, .int .i64, .int .i64, .sl (.sl (.int .u8))], .val true [.int .i64, .sl (.int .i64), .sl (.pr (.int .i64) (.pr .str (.pr .str (.pr (.int .u32) (.pr (.int .i64) (.int .u64)))))), .int .i64, .int .i64, .bool], .val true [.int .u8, .int .i64, .int .i64, .sl (.int .u8)]], [(true, [.dat (.int .i64), .dat (.int .i64), .dat (.int .i64), .own (.sl (.int .u8)) 0 .fr]), (false, [.own (.pr (.int .u8) (.pr (.int .i64) (.pr (.int .i64) (.sl (.int .u8))))) 0 .wr]), (false, [.dat (.int .i64)])]⟩
noncomputable def F_numbers_Hear.S : Summ := ⟨20, F_numbers_Hear.sig, F_numbers_Hear⟩
noncomputable def F_numbers_Hear.G : List Summ := [F_numbers_Check.S, F_image_Check.S, F_numbers_may.S, F_numbers_twin.S, F_numbers_behind.S, F_image_Write.S]
theorem F_numbers_Hear.eq : absF Try.prog F_numbers_Hear.G F_numbers_Hear.ann F_numbers_Hear.sig Try.f20 = F_numbers_Hear := by kernel_rfl
theorem F_numbers_Hear.sound : Sound Try.prog F_numbers_Hear.S := absF_sound (fn := Try.f20) (Γ := F_numbers_Hear.G) (all_cons F_numbers_Check.sound (all_cons F_image_Check.sound (all_cons F_numbers_may.sound (all_cons F_numbers_twin.sound (all_cons F_numbers_behind.sound (all_cons F_image_Write.sound all_nil)))))) mix (by kernel_rfl) (by kernel_rfl) (fun m p => congrFun (congrFun F_numbers_Hear.eq m) p)
/-! ### cloakroom/cloakroomref24.SameSender -/
noncomputable def F_ref24_SameSender.l58 (_ : Fu) (a3 : List (List Int)) (a7 : List (List Int)) (x7 : Int) : Option (Step Int (Bool ⊕ Unit)) :=
  bif decide (x7 < (a3.length : Int)) then
    bif (decide ((0 : Int) ≤ x7)) && (decide (x7 < (a3.length : Int))) then
      bif (decide ((0 : Int) ≤ x7)) && (decide (x7 < (a7.length : Int))) then
        bif !((a3.getD x7.toNat []) == (a7.getD x7.toNat [])) then
          some (.fin (Sum.inl false))
        else some (.next (IntKind.i64.wrap (x7 + (1 : Int))))
      else none
    else none
  else some (.fin (Sum.inr ()))
noncomputable def F_ref24_SameSender (m : Fu) (p : Int × Int × Int × (List (List Int)) × Int × Int × Int × (List (List Int))) : Option (Bool) :=
  let a0 := p.1
  let a1 := p.2.1
  let a2 := p.2.2.1
  let a3 := p.2.2.2.1
  let a4 := p.2.2.2.2.1
  let a5 := p.2.2.2.2.2.1
  let a6 := p.2.2.2.2.2.2.1
  let a7 := p.2.2.2.2.2.2.2
  bif a0 != a4 then some false else
  bif a1 != a5 then some false else
  bif a2 != a6 then some false else
  bif (a3.length : Int) != (a7.length : Int) then some false else
  (iter m (F_ref24_SameSender.l58 m a3 a7) (0 : Int)).bind fun x14 =>
  match x14 with
  | .inl x15 =>
    some x15
  | .inr _ =>
    some true
def F_ref24_SameSender.ann : List (Nat × Ann) := [(58, .loop ⟨[(5, false, [.dat (.int .i64)])], [], [], [], 544⟩ [(.ret, ⟨[(4, false, [.dat .bool])], [], [], [], 544⟩), (.exit 0, ⟨[], [], [], [], 544⟩)])]
def F_ref24_SameSender.sig : Sig := ⟨[.val true [.int .i64, .int .i64, .int .i64, .sl (.sl (.int .u8))], .val true [.int .i64, .int .i64, .int .i64, .sl (.sl (.int .u8))]], [(false, [.dat .bool])]⟩
noncomputable def F_ref24_SameSender.S : Summ := ⟨21, F_ref24_SameSender.sig, F_ref24_SameSender⟩
noncomputable def F_ref24_SameSender.G : List Summ := []
theorem F_ref24_SameSender.eq : absF Try.prog F_ref24_SameSender.G F_ref24_SameSender.ann F_ref24_SameSender.sig Try.f21 = F_ref24_SameSender := by kernel_rfl
theorem F_ref24_SameSender.sound : Sound Try.prog F_ref24_SameSender.S := absF_sound (fn := Try.f21) (Γ := F_ref24_SameSender.G) all_nil mix (by kernel_rfl) (by kernel_rfl) (fun m p => congrFun (congrFun F_ref24_SameSender.eq m) p)
/-! ### cloakroom/cloakroomlaw24.NumbersEnough -/
noncomputable def F_law24_NumbersEnough.s1020 (_ : Fu) (x7 : Int × Int × Int × (List (List Int)) × (List (Int × Int × Int × (List Int))) × Int) : Option (Bool) :=
  bif (x7.2.2.2.2.1.length : Int) == (1 : Int) then
    bif decide ((0 : Int) < (x7.2.2.2.2.1.length : Int)) then
      bif Nat.blt 0 x7.2.2.2.2.1.length then
        some (((x7.2.2.2.2.1.getD 0 (0, (0, (0, [])))).1) == (4 : Int))
      else none
    else none
  else some false
noncomputable def F_law24_NumbersEnough.s510 (m : Fu) (a0 : Int) (a1 : Int) (a4 : Int) (a5 : List Int) (a6 : List (Int × (List Int) × (List Int) × Int × Int × Int)) (a7 : Int) (a8 : Int) (a9 : Bool) (x1 : Bool) (x7 : Int × Int × Int × (List (List Int)) × (List (Int × Int × Int × (List Int))) × Int) : Option (Bool ⊕ Unit) :=
  (F_law24_NumbersEnough.s1020 m x7).bind fun x17 =>
  bif x17 then
    (F_image_Write m (a4, a5, a6, a7, a8, a9)).bind fun x18 =>
    bif x1 then
      bif x18.2 == (0 : Int) then
        bif decide ((0 : Int) < (x7.2.2.2.2.1.length : Int)) then
          bif Nat.blt 0 x7.2.2.2.2.1.length then
            bif ((((x7.2.2.2.2.1.getD 0 (0, (0, (0, [])))).2).2).2) == x18.1 then
              bif decide ((0 : Int) < (x7.2.2.2.2.1.length : Int)) then
                bif Nat.blt 0 x7.2.2.2.2.1.length then
                  bif (((x7.2.2.2.2.1.getD 0 (0, (0, (0, [])))).2).1) == a0 then
                    bif decide ((0 : Int) < (x7.2.2.2.2.1.length : Int)) then
                      bif Nat.blt 0 x7.2.2.2.2.1.length then
                        some (Sum.inl (((((x7.2.2.2.2.1.getD 0 (0, (0, (0, [])))).2).2).1) == a1))
                      else none
                    else none
                  else some (Sum.inl false)
                else none
              else none
            else some (Sum.inl false)
          else none
        else none
      else some (Sum.inl false)
    else some (Sum.inl false)
  else some (Sum.inr ())
noncomputable def F_law24_NumbersEnough.l8186 (_ : Fu) (a0 : Int) (a3 : List (List Int)) (a11 : Int) (x7 : Int × Int × Int × (List (List Int)) × (List (Int × Int × Int × (List Int))) × Int) (x34 : Int) : Option (Step Int (Bool ⊕ Unit)) :=
  bif decide (x34 < (x7.2.2.2.2.1.length : Int)) then
    bif (decide ((0 : Int) ≤ x34)) && (decide (x34 < (x7.2.2.2.2.1.length : Int))) then
      bif Nat.blt x34.toNat x7.2.2.2.2.1.length then
        bif ((x7.2.2.2.2.1.getD x34.toNat (0, (0, (0, [])))).1) != (1 : Int) then some (.fin (Sum.inl false)) else
        bif (decide ((0 : Int) ≤ x34)) && (decide (x34 < (x7.2.2.2.2.1.length : Int))) then
          bif Nat.blt x34.toNat x7.2.2.2.2.1.length then
            bif (((x7.2.2.2.2.1.getD x34.toNat (0, (0, (0, [])))).2).1) != a0 then some (.fin (Sum.inl false)) else
            bif (decide ((0 : Int) ≤ x34)) && (decide (x34 < (x7.2.2.2.2.1.length : Int))) then
              bif Nat.blt x34.toNat x7.2.2.2.2.1.length then
                bif ((((x7.2.2.2.2.1.getD x34.toNat (0, (0, (0, [])))).2).2).1) != (IntKind.i64.wrap ((IntKind.i64.wrap (a11 + (1 : Int))) + x34)) then some (.fin (Sum.inl false)) else
                bif (decide ((0 : Int) ≤ x34)) && (decide (x34 < (x7.2.2.2.2.1.length : Int))) then
                  bif Nat.blt x34.toNat x7.2.2.2.2.1.length then
                    let x49 := IntKind.i64.wrap ((IntKind.i64.wrap ((a3.length : Int) - (x7.2.2.2.2.1.length : Int))) + x34)
                    bif (decide ((0 : Int) ≤ x49)) && (decide (x49 < (a3.length : Int))) then
                      bif !(((((x7.2.2.2.2.1.getD x34.toNat (0, (0, (0, [])))).2).2).2) == (a3.getD x49.toNat [])) then
                        some (.fin (Sum.inl false))
                      else some (.next (IntKind.i64.wrap (x34 + (1 : Int))))
                    else none
                  else none
                else none
              else none
            else none
          else none
        else none
      else none
    else none
  else some (.fin (Sum.inr ()))
noncomputable def F_law24_NumbersEnough (m : Fu) (p : Int × Int × Int × (List (List Int)) × Int × (List Int) × (List (Int × (List Int) × (List Int) × Int × Int × Int)) × Int × Int × Bool × Int × Int) : Option (Bool) :=
  let a0 := p.1
  let a1 := p.2.1
  let a2 := p.2.2.1
  let a3 := p.2.2.2.1
  let a4 := p.2.2.2.2.1
  let a5 := p.2.2.2.2.2.1
  let a6 := p.2.2.2.2.2.2.1
  let a7 := p.2.2.2.2.2.2.2.1
  let a8 := p.2.2.2.2.2.2.2.2.1
  let a9 := p.2.2.2.2.2.2.2.2.2.1
  let a10 := p.2.2.2.2.2.2.2.2.2.2.1
  let a11 := p.2.2.2.2.2.2.2.2.2.2.2
  (F_law24_alive m ()).bind fun x1 =>
  bif !x1 then some false else
  (F_ref24_Great m (a0, a1, a2, a3)).bind fun x3 =>
  bif x3 then some x1 else
  (F_ref21_Great m (a4, a5, a6, a7, a8, a9)).bind fun x4 =>
  bif x4 then some x1 else
  (F_numbers_Check m (a0, a1, a2, a3)).bind fun x5 =>
  bif x5 != (0 : Int) then some x1 else
  (F_numbers_Hear m (a0, a1, a2, a3, a4, a5, a6, a7, a8, a9, (3 : Int), a10, a11, ([] : List Int))).bind fun x7 =>
  bif x7.2.2.2.2.2 != (0 : Int) then
    bif x1 then
      some ((x7.2.2.2.2.1.length : Int) == (0 : Int))
    else some false
  else
    (F_ref24_SameSender m (x7.1, x7.2.1, x7.2.2.1, x7.2.2.2.1, a0, a1, a2, a3)).bind fun x11 =>
    bif !x11 then some false else
    (F_law24_NumbersEnough.s510 m a0 a1 a4 a5 a6 a7 a8 a9 x1 x7).bind fun x26 =>
    match x26 with
    | .inl x27 =>
      some x27
    | .inr _ =>
      bif a10 != a0 then some false else
      bif decide (a1 < a11) then some false else
      bif (x7.2.2.2.2.1.length : Int) != (IntKind.i64.wrap (a1 - a11)) then some false else
      (iter m (F_law24_NumbersEnough.l8186 m a0 a3 a11 x7) (0 : Int)).bind fun x53 =>
      match x53 with
      | .inl x54 =>
        some x54
      | .inr _ =>
        some x1
def F_law24_NumbersEnough.ann : List (Nat × Ann) := [(510, .jnt [(.ret, ⟨[(8, false, [.dat .bool])], [], [], [], 672⟩), (.normal, ⟨[], [], [], [], 672⟩)]),
  (1020, .jnt [(.normal, ⟨[(62, false, [.dat .bool])], [], [], [], 672⟩)]),
  (8186, .loop ⟨[(15, false, [.dat (.int .i64)])], [], [], [], 992⟩ [(.ret, ⟨[(8, false, [.dat .bool])], [], [], [], 992⟩), (.exit 0, ⟨[], [], [], [], 992⟩)])]
def F_law24_NumbersEnough.sig : Sig := ⟨[.val true [.int .i64, .int .i64, .int .i64, .sl (.sl (.int .u8))], .val true [.int .i64, .sl (.int .i64), .sl (.pr (.int .i64) (.pr .str (.pr .str (.pr (.int .u32) (.pr (.int .i64) (.int .u64)))))), .int .i64, .int .i64, .bool], .val false [.int .i64], .val false [.int .i64]], [(false, [.dat .bool])]⟩
noncomputable def F_law24_NumbersEnough.S : Summ := ⟨4, F_law24_NumbersEnough.sig, F_law24_NumbersEnough⟩
noncomputable def F_law24_NumbersEnough.G : List Summ := [F_law24_alive.S, F_ref24_Great.S, F_ref21_Great.S, F_numbers_Check.S, F_numbers_Hear.S, F_ref24_SameSender.S, F_image_Write.S]
theorem F_law24_NumbersEnough.eq : absF Try.prog F_law24_NumbersEnough.G F_law24_NumbersEnough.ann F_law24_NumbersEnough.sig Try.f4 = F_law24_NumbersEnough := by kernel_rfl
theorem F_law24_NumbersEnough.sound : Sound Try.prog F_law24_NumbersEnough.S := absF_sound (fn := Try.f4) (Γ := F_law24_NumbersEnough.G) (all_cons F_law24_alive.sound (all_cons F_ref24_Great.sound (all_cons F_ref21_Great.sound (all_cons F_numbers_Check.sound (all_cons F_numbers_Hear.sound (all_cons F_ref24_SameSender.sound (all_cons F_image_Write.sound all_nil))))))) mix (by kernel_rfl) (by kernel_rfl) (fun m p => congrFun (congrFun F_law24_NumbersEnough.eq m) p)
/-! ### cloakroom/cloakroomlaw24.NumbersAcked -/
noncomputable def F_law24_NumbersAcked (m : Fu) (p : Int × Int × Int × (List (List Int)) × Int × (List Int) × (List (Int × (List Int) × (List Int) × Int × Int × Int)) × Int × Int × Bool × Int × Int × Int × (List Int)) : Option (Bool) :=
  let a0 := p.1
  let a1 := p.2.1
  let a2 := p.2.2.1
  let a3 := p.2.2.2.1
  let a4 := p.2.2.2.2.1
  let a5 := p.2.2.2.2.2.1
  let a6 := p.2.2.2.2.2.2.1
  let a7 := p.2.2.2.2.2.2.2.1
  let a8 := p.2.2.2.2.2.2.2.2.1
  let a9 := p.2.2.2.2.2.2.2.2.2.1
  let a10 := p.2.2.2.2.2.2.2.2.2.2.1
  let a11 := p.2.2.2.2.2.2.2.2.2.2.2.1
  let a12 := p.2.2.2.2.2.2.2.2.2.2.2.2.1
  let a13 := p.2.2.2.2.2.2.2.2.2.2.2.2.2
  (F_law24_alive m ()).bind fun x1 =>
  bif !x1 then some false else
  (F_ref24_Great m (a0, a1, a2, a3)).bind fun x3 =>
  bif x3 then some x1 else
  (F_ref21_Great m (a4, a5, a6, a7, a8, a9)).bind fun x4 =>
  bif x4 then some x1 else
  bif decide ((100000 : Int) < (a13.length : Int)) then some x1 else
  (F_numbers_Check m (a0, a1, a2, a3)).bind fun x7 =>
  bif x7 != (0 : Int) then some x1 else
  (F_numbers_Hear m (a0, a1, a2, a3, a4, a5, a6, a7, a8, a9, a10, a11, a12, a13)).bind fun x9 =>
  bif x9.2.2.2.2.2 != (0 : Int) then
    bif x1 then
      (F_ref24_SameSender m (x9.1, x9.2.1, x9.2.2.1, x9.2.2.2.1, (0 : Int), (0 : Int), (0 : Int), ([] : List (List Int)))).bind fun x11 =>
      some x11
    else some false
  else
    bif x1 then
      bif decide (a2 ≤ x9.2.2.1) then
        bif decide (x9.2.2.1 ≤ x9.2.1) then
          bif x9.2.1 == a1 then
            bif x9.1 == a0 then
              bif x9.2.2.1 == a2 then some true else
              bif a10 == (2 : Int) then
                bif a11 == a0 then
                  some (a12 == x9.2.2.1)
                else some false
              else some false
            else some false
          else some false
        else some false
      else some false
    else some false
def F_law24_NumbersAcked.ann : List (Nat × Ann) := []
def F_law24_NumbersAcked.sig : Sig := ⟨[.val true [.int .i64, .int .i64, .int .i64, .sl (.sl (.int .u8))], .val true [.int .i64, .sl (.int .i64), .sl (.pr (.int .i64) (.pr .str (.pr .str (.pr (.int .u32) (.pr (.int .i64) (.int .u64)))))), .int .i64, .int .i64, .bool], .val true [.int .u8, .int .i64, .int .i64, .sl (.int .u8)]], [(false, [.dat .bool])]⟩
noncomputable def F_law24_NumbersAcked.S : Summ := ⟨5, F_law24_NumbersAcked.sig, F_law24_NumbersAcked⟩
noncomputable def F_law24_NumbersAcked.G : List Summ := [F_law24_alive.S, F_ref24_Great.S, F_ref21_Great.S, F_numbers_Check.S, F_numbers_Hear.S, F_ref24_SameSender.S]
theorem F_law24_NumbersAcked.eq : absF Try.prog F_law24_NumbersAcked.G F_law24_NumbersAcked.ann F_law24_NumbersAcked.sig Try.f5 = F_law24_NumbersAcked := by kernel_rfl
theorem F_law24_NumbersAcked.sound : Sound Try.prog F_law24_NumbersAcked.S := absF_sound (fn := Try.f5) (Γ := F_law24_NumbersAcked.G) (all_cons F_law24_alive.sound (all_cons F_ref24_Great.sound (all_cons F_ref21_Great.sound (all_cons F_numbers_Check.sound (all_cons F_numbers_Hear.sound (all_cons F_ref24_SameSender.sound all_nil)))))) mix (by kernel_rfl) (by kernel_rfl) (fun m p => congrFun (congrFun F_law24_NumbersAcked.eq m) p)
/-! ### cloakroom/cloakroomref01.Heavy -/
noncomputable def F_ref01_Heavy.s232 (_ : Fu) (a0 : List (Int × Int × ((List Int) × (List Int) × Int × Int × Int) × (List Int) × Int × Int × Bool)) (x1 : Int × Int) : Option (Unit ⊕ Unit) :=
  bif decide (x1.2 < (a0.length : Int)) then
    bif decide (x1.2 < (10000 : Int)) then
      some (Sum.inl ())
    else some (Sum.inr ())
  else some (Sum.inr ())
noncomputable def F_ref01_Heavy.l58 (m : Fu) (a0 : List (Int × Int × ((List Int) × (List Int) × Int × Int × Int) × (List Int) × Int × Int × Bool)) (x1 : Int × Int) : Option (Step (Int × Int) Int) :=
  (F_ref01_Heavy.s232 m a0 x1).bind fun x5 =>
  match x5 with
  | .inl _ =>
    bif (decide ((0 : Int) ≤ x1.2)) && (decide (x1.2 < (a0.length : Int))) then
      bif (decide ((0 : Int) ≤ x1.2)) && (decide (x1.2 < (a0.length : Int))) then
        bif (decide ((0 : Int) ≤ x1.2)) && (decide (x1.2 < (a0.length : Int))) then
          some (.next ((IntKind.i64.wrap ((IntKind.i64.wrap ((IntKind.i64.wrap (x1.1 + (mnI ((((((a0.getD x1.2.toNat (0, (0, (([], ([], (0, (0, 0)))), ([], (0, (0, false))))))).2).2).1).1).length : Int) (100000 : Int)))) + (mnI (((((((a0.getD x1.2.toNat (0, (0, (([], ([], (0, (0, 0)))), ([], (0, (0, false))))))).2).2).1).2).1).length : Int) (100000 : Int)))) + (mnI ((((((a0.getD x1.2.toNat (0, (0, (([], ([], (0, (0, 0)))), ([], (0, (0, false))))))).2).2).2).1).length : Int) (100000 : Int)))), (IntKind.i64.wrap (x1.2 + (1 : Int)))))
        else none
      else none
    else none
  | .inr _ =>
    some (.fin x1.1)
noncomputable def F_ref01_Heavy (m : Fu) (p : List (Int × Int × ((List Int) × (List Int) × Int × Int × Int) × (List Int) × Int × Int × Bool)) : Option (Bool) :=
  let a0 := p
  (iter m (F_ref01_Heavy.l58 m a0) ((0 : Int), (0 : Int))).bind fun x21 =>
  bif decide ((5000 : Int) < (a0.length : Int)) then
    some true
  else some (decide ((200000 : Int) < x21))
def F_ref01_Heavy.ann : List (Nat × Ann) := [(58, .loop ⟨[(3, false, [.dat (.int .i64)]), (4, false, [.dat (.int .i64)])], [], [], [], 64⟩ [(.exit 0, ⟨[(3, false, [.dat (.int .i64)])], [], [], [], 64⟩)]),
  (232, .jnt [(.normal, ⟨[], [], [], [], 64⟩), (.exit 0, ⟨[], [], [], [], 64⟩)])]
def F_ref01_Heavy.sig : Sig := ⟨[.val false [.sl (.pr (.int .u8) (.pr (.int .i64) (.pr (.pr .str (.pr .str (.pr (.int .u32) (.pr (.int .i64) (.int .u64))))) (.pr .str (.pr (.int .u8) (.pr (.int .i64) .bool))))))]], [(false, [.dat .bool])]⟩
noncomputable def F_ref01_Heavy.S : Summ := ⟨23, F_ref01_Heavy.sig, F_ref01_Heavy⟩
noncomputable def F_ref01_Heavy.G : List Summ := []
theorem F_ref01_Heavy.eq : absF Try.prog F_ref01_Heavy.G F_ref01_Heavy.ann F_ref01_Heavy.sig Try.f23 = F_ref01_Heavy := by kernel_rfl
theorem F_ref01_Heavy.sound : Sound Try.prog F_ref01_Heavy.S := absF_sound (fn := Try.f23) (Γ := F_ref01_Heavy.G) all_nil mix (by kernel_rfl) (by kernel_rfl) (fun m p => congrFun (congrFun F_ref01_Heavy.eq m) p)
/-! ### cloakroom/numbers.Write -/
noncomputable def F_numbers_Write.l122 (m : Fu) (x5 : List Int) (x6 : Int) (x7 : (List Int) × Int) : Option (Step ((List Int) × Int) ((List Int))) :=
  bif decide (x7.2 < x6) then
    bif (decide ((0 : Int) ≤ x7.2)) && (decide (x7.2 < (x5.length : Int))) then
      bif Nat.blt x7.2.toNat x5.length then
        (F_code_Small m (IntKind.u64.wrap (x5.getD x7.2.toNat 0))).bind fun x11 =>
        bif Nat.ble (x7.1.length + x11.length) 140737488351232 then
          some (.next ((x7.1 ++ x11), (IntKind.i64.wrap (x7.2 + (1 : Int)))))
        else none
      else none
    else none
  else some (.fin x7.1)
noncomputable def F_numbers_Write (m : Fu) (p : Int × Int × Int × (List Int)) : Option ((List Int) × Int) :=
  let a0 := p.1
  let a1 := p.2.1
  let a2 := p.2.2.1
  let a3 := p.2.2.2
  (F_numbers_may m (a0, a1, a2, a3)).bind fun x1 =>
  bif !x1 then some (([] : List Int), (8 : Int)) else
  let x5 := [a1, a2, (a3.length : Int)]
  (iter m (F_numbers_Write.l122 m x5 (x5.length : Int)) (([a0]), (0 : Int))).bind fun x14 =>
  bif Nat.ble (x14.length + a3.length) 140737488351232 then
    some ((x14 ++ a3), (0 : Int))
  else none
def F_numbers_Write.ann : List (Nat × Ann) := [(122, .loop ⟨[(4, false, [.own (.int .u8) 336 .wr]), (22, false, [.dat (.int .i64)])], [], [], [144], 337⟩ [(.exit 0, ⟨[(4, false, [.own (.int .u8) 336 .wr])], [], [], [144], 337⟩)])]
def F_numbers_Write.sig : Sig := ⟨[.val true [.int .u8, .int .i64, .int .i64, .sl (.int .u8)]], [(false, [.own (.int .u8) 0 .wr]), (false, [.dat (.int .i64)])]⟩
noncomputable def F_numbers_Write.S : Summ := ⟨11, F_numbers_Write.sig, F_numbers_Write⟩
noncomputable def F_numbers_Write.G : List Summ := [F_numbers_may.S, F_code_Small.S]
theorem F_numbers_Write.eq : absF Try.prog F_numbers_Write.G F_numbers_Write.ann F_numbers_Write.sig Try.f11 = F_numbers_Write := by kernel_rfl
theorem F_numbers_Write.sound : Sound Try.prog F_numbers_Write.S := absF_sound (fn := Try.f11) (Γ := F_numbers_Write.G) (all_cons F_numbers_may.sound (all_cons F_code_Small.sound all_nil)) mix (by kernel_rfl) (by kernel_rfl) (fun m p => congrFun (congrFun F_numbers_Write.eq m) p)
/-! ### slices.Clone[[]int,int] -/
noncomputable def F_slices_Clone_int (_ : Fu) (p : List Int) : Option (List Int) :=
  let a0 := p
  match a0 with
  | [] => same2
   (
    some ([] : List Int))
   (
    bif Nat.ble (0 + a0.length) 4294967296 then
      some (([] : List Int) ++ a0)
    else none)
  | _ :: _ =>
    bif Nat.ble (0 + a0.length) 4294967296 then
      some (([] : List Int) ++ a0)
    else none
def F_slices_Clone_int.ann : List (Nat × Ann) := []
def F_slices_Clone_int.sig : Sig := ⟨[.val false [.sl (.int .i64)]], [(false, [.own (.int .i64) 0 .wr])]⟩
noncomputable def F_slices_Clone_int.S : Summ := ⟨98, F_slices_Clone_int.sig, F_slices_Clone_int⟩
noncomputable def F_slices_Clone_int.G : List Summ := []
theorem F_slices_Clone_int.eq : absF Try.prog F_slices_Clone_int.G F_slices_Clone_int.ann F_slices_Clone_int.sig Try.f98 = F_slices_Clone_int := by kernel_rfl
theorem F_slices_Clone_int.sound : Sound Try.prog F_slices_Clone_int.S := absF_sound (fn := Try.f98) (Γ := F_slices_Clone_int.G) all_nil mix (by kernel_rfl) (by kernel_rfl) (fun m p => congrFun (congrFun F_slices_Clone_int.eq m) p)
noncomputable def C_slices_Clone_int (m : Fu) (p : List Int) : Option (List Int) := bif Nat.ble p.length 4294967296 then some p else none
theorem C_slices_Clone_int.is : F_slices_Clone_int = C_slices_Clone_int := by
  funext m p
  have h0 : Nat.ble 0 4294967296 = true := rfl
  cases p <;> simp [F_slices_Clone_int, C_slices_Clone_int, same2_self, h0]
noncomputable def C_slices_Clone_int.S : Summ := ⟨98, F_slices_Clone_int.sig, C_slices_Clone_int⟩
theorem C_slices_Clone_int.sound : Sound Try.prog C_slices_Clone_int.S := by
  have h := F_slices_Clone_int.sound
  unfold F_slices_Clone_int.S at h
  rw [C_slices_Clone_int.is] at h
  exact h
/-! ### cloakroom/image.New -/
noncomputable def F_image_New (m : Fu) (p : List Int) : Option (Int × (List Int) × (List (Int × (List Int) × (List Int) × Int × Int × Int)) × Int × Int × Bool × Int) :=
  let a0 := p
  (F_image_quotas m a0).bind fun x1 =>
  bif !x1 then some ((0 : Int), ([] : List Int), ([] : List (Int × (List Int) × (List Int) × Int × Int × Int)), (0 : Int), (0 : Int), false, (2 : Int)) else
  (C_slices_Clone_int m a0).bind fun x3 =>
  some ((0 : Int), x3, ([] : List (Int × (List Int) × (List Int) × Int × Int × Int)), (0 : Int), (0 : Int), false, (0 : Int))
def F_image_New.ann : List (Nat × Ann) := []
def F_image_New.sig : Sig := ⟨[.val false [.sl (.int .i64)]], [(true, [.dat (.int .i64), .own (.int .i64) 0 .wr, .dat (.sl (.pr (.int .i64) (.pr .str (.pr .str (.pr (.int .u32) (.pr (.int .i64) (.int .u64))))))), .dat (.int .i64), .dat (.int .i64), .dat .bool]), (false, [.dat (.int .i64)])]⟩
noncomputable def F_image_New.S : Summ := ⟨67, F_image_New.sig, F_image_New⟩
noncomputable def F_image_New.G : List Summ := [F_image_quotas.S, C_slices_Clone_int.S]
theorem F_image_New.eq : absF Try.prog F_image_New.G F_image_New.ann F_image_New.sig Try.f67 = F_image_New := by kernel_rfl
theorem F_image_New.sound : Sound Try.prog F_image_New.S := absF_sound (fn := Try.f67) (Γ := F_image_New.G) (all_cons F_image_quotas.sound (all_cons C_slices_Clone_int.sound all_nil)) mix (by kernel_rfl) (by kernel_rfl) (fun m p => congrFun (congrFun F_image_New.eq m) p)
/-! ### cloakroom/cloakroomlaw24.one -/
noncomputable def F_law24_one (m : Fu) (_ : Unit) : Option (Int × (List Int) × (List (Int × (List Int) × (List Int) × Int × Int × Int)) × Int × Int × Bool) :=
  (F_image_New m ([1] : List Int)).bind fun x1 =>
  some (x1.1, x1.2.1, x1.2.2.1, x1.2.2.2.1, x1.2.2.2.2.1, x1.2.2.2.2.2.1)
def F_law24_one.ann : List (Nat × Ann) := []
def F_law24_one.sig : Sig := ⟨[], [(true, [.dat (.int .i64), .own (.int .i64) 0 .wr, .dat (.sl (.pr (.int .i64) (.pr .str (.pr .str (.pr (.int .u32) (.pr (.int .i64) (.int .u64))))))), .dat (.int .i64), .dat (.int .i64), .dat .bool])]⟩
noncomputable def F_law24_one.S : Summ := ⟨35, F_law24_one.sig, F_law24_one⟩
noncomputable def F_law24_one.G : List Summ := [F_image_New.S]
theorem F_law24_one.eq : absF Try.prog F_law24_one.G F_law24_one.ann F_law24_one.sig Try.f35 = F_law24_one := by kernel_rfl
theorem F_law24_one.sound : Sound Try.prog F_law24_one.S := absF_sound (fn := Try.f35) (Γ := F_law24_one.G) (all_cons F_image_New.sound all_nil) mix (by kernel_rfl) (by kernel_rfl) (fun m p => congrFun (congrFun F_law24_one.eq m) p)
/-! ### cloakroom/numbers.Again -/
noncomputable def F_numbers_Again (m : Fu) (p : Int × Int × Int × (List (List Int))) : Option ((List (Int × Int × Int × (List Int))) × Int) :=
  let a0 := p.1
  let a1 := p.2.1
  let a2 := p.2.2.1
  let a3 := p.2.2.2
  (F_numbers_Check m (a0, a1, a2, a3)).bind fun x1 =>
  bif x1 != (0 : Int) then some (([] : List (Int × Int × Int × (List Int))), x1) else
  (F_numbers_behind m (a0, a1, a2, a3, a2)).bind fun x3 =>
  some (x3, (0 : Int))
def F_numbers_Again.ann : List (Nat × Ann) := []
def F_numbers_Again.sig : Sig := ⟨[.val true [.int .i64, .int .i64, .int .i64, .sl (.sl (.int .u8))]], [(false, [.own (.pr (.int .u8) (.pr (.int .i64) (.pr (.int .i64) (.sl (.int .u8))))) 0 .wr]), (false, [.dat (.int .i64)])]⟩
noncomputable def F_numbers_Again.S : Summ := ⟨30, F_numbers_Again.sig, F_numbers_Again⟩
noncomputable def F_numbers_Again.G : List Summ := [F_numbers_Check.S, F_numbers_behind.S]
theorem F_numbers_Again.eq : absF Try.prog F_numbers_Again.G F_numbers_Again.ann F_numbers_Again.sig Try.f30 = F_numbers_Again := by kernel_rfl
theorem F_numbers_Again.sound : Sound Try.prog F_numbers_Again.S := absF_sound (fn := Try.f30) (Γ := F_numbers_Again.G) (all_cons F_numbers_Check.sound (all_cons F_numbers_behind.sound all_nil)) mix (by kernel_rfl) (by kernel_rfl) (fun m p => congrFun (congrFun F_numbers_Again.eq m) p)
/-! ### cloakroom/cloakroomlaw24.NumbersRise -/
noncomputable def F_law24_NumbersRise.l1018 (m : Fu) (a0 : Int) (a1 : Int) (a2 : List (List (Int × Int × ((List Int) × (List Int) × Int × Int × Int) × (List Int) × Int × Int × Bool))) (x1 : Bool) (x7 : (List (List Int)) × Int × Int × Int × Int × (List (List Int))) : Option (Step ((List (List Int)) × Int × Int × Int × Int × (List (List Int))) (Bool ⊕ ((List (List Int)) × Int × Int × Int × (List (List Int))))) :=
  bif decide (x7.2.1 < (a2.length : Int)) then
    bif (decide ((0 : Int) ≤ x7.2.1)) && (decide (x7.2.1 < (a2.length : Int))) then
      (F_ref01_Heavy m (a2.getD x7.2.1.toNat [])).bind fun x11 =>
      bif x11 then some (.fin (Sum.inl x1)) else
      bif (decide ((0 : Int) ≤ x7.2.1)) && (decide (x7.2.1 < (a2.length : Int))) then
        (F_numbers_Send m (x7.2.2.1, x7.2.2.2.1, x7.2.2.2.2.1, x7.2.2.2.2.2, (a2.getD x7.2.1.toNat []))).bind fun x13 =>
        bif x13.2.2.2.2.2.2.2.2 != (0 : Int) then some (.next (x7.1, (IntKind.i64.wrap (x7.2.1 + (1 : Int))), x7.2.2)) else
        bif (decide ((0 : Int) ≤ x7.2.1)) && (decide (x7.2.1 < (a2.length : Int))) then
          (F_code_Changes m (a2.getD x7.2.1.toNat [])).bind fun x17 =>
          (F_numbers_Write m (x13.2.2.2.2.1, x13.2.2.2.2.2.1, x13.2.2.2.2.2.2.1, x13.2.2.2.2.2.2.2.1)).bind fun x18 =>
          let x19 := [x17.1]
          bif Nat.ble (x7.1.length + x19.length) 4294967296 then
            let x20 := x7.1 ++ x19
            bif x17.2 != (0 : Int) then some (.fin (Sum.inl false)) else
            bif x18.2 != (0 : Int) then some (.fin (Sum.inl false)) else
            bif x13.2.2.2.2.1 != (1 : Int) then some (.fin (Sum.inl false)) else
            bif x13.2.2.2.2.2.1 != a0 then some (.fin (Sum.inl false)) else
            bif x13.2.2.2.2.2.2.1 != (IntKind.i64.wrap (a1 + (x20.length : Int))) then some (.fin (Sum.inl false)) else
            bif !(x13.2.2.2.2.2.2.2.1 == x17.1) then some (.fin (Sum.inl false)) else
            bif x13.2.1 != x13.2.2.2.2.2.2.1 then some (.fin (Sum.inl false)) else
            (F_numbers_Check m (x13.1, x13.2.1, x13.2.2.1, x13.2.2.2.1)).bind fun x30 =>
            bif x30 != (0 : Int) then some (.fin (Sum.inl false)) else
            bif (x13.2.2.2.1.length : Int) != (mnI (32 : Int) (x20.length : Int)) then
              some (.fin (Sum.inl false))
            else some (.next (x20, (IntKind.i64.wrap (x7.2.1 + (1 : Int))), x13.1, x13.2.1, x13.2.2.1, x13.2.2.2.1))
          else none
        else none
      else none
    else none
  else some (.fin (Sum.inr (x7.1, x7.2.2)))
noncomputable def F_law24_NumbersRise.s4094 (_ : Fu) (a3 : Int) (x39 : (List (List Int)) × Int × Int × Int × (List (List Int))) : Option (Int) :=
  bif decide (a3 ≤ x39.2.2.1) then
    some a3
  else some (0 : Int)
noncomputable def F_law24_NumbersRise.l524282 (_ : Fu) (a1 : Int) (x39 : (List (List Int)) × Int × Int × Int × (List (List Int))) (x47 : (List (Int × Int × Int × (List Int))) × Int) (x53 : Int) (x57 : Int) : Option (Step Int (Bool ⊕ Unit)) :=
  bif decide (x57 < (x47.1.length : Int)) then
    bif (decide ((0 : Int) ≤ x57)) && (decide (x57 < (x47.1.length : Int))) then
      bif Nat.blt x57.toNat x47.1.length then
        bif ((((x47.1.getD x57.toNat (0, (0, (0, [])))).2).2).1) != (IntKind.i64.wrap ((IntKind.i64.wrap (x53 + (1 : Int))) + x57)) then some (.fin (Sum.inl false)) else
        bif (decide ((0 : Int) ≤ x57)) && (decide (x57 < (x47.1.length : Int))) then
          bif Nat.blt x57.toNat x47.1.length then
            let x66 := IntKind.i64.wrap ((IntKind.i64.wrap (x53 - a1)) + x57)
            bif (decide ((0 : Int) ≤ x66)) && (decide (x66 < (x39.1.length : Int))) then
              bif Nat.blt x66.toNat x39.1.length then
                bif !(((((x47.1.getD x57.toNat (0, (0, (0, [])))).2).2).2) == (x39.1.getD x66.toNat [])) then
                  some (.fin (Sum.inl false))
                else some (.next (IntKind.i64.wrap (x57 + (1 : Int))))
              else none
            else none
          else none
        else none
      else none
    else none
  else some (.fin (Sum.inr ()))
noncomputable def F_law24_NumbersRise (m : Fu) (p : Int × Int × (List (List (Int × Int × ((List Int) × (List Int) × Int × Int × Int) × (List Int) × Int × Int × Bool))) × Int) : Option (Bool) :=
  let a0 := p.1
  let a1 := p.2.1
  let a2 := p.2.2.1
  let a3 := p.2.2.2
  (F_law24_alive m ()).bind fun x1 =>
  bif !x1 then some false else
  (F_numbers_New m (a0, a1)).bind fun x3 =>
  bif x3.2.2.2.2 != (0 : Int) then some x1 else
  bif decide ((60 : Int) < (a2.length : Int)) then some x1 else
  (iter m (F_law24_NumbersRise.l1018 m a0 a1 a2 x1) (([] : List (List Int)), (0 : Int), x3.1, x3.2.1, x3.2.2.1, x3.2.2.2.1)).bind fun x37 =>
  match x37 with
  | .inl x38 =>
    some x38
  | .inr x39 =>
    (F_law24_one m ()).bind fun x40 =>
    (F_numbers_Hear m (x39.2.1, x39.2.2.1, x39.2.2.2.1, x39.2.2.2.2, x40.1, x40.2.1, x40.2.2.1, x40.2.2.2.1, x40.2.2.2.2.1, x40.2.2.2.2.2, (2 : Int), a0, a3, ([] : List Int))).bind fun x41 =>
    bif x41.2.2.2.2.2 != (0 : Int) then
      bif x1 then
        bif decide (a3 < (0 : Int)) then
          some true
        else some (decide ((2147483647 : Int) < a3))
      else some false
    else
      (F_law24_NumbersRise.s4094 m a3 x39).bind fun x46 =>
      (F_numbers_Again m (x41.1, x41.2.1, x41.2.2.1, x41.2.2.2.1)).bind fun x47 =>
      bif x47.2 != (0 : Int) then some false else
      bif x41.2.2.1 != x46 then some false else
      let x53 := mxI x46 (IntKind.i64.wrap (x39.2.2.1 - (mnI (32 : Int) (x39.1.length : Int))))
      bif (x47.1.length : Int) != (IntKind.i64.wrap (x39.2.2.1 - x53)) then some false else
      (iter m (F_law24_NumbersRise.l524282 m a1 x39 x47 x53) (0 : Int)).bind fun x70 =>
      match x70 with
      | .inl x71 =>
        some x71
      | .inr _ =>
        some x1
def F_law24_NumbersRise.ann : List (Nat × Ann) := [(1018, .loop ⟨[(12, false, [.own .str 432 .wr]), (13, false, [.dat (.int .i64)])], [(240, [.dat (.int .i64), .dat (.int .i64), .dat (.int .i64), .dat (.sl (.sl (.int .u8)))])], [], [], 433⟩ [(.ret, ⟨[(8, false, [.dat .bool])], [], [], [240], 432⟩), (.exit 0, ⟨[(12, false, [.own .str 432 .wr])], [(240, [.dat (.int .i64), .dat (.int .i64), .dat (.int .i64), .dat (.sl (.sl (.int .u8)))])], [], [], 433⟩)]),
  (4094, .jnt [(.normal, ⟨[(24, false, [.dat (.int .i64)])], [], [], [], 705⟩)]),
  (524282, .loop ⟨[(28, false, [.dat (.int .i64)])], [], [], [], 1217⟩ [(.ret, ⟨[(8, false, [.dat .bool])], [], [], [], 1217⟩), (.exit 2, ⟨[], [], [], [], 1217⟩)])]
def F_law24_NumbersRise.sig : Sig := ⟨[.val false [.int .i64], .val false [.int .i64], .val false [.sl (.sl (.pr (.int .u8) (.pr (.int .i64) (.pr (.pr .str (.pr .str (.pr (.int .u32) (.pr (.int .i64) (.int .u64))))) (.pr .str (.pr (.int .u8) (.pr (.int .i64) .bool)))))))], .val false [.int .i64]], [(false, [.dat .bool])]⟩
noncomputable def F_law24_NumbersRise.S : Summ := ⟨8, F_law24_NumbersRise.sig, F_law24_NumbersRise⟩
noncomputable def F_law24_NumbersRise.G : List Summ := [F_law24_alive.S, F_numbers_New.S, F_ref01_Heavy.S, F_numbers_Send.S, F_code_Changes.S, F_numbers_Write.S, F_numbers_Check.S, F_law24_one.S, F_numbers_Hear.S, F_numbers_Again.S]
theorem F_law24_NumbersRise.eq : absF Try.prog F_law24_NumbersRise.G F_law24_NumbersRise.ann F_law24_NumbersRise.sig Try.f8 = F_law24_NumbersRise := by kernel_rfl
theorem F_law24_NumbersRise.sound : Sound Try.prog F_law24_NumbersRise.S := absF_sound (fn := Try.f8) (Γ := F_law24_NumbersRise.G) (all_cons F_law24_alive.sound (all_cons F_numbers_New.sound (all_cons F_ref01_Heavy.sound (all_cons F_numbers_Send.sound (all_cons F_code_Changes.sound (all_cons F_numbers_Write.sound (all_cons F_numbers_Check.sound (all_cons F_law24_one.sound (all_cons F_numbers_Hear.sound (all_cons F_numbers_Again.sound all_nil)))))))))) mix (by kernel_rfl) (by kernel_rfl) (fun m p => congrFun (congrFun F_law24_NumbersRise.eq m) p)
end Go.Proofs.Ytmkfifilpkhfoaa
