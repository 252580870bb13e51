/- The pure functions that the program's functions compute, and that they compute them. Printed by a program of this session (gen.py). -/
import Derived.Test.YtdnfmkkaojafhaaProg
import Derived.Test.YtdnfmkkaojafhaaA3
import Derived.WalkKit
import Derived.Tactics
import Derived.Tactics2
import Derived.StillTactics
import Derived.Laws.Pointers
import Derived.RegionTactic
import Derived.LoopTactic
import Derived.ChangeAlike
import Derived.Laws.Bits64b
namespace Go.Proofs.Ytdnfmkkaojafhaa
open Go.Abs Go.RowKit
set_option maxRecDepth 100000
theorem mix : Try.prog.follows .mixedOrders = true := by kernel_rfl
/-! ### cloakroom/journal.Frame -/
noncomputable def F_journal_Frame.i6s210 (_ : Fu) (x24 : Bool) : Option (Unit ⊕ Unit) :=
  bif x24 then
    some (Sum.inl ())
  else some (Sum.inr ())
noncomputable def F_journal_Frame.i6l26 (m : Fu) (x22 : Int) (x23 : (List Int) × Int) : Option (Step ((List Int) × Int) ((List Int))) :=
  (F_journal_Frame.i6s210 m (decide (x23.2 < (4 : Int)))).bind fun x25 =>
  match x25 with
  | .inl _ =>
    let x27 := IntKind.i64.wrap ((8 : Int) * x23.2)
    bif decide (x27 < (0 : Int)) then none else
    let x30 := [(IntKind.u8.wrap (shrOp .u32 x22 x27))]
    bif Nat.ble (x23.1.length + x30.length) 64 then
      some (.next ((x23.1 ++ x30), (IntKind.i64.wrap (x23.2 + (1 : Int)))))
    else none
  | .inr _ =>
    some (.fin x23.1)
noncomputable def F_journal_Frame.l2074234 (m : Fu) (x18 : List Int) (x19 : Int) (x20 : (List Int) × Int) : Option (Step ((List Int) × Int) ((List Int))) :=
  bif decide (x20.2 < x19) then
    bif (decide ((0 : Int) ≤ x20.2)) && (decide (x20.2 < (x18.length : Int))) then
      bif Nat.blt x20.2.toNat x18.length then
        (iter m (F_journal_Frame.i6l26 m (x18.getD x20.2.toNat 0)) (x20.1, (0 : Int))).bind fun x34 =>
        some (.next (x34, (IntKind.i64.wrap (x20.2 + (1 : Int)))))
      else none
    else none
  else some (.fin x20.1)
noncomputable def F_journal_Frame.i7s210 (_ : Fu) (x39 : Bool) : Option (Unit ⊕ Unit) :=
  bif x39 then
    some (Sum.inl ())
  else some (Sum.inr ())
noncomputable def F_journal_Frame.i7l26 (m : Fu) (x37 : Int) (x38 : (List Int) × Int) : Option (Step ((List Int) × Int) ((List Int))) :=
  (F_journal_Frame.i7s210 m (decide (x38.2 < (2 : Int)))).bind fun x40 =>
  match x40 with
  | .inl _ =>
    let x42 := IntKind.i64.wrap ((8 : Int) * x38.2)
    bif decide (x42 < (0 : Int)) then none else
    let x45 := [(IntKind.u8.wrap (shrOp .u32 x37 x42))]
    bif Nat.ble (x38.1.length + x45.length) 64 then
      some (.next ((x38.1 ++ x45), (IntKind.i64.wrap (x38.2 + (1 : Int)))))
    else none
  | .inr _ =>
    some (.fin x38.1)
noncomputable def F_journal_Frame.i8s210 (_ : Fu) (x52 : Bool) : Option (Unit ⊕ Unit) :=
  bif x52 then
    some (Sum.inl ())
  else some (Sum.inr ())
noncomputable def F_journal_Frame.i8l26 (m : Fu) (x50 : Int) (x51 : (List Int) × Int) : Option (Step ((List Int) × Int) ((List Int))) :=
  (F_journal_Frame.i8s210 m (decide (x51.2 < (2 : Int)))).bind fun x53 =>
  match x53 with
  | .inl _ =>
    let x55 := IntKind.i64.wrap ((8 : Int) * x51.2)
    bif decide (x55 < (0 : Int)) then none else
    let x58 := [(IntKind.u8.wrap (shrOp .u32 x50 x55))]
    bif Nat.ble (x51.1.length + x58.length) 64 then
      some (.next ((x51.1 ++ x58), (IntKind.i64.wrap (x51.2 + (1 : Int)))))
    else none
  | .inr _ =>
    some (.fin x51.1)
noncomputable def F_journal_Frame.l506 (m : Fu) (a0 : Int) (a1 : Int) (a2 : Int) (a3 : Int) (x9 : Int) (x11 : (List Int) × (List (List Int)) × Int) : Option (Step ((List Int) × (List (List Int)) × Int) ((List (List Int)))) :=
  bif decide (x11.2.2 < x9) then
    let x14 := mnI (x11.1.length : Int) (43 : Int)
    bif ((decide ((0 : Int) ≤ x14)) && (decide (x14 ≤ (x11.1.length : Int)))) && (decide ((x11.1.length : Int) ≤ (x11.1.length : Int))) then
      let x15 := (x11.1.take x14.toNat).drop 0
      let x16 := (x15.length : Int)
      bif (((decide ((0 : Int) ≤ x16)) && (decide (x16 ≤ (x11.1.length : Int)))) && (decide ((x11.1.length : Int) ≤ (x11.1.length : Int)))) && (decide ((x11.1.length : Int) ≤ (x11.1.length : Int))) then
        let x18 := [a0, a1, a2, a3]
        (iter m (F_journal_Frame.l2074234 m x18 (x18.length : Int)) (([] : List Int), (0 : Int))).bind fun x36 =>
        (iter m (F_journal_Frame.i7l26 m (IntKind.u32.wrap x11.2.2)) (x36, (0 : Int))).bind fun x49 =>
        (iter m (F_journal_Frame.i8l26 m (IntKind.u32.wrap x9)) (x49, (0 : Int))).bind fun x62 =>
        let x65 := [(IntKind.u8.wrap (x15.length : Int))]
        bif Nat.ble (x62.length + x65.length) 64 then
          let x66 := x62 ++ x65
          bif Nat.ble (x66.length + x15.length) 64 then
            let x67 := x66 ++ x15
            let x69 := [((x67 ++ List.replicate (64 - x67.length) 0).take 64)]
            bif Nat.ble (x11.2.1.length + x69.length) 4294967296 then
              some (.next (((x11.1.take ((x11.1.length : Int).toNat)).drop x16.toNat), (x11.2.1 ++ x69), (IntKind.i64.wrap (x11.2.2 + (1 : Int)))))
            else none
          else none
        else none
      else none
    else none
  else some (.fin x11.2.1)
noncomputable def F_journal_Frame (m : Fu) (p : Int × Int × Int × Int × (List Int)) : Option ((List (List Int)) × Int) :=
  let a0 := p.1
  let a1 := p.2.1
  let a2 := p.2.2.1
  let a3 := p.2.2.2.1
  let a4 := p.2.2.2.2
  bif a0 == (0 : Int) then some (([] : List (List Int)), (2 : Int)) else
  bif a1 == (0 : Int) then some (([] : List (List Int)), (2 : Int)) else
  bif decide ((65536 : Int) < (a4.length : Int)) then some (([] : List (List Int)), (3 : Int)) else
  let x9 := mxI (1 : Int) (IntKind.i64.wrap ((IntKind.i64.wrap ((IntKind.i64.wrap ((a4.length : Int) + (43 : Int))) - (1 : Int))).tdiv (43 : Int)))
  bif (decide ((0 : Int) ≤ x9)) && (decide (x9 ≤ (4294967296 : Int))) then
    (iter m (F_journal_Frame.l506 m a0 a1 a2 a3 x9) (a4, (List.replicate 0 []), (0 : Int))).bind fun x72 =>
    some (x72, (0 : Int))
  else none
def F_journal_Frame.ann : List (Nat × Ann) := [(506, .loop ⟨[(4, false, [.dat (.sl (.int .u8))]), (13, false, [.own (.sl (.int .u8)) 448 .wr]), (37, false, [.dat (.int .i64)])], [], [], [384], 449⟩ [(.exit 0, ⟨[(13, false, [.own (.sl (.int .u8)) 448 .wr])], [], [], [384], 449⟩)]),
  (1037118, .inl [(3, [(26, .loop ⟨[(0, false, [.own (.int .u8) 914 (.cp 64)]), (9, false, [.dat (.int .i64)])], [], [], [817], 915⟩ [(.exit 0, ⟨[(0, false, [.own (.int .u8) 914 (.cp 64)])], [], [], [817], 915⟩)]), (210, .jnt [(.normal, ⟨[], [], [], [], 931⟩), (.exit 0, ⟨[], [], [], [], 931⟩)])]), (6, [(26, .loop ⟨[(0, false, [.own (.int .u8) 1027 (.cp 64)]), (9, false, [.dat (.int .i64)])], [], [], [914], 1028⟩ [(.exit 0, ⟨[(0, false, [.own (.int .u8) 1027 (.cp 64)])], [], [], [914], 1028⟩)]), (210, .jnt [(.normal, ⟨[], [], [], [], 1044⟩), (.exit 0, ⟨[], [], [], [], 1044⟩)])])]),
  (2074234, .loop ⟨[(16, false, [.own (.int .u8) 817 (.cp 64)]), (56, false, [.dat (.int .i64)])], [], [], [673], 818⟩ [(.exit 2, ⟨[(16, false, [.own (.int .u8) 817 (.cp 64)])], [], [], [673], 818⟩)]),
  (132751001, .inl [(2, [(26, .loop ⟨[(0, false, [.own (.int .u8) 962 (.cp 64)]), (9, false, [.dat (.int .i64)])], [], [], [817], 963⟩ [(.exit 0, ⟨[(0, false, [.own (.int .u8) 962 (.cp 64)])], [], [], [817], 963⟩)]), (210, .jnt [(.normal, ⟨[], [], [], [], 979⟩), (.exit 0, ⟨[], [], [], [], 979⟩)])])])]
def F_journal_Frame.sig : Sig := ⟨[.val false [.int .u32], .val false [.int .u32], .val false [.int .u32], .val false [.int .u32], .val false [.sl (.int .u8)]], [(false, [.own (.sl (.int .u8)) 0 .wr]), (false, [.dat (.int .i64)])]⟩
noncomputable def F_journal_Frame.S : Summ := ⟨12, F_journal_Frame.sig, F_journal_Frame⟩
noncomputable def F_journal_Frame.G : List Summ := []
theorem F_journal_Frame.eq : absF Try.prog F_journal_Frame.G F_journal_Frame.ann F_journal_Frame.sig Try.f12 = F_journal_Frame := by kernel_rfl
theorem F_journal_Frame.sound : Sound Try.prog F_journal_Frame.S := absF_sound (fn := Try.f12) (Γ := F_journal_Frame.G) all_nil mix (by kernel_rfl) (by kernel_rfl) (fun m p => congrFun (congrFun F_journal_Frame.eq m) p)
/-! ### cloakroom/cloakroomlaw22.abc -/
noncomputable def F_law22_abc (m : Fu) (_ : Unit) : Option (List (List Int)) :=
  (F_journal_Frame m ((1 : Int), (1 : Int), (7 : Int), (0 : Int), ([97, 98, 99] : List Int))).bind fun x1 =>
  some x1.1
def F_law22_abc.ann : List (Nat × Ann) := []
def F_law22_abc.sig : Sig := ⟨[], [(false, [.own (.sl (.int .u8)) 0 .wr])]⟩
noncomputable def F_law22_abc.S : Summ := ⟨26, F_law22_abc.sig, F_law22_abc⟩
noncomputable def F_law22_abc.G : List Summ := [F_journal_Frame.S]
theorem F_law22_abc.eq : absF Try.prog F_law22_abc.G F_law22_abc.ann F_law22_abc.sig Try.f26 = F_law22_abc := by kernel_rfl
theorem F_law22_abc.sound : Sound Try.prog F_law22_abc.S := absF_sound (fn := Try.f26) (Γ := F_law22_abc.G) (all_cons F_journal_Frame.sound all_nil) mix (by kernel_rfl) (by kernel_rfl) (fun m p => congrFun (congrFun F_law22_abc.eq m) p)
/-! ### cloakroom/journal.get -/
noncomputable def F_journal_get.l26 (_ : Fu) (a0 : List Int) (x1 : Int) (x2 : Int × Int) : Option (Step (Int × Int) Int) :=
  bif decide (x2.2 < x1) then
    bif (decide ((0 : Int) ≤ x2.2)) && (decide (x2.2 < (a0.length : Int))) then
      let x6 := IntKind.i64.wrap ((8 : Int) * x2.2)
      bif decide (x6 < (0 : Int)) then
        none
      else some (.next ((bitsOp .or .u32 x2.1 (shlOp .u32 (IntKind.u32.wrap (a0.getD x2.2.toNat 0)) x6)), (IntKind.i64.wrap (x2.2 + (1 : Int)))))
    else none
  else some (.fin x2.1)
noncomputable def F_journal_get (m : Fu) (p : List Int) : Option (Int) :=
  let a0 := p
  (iter m (F_journal_get.l26 m a0 (a0.length : Int)) ((0 : Int), (0 : Int))).bind fun x10 =>
  some x10
def F_journal_get.ann : List (Nat × Ann) := [(26, .loop ⟨[(2, false, [.dat (.int .u32)]), (7, false, [.dat (.int .i64)])], [], [], [], 80⟩ [(.exit 0, ⟨[(2, false, [.dat (.int .u32)])], [], [], [], 80⟩)])]
def F_journal_get.sig : Sig := ⟨[.val false [.sl (.int .u8)]], [(false, [.dat (.int .u32)])]⟩
noncomputable def F_journal_get.S : Summ := ⟨36, F_journal_get.sig, F_journal_get⟩
noncomputable def F_journal_get.G : List Summ := []
theorem F_journal_get.eq : absF Try.prog F_journal_get.G F_journal_get.ann F_journal_get.sig Try.f36 = F_journal_get := by kernel_rfl
theorem F_journal_get.sound : Sound Try.prog F_journal_get.S := absF_sound (fn := Try.f36) (Γ := F_journal_get.G) all_nil mix (by kernel_rfl) (by kernel_rfl) (fun m p => congrFun (congrFun F_journal_get.eq m) p)
/-! ### bytes.Equal -/
noncomputable def F_bytes_Equal (_ : Fu) (p : (List Int) × (List Int)) : Option (Bool) :=
  let a0 := p.1
  let a1 := p.2
  some (a0 == a1)
def F_bytes_Equal.ann : List (Nat × Ann) := []
def F_bytes_Equal.sig : Sig := ⟨[.val false [.sl (.int .u8)], .val false [.sl (.int .u8)]], [(false, [.dat .bool])]⟩
noncomputable def F_bytes_Equal.S : Summ := ⟨44, F_bytes_Equal.sig, F_bytes_Equal⟩
noncomputable def F_bytes_Equal.G : List Summ := []
theorem F_bytes_Equal.eq : absF Try.prog F_bytes_Equal.G F_bytes_Equal.ann F_bytes_Equal.sig Try.f44 = F_bytes_Equal := by kernel_rfl
theorem F_bytes_Equal.sound : Sound Try.prog F_bytes_Equal.S := absF_sound (fn := Try.f44) (Γ := F_bytes_Equal.G) all_nil mix (by kernel_rfl) (by kernel_rfl) (fun m p => congrFun (congrFun F_bytes_Equal.eq m) p)
/-! ### cloakroom/journal.open -/
noncomputable def F_journal_open.l250 (_ : Fu) (x13 : List (List Int)) (x14 : Int) (x15 : (List Int) × Int × Int × Int) : Option (Step ((List Int) × Int × Int × Int) ((Int × Int × Bool) ⊕ ((List Int) × Int × Int))) :=
  bif decide (x15.2.2.2 < x14) then
    bif (decide ((0 : Int) ≤ x15.2.2.2)) && (decide (x15.2.2.2 < (x13.length : Int))) then
      let x17 := x13.getD x15.2.2.2.toNat []
      bif decide ((20 : Int) < (x17.length : Int)) then
        let x19 := IntKind.i64.wrap (x17.getD 20 0)
        bif decide ((43 : Int) < x19) then some (.fin (Sum.inl ((0 : Int), (0 : Int), false))) else
        bif ((decide ((21 : Int) ≤ (x17.length : Int))) && (decide ((x17.length : Int) ≤ (x17.length : Int)))) && (decide ((x17.length : Int) ≤ (x17.length : Int))) then
          let x21 := (x17.take ((x17.length : Int).toNat)).drop 21
          bif ((decide ((0 : Int) ≤ x19)) && (decide (x19 ≤ (x21.length : Int)))) && (decide ((x21.length : Int) ≤ (x21.length : Int))) then
            let x22 := (x21.take x19.toNat).drop 0
            bif Nat.ble (x15.1.length + x22.length) 140737488351232 then
              some (.next ((x15.1 ++ x22), x15.2.1, x15.2.2.1, (IntKind.i64.wrap (x15.2.2.2 + (1 : Int)))))
            else none
          else none
        else none
      else none
    else none
  else some (.fin (Sum.inr (x15.1, x15.2.1, x15.2.2.1)))
noncomputable def F_journal_open.l2042 (m : Fu) (a3 : List (List Int)) (x28 : (List (List Int)) × Int) (x32 : Int) (x33 : (List Int) × Int × Int × Int) : Option (Step ((List Int) × Int × Int × Int) ((Int × Int × Bool) ⊕ ((List Int) × Int × Int))) :=
  bif decide (x33.2.2.2 < x32) then
    bif (decide ((0 : Int) ≤ x33.2.2.2)) && (decide (x33.2.2.2 < (x28.1.length : Int))) then
      bif Nat.blt x33.2.2.2.toNat x28.1.length then
        bif (decide ((0 : Int) ≤ x33.2.2.2)) && (decide (x33.2.2.2 < (a3.length : Int))) then
          (F_bytes_Equal m ((x28.1.getD x33.2.2.2.toNat []), (a3.getD x33.2.2.2.toNat []))).bind fun x37 =>
          bif !x37 then
            some (.fin (Sum.inl ((0 : Int), (0 : Int), false)))
          else some (.next (x33.1, x33.2.1, x33.2.2.1, (IntKind.i64.wrap (x33.2.2.2 + (1 : Int)))))
        else none
      else none
    else none
  else some (.fin (Sum.inr (x33.1, x33.2.1, x33.2.2.1)))
noncomputable def F_journal_open (m : Fu) (p : Int × Int × Int × (List (List Int))) : Option ((List Int) × Int × Int × Bool) :=
  let a0 := p.1
  let a1 := p.2.1
  let a2 := p.2.2.1
  let a3 := p.2.2.2
  bif (a3.length : Int) == (0 : Int) then some (([] : List Int), (0 : Int), (0 : Int), false) else
  bif decide ((0 : Int) < (a3.length : Int)) then
    let x3 := a3.getD 0 []
    bif (decide ((12 : Int) ≤ (x3.length : Int))) && (decide ((x3.length : Int) ≤ (x3.length : Int))) then
      (F_journal_get m ((x3.take 12).drop 8)).bind fun x5 =>
      bif decide ((0 : Int) < (a3.length : Int)) then
        let x6 := a3.getD 0 []
        bif (decide ((20 : Int) ≤ (x6.length : Int))) && (decide ((x6.length : Int) ≤ (x6.length : Int))) then
          (F_journal_get m ((x6.take 20).drop 18)).bind fun x8 =>
          let x9 := IntKind.i64.wrap x8
          bif decide (x9 < (1 : Int)) then some (([] : List Int), (0 : Int), (0 : Int), false) else
          bif decide ((a3.length : Int) < x9) then some (([] : List Int), (0 : Int), (0 : Int), false) else
          bif ((decide ((0 : Int) ≤ x9)) && (decide (x9 ≤ (a3.length : Int)))) && (decide ((a3.length : Int) ≤ (a3.length : Int))) then
            let x13 := (a3.take x9.toNat).drop 0
            (iter m (F_journal_open.l250 m x13 (x13.length : Int)) (([] : List Int), x5, x9, (0 : Int))).bind fun x25 =>
            match x25 with
            | .inl x26 =>
              some (([] : List Int), x26)
            | .inr x27 =>
              (F_journal_Frame m (a0, a1, x27.2.1, a2, x27.1)).bind fun x28 =>
              bif x28.2 != (0 : Int) then some (([] : List Int), (0 : Int), (0 : Int), false) else
              bif (x28.1.length : Int) != x27.2.2 then some (([] : List Int), (0 : Int), (0 : Int), false) else
              (iter m (F_journal_open.l2042 m a3 x28 (x28.1.length : Int)) (x27.1, x27.2.1, x27.2.2, (0 : Int))).bind fun x40 =>
              match x40 with
              | .inl x41 =>
                some (([] : List Int), x41)
              | .inr x42 =>
                some (x42.1, x42.2.1, x42.2.2, true)
          else none
        else none
      else none
    else none
  else none
def F_journal_open.ann : List (Nat × Ann) := [(250, .loop ⟨[(8, false, [.own (.int .u8) 592 .wr]), (9, false, [.dat (.int .u32)]), (10, false, [.dat (.int .i64)]), (44, false, [.dat (.int .i64)])], [], [], [], 593⟩ [(.ret, ⟨[(8, false, [.cst .nils]), (9, false, [.dat (.int .u32)]), (10, false, [.dat (.int .i64)]), (11, false, [.dat .bool])], [], [], [], 592⟩), (.exit 0, ⟨[(8, false, [.own (.int .u8) 592 .wr]), (9, false, [.dat (.int .u32)]), (10, false, [.dat (.int .i64)])], [], [], [], 593⟩)]),
  (2042, .loop ⟨[(8, false, [.own (.int .u8) 945 .fr]), (9, false, [.dat (.int .u32)]), (10, false, [.dat (.int .i64)]), (80, false, [.dat (.int .i64)])], [], [], [592], 946⟩ [(.ret, ⟨[(8, false, [.cst .nils]), (9, false, [.dat (.int .u32)]), (10, false, [.dat (.int .i64)]), (11, false, [.dat .bool])], [], [], [592], 945⟩), (.exit 2, ⟨[(8, false, [.own (.int .u8) 945 .fr]), (9, false, [.dat (.int .u32)]), (10, false, [.dat (.int .i64)])], [], [], [592], 946⟩)])]
def F_journal_open.sig : Sig := ⟨[.val false [.int .u32], .val false [.int .u32], .val false [.int .u32], .val false [.sl (.sl (.int .u8))]], [(false, [.own (.int .u8) 0 .fr]), (false, [.dat (.int .u32)]), (false, [.dat (.int .i64)]), (false, [.dat .bool])]⟩
noncomputable def F_journal_open.S : Summ := ⟨33, F_journal_open.sig, F_journal_open⟩
noncomputable def F_journal_open.G : List Summ := [F_journal_get.S, F_journal_Frame.S, F_bytes_Equal.S]
theorem F_journal_open.eq : absF Try.prog F_journal_open.G F_journal_open.ann F_journal_open.sig Try.f33 = F_journal_open := by kernel_rfl
theorem F_journal_open.sound : Sound Try.prog F_journal_open.S := absF_sound (fn := Try.f33) (Γ := F_journal_open.G) (all_cons F_journal_get.sound (all_cons F_journal_Frame.sound (all_cons F_bytes_Equal.sound all_nil))) mix (by kernel_rfl) (by kernel_rfl) (fun m p => congrFun (congrFun F_journal_open.eq m) p)
/-! ### cloakroom/journal.Open -/
noncomputable def F_journal_Open.l58 (_ : Fu) (a3 : List (List Int)) (x3 : Int) (x4 : Int) : Option (Step Int ((Int × Int × Int) ⊕ Unit)) :=
  bif decide (x4 < x3) then
    bif (decide ((0 : Int) ≤ x4)) && (decide (x4 < (a3.length : Int))) then
      bif ((a3.getD x4.toNat []).length : Int) != (64 : Int) then
        some (.fin (Sum.inl ((0 : Int), (0 : Int), (3 : Int))))
      else some (.next (IntKind.i64.wrap (x4 + (1 : Int))))
    else none
  else some (.fin (Sum.inr ()))
noncomputable def F_journal_Open (m : Fu) (p : Int × Int × Int × (List (List Int))) : Option ((List Int) × Int × Int × Int) :=
  let a0 := p.1
  let a1 := p.2.1
  let a2 := p.2.2.1
  let a3 := p.2.2.2
  bif decide ((4096 : Int) < (a3.length : Int)) then some (([] : List Int), (0 : Int), (0 : Int), (4 : Int)) else
  (iter m (F_journal_Open.l58 m a3 (a3.length : Int)) (0 : Int)).bind fun x10 =>
  match x10 with
  | .inl x11 =>
    some (([] : List Int), x11)
  | .inr _ =>
    (F_journal_open m (a0, a1, a2, a3)).bind fun x13 =>
    bif !x13.2.2.2 then
      some (([] : List Int), (0 : Int), (0 : Int), (6 : Int))
    else some (x13.1, x13.2.1, x13.2.2.1, (0 : Int))
def F_journal_Open.ann : List (Nat × Ann) := [(58, .loop ⟨[(20, false, [.dat (.int .i64)])], [], [], [], 224⟩ [(.ret, ⟨[(8, false, [.cst .nils]), (9, false, [.dat (.int .u32)]), (10, false, [.dat (.int .i64)]), (11, false, [.dat (.int .i64)])], [], [], [], 224⟩), (.exit 0, ⟨[], [], [], [], 224⟩)])]
def F_journal_Open.sig : Sig := ⟨[.val false [.int .u32], .val false [.int .u32], .val false [.int .u32], .val false [.sl (.sl (.int .u8))]], [(false, [.own (.int .u8) 0 .fr]), (false, [.dat (.int .u32)]), (false, [.dat (.int .i64)]), (false, [.dat (.int .i64)])]⟩
noncomputable def F_journal_Open.S : Summ := ⟨14, F_journal_Open.sig, F_journal_Open⟩
noncomputable def F_journal_Open.G : List Summ := [F_journal_open.S]
theorem F_journal_Open.eq : absF Try.prog F_journal_Open.G F_journal_Open.ann F_journal_Open.sig Try.f14 = F_journal_Open := by kernel_rfl
theorem F_journal_Open.sound : Sound Try.prog F_journal_Open.S := absF_sound (fn := Try.f14) (Γ := F_journal_Open.G) (all_cons F_journal_open.sound all_nil) mix (by kernel_rfl) (by kernel_rfl) (fun m p => congrFun (congrFun F_journal_Open.eq m) p)
/-! ### cloakroom/cloakroomlaw22.alive -/
noncomputable def F_law22_alive (m : Fu) (_ : Unit) : Option (Bool) :=
  (F_law22_abc m ()).bind fun x1 =>
  (F_journal_Open m ((1 : Int), (1 : Int), (0 : Int), x1)).bind fun x2 =>
  bif x2.2.2.2 == (0 : Int) then
    bif x2.1 == ([97, 98, 99] : List Int) then
      bif x2.2.1 == (7 : Int) then
        some (x2.2.2.1 == (1 : Int))
      else some false
    else some false
  else some false
def F_law22_alive.ann : List (Nat × Ann) := []
def F_law22_alive.sig : Sig := ⟨[], [(false, [.dat .bool])]⟩
noncomputable def F_law22_alive.S : Summ := ⟨17, F_law22_alive.sig, F_law22_alive⟩
noncomputable def F_law22_alive.G : List Summ := [F_law22_abc.S, F_journal_Open.S]
theorem F_law22_alive.eq : absF Try.prog F_law22_alive.G F_law22_alive.ann F_law22_alive.sig Try.f17 = F_law22_alive := by kernel_rfl
theorem F_law22_alive.sound : Sound Try.prog F_law22_alive.S := absF_sound (fn := Try.f17) (Γ := F_law22_alive.G) (all_cons F_law22_abc.sound (all_cons F_journal_Open.sound all_nil)) mix (by kernel_rfl) (by kernel_rfl) (fun m p => congrFun (congrFun F_law22_alive.eq m) p)
/-! ### cloakroom/cloakroomref22.Same -/
noncomputable def F_ref22_Same.l58 (_ : Fu) (a0 : List (List Int)) (a1 : List (List Int)) (x4 : Int) : Option (Step Int (Bool ⊕ Unit)) :=
  bif decide (x4 < (a0.length : Int)) then
    bif (decide ((0 : Int) ≤ x4)) && (decide (x4 < (a0.length : Int))) then
      bif (decide ((0 : Int) ≤ x4)) && (decide (x4 < (a1.length : Int))) then
        bif !((a0.getD x4.toNat []) == (a1.getD x4.toNat [])) then
          some (.fin (Sum.inl false))
        else some (.next (IntKind.i64.wrap (x4 + (1 : Int))))
      else none
    else none
  else some (.fin (Sum.inr ()))
noncomputable def F_ref22_Same (m : Fu) (p : (List (List Int)) × (List (List Int))) : Option (Bool) :=
  let a0 := p.1
  let a1 := p.2
  bif (a0.length : Int) != (a1.length : Int) then some false else
  (iter m (F_ref22_Same.l58 m a0 a1) (0 : Int)).bind fun x11 =>
  match x11 with
  | .inl x12 =>
    some x12
  | .inr _ =>
    some true
def F_ref22_Same.ann : List (Nat × Ann) := [(58, .loop ⟨[(5, false, [.dat (.int .i64)])], [], [], [], 144⟩ [(.ret, ⟨[(4, false, [.dat .bool])], [], [], [], 144⟩), (.exit 0, ⟨[], [], [], [], 144⟩)])]
def F_ref22_Same.sig : Sig := ⟨[.val false [.sl (.sl (.int .u8))], .val false [.sl (.sl (.int .u8))]], [(false, [.dat .bool])]⟩
noncomputable def F_ref22_Same.S : Summ := ⟨16, F_ref22_Same.sig, F_ref22_Same⟩
noncomputable def F_ref22_Same.G : List Summ := []
theorem F_ref22_Same.eq : absF Try.prog F_ref22_Same.G F_ref22_Same.ann F_ref22_Same.sig Try.f16 = F_ref22_Same := by kernel_rfl
theorem F_ref22_Same.sound : Sound Try.prog F_ref22_Same.S := absF_sound (fn := Try.f16) (Γ := F_ref22_Same.G) all_nil mix (by kernel_rfl) (by kernel_rfl) (fun m p => congrFun (congrFun F_ref22_Same.eq m) p)
/-! ### cloakroom/cloakroomlaw22.JournalBack -/
noncomputable def F_law22_JournalBack.l250 (_ : Fu) (a5 : List (List Int)) (x1 : Bool) (x7 : Int) : Option (Step Int (Bool ⊕ Unit)) :=
  bif decide (x7 < (a5.length : Int)) then
    bif (decide ((0 : Int) ≤ x7)) && (decide (x7 < (a5.length : Int))) then
      bif ((a5.getD x7.toNat []).length : Int) != (64 : Int) then
        some (.fin (Sum.inl x1))
      else some (.next (IntKind.i64.wrap (x7 + (1 : Int))))
    else none
  else some (.fin (Sum.inr ()))
noncomputable def F_law22_JournalBack.s254 (m : Fu) (a0 : Int) (a1 : Int) (a2 : Int) (a3 : Int) (a4 : List Int) (a5 : List (List Int)) (x17 : (List (List Int)) × Int) : Option (Bool ⊕ Unit) :=
  bif x17.2 == (0 : Int) then
    bif Nat.ble x17.1.length 4294967296 then
      bif Nat.ble (x17.1.length + a5.length) 4294967296 then
        (F_journal_Open m (a0, a1, a3, (x17.1 ++ a5))).bind fun x20 =>
        bif x20.2.2.2 != (0 : Int) then some (Sum.inl false) else
        bif !(x20.1 == a4) then some (Sum.inl false) else
        bif x20.2.1 != a2 then some (Sum.inl false) else
        bif x20.2.2.1 != (x17.1.length : Int) then some (Sum.inl false) else
        bif (x17.1.length : Int) != (mxI (1 : Int) (IntKind.i64.wrap ((IntKind.i64.wrap ((a4.length : Int) + (42 : Int))).tdiv (43 : Int)))) then
          some (Sum.inl false)
        else some (Sum.inr ())
      else none
    else none
  else some (Sum.inr ())
noncomputable def F_law22_JournalBack (m : Fu) (p : Int × Int × Int × Int × (List Int) × (List (List Int))) : Option (Bool) :=
  let a0 := p.1
  let a1 := p.2.1
  let a2 := p.2.2.1
  let a3 := p.2.2.2.1
  let a4 := p.2.2.2.2.1
  let a5 := p.2.2.2.2.2
  (F_law22_alive m ()).bind fun x1 =>
  bif !x1 then some false else
  bif decide ((20000 : Int) < (a4.length : Int)) then some x1 else
  bif decide ((300 : Int) < (a5.length : Int)) then some x1 else
  (iter m (F_law22_JournalBack.l250 m a5 x1) (0 : Int)).bind fun x14 =>
  match x14 with
  | .inl x15 =>
    some x15
  | .inr _ =>
    (F_journal_Frame m (a0, a1, a2, a3, a4)).bind fun x17 =>
    (F_law22_JournalBack.s254 m a0 a1 a2 a3 a4 a5 x17).bind fun x32 =>
    match x32 with
    | .inl x33 =>
      some x33
    | .inr _ =>
      (F_journal_Open m (a0, a1, a3, a5)).bind fun x35 =>
      bif x35.2.2.2 != (0 : Int) then
        bif x1 then
          bif x35.2.2.2 == (6 : Int) then
            bif (x35.1.length : Int) == (0 : Int) then
              bif x35.2.1 == (0 : Int) then
                some (x35.2.2.1 == (0 : Int))
              else some false
            else some false
          else some false
        else some false
      else
        (F_journal_Frame m (a0, a1, x35.2.1, a3, x35.1)).bind fun x42 =>
        bif x1 then
          bif x42.2 == (0 : Int) then
            bif x35.2.2.1 == (x42.1.length : Int) then
              bif decide (x35.2.2.1 ≤ (a5.length : Int)) then
                bif ((decide ((0 : Int) ≤ x35.2.2.1)) && (decide (x35.2.2.1 ≤ (a5.length : Int)))) && (decide ((a5.length : Int) ≤ (a5.length : Int))) then
                  (F_ref22_Same m (x42.1, ((a5.take x35.2.2.1.toNat).drop 0))).bind fun x49 =>
                  some x49
                else none
              else some false
            else some false
          else some false
        else some false
def F_law22_JournalBack.ann : List (Nat × Ann) := [(250, .loop ⟨[(14, false, [.dat (.int .i64)])], [], [], [], 320⟩ [(.ret, ⟨[(12, false, [.dat .bool])], [], [], [], 320⟩), (.exit 0, ⟨[], [], [], [], 320⟩)]),
  (254, .jnt [(.ret, ⟨[(12, false, [.dat .bool])], [], [], [], 496⟩), (.normal, ⟨[], [], [], [], 496⟩)])]
def F_law22_JournalBack.sig : Sig := ⟨[.val false [.int .u32], .val false [.int .u32], .val false [.int .u32], .val false [.int .u32], .val false [.sl (.int .u8)], .val false [.sl (.sl (.int .u8))]], [(false, [.dat .bool])]⟩
noncomputable def F_law22_JournalBack.S : Summ := ⟨4, F_law22_JournalBack.sig, F_law22_JournalBack⟩
noncomputable def F_law22_JournalBack.G : List Summ := [F_law22_alive.S, F_journal_Frame.S, F_journal_Open.S, F_ref22_Same.S]
theorem F_law22_JournalBack.eq : absF Try.prog F_law22_JournalBack.G F_law22_JournalBack.ann F_law22_JournalBack.sig Try.f4 = F_law22_JournalBack := by kernel_rfl
theorem F_law22_JournalBack.sound : Sound Try.prog F_law22_JournalBack.S := absF_sound (fn := Try.f4) (Γ := F_law22_JournalBack.G) (all_cons F_law22_alive.sound (all_cons F_journal_Frame.sound (all_cons F_journal_Open.sound (all_cons F_ref22_Same.sound all_nil)))) mix (by kernel_rfl) (by kernel_rfl) (fun m p => congrFun (congrFun F_law22_JournalBack.eq m) p)
/-! ### cloakroom/cloakroomref02.Twin -/
noncomputable def F_ref02_Twin (_ : Fu) (p : List Int) : Option (List Int) :=
  let a0 := p
  bif Nat.ble a0.length 140737488351232 then
    some a0
  else none
def F_ref02_Twin.ann : List (Nat × Ann) := []
def F_ref02_Twin.sig : Sig := ⟨[.val true [.sl (.int .u8)]], [(true, [.own (.int .u8) 0 .wr])]⟩
noncomputable def F_ref02_Twin.S : Summ := ⟨18, F_ref02_Twin.sig, F_ref02_Twin⟩
noncomputable def F_ref02_Twin.G : List Summ := []
theorem F_ref02_Twin.eq : absF Try.prog F_ref02_Twin.G F_ref02_Twin.ann F_ref02_Twin.sig Try.f18 = F_ref02_Twin := by kernel_rfl
theorem F_ref02_Twin.sound : Sound Try.prog F_ref02_Twin.S := absF_sound (fn := Try.f18) (Γ := F_ref02_Twin.G) all_nil mix (by kernel_rfl) (by kernel_rfl) (fun m p => congrFun (congrFun F_ref02_Twin.eq m) p)
/-! ### cloakroom/disk.Check -/
noncomputable def F_disk_Check (_ : Fu) (p : List Int) : Option (Int) :=
  let a0 := p
  let x1 := (a0.length : Int)
  bif decide (x1 < (64 : Int)) then some (20 : Int) else
  bif decide ((262144 : Int) < x1) then some (20 : Int) else
  bif (x1.tmod (64 : Int)) != (0 : Int) then
    some (20 : Int)
  else some (0 : Int)
def F_disk_Check.ann : List (Nat × Ann) := []
def F_disk_Check.sig : Sig := ⟨[.val true [.sl (.int .u8)]], [(false, [.dat (.int .i64)])]⟩
noncomputable def F_disk_Check.S : Summ := ⟨40, F_disk_Check.sig, F_disk_Check⟩
noncomputable def F_disk_Check.G : List Summ := []
theorem F_disk_Check.eq : absF Try.prog F_disk_Check.G F_disk_Check.ann F_disk_Check.sig Try.f40 = F_disk_Check := by kernel_rfl
theorem F_disk_Check.sound : Sound Try.prog F_disk_Check.S := absF_sound (fn := Try.f40) (Γ := F_disk_Check.G) all_nil mix (by kernel_rfl) (by kernel_rfl) (fun m p => congrFun (congrFun F_disk_Check.eq m) p)
/-! ### cloakroom/disk.Many -/
noncomputable def F_disk_Many (m : Fu) (p : List Int) : Option (Int × Int) :=
  let a0 := p
  (F_disk_Check m a0).bind fun x1 =>
  bif x1 != (0 : Int) then
    some ((0 : Int), x1)
  else some ((IntKind.i64.wrap ((a0.length : Int).tdiv (64 : Int))), (0 : Int))
def F_disk_Many.ann : List (Nat × Ann) := []
def F_disk_Many.sig : Sig := ⟨[.val true [.sl (.int .u8)]], [(false, [.dat (.int .i64)]), (false, [.dat (.int .i64)])]⟩
noncomputable def F_disk_Many.S : Summ := ⟨45, F_disk_Many.sig, F_disk_Many⟩
noncomputable def F_disk_Many.G : List Summ := [F_disk_Check.S]
theorem F_disk_Many.eq : absF Try.prog F_disk_Many.G F_disk_Many.ann F_disk_Many.sig Try.f45 = F_disk_Many := by kernel_rfl
theorem F_disk_Many.sound : Sound Try.prog F_disk_Many.S := absF_sound (fn := Try.f45) (Γ := F_disk_Many.G) (all_cons F_disk_Check.sound all_nil) mix (by kernel_rfl) (by kernel_rfl) (fun m p => congrFun (congrFun F_disk_Many.eq m) p)
/-! ### cloakroom/disk.asked -/
noncomputable def F_disk_asked (m : Fu) (p : (List Int) × Int) : Option (Int) :=
  let a0 := p.1
  let a1 := p.2
  (F_disk_Many m a0).bind fun x1 =>
  bif x1.2 == (0 : Int) then
    bif decide (a1 < (0 : Int)) then some (2 : Int) else
    bif decide (x1.1 ≤ a1) then
      some (2 : Int)
    else some x1.2
  else some x1.2
def F_disk_asked.ann : List (Nat × Ann) := []
def F_disk_asked.sig : Sig := ⟨[.val true [.sl (.int .u8)], .val false [.int .i64]], [(false, [.dat (.int .i64)])]⟩
noncomputable def F_disk_asked.S : Summ := ⟨41, F_disk_asked.sig, F_disk_asked⟩
noncomputable def F_disk_asked.G : List Summ := [F_disk_Many.S]
theorem F_disk_asked.eq : absF Try.prog F_disk_asked.G F_disk_asked.ann F_disk_asked.sig Try.f41 = F_disk_asked := by kernel_rfl
theorem F_disk_asked.sound : Sound Try.prog F_disk_asked.S := absF_sound (fn := Try.f41) (Γ := F_disk_asked.G) (all_cons F_disk_Many.sound all_nil) mix (by kernel_rfl) (by kernel_rfl) (fun m p => congrFun (congrFun F_disk_asked.eq m) p)
/-! ### cloakroom/disk.at -/
noncomputable def F_disk_at (_ : Fu) (p : (List Int) × Int) : Option (List Int) :=
  let a0 := p.1
  let a1 := p.2
  let x1 := IntKind.i64.wrap (a1 * (64 : Int))
  let x3 := IntKind.i64.wrap ((IntKind.i64.wrap (a1 + (1 : Int))) * (64 : Int))
  bif (((decide ((0 : Int) ≤ x1)) && (decide (x1 ≤ x3))) && (decide (x3 ≤ x3))) && (decide (x3 ≤ (a0.length : Int))) then
    some ((a0.take x3.toNat).drop x1.toNat)
  else none
def F_disk_at.ann : List (Nat × Ann) := []
def F_disk_at.sig : Sig := ⟨[.val true [.sl (.int .u8)], .val false [.int .i64]], [(false, [.dat (.sl (.int .u8))])]⟩
noncomputable def F_disk_at.S : Summ := ⟨43, F_disk_at.sig, F_disk_at⟩
noncomputable def F_disk_at.G : List Summ := []
theorem F_disk_at.eq : absF Try.prog F_disk_at.G F_disk_at.ann F_disk_at.sig Try.f43 = F_disk_at := by kernel_rfl
theorem F_disk_at.sound : Sound Try.prog F_disk_at.S := absF_sound (fn := Try.f43) (Γ := F_disk_at.G) all_nil mix (by kernel_rfl) (by kernel_rfl) (fun m p => congrFun (congrFun F_disk_at.eq m) p)
/-! ### bytes.Clone -/
noncomputable def F_bytes_Clone (_ : Fu) (p : List Int) : Option (List Int) :=
  let a0 := p
  match a0 with
  | [] => same2
   (
    some ([] : List Int))
   (
    bif Nat.ble (0 + a0.length) 140737488351232 then
      some (([] : List Int) ++ a0)
    else none)
  | _ :: _ =>
    bif Nat.ble (0 + a0.length) 140737488351232 then
      some (([] : List Int) ++ a0)
    else none
def F_bytes_Clone.ann : List (Nat × Ann) := []
def F_bytes_Clone.sig : Sig := ⟨[.val false [.sl (.int .u8)]], [(false, [.own (.int .u8) 0 .wr])]⟩
noncomputable def F_bytes_Clone.S : Summ := ⟨42, F_bytes_Clone.sig, F_bytes_Clone⟩
noncomputable def F_bytes_Clone.G : List Summ := []
theorem F_bytes_Clone.eq : absF Try.prog F_bytes_Clone.G F_bytes_Clone.ann F_bytes_Clone.sig Try.f42 = F_bytes_Clone := by kernel_rfl
theorem F_bytes_Clone.sound : Sound Try.prog F_bytes_Clone.S := absF_sound (fn := Try.f42) (Γ := F_bytes_Clone.G) all_nil mix (by kernel_rfl) (by kernel_rfl) (fun m p => congrFun (congrFun F_bytes_Clone.eq m) p)
noncomputable def C_bytes_Clone (m : Fu) (p : List Int) : Option (List Int) := bif Nat.ble p.length 140737488351232 then some p else none
theorem C_bytes_Clone.is : F_bytes_Clone = C_bytes_Clone := by
  funext m p
  have h0 : Nat.ble 0 140737488351232 = true := rfl
  cases p <;> simp [F_bytes_Clone, C_bytes_Clone, same2_self, h0]
noncomputable def C_bytes_Clone.S : Summ := ⟨42, F_bytes_Clone.sig, C_bytes_Clone⟩
theorem C_bytes_Clone.sound : Sound Try.prog C_bytes_Clone.S := by
  have h := F_bytes_Clone.sound
  unfold F_bytes_Clone.S at h
  rw [C_bytes_Clone.is] at h
  exact h
/-! ### cloakroom/disk.Read -/
noncomputable def F_disk_Read (m : Fu) (p : (List Int) × Int) : Option ((List Int) × Int) :=
  let a0 := p.1
  let a1 := p.2
  (F_disk_asked m (a0, a1)).bind fun x1 =>
  bif x1 != (0 : Int) then some (([] : List Int), x1) else
  (F_disk_at m (a0, a1)).bind fun x3 =>
  (C_bytes_Clone m x3).bind fun x4 =>
  some (x4, (0 : Int))
def F_disk_Read.ann : List (Nat × Ann) := []
def F_disk_Read.sig : Sig := ⟨[.val true [.sl (.int .u8)], .val false [.int .i64]], [(false, [.own (.int .u8) 0 .wr]), (false, [.dat (.int .i64)])]⟩
noncomputable def F_disk_Read.S : Summ := ⟨46, F_disk_Read.sig, F_disk_Read⟩
noncomputable def F_disk_Read.G : List Summ := [F_disk_asked.S, F_disk_at.S, C_bytes_Clone.S]
theorem F_disk_Read.eq : absF Try.prog F_disk_Read.G F_disk_Read.ann F_disk_Read.sig Try.f46 = F_disk_Read := by kernel_rfl
theorem F_disk_Read.sound : Sound Try.prog F_disk_Read.S := absF_sound (fn := Try.f46) (Γ := F_disk_Read.G) (all_cons F_disk_asked.sound (all_cons F_disk_at.sound (all_cons C_bytes_Clone.sound all_nil))) mix (by kernel_rfl) (by kernel_rfl) (fun m p => congrFun (congrFun F_disk_Read.eq m) p)
/-! ### cloakroom/journal.some -/
noncomputable def F_journal_some.l506 (m : Fu) (a0 : List Int) (a1 : Int) (a2 : Int) (x8 : (List (List Int)) × Int) : Option (Step ((List (List Int)) × Int) (Int ⊕ (List (List Int)))) :=
  bif decide (x8.2 < a2) then
    (F_disk_Read m (a0, (IntKind.i64.wrap (a1 + x8.2)))).bind fun x11 =>
    bif x11.2 != (0 : Int) then some (.fin (Sum.inl x11.2)) else
    let x13 := [x11.1]
    bif Nat.ble (x8.1.length + x13.length) 4294967296 then
      some (.next ((x8.1 ++ x13), (IntKind.i64.wrap (x8.2 + (1 : Int)))))
    else none
  else some (.fin (Sum.inr x8.1))
noncomputable def F_journal_some (m : Fu) (p : (List Int) × Int × Int) : Option ((List (List Int)) × Int) :=
  let a0 := p.1
  let a1 := p.2.1
  let a2 := p.2.2
  (F_disk_Many m a0).bind fun x1 =>
  bif x1.2 != (0 : Int) then some (([] : List (List Int)), x1.2) else
  bif decide (a1 < (0 : Int)) then some (([] : List (List Int)), (2 : Int)) else
  bif decide (a2 < (0 : Int)) then some (([] : List (List Int)), (2 : Int)) else
  bif decide (x1.1 < a1) then some (([] : List (List Int)), (2 : Int)) else
  bif decide ((IntKind.i64.wrap (x1.1 - a1)) < a2) then some (([] : List (List Int)), (2 : Int)) else
  (iter m (F_journal_some.l506 m a0 a1 a2) (([] : List (List Int)), (0 : Int))).bind fun x16 =>
  match x16 with
  | .inl x17 =>
    some (([] : List (List Int)), x17)
  | .inr x18 =>
    some (x18, (0 : Int))
def F_journal_some.ann : List (Nat × Ann) := [(506, .loop ⟨[(10, false, [.own (.sl (.int .u8)) 576 .wr]), (41, false, [.dat (.int .i64)])], [], [], [], 577⟩ [(.ret, ⟨[(6, false, [.cst .nils]), (7, false, [.dat (.int .i64)])], [], [], [], 576⟩), (.exit 0, ⟨[(10, false, [.own (.sl (.int .u8)) 576 .wr])], [], [], [], 577⟩)])]
def F_journal_some.sig : Sig := ⟨[.val true [.sl (.int .u8)], .val false [.int .i64], .val false [.int .i64]], [(false, [.own (.sl (.int .u8)) 0 .wr]), (false, [.dat (.int .i64)])]⟩
noncomputable def F_journal_some.S : Summ := ⟨35, F_journal_some.sig, F_journal_some⟩
noncomputable def F_journal_some.G : List Summ := [F_disk_Many.S, F_disk_Read.S]
theorem F_journal_some.eq : absF Try.prog F_journal_some.G F_journal_some.ann F_journal_some.sig Try.f35 = F_journal_some := by kernel_rfl
theorem F_journal_some.sound : Sound Try.prog F_journal_some.S := absF_sound (fn := Try.f35) (Γ := F_journal_some.G) (all_cons F_disk_Many.sound (all_cons F_disk_Read.sound all_nil)) mix (by kernel_rfl) (by kernel_rfl) (fun m p => congrFun (congrFun F_journal_some.eq m) p)
/-! ### cloakroom/journal.Read -/
noncomputable def F_journal_Read.l252 (m : Fu) (a1 : Int) (x4 : (List (List Int)) × (List (List Int)) × Int × Int × Int) : Option (Step ((List (List Int)) × (List (List Int)) × Int × Int × Int) (((List (List Int)) × (List (List Int)) × Int × Int × Int))) :=
  (F_journal_open m (a1, (IntKind.u32.wrap (IntKind.i64.wrap ((x4.2.1.length : Int) + (1 : Int)))), x4.2.2.2.1, x4.1)).bind fun x8 =>
  bif !x8.2.2.2 then some (.fin x4) else
  let x10 := [x8.1]
  bif Nat.ble (x4.2.1.length + x10.length) 4294967296 then
    bif (((decide ((0 : Int) ≤ x8.2.2.1)) && (decide (x8.2.2.1 ≤ (x4.1.length : Int)))) && (decide ((x4.1.length : Int) ≤ (x4.1.length : Int)))) && (decide ((x4.1.length : Int) ≤ (x4.1.length : Int))) then
      some (.next (((x4.1.take ((x4.1.length : Int).toNat)).drop x8.2.2.1.toNat), (x4.2.1 ++ x10), (IntKind.i64.wrap (x4.2.2.1 + x8.2.2.1)), x8.2.1, x4.2.2.2.2))
    else none
  else none
noncomputable def F_journal_Read.l1018 (m : Fu) (a1 : Int) (x14 : ((List (List Int)) × (List (List Int)) × Int × Int × Int)) (x15 : Int) (x16 : Int × (List (List Int)) × Int × Int × Int) : Option (Step (Int × (List (List Int)) × Int × Int × Int) (((List (List Int)) × Int × Int × Int))) :=
  bif decide (x16.1 < x15) then
    bif (decide ((0 : Int) ≤ x16.1)) && (decide (x16.1 < (x14.1.length : Int))) then
      let x18 := x14.1.getD x16.1.toNat []
      bif (decide ((4 : Int) ≤ (x18.length : Int))) && (decide ((x18.length : Int) ≤ (x18.length : Int))) then
        (F_journal_get m ((x18.take 4).drop 0)).bind fun x20 =>
        bif x20 == a1 then
          bif (decide ((12 : Int) ≤ (x18.length : Int))) && (decide ((x18.length : Int) ≤ (x18.length : Int))) then
            (F_journal_get m ((x18.take 12).drop 8)).bind fun x23 =>
            bif (decide ((16 : Int) ≤ (x18.length : Int))) && (decide ((x18.length : Int) ≤ (x18.length : Int))) then
              (F_journal_get m ((x18.take 16).drop 12)).bind fun x25 =>
              some (.next ((IntKind.i64.wrap (x16.1 + (1 : Int))), x16.2.1, x16.2.2.1, x16.2.2.2.1, (mxI (mxI x16.2.2.2.2 x23) x25)))
            else none
          else none
        else some (.next ((IntKind.i64.wrap (x16.1 + (1 : Int))), x16.2))
      else none
    else none
  else some (.fin x16.2)
noncomputable def F_journal_Read (m : Fu) (p : (List Int) × Int × Int × Int) : Option ((List (List Int)) × Int × Int × Int × Int) :=
  let a0 := p.1
  let a1 := p.2.1
  let a2 := p.2.2.1
  let a3 := p.2.2.2
  (F_journal_some m (a0, a2, a3)).bind fun x1 =>
  bif x1.2 != (0 : Int) then some (([] : List (List Int)), (0 : Int), (0 : Int), (0 : Int), x1.2) else
  bif a1 == (0 : Int) then some (([] : List (List Int)), (0 : Int), (0 : Int), (0 : Int), (2 : Int)) else
  (iter m (F_journal_Read.l252 m a1) (x1.1, ([] : List (List Int)), (0 : Int), (0 : Int), (0 : Int))).bind fun x14 =>
  (iter m (F_journal_Read.l1018 m a1 x14 (x14.1.length : Int)) ((0 : Int), x14.2)).bind fun x29 =>
  some (x29.1, x29.2.1, x29.2.2.1, x29.2.2.2, (0 : Int))
def F_journal_Read.ann : List (Nat × Ann) := [(252, .loop ⟨[(10, false, [.dat (.sl (.sl (.int .u8)))])], [(320, [.own (.sl (.int .u8)) 336 .wr, .dat (.int .i64), .dat (.int .u32), .dat (.int .u32)])], [], [160], 337⟩ [(.exit 0, ⟨[(10, false, [.dat (.sl (.sl (.int .u8)))])], [(320, [.own (.sl (.int .u8)) 336 .wr, .dat (.int .i64), .dat (.int .u32), .dat (.int .u32)])], [], [160], 337⟩)]),
  (1018, .loop ⟨[(68, false, [.dat (.int .i64)])], [(320, [.own (.sl (.int .u8)) 385 .wr, .dat (.int .i64), .dat (.int .u32), .dat (.int .u32)])], [], [336], 386⟩ [(.exit 2, ⟨[], [(320, [.own (.sl (.int .u8)) 385 .wr, .dat (.int .i64), .dat (.int .u32), .dat (.int .u32)])], [], [336], 386⟩)])]
def F_journal_Read.sig : Sig := ⟨[.val true [.sl (.int .u8)], .val false [.int .u32], .val false [.int .i64], .val false [.int .i64]], [(true, [.own (.sl (.int .u8)) 0 .wr, .dat (.int .i64), .dat (.int .u32), .dat (.int .u32)]), (false, [.dat (.int .i64)])]⟩
noncomputable def F_journal_Read.S : Summ := ⟨19, F_journal_Read.sig, F_journal_Read⟩
noncomputable def F_journal_Read.G : List Summ := [F_journal_some.S, F_journal_open.S, F_journal_get.S]
theorem F_journal_Read.eq : absF Try.prog F_journal_Read.G F_journal_Read.ann F_journal_Read.sig Try.f19 = F_journal_Read := by kernel_rfl
theorem F_journal_Read.sound : Sound Try.prog F_journal_Read.S := absF_sound (fn := Try.f19) (Γ := F_journal_Read.G) (all_cons F_journal_some.sound (all_cons F_journal_open.sound (all_cons F_journal_get.sound all_nil))) mix (by kernel_rfl) (by kernel_rfl) (fun m p => congrFun (congrFun F_journal_Read.eq m) p)
/-! ### cloakroom/cloakroomref02.Check -/
noncomputable def F_ref02_Check (_ : Fu) (p : List Int) : Option (Int) :=
  let a0 := p
  bif decide ((a0.length : Int) < (64 : Int)) then some (20 : Int) else
  bif decide ((262144 : Int) < (a0.length : Int)) then some (20 : Int) else
  bif ((a0.length : Int).tmod (64 : Int)) != (0 : Int) then
    some (20 : Int)
  else some (0 : Int)
def F_ref02_Check.ann : List (Nat × Ann) := []
def F_ref02_Check.sig : Sig := ⟨[.val true [.sl (.int .u8)]], [(false, [.dat (.int .i64)])]⟩
noncomputable def F_ref02_Check.S : Summ := ⟨47, F_ref02_Check.sig, F_ref02_Check⟩
noncomputable def F_ref02_Check.G : List Summ := []
theorem F_ref02_Check.eq : absF Try.prog F_ref02_Check.G F_ref02_Check.ann F_ref02_Check.sig Try.f47 = F_ref02_Check := by kernel_rfl
theorem F_ref02_Check.sound : Sound Try.prog F_ref02_Check.S := absF_sound (fn := Try.f47) (Γ := F_ref02_Check.G) all_nil mix (by kernel_rfl) (by kernel_rfl) (fun m p => congrFun (congrFun F_ref02_Check.eq m) p)
/-! ### cloakroom/cloakroomref02.Many -/
noncomputable def F_ref02_Many (_ : Fu) (p : List Int) : Option (Int) :=
  let a0 := p
  some (IntKind.i64.wrap ((a0.length : Int).tdiv (64 : Int)))
def F_ref02_Many.ann : List (Nat × Ann) := []
def F_ref02_Many.sig : Sig := ⟨[.val true [.sl (.int .u8)]], [(false, [.dat (.int .i64)])]⟩
noncomputable def F_ref02_Many.S : Summ := ⟨48, F_ref02_Many.sig, F_ref02_Many⟩
noncomputable def F_ref02_Many.G : List Summ := []
theorem F_ref02_Many.eq : absF Try.prog F_ref02_Many.G F_ref02_Many.ann F_ref02_Many.sig Try.f48 = F_ref02_Many := by kernel_rfl
theorem F_ref02_Many.sound : Sound Try.prog F_ref02_Many.S := absF_sound (fn := Try.f48) (Γ := F_ref02_Many.G) all_nil mix (by kernel_rfl) (by kernel_rfl) (fun m p => congrFun (congrFun F_ref02_Many.eq m) p)
/-! ### cloakroom/cloakroomref22.asked -/
noncomputable def F_ref22_asked (m : Fu) (p : (List Int) × Int × Int) : Option (Int) :=
  let a0 := p.1
  let a1 := p.2.1
  let a2 := p.2.2
  (F_ref02_Check m a0).bind fun x1 =>
  bif x1 != (0 : Int) then some x1 else
  (F_ref02_Many m a0).bind fun x3 =>
  bif decide (a1 < (0 : Int)) then some (2 : Int) else
  bif decide (a2 < (0 : Int)) then some (2 : Int) else
  bif decide (x3 < a1) then some (2 : Int) else
  bif decide ((IntKind.i64.wrap (x3 - a1)) < a2) then
    some (2 : Int)
  else some (0 : Int)
def F_ref22_asked.ann : List (Nat × Ann) := []
def F_ref22_asked.sig : Sig := ⟨[.val true [.sl (.int .u8)], .val false [.int .i64], .val false [.int .i64]], [(false, [.dat (.int .i64)])]⟩
noncomputable def F_ref22_asked.S : Summ := ⟨37, F_ref22_asked.sig, F_ref22_asked⟩
noncomputable def F_ref22_asked.G : List Summ := [F_ref02_Check.S, F_ref02_Many.S]
theorem F_ref22_asked.eq : absF Try.prog F_ref22_asked.G F_ref22_asked.ann F_ref22_asked.sig Try.f37 = F_ref22_asked := by kernel_rfl
theorem F_ref22_asked.sound : Sound Try.prog F_ref22_asked.S := absF_sound (fn := Try.f37) (Γ := F_ref22_asked.G) (all_cons F_ref02_Check.sound (all_cons F_ref02_Many.sound all_nil)) mix (by kernel_rfl) (by kernel_rfl) (fun m p => congrFun (congrFun F_ref22_asked.eq m) p)
/-! ### cloakroom/cloakroomref02.Block -/
noncomputable def F_ref02_Block (_ : Fu) (p : (List Int) × Int) : Option (List Int) :=
  let a0 := p.1
  let a1 := p.2
  let x1 := IntKind.i64.wrap (a1 * (64 : Int))
  let x3 := IntKind.i64.wrap ((IntKind.i64.wrap (a1 * (64 : Int))) + (64 : Int))
  bif (((decide ((0 : Int) ≤ x1)) && (decide (x1 ≤ x3))) && (decide (x3 ≤ (a0.length : Int)))) && (decide ((a0.length : Int) ≤ (a0.length : Int))) then
    let x4 := (a0.take x3.toNat).drop x1.toNat
    bif Nat.ble x4.length 140737488351232 then
      some x4
    else none
  else none
def F_ref02_Block.ann : List (Nat × Ann) := []
def F_ref02_Block.sig : Sig := ⟨[.val true [.sl (.int .u8)], .val false [.int .i64]], [(false, [.own (.int .u8) 0 .wr])]⟩
noncomputable def F_ref02_Block.S : Summ := ⟨49, F_ref02_Block.sig, F_ref02_Block⟩
noncomputable def F_ref02_Block.G : List Summ := []
theorem F_ref02_Block.eq : absF Try.prog F_ref02_Block.G F_ref02_Block.ann F_ref02_Block.sig Try.f49 = F_ref02_Block := by kernel_rfl
theorem F_ref02_Block.sound : Sound Try.prog F_ref02_Block.S := absF_sound (fn := Try.f49) (Γ := F_ref02_Block.G) all_nil mix (by kernel_rfl) (by kernel_rfl) (fun m p => congrFun (congrFun F_ref02_Block.eq m) p)
/-! ### cloakroom/cloakroomref22.blocks -/
noncomputable def F_ref22_blocks.l58 (m : Fu) (a0 : List Int) (a1 : Int) (a2 : Int) (x1 : (List (List Int)) × Int) : Option (Step ((List (List Int)) × Int) ((List (List Int)))) :=
  bif decide (x1.2 < a2) then
    (F_ref02_Block m (a0, (IntKind.i64.wrap (a1 + x1.2)))).bind fun x4 =>
    let x5 := [x4]
    bif Nat.ble (x1.1.length + x5.length) 4294967296 then
      some (.next ((x1.1 ++ x5), (IntKind.i64.wrap (x1.2 + (1 : Int)))))
    else none
  else some (.fin x1.1)
noncomputable def F_ref22_blocks (m : Fu) (p : (List Int) × Int × Int) : Option (List (List Int)) :=
  let a0 := p.1
  let a1 := p.2.1
  let a2 := p.2.2
  (iter m (F_ref22_blocks.l58 m a0 a1 a2) (([] : List (List Int)), (0 : Int))).bind fun x8 =>
  some x8
def F_ref22_blocks.ann : List (Nat × Ann) := [(58, .loop ⟨[(7, false, [.own (.sl (.int .u8)) 112 .wr]), (8, false, [.dat (.int .i64)])], [], [], [], 113⟩ [(.exit 0, ⟨[(7, false, [.own (.sl (.int .u8)) 112 .wr])], [], [], [], 113⟩)])]
def F_ref22_blocks.sig : Sig := ⟨[.val true [.sl (.int .u8)], .val false [.int .i64], .val false [.int .i64]], [(false, [.own (.sl (.int .u8)) 0 .wr])]⟩
noncomputable def F_ref22_blocks.S : Summ := ⟨38, F_ref22_blocks.sig, F_ref22_blocks⟩
noncomputable def F_ref22_blocks.G : List Summ := [F_ref02_Block.S]
theorem F_ref22_blocks.eq : absF Try.prog F_ref22_blocks.G F_ref22_blocks.ann F_ref22_blocks.sig Try.f38 = F_ref22_blocks := by kernel_rfl
theorem F_ref22_blocks.sound : Sound Try.prog F_ref22_blocks.S := absF_sound (fn := Try.f38) (Γ := F_ref22_blocks.G) (all_cons F_ref02_Block.sound all_nil) mix (by kernel_rfl) (by kernel_rfl) (fun m p => congrFun (congrFun F_ref22_blocks.eq m) p)
/-! ### cloakroom/cloakroomref22.number -/
noncomputable def F_ref22_number (_ : Fu) (p : List Int) : Option (Int) :=
  let a0 := p
  bif decide ((0 : Int) < (a0.length : Int)) then
    bif decide ((1 : Int) < (a0.length : Int)) then
      bif decide ((2 : Int) < (a0.length : Int)) then
        bif decide ((3 : Int) < (a0.length : Int)) then
          some (IntKind.u32.wrap ((IntKind.u32.wrap ((IntKind.u32.wrap ((IntKind.u32.wrap (a0.getD 0 0)) + (IntKind.u32.wrap ((IntKind.u32.wrap (a0.getD 1 0)) * (256 : Int))))) + (IntKind.u32.wrap ((IntKind.u32.wrap (a0.getD 2 0)) * (65536 : Int))))) + (IntKind.u32.wrap ((IntKind.u32.wrap (a0.getD 3 0)) * (16777216 : Int)))))
        else none
      else none
    else none
  else none
def F_ref22_number.ann : List (Nat × Ann) := []
def F_ref22_number.sig : Sig := ⟨[.val false [.sl (.int .u8)]], [(false, [.dat (.int .u32)])]⟩
noncomputable def F_ref22_number.S : Summ := ⟨39, F_ref22_number.sig, F_ref22_number⟩
noncomputable def F_ref22_number.G : List Summ := []
theorem F_ref22_number.eq : absF Try.prog F_ref22_number.G F_ref22_number.ann F_ref22_number.sig Try.f39 = F_ref22_number := by kernel_rfl
theorem F_ref22_number.sound : Sound Try.prog F_ref22_number.S := absF_sound (fn := Try.f39) (Γ := F_ref22_number.G) all_nil mix (by kernel_rfl) (by kernel_rfl) (fun m p => congrFun (congrFun F_ref22_number.eq m) p)
/-! ### cloakroom/cloakroomref22.four -/
noncomputable def F_ref22_four (_ : Fu) (p : Int) : Option (List Int) :=
  let a0 := p
  some ([(IntKind.u8.wrap (a0.tmod (256 : Int))), (IntKind.u8.wrap ((IntKind.u32.wrap (a0.tdiv (256 : Int))).tmod (256 : Int))), (IntKind.u8.wrap ((IntKind.u32.wrap (a0.tdiv (65536 : Int))).tmod (256 : Int))), (IntKind.u8.wrap (IntKind.u32.wrap (a0.tdiv (16777216 : Int))))])
def F_ref22_four.ann : List (Nat × Ann) := []
def F_ref22_four.sig : Sig := ⟨[.val false [.int .u32]], [(false, [.own (.int .u8) 0 .wr])]⟩
noncomputable def F_ref22_four.S : Summ := ⟨32, F_ref22_four.sig, F_ref22_four⟩
noncomputable def F_ref22_four.G : List Summ := []
theorem F_ref22_four.eq : absF Try.prog F_ref22_four.G F_ref22_four.ann F_ref22_four.sig Try.f32 = F_ref22_four := by kernel_rfl
theorem F_ref22_four.sound : Sound Try.prog F_ref22_four.S := absF_sound (fn := Try.f32) (Γ := F_ref22_four.G) all_nil mix (by kernel_rfl) (by kernel_rfl) (fun m p => congrFun (congrFun F_ref22_four.eq m) p)
/-! ### cloakroom/cloakroomref22.Frame -/
noncomputable def F_ref22_Frame.l8295420 (_ : Fu) (x40 : List Int) : Option (Step (List Int) ((List Int))) :=
  bif decide ((x40.length : Int) < (64 : Int)) then
    bif Nat.ble (x40.length + 1) 140737488351232 then
      some (.next (x40 ++ ([0] : List Int)))
    else none
  else some (.fin x40)
noncomputable def F_ref22_Frame.l506 (m : Fu) (a0 : Int) (a1 : Int) (a2 : Int) (a3 : Int) (a4 : List Int) (x9 : Int) (x10 : (List (List Int)) × Int) : Option (Step ((List (List Int)) × Int) ((List (List Int)))) :=
  bif decide (x10.2 < x9) then
    let x14 := mnI (a4.length : Int) (IntKind.i64.wrap (x10.2 * (43 : Int)))
    let x18 := mnI (a4.length : Int) (IntKind.i64.wrap ((IntKind.i64.wrap (x10.2 * (43 : Int))) + (43 : Int)))
    bif (((decide ((0 : Int) ≤ x14)) && (decide (x14 ≤ x18))) && (decide (x18 ≤ (a4.length : Int)))) && (decide ((a4.length : Int) ≤ (a4.length : Int))) then
      let x19 := (a4.take x18.toNat).drop x14.toNat
      (F_ref22_four m a0).bind fun x20 =>
      bif Nat.ble x20.length 140737488351232 then
        (F_ref22_four m a1).bind fun x21 =>
        bif Nat.ble (x20.length + x21.length) 140737488351232 then
          let x22 := x20 ++ x21
          (F_ref22_four m a2).bind fun x23 =>
          bif Nat.ble (x22.length + x23.length) 140737488351232 then
            let x24 := x22 ++ x23
            (F_ref22_four m a3).bind fun x25 =>
            bif Nat.ble (x24.length + x25.length) 140737488351232 then
              let x26 := x24 ++ x25
              let x37 := [(IntKind.u8.wrap (x10.2.tmod (256 : Int))), (IntKind.u8.wrap (IntKind.i64.wrap (x10.2.tdiv (256 : Int)))), (IntKind.u8.wrap (x9.tmod (256 : Int))), (IntKind.u8.wrap (IntKind.i64.wrap (x9.tdiv (256 : Int)))), (IntKind.u8.wrap (x19.length : Int))]
              bif Nat.ble (x26.length + x37.length) 140737488351232 then
                let x38 := x26 ++ x37
                bif Nat.ble (x38.length + x19.length) 140737488351232 then
                  (iter m (F_ref22_Frame.l8295420 m) (x38 ++ x19)).bind fun x44 =>
                  let x45 := [x44]
                  bif Nat.ble (x10.1.length + x45.length) 4294967296 then
                    some (.next ((x10.1 ++ x45), (IntKind.i64.wrap (x10.2 + (1 : Int)))))
                  else none
                else none
              else none
            else none
          else none
        else none
      else none
    else none
  else some (.fin x10.1)
noncomputable def F_ref22_Frame (m : Fu) (p : Int × Int × Int × Int × (List Int)) : Option ((List (List Int)) × Int) :=
  let a0 := p.1
  let a1 := p.2.1
  let a2 := p.2.2.1
  let a3 := p.2.2.2.1
  let a4 := p.2.2.2.2
  bif a0 == (0 : Int) then some (([] : List (List Int)), (2 : Int)) else
  bif a1 == (0 : Int) then some (([] : List (List Int)), (2 : Int)) else
  bif decide ((65536 : Int) < (a4.length : Int)) then some (([] : List (List Int)), (3 : Int)) else
  (iter m (F_ref22_Frame.l506 m a0 a1 a2 a3 a4 (mxI (1 : Int) (IntKind.i64.wrap ((IntKind.i64.wrap ((IntKind.i64.wrap ((a4.length : Int) + (43 : Int))) - (1 : Int))).tdiv (43 : Int))))) (([] : List (List Int)), (0 : Int))).bind fun x48 =>
  some (x48, (0 : Int))
def F_ref22_Frame.ann : List (Nat × Ann) := [(506, .loop ⟨[(13, false, [.own (.sl (.int .u8)) 400 .wr]), (14, false, [.dat (.int .i64)])], [], [], [], 401⟩ [(.exit 0, ⟨[(13, false, [.own (.sl (.int .u8)) 400 .wr])], [], [], [], 401⟩)]),
  (8295420, .loop ⟨[(16, false, [.own (.int .u8) 1377 .wr])], [], [], [1345], 1378⟩ [(.exit 2, ⟨[(16, false, [.own (.int .u8) 1377 .wr])], [], [], [1345], 1378⟩)])]
def F_ref22_Frame.sig : Sig := ⟨[.val false [.int .u32], .val false [.int .u32], .val false [.int .u32], .val false [.int .u32], .val false [.sl (.int .u8)]], [(false, [.own (.sl (.int .u8)) 0 .wr]), (false, [.dat (.int .i64)])]⟩
noncomputable def F_ref22_Frame.S : Summ := ⟨13, F_ref22_Frame.sig, F_ref22_Frame⟩
noncomputable def F_ref22_Frame.G : List Summ := [F_ref22_four.S]
theorem F_ref22_Frame.eq : absF Try.prog F_ref22_Frame.G F_ref22_Frame.ann F_ref22_Frame.sig Try.f13 = F_ref22_Frame := by kernel_rfl
theorem F_ref22_Frame.sound : Sound Try.prog F_ref22_Frame.S := absF_sound (fn := Try.f13) (Γ := F_ref22_Frame.G) (all_cons F_ref22_four.sound all_nil) mix (by kernel_rfl) (by kernel_rfl) (fun m p => congrFun (congrFun F_ref22_Frame.eq m) p)
/-! ### cloakroom/cloakroomref22.open -/
noncomputable def F_ref22_open.l1018 (_ : Fu) (a3 : List (List Int)) (x15 : Int) (x19 : (List Int) × Int) : Option (Step ((List Int) × Int) ((Int × Int × Int) ⊕ (List Int))) :=
  bif decide (x19.2 < x15) then
    bif (decide ((0 : Int) ≤ x19.2)) && (decide (x19.2 < (a3.length : Int))) then
      let x21 := a3.getD x19.2.toNat []
      bif decide ((20 : Int) < (x21.length : Int)) then
        let x23 := IntKind.i64.wrap (x21.getD 20 0)
        bif decide ((43 : Int) < x23) then some (.fin (Sum.inl ((0 : Int), (0 : Int), (6 : Int)))) else
        bif (decide ((0 : Int) ≤ x19.2)) && (decide (x19.2 < (a3.length : Int))) then
          let x25 := a3.getD x19.2.toNat []
          let x26 := IntKind.i64.wrap ((21 : Int) + x23)
          bif ((decide ((21 : Int) ≤ x26)) && (decide (x26 ≤ (x25.length : Int)))) && (decide ((x25.length : Int) ≤ (x25.length : Int))) then
            let x27 := (x25.take x26.toNat).drop 21
            bif Nat.ble (x19.1.length + x27.length) 140737488351232 then
              some (.next ((x19.1 ++ x27), (IntKind.i64.wrap (x19.2 + (1 : Int)))))
            else none
          else none
        else none
      else none
    else none
  else some (.fin (Sum.inr x19.1))
noncomputable def F_ref22_open.l8186 (_ : Fu) (a3 : List (List Int)) (x15 : Int) (x33 : (List (List Int)) × Int) (x37 : Int) : Option (Step Int ((Int × Int × Int) ⊕ Unit)) :=
  bif decide (x37 < x15) then
    bif (decide ((0 : Int) ≤ x37)) && (decide (x37 < (x33.1.length : Int))) then
      bif Nat.blt x37.toNat x33.1.length then
        bif (decide ((0 : Int) ≤ x37)) && (decide (x37 < (a3.length : Int))) then
          bif !((x33.1.getD x37.toNat []) == (a3.getD x37.toNat [])) then
            some (.fin (Sum.inl ((0 : Int), (0 : Int), (6 : Int))))
          else some (.next (IntKind.i64.wrap (x37 + (1 : Int))))
        else none
      else none
    else none
  else some (.fin (Sum.inr ()))
noncomputable def F_ref22_open (m : Fu) (p : Int × Int × Int × (List (List Int))) : Option ((List Int) × Int × Int × Int) :=
  let a0 := p.1
  let a1 := p.2.1
  let a2 := p.2.2.1
  let a3 := p.2.2.2
  bif (a3.length : Int) == (0 : Int) then some (([] : List Int), (0 : Int), (0 : Int), (6 : Int)) else
  bif a0 == (0 : Int) then some (([] : List Int), (0 : Int), (0 : Int), (6 : Int)) else
  bif a1 == (0 : Int) then some (([] : List Int), (0 : Int), (0 : Int), (6 : Int)) else
  bif decide ((0 : Int) < (a3.length : Int)) then
    let x5 := a3.getD 0 []
    bif (decide ((12 : Int) ≤ (x5.length : Int))) && (decide ((x5.length : Int) ≤ (x5.length : Int))) then
      (F_ref22_number m ((x5.take 12).drop 8)).bind fun x7 =>
      bif decide ((0 : Int) < (a3.length : Int)) then
        let x8 := a3.getD 0 []
        bif decide ((18 : Int) < (x8.length : Int)) then
          bif decide ((0 : Int) < (a3.length : Int)) then
            let x11 := a3.getD 0 []
            bif decide ((19 : Int) < (x11.length : Int)) then
              let x15 := IntKind.i64.wrap ((IntKind.i64.wrap (x8.getD 18 0)) + (IntKind.i64.wrap ((IntKind.i64.wrap (x11.getD 19 0)) * (256 : Int))))
              bif decide (x15 < (1 : Int)) then some (([] : List Int), (0 : Int), (0 : Int), (6 : Int)) else
              bif decide ((a3.length : Int) < x15) then some (([] : List Int), (0 : Int), (0 : Int), (6 : Int)) else
              (iter m (F_ref22_open.l1018 m a3 x15) (([] : List Int), (0 : Int))).bind fun x30 =>
              match x30 with
              | .inl x31 =>
                some (([] : List Int), x31)
              | .inr x32 =>
                (F_ref22_Frame m (a0, a1, x7, a2, x32)).bind fun x33 =>
                bif x33.2 != (0 : Int) then some (([] : List Int), (0 : Int), (0 : Int), (6 : Int)) else
                bif (x33.1.length : Int) != x15 then some (([] : List Int), (0 : Int), (0 : Int), (6 : Int)) else
                (iter m (F_ref22_open.l8186 m a3 x15 x33) (0 : Int)).bind fun x43 =>
                match x43 with
                | .inl x44 =>
                  some (([] : List Int), x44)
                | .inr _ =>
                  some (x32, x7, x15, (0 : Int))
            else none
          else none
        else none
      else none
    else none
  else none
def F_ref22_open.ann : List (Nat × Ann) := [(1018, .loop ⟨[(14, false, [.own (.int .u8) 800 .wr]), (15, false, [.dat (.int .i64)])], [], [], [], 801⟩ [(.ret, ⟨[(8, false, [.cst .nils]), (9, false, [.dat (.int .u32)]), (10, false, [.dat (.int .i64)]), (11, false, [.dat (.int .i64)])], [], [], [], 800⟩), (.exit 0, ⟨[(14, false, [.own (.int .u8) 800 .wr])], [], [], [], 801⟩)]),
  (8186, .loop ⟨[(19, false, [.dat (.int .i64)])], [], [], [], 1121⟩ [(.ret, ⟨[(8, false, [.cst .nils]), (9, false, [.dat (.int .u32)]), (10, false, [.dat (.int .i64)]), (11, false, [.dat (.int .i64)])], [], [], [], 1121⟩), (.exit 2, ⟨[], [], [], [], 1121⟩)])]
def F_ref22_open.sig : Sig := ⟨[.val false [.int .u32], .val false [.int .u32], .val false [.int .u32], .val false [.sl (.sl (.int .u8))]], [(false, [.own (.int .u8) 0 .fr]), (false, [.dat (.int .u32)]), (false, [.dat (.int .i64)]), (false, [.dat (.int .i64)])]⟩
noncomputable def F_ref22_open.S : Summ := ⟨34, F_ref22_open.sig, F_ref22_open⟩
noncomputable def F_ref22_open.G : List Summ := [F_ref22_number.S, F_ref22_Frame.S]
theorem F_ref22_open.eq : absF Try.prog F_ref22_open.G F_ref22_open.ann F_ref22_open.sig Try.f34 = F_ref22_open := by kernel_rfl
theorem F_ref22_open.sound : Sound Try.prog F_ref22_open.S := absF_sound (fn := Try.f34) (Γ := F_ref22_open.G) (all_cons F_ref22_number.sound (all_cons F_ref22_Frame.sound all_nil)) mix (by kernel_rfl) (by kernel_rfl) (fun m p => congrFun (congrFun F_ref22_open.eq m) p)
/-! ### cloakroom/cloakroomref22.Read -/
noncomputable def F_ref22_Read.s14 (_ : Fu) (a1 : Int) (x1 : Int) : Option (Int) :=
  bif x1 == (0 : Int) then
    bif a1 == (0 : Int) then
      some (2 : Int)
    else some x1
  else some x1
noncomputable def F_ref22_Read.l508 (m : Fu) (a1 : Int) (x7 : (List (List Int)) × (List (List Int)) × Int × Int × Int) : Option (Step ((List (List Int)) × (List (List Int)) × Int × Int × Int) (((List (List Int)) × (List (List Int)) × Int × Int × Int))) :=
  (F_ref22_open m (a1, (IntKind.u32.wrap (IntKind.i64.wrap ((x7.2.1.length : Int) + (1 : Int)))), x7.2.2.2.1, x7.1)).bind fun x11 =>
  bif x11.2.2.2 != (0 : Int) then some (.fin x7) else
  let x13 := [x11.1]
  bif Nat.ble (x7.2.1.length + x13.length) 4294967296 then
    bif (((decide ((0 : Int) ≤ x11.2.2.1)) && (decide (x11.2.2.1 ≤ (x7.1.length : Int)))) && (decide ((x7.1.length : Int) ≤ (x7.1.length : Int)))) && (decide ((x7.1.length : Int) ≤ (x7.1.length : Int))) then
      some (.next (((x7.1.take ((x7.1.length : Int).toNat)).drop x11.2.2.1.toNat), (x7.2.1 ++ x13), (IntKind.i64.wrap (x7.2.2.1 + x11.2.2.1)), x11.2.1, x7.2.2.2.2))
    else none
  else none
noncomputable def F_ref22_Read.l2042 (m : Fu) (a1 : Int) (x17 : ((List (List Int)) × (List (List Int)) × Int × Int × Int)) (x18 : Int × (List (List Int)) × Int × Int × Int) : Option (Step (Int × (List (List Int)) × Int × Int × Int) (((List (List Int)) × Int × Int × Int))) :=
  bif decide (x18.1 < (x17.1.length : Int)) then
    bif (decide ((0 : Int) ≤ x18.1)) && (decide (x18.1 < (x17.1.length : Int))) then
      let x21 := x17.1.getD x18.1.toNat []
      bif (decide ((4 : Int) ≤ (x21.length : Int))) && (decide ((x21.length : Int) ≤ (x21.length : Int))) then
        (F_ref22_number m ((x21.take 4).drop 0)).bind fun x23 =>
        bif x23 == a1 then
          bif (decide ((0 : Int) ≤ x18.1)) && (decide (x18.1 < (x17.1.length : Int))) then
            let x25 := x17.1.getD x18.1.toNat []
            bif (decide ((12 : Int) ≤ (x25.length : Int))) && (decide ((x25.length : Int) ≤ (x25.length : Int))) then
              (F_ref22_number m ((x25.take 12).drop 8)).bind fun x27 =>
              bif (decide ((0 : Int) ≤ x18.1)) && (decide (x18.1 < (x17.1.length : Int))) then
                let x28 := x17.1.getD x18.1.toNat []
                bif (decide ((16 : Int) ≤ (x28.length : Int))) && (decide ((x28.length : Int) ≤ (x28.length : Int))) then
                  (F_ref22_number m ((x28.take 16).drop 12)).bind fun x30 =>
                  some (.next ((IntKind.i64.wrap (x18.1 + (1 : Int))), x18.2.1, x18.2.2.1, x18.2.2.2.1, (mxI (mxI x18.2.2.2.2 x27) x30)))
                else none
              else none
            else none
          else none
        else some (.next ((IntKind.i64.wrap (x18.1 + (1 : Int))), x18.2))
      else none
    else none
  else some (.fin x18.2)
noncomputable def F_ref22_Read (m : Fu) (p : (List Int) × Int × Int × Int) : Option ((List (List Int)) × Int × Int × Int × Int) :=
  let a0 := p.1
  let a1 := p.2.1
  let a2 := p.2.2.1
  let a3 := p.2.2.2
  (F_ref22_asked m (a0, a2, a3)).bind fun x1 =>
  (F_ref22_Read.s14 m a1 x1).bind fun x4 =>
  bif x4 != (0 : Int) then some (([] : List (List Int)), (0 : Int), (0 : Int), (0 : Int), x4) else
  (F_ref22_blocks m (a0, a2, a3)).bind fun x6 =>
  (iter m (F_ref22_Read.l508 m a1) (x6, ([] : List (List Int)), (0 : Int), (0 : Int), (0 : Int))).bind fun x17 =>
  (iter m (F_ref22_Read.l2042 m a1 x17) ((0 : Int), x17.2)).bind fun x34 =>
  some (x34.1, x34.2.1, x34.2.2.1, x34.2.2.2, (0 : Int))
def F_ref22_Read.ann : List (Nat × Ann) := [(14, .jnt [(.normal, ⟨[(10, false, [.dat (.int .i64)])], [], [], [], 192⟩)]),
  (508, .loop ⟨[(12, false, [.dat (.sl (.sl (.int .u8)))])], [(224, [.own (.sl (.int .u8)) 320 .wr, .dat (.int .i64), .dat (.int .u32), .dat (.int .u32)])], [], [288], 321⟩ [(.exit 0, ⟨[(12, false, [.dat (.sl (.sl (.int .u8)))])], [(224, [.own (.sl (.int .u8)) 320 .wr, .dat (.int .i64), .dat (.int .u32), .dat (.int .u32)])], [], [288], 321⟩)]),
  (2042, .loop ⟨[(17, false, [.dat (.int .i64)])], [(224, [.own (.sl (.int .u8)) 337 .wr, .dat (.int .i64), .dat (.int .u32), .dat (.int .u32)])], [], [320], 338⟩ [(.exit 2, ⟨[], [(224, [.own (.sl (.int .u8)) 337 .wr, .dat (.int .i64), .dat (.int .u32), .dat (.int .u32)])], [], [320], 338⟩)])]
def F_ref22_Read.sig : Sig := ⟨[.val true [.sl (.int .u8)], .val false [.int .u32], .val false [.int .i64], .val false [.int .i64]], [(true, [.own (.sl (.int .u8)) 0 .wr, .dat (.int .i64), .dat (.int .u32), .dat (.int .u32)]), (false, [.dat (.int .i64)])]⟩
noncomputable def F_ref22_Read.S : Summ := ⟨20, F_ref22_Read.sig, F_ref22_Read⟩
noncomputable def F_ref22_Read.G : List Summ := [F_ref22_asked.S, F_ref22_blocks.S, F_ref22_open.S, F_ref22_number.S]
theorem F_ref22_Read.eq : absF Try.prog F_ref22_Read.G F_ref22_Read.ann F_ref22_Read.sig Try.f20 = F_ref22_Read := by kernel_rfl
theorem F_ref22_Read.sound : Sound Try.prog F_ref22_Read.S := absF_sound (fn := Try.f20) (Γ := F_ref22_Read.G) (all_cons F_ref22_asked.sound (all_cons F_ref22_blocks.sound (all_cons F_ref22_open.sound (all_cons F_ref22_number.sound all_nil)))) mix (by kernel_rfl) (by kernel_rfl) (fun m p => congrFun (congrFun F_ref22_Read.eq m) p)
/-! ### cloakroom/journal.Greatest -/
noncomputable def F_journal_Greatest.l58 (m : Fu) (x1 : (List (List Int)) × Int) (x2 : Int) (x3 : Int × Int) : Option (Step (Int × Int) Int) :=
  bif decide (x3.2 < x2) then
    bif (decide ((0 : Int) ≤ x3.2)) && (decide (x3.2 < (x1.1.length : Int))) then
      bif Nat.blt x3.2.toNat x1.1.length then
        let x5 := x1.1.getD x3.2.toNat []
        bif (decide ((4 : Int) ≤ (x5.length : Int))) && (decide ((x5.length : Int) ≤ (x5.length : Int))) then
          (F_journal_get m ((x5.take 4).drop 0)).bind fun x7 =>
          some (.next ((mxI x3.1 x7), (IntKind.i64.wrap (x3.2 + (1 : Int)))))
        else none
      else none
    else none
  else some (.fin x3.1)
noncomputable def F_journal_Greatest (m : Fu) (p : (List Int) × Int × Int) : Option (Int × Int) :=
  let a0 := p.1
  let a1 := p.2.1
  let a2 := p.2.2
  (F_journal_some m (a0, a1, a2)).bind fun x1 =>
  (iter m (F_journal_Greatest.l58 m x1 (x1.1.length : Int)) ((0 : Int), (0 : Int))).bind fun x10 =>
  some (x10, x1.2)
def F_journal_Greatest.ann : List (Nat × Ann) := [(58, .loop ⟨[(6, false, [.dat (.int .u32)]), (20, false, [.dat (.int .i64)])], [], [], [], 288⟩ [(.exit 0, ⟨[(6, false, [.dat (.int .u32)])], [], [], [], 288⟩)])]
def F_journal_Greatest.sig : Sig := ⟨[.val true [.sl (.int .u8)], .val false [.int .i64], .val false [.int .i64]], [(false, [.dat (.int .u32)]), (false, [.dat (.int .i64)])]⟩
noncomputable def F_journal_Greatest.S : Summ := ⟨21, F_journal_Greatest.sig, F_journal_Greatest⟩
noncomputable def F_journal_Greatest.G : List Summ := [F_journal_some.S, F_journal_get.S]
theorem F_journal_Greatest.eq : absF Try.prog F_journal_Greatest.G F_journal_Greatest.ann F_journal_Greatest.sig Try.f21 = F_journal_Greatest := by kernel_rfl
theorem F_journal_Greatest.sound : Sound Try.prog F_journal_Greatest.S := absF_sound (fn := Try.f21) (Γ := F_journal_Greatest.G) (all_cons F_journal_some.sound (all_cons F_journal_get.sound all_nil)) mix (by kernel_rfl) (by kernel_rfl) (fun m p => congrFun (congrFun F_journal_Greatest.eq m) p)
/-! ### cloakroom/cloakroomref22.Greatest -/
noncomputable def F_ref22_Greatest.l506 (m : Fu) (x3 : List (List Int)) (x4 : Int × Int) : Option (Step (Int × Int) Int) :=
  bif decide (x4.2 < (x3.length : Int)) then
    bif (decide ((0 : Int) ≤ x4.2)) && (decide (x4.2 < (x3.length : Int))) then
      bif Nat.blt x4.2.toNat x3.length then
        let x7 := x3.getD x4.2.toNat []
        bif (decide ((4 : Int) ≤ (x7.length : Int))) && (decide ((x7.length : Int) ≤ (x7.length : Int))) then
          (F_ref22_number m ((x7.take 4).drop 0)).bind fun x9 =>
          some (.next ((mxI x4.1 x9), (IntKind.i64.wrap (x4.2 + (1 : Int)))))
        else none
      else none
    else none
  else some (.fin x4.1)
noncomputable def F_ref22_Greatest (m : Fu) (p : (List Int) × Int × Int) : Option (Int × Int) :=
  let a0 := p.1
  let a1 := p.2.1
  let a2 := p.2.2
  (F_ref22_asked m (a0, a1, a2)).bind fun x1 =>
  bif x1 != (0 : Int) then some ((0 : Int), x1) else
  (F_ref22_blocks m (a0, a1, a2)).bind fun x3 =>
  (iter m (F_ref22_Greatest.l506 m x3) ((0 : Int), (0 : Int))).bind fun x12 =>
  some (x12, (0 : Int))
def F_ref22_Greatest.ann : List (Nat × Ann) := [(506, .loop ⟨[(9, false, [.dat (.int .u32)]), (11, false, [.dat (.int .i64)])], [], [], [], 320⟩ [(.exit 0, ⟨[(9, false, [.dat (.int .u32)])], [], [], [], 320⟩)])]
def F_ref22_Greatest.sig : Sig := ⟨[.val true [.sl (.int .u8)], .val false [.int .i64], .val false [.int .i64]], [(false, [.dat (.int .u32)]), (false, [.dat (.int .i64)])]⟩
noncomputable def F_ref22_Greatest.S : Summ := ⟨22, F_ref22_Greatest.sig, F_ref22_Greatest⟩
noncomputable def F_ref22_Greatest.G : List Summ := [F_ref22_asked.S, F_ref22_blocks.S, F_ref22_number.S]
theorem F_ref22_Greatest.eq : absF Try.prog F_ref22_Greatest.G F_ref22_Greatest.ann F_ref22_Greatest.sig Try.f22 = F_ref22_Greatest := by kernel_rfl
theorem F_ref22_Greatest.sound : Sound Try.prog F_ref22_Greatest.S := absF_sound (fn := Try.f22) (Γ := F_ref22_Greatest.G) (all_cons F_ref22_asked.sound (all_cons F_ref22_blocks.sound (all_cons F_ref22_number.sound all_nil))) mix (by kernel_rfl) (by kernel_rfl) (fun m p => congrFun (congrFun F_ref22_Greatest.eq m) p)
/-! ### cloakroom/cloakroomref22.SameLog -/
noncomputable def F_ref22_SameLog (m : Fu) (p : (List (List Int)) × Int × Int × Int × (List (List Int)) × Int × Int × Int) : Option (Bool) :=
  let a0 := p.1
  let a1 := p.2.1
  let a2 := p.2.2.1
  let a3 := p.2.2.2.1
  let a4 := p.2.2.2.2.1
  let a5 := p.2.2.2.2.2.1
  let a6 := p.2.2.2.2.2.2.1
  let a7 := p.2.2.2.2.2.2.2
  (F_ref22_Same m (a0, a4)).bind fun x1 =>
  bif x1 then
    bif a1 == a5 then
      bif a2 == a6 then
        some (a3 == a7)
      else some false
    else some false
  else some false
def F_ref22_SameLog.ann : List (Nat × Ann) := []
def F_ref22_SameLog.sig : Sig := ⟨[.val true [.sl (.sl (.int .u8)), .int .i64, .int .u32, .int .u32], .val true [.sl (.sl (.int .u8)), .int .i64, .int .u32, .int .u32]], [(false, [.dat .bool])]⟩
noncomputable def F_ref22_SameLog.S : Summ := ⟨23, F_ref22_SameLog.sig, F_ref22_SameLog⟩
noncomputable def F_ref22_SameLog.G : List Summ := [F_ref22_Same.S]
theorem F_ref22_SameLog.eq : absF Try.prog F_ref22_SameLog.G F_ref22_SameLog.ann F_ref22_SameLog.sig Try.f23 = F_ref22_SameLog := by kernel_rfl
theorem F_ref22_SameLog.sound : Sound Try.prog F_ref22_SameLog.S := absF_sound (fn := Try.f23) (Γ := F_ref22_SameLog.G) (all_cons F_ref22_Same.sound all_nil) mix (by kernel_rfl) (by kernel_rfl) (fun m p => congrFun (congrFun F_ref22_SameLog.eq m) p)
/-! ### cloakroom/journal.Next -/
noncomputable def F_journal_Next (m : Fu) (p : (List (List Int)) × Int × Int × Int × Int × (List Int)) : Option ((List (List Int)) × Int) :=
  let a0 := p.1
  let a2 := p.2.2.1
  let a3 := p.2.2.2.1
  let a4 := p.2.2.2.2.1
  let a5 := p.2.2.2.2.2
  let x2 := IntKind.u32.wrap ((mxI a2 a3) + (1 : Int))
  bif a4 == (0 : Int) then some (([] : List (List Int)), (2 : Int)) else
  bif decide ((65536 : Int) < (a5.length : Int)) then some (([] : List (List Int)), (3 : Int)) else
  bif decide ((1048576 : Int) ≤ (a0.length : Int)) then some (([] : List (List Int)), (4 : Int)) else
  bif x2 == (0 : Int) then some (([] : List (List Int)), (9 : Int)) else
  (F_journal_Frame m (a4, (IntKind.u32.wrap (IntKind.i64.wrap ((a0.length : Int) + (1 : Int)))), x2, a2, a5)).bind fun x12 =>
  some x12
def F_journal_Next.ann : List (Nat × Ann) := []
def F_journal_Next.sig : Sig := ⟨[.val true [.sl (.sl (.int .u8)), .int .i64, .int .u32, .int .u32], .val false [.int .u32], .val false [.sl (.int .u8)]], [(false, [.own (.sl (.int .u8)) 0 .wr]), (false, [.dat (.int .i64)])]⟩
noncomputable def F_journal_Next.S : Summ := ⟨24, F_journal_Next.sig, F_journal_Next⟩
noncomputable def F_journal_Next.G : List Summ := [F_journal_Frame.S]
theorem F_journal_Next.eq : absF Try.prog F_journal_Next.G F_journal_Next.ann F_journal_Next.sig Try.f24 = F_journal_Next := by kernel_rfl
theorem F_journal_Next.sound : Sound Try.prog F_journal_Next.S := absF_sound (fn := Try.f24) (Γ := F_journal_Next.G) (all_cons F_journal_Frame.sound all_nil) mix (by kernel_rfl) (by kernel_rfl) (fun m p => congrFun (congrFun F_journal_Next.eq m) p)
/-! ### cloakroom/cloakroomref22.Next -/
noncomputable def F_ref22_Next (m : Fu) (p : (List (List Int)) × Int × Int × Int × Int × (List Int)) : Option ((List (List Int)) × Int) :=
  let a0 := p.1
  let a2 := p.2.2.1
  let a3 := p.2.2.2.1
  let a4 := p.2.2.2.2.1
  let a5 := p.2.2.2.2.2
  bif a4 == (0 : Int) then some (([] : List (List Int)), (2 : Int)) else
  bif decide ((65536 : Int) < (a5.length : Int)) then some (([] : List (List Int)), (3 : Int)) else
  bif decide ((1048576 : Int) ≤ (a0.length : Int)) then some (([] : List (List Int)), (4 : Int)) else
  let x6 := mxI a2 a3
  bif x6 == (4294967295 : Int) then some (([] : List (List Int)), (9 : Int)) else
  (F_ref22_Frame m (a4, (IntKind.u32.wrap (IntKind.i64.wrap ((a0.length : Int) + (1 : Int)))), (IntKind.u32.wrap (x6 + (1 : Int))), a2, a5)).bind fun x12 =>
  some x12
def F_ref22_Next.ann : List (Nat × Ann) := []
def F_ref22_Next.sig : Sig := ⟨[.val true [.sl (.sl (.int .u8)), .int .i64, .int .u32, .int .u32], .val false [.int .u32], .val false [.sl (.int .u8)]], [(false, [.own (.sl (.int .u8)) 0 .wr]), (false, [.dat (.int .i64)])]⟩
noncomputable def F_ref22_Next.S : Summ := ⟨25, F_ref22_Next.sig, F_ref22_Next⟩
noncomputable def F_ref22_Next.G : List Summ := [F_ref22_Frame.S]
theorem F_ref22_Next.eq : absF Try.prog F_ref22_Next.G F_ref22_Next.ann F_ref22_Next.sig Try.f25 = F_ref22_Next := by kernel_rfl
theorem F_ref22_Next.sound : Sound Try.prog F_ref22_Next.S := absF_sound (fn := Try.f25) (Γ := F_ref22_Next.G) (all_cons F_ref22_Frame.sound all_nil) mix (by kernel_rfl) (by kernel_rfl) (fun m p => congrFun (congrFun F_ref22_Next.eq m) p)
/-! ### cloakroom/cloakroomlaw22.JournalReads -/
noncomputable def F_law22_JournalReads (m : Fu) (p : (List Int) × Int × Int × Int × (List Int)) : Option (Bool) :=
  let a0 := p.1
  let a1 := p.2.1
  let a2 := p.2.2.1
  let a3 := p.2.2.2.1
  let a4 := p.2.2.2.2
  bif decide ((300000 : Int) < (a0.length : Int)) then some true else
  bif decide ((100000 : Int) < (a4.length : Int)) then some true else
  (F_ref02_Twin m a0).bind fun x5 =>
  (F_journal_Read m (x5, a1, a2, a3)).bind fun x6 =>
  (F_ref22_Read m (a0, a1, a2, a3)).bind fun x7 =>
  (F_journal_Greatest m (x5, a2, a3)).bind fun x8 =>
  (F_ref22_Greatest m (a0, a2, a3)).bind fun x9 =>
  (F_ref22_SameLog m (x6.1, x6.2.1, x6.2.2.1, x6.2.2.2.1, x7.1, x7.2.1, x7.2.2.1, x7.2.2.2.1)).bind fun x10 =>
  bif !x10 then some false else
  bif x6.2.2.2.2 != x7.2.2.2.2 then some false else
  bif x8.1 != x9.1 then some false else
  bif x8.2 != x9.2 then some false else
  (F_journal_Next m (x6.1, x6.2.1, x6.2.2.1, x6.2.2.2.1, a1, a4)).bind fun x15 =>
  (F_ref22_Next m (x7.1, x7.2.1, x7.2.2.1, x7.2.2.2.1, a1, a4)).bind fun x16 =>
  (F_ref22_Same m (x15.1, x16.1)).bind fun x17 =>
  bif x17 then
    bif x15.2 == x16.2 then
      some (x5 == a0)
    else some false
  else some false
def F_law22_JournalReads.ann : List (Nat × Ann) := []
def F_law22_JournalReads.sig : Sig := ⟨[.val true [.sl (.int .u8)], .val false [.int .u32], .val false [.int .i64], .val false [.int .i64], .val false [.sl (.int .u8)]], [(false, [.dat .bool])]⟩
noncomputable def F_law22_JournalReads.S : Summ := ⟨5, F_law22_JournalReads.sig, F_law22_JournalReads⟩
noncomputable def F_law22_JournalReads.G : List Summ := [F_ref02_Twin.S, F_journal_Read.S, F_ref22_Read.S, F_journal_Greatest.S, F_ref22_Greatest.S, F_ref22_SameLog.S, F_journal_Next.S, F_ref22_Next.S, F_ref22_Same.S]
theorem F_law22_JournalReads.eq : absF Try.prog F_law22_JournalReads.G F_law22_JournalReads.ann F_law22_JournalReads.sig Try.f5 = F_law22_JournalReads := by kernel_rfl
theorem F_law22_JournalReads.sound : Sound Try.prog F_law22_JournalReads.S := absF_sound (fn := Try.f5) (Γ := F_law22_JournalReads.G) (all_cons F_ref02_Twin.sound (all_cons F_journal_Read.sound (all_cons F_ref22_Read.sound (all_cons F_journal_Greatest.sound (all_cons F_ref22_Greatest.sound (all_cons F_ref22_SameLog.sound (all_cons F_journal_Next.sound (all_cons F_ref22_Next.sound (all_cons F_ref22_Same.sound all_nil))))))))) mix (by kernel_rfl) (by kernel_rfl) (fun m p => congrFun (congrFun F_law22_JournalReads.eq m) p)
/-! ### cloakroom/cloakroomlaw22.JournalOther -/
noncomputable def F_law22_JournalOther.s252 (_ : Fu) (x5 : Int × Int) : Option (Bool) :=
  bif x5.2 != (0 : Int) then
    some true
  else some (x5.1 == (4294967295 : Int))
noncomputable def F_law22_JournalOther (m : Fu) (p : (List Int) × Int × Int) : Option (Bool) :=
  let a0 := p.1
  let a1 := p.2.1
  let a2 := p.2.2
  (F_law22_alive m ()).bind fun x1 =>
  bif !x1 then some false else
  bif decide ((300000 : Int) < (a0.length : Int)) then some x1 else
  (F_journal_Greatest m (a0, a1, a2)).bind fun x5 =>
  (F_law22_JournalOther.s252 m x5).bind fun x8 =>
  bif x8 then
    bif x1 then
      bif x5.2 == (0 : Int) then
        some true
      else some (x5.1 == (0 : Int))
    else some false
  else
    (F_journal_Read m (a0, (IntKind.u32.wrap (x5.1 + (1 : Int))), a1, a2)).bind fun x12 =>
    bif x1 then
      bif x12.2.2.2.2 == (0 : Int) then
        bif (x12.1.length : Int) == (0 : Int) then
          bif x12.2.1 == (0 : Int) then
            bif x12.2.2.1 == (0 : Int) then
              some (x12.2.2.2.1 == (0 : Int))
            else some false
          else some false
        else some false
      else some false
    else some false
def F_law22_JournalOther.ann : List (Nat × Ann) := [(252, .jnt [(.normal, ⟨[(32, false, [.dat .bool])], [], [], [], 352⟩)])]
def F_law22_JournalOther.sig : Sig := ⟨[.val true [.sl (.int .u8)], .val false [.int .i64], .val false [.int .i64]], [(false, [.dat .bool])]⟩
noncomputable def F_law22_JournalOther.S : Summ := ⟨6, F_law22_JournalOther.sig, F_law22_JournalOther⟩
noncomputable def F_law22_JournalOther.G : List Summ := [F_law22_alive.S, F_journal_Greatest.S, F_journal_Read.S]
theorem F_law22_JournalOther.eq : absF Try.prog F_law22_JournalOther.G F_law22_JournalOther.ann F_law22_JournalOther.sig Try.f6 = F_law22_JournalOther := by kernel_rfl
theorem F_law22_JournalOther.sound : Sound Try.prog F_law22_JournalOther.S := absF_sound (fn := Try.f6) (Γ := F_law22_JournalOther.G) (all_cons F_law22_alive.sound (all_cons F_journal_Greatest.sound (all_cons F_journal_Read.sound all_nil))) mix (by kernel_rfl) (by kernel_rfl) (fun m p => congrFun (congrFun F_law22_JournalOther.eq m) p)
/-! ### cloakroom/disk.New -/
noncomputable def F_disk_New (_ : Fu) (p : Int) : Option ((List Int) × Int) :=
  let a0 := p
  bif decide (a0 < (1 : Int)) then some (([] : List Int), (20 : Int)) else
  bif decide ((4096 : Int) < a0) then some (([] : List Int), (20 : Int)) else
  let x3 := IntKind.i64.wrap (a0 * (64 : Int))
  bif ((decide ((0 : Int) ≤ x3)) && (decide (x3 ≤ x3))) && (decide (x3 ≤ (4294967296 : Int))) then
    some ((List.replicate x3.toNat 0), (0 : Int))
  else none
def F_disk_New.ann : List (Nat × Ann) := []
def F_disk_New.sig : Sig := ⟨[.val false [.int .i64]], [(true, [.own (.int .u8) 0 .wr]), (false, [.dat (.int .i64)])]⟩
noncomputable def F_disk_New.S : Summ := ⟨27, F_disk_New.sig, F_disk_New⟩
noncomputable def F_disk_New.G : List Summ := []
theorem F_disk_New.eq : absF Try.prog F_disk_New.G F_disk_New.ann F_disk_New.sig Try.f27 = F_disk_New := by kernel_rfl
theorem F_disk_New.sound : Sound Try.prog F_disk_New.S := absF_sound (fn := Try.f27) (Γ := F_disk_New.G) all_nil mix (by kernel_rfl) (by kernel_rfl) (fun m p => congrFun (congrFun F_disk_New.eq m) p)
/-! ### cloakroom/cloakroomlaw22.JournalNames -/
noncomputable def F_law22_JournalNames (m : Fu) (_ : Unit) : Option (Bool) :=
  (F_law22_abc m ()).bind fun x1 =>
  (F_law22_alive m ()).bind fun x2 =>
  bif !x2 then some false else
  bif (x1.length : Int) != (1 : Int) then some false else
  bif decide ((0 : Int) < (x1.length : Int)) then
    bif Nat.blt 0 x1.length then
      bif ((x1.getD 0 []).length : Int) != (64 : Int) then some false else
      bif decide ((0 : Int) < (x1.length : Int)) then
        bif Nat.blt 0 x1.length then
          let x9 := x1.getD 0 []
          bif (decide ((25 : Int) ≤ (x9.length : Int))) && (decide ((x9.length : Int) ≤ (x9.length : Int))) then
            (F_journal_Open m ((1 : Int), (2 : Int), (0 : Int), x1)).bind fun x12 =>
            (F_journal_Open m ((2 : Int), (1 : Int), (0 : Int), x1)).bind fun x13 =>
            (F_disk_New m (5 : Int)).bind fun x14 =>
            (F_journal_Read m (x14.1, (1 : Int), (0 : Int), (5 : Int))).bind fun x15 =>
            (F_journal_Frame m ((0 : Int), (1 : Int), (1 : Int), (0 : Int), ([] : List Int))).bind fun x16 =>
            (F_journal_Frame m ((1 : Int), (1 : Int), (1 : Int), (0 : Int), (List.replicate 44 0))).bind fun x18 =>
            (F_journal_Next m (([] : List (List Int)), (0 : Int), (0 : Int), (0 : Int), (1 : Int), ([] : List Int))).bind fun x19 =>
            (F_journal_Read m (x14.1, (1 : Int), (3 : Int), (3 : Int))).bind fun x20 =>
            (F_journal_Next m (([] : List (List Int)), (0 : Int), (4294967295 : Int), (0 : Int), (1 : Int), ([] : List Int))).bind fun x21 =>
            (F_journal_Open m ((1 : Int), (1 : Int), (0 : Int), ([([1] : List Int)]))).bind fun x23 =>
            bif ((x9.take 25).drop 0) == ([1, 0, 0, 0, 1, 0, 0, 0, 7, 0, 0, 0, 0, 0, 0, 0, 0, 0, 1, 0, 3, 97, 98, 99, 0] : List Int) then
              bif x12.2.2.2 == (6 : Int) then
                bif x13.2.2.2 == (6 : Int) then
                  bif x15.2.2.2.2 == (0 : Int) then
                    bif (x15.1.length : Int) == (0 : Int) then
                      bif x15.2.1 == (0 : Int) then
                        bif x15.2.2.1 == (0 : Int) then
                          bif x16.2 == (2 : Int) then
                            bif x18.2 == (0 : Int) then
                              bif (x18.1.length : Int) == (2 : Int) then
                                bif x19.2 == (0 : Int) then
                                  bif (x19.1.length : Int) == (1 : Int) then
                                    bif decide ((0 : Int) < (x19.1.length : Int)) then
                                      bif Nat.blt 0 x19.1.length then
                                        let x38 := x19.1.getD 0 []
                                        bif decide ((8 : Int) < (x38.length : Int)) then
                                          bif (x38.getD 8 0) == (1 : Int) then
                                            bif x20.2.2.2.2 == (2 : Int) then
                                              bif x21.2 == (9 : Int) then
                                                some (x23.2.2.2 == (3 : Int))
                                              else some false
                                            else some false
                                          else some false
                                        else none
                                      else none
                                    else none
                                  else some false
                                else some false
                              else some false
                            else some false
                          else some false
                        else some false
                      else some false
                    else some false
                  else some false
                else some false
              else some false
            else some false
          else none
        else none
      else none
    else none
  else none
def F_law22_JournalNames.ann : List (Nat × Ann) := []
def F_law22_JournalNames.sig : Sig := ⟨[], [(false, [.dat .bool])]⟩
noncomputable def F_law22_JournalNames.S : Summ := ⟨7, F_law22_JournalNames.sig, F_law22_JournalNames⟩
noncomputable def F_law22_JournalNames.G : List Summ := [F_law22_abc.S, F_law22_alive.S, F_journal_Open.S, F_disk_New.S, F_journal_Read.S, F_journal_Frame.S, F_journal_Next.S]
theorem F_law22_JournalNames.eq : absF Try.prog F_law22_JournalNames.G F_law22_JournalNames.ann F_law22_JournalNames.sig Try.f7 = F_law22_JournalNames := by kernel_rfl
theorem F_law22_JournalNames.sound : Sound Try.prog F_law22_JournalNames.S := absF_sound (fn := Try.f7) (Γ := F_law22_JournalNames.G) (all_cons F_law22_abc.sound (all_cons F_law22_alive.sound (all_cons F_journal_Open.sound (all_cons F_disk_New.sound (all_cons F_journal_Read.sound (all_cons F_journal_Frame.sound (all_cons F_journal_Next.sound all_nil))))))) mix (by kernel_rfl) (by kernel_rfl) (fun m p => congrFun (congrFun F_law22_JournalNames.eq m) p)
/-! ### cloakroom/cloakroomlaw22.puts -/
noncomputable def F_law22_puts.l58 (_ : Fu) (a0 : List (List Int)) (a1 : Int) (x1 : (List (Int × (List Int))) × Int) : Option (Step ((List (Int × (List Int))) × Int) ((List (Int × (List Int))))) :=
  bif decide (x1.2 < (a0.length : Int)) then
    bif (decide ((0 : Int) ≤ x1.2)) && (decide (x1.2 < (a0.length : Int))) then
      let x6 := [((IntKind.i64.wrap (a1 + x1.2)), (a0.getD x1.2.toNat []))]
      bif Nat.ble (x1.1.length + x6.length) 4294967296 then
        some (.next ((x1.1 ++ x6), (IntKind.i64.wrap (x1.2 + (1 : Int)))))
      else none
    else none
  else some (.fin x1.1)
noncomputable def F_law22_puts (m : Fu) (p : (List (List Int)) × Int) : Option (List (Int × (List Int))) :=
  let a0 := p.1
  let a1 := p.2
  (iter m (F_law22_puts.l58 m a0 a1) (([] : List (Int × (List Int))), (0 : Int))).bind fun x9 =>
  some x9
def F_law22_puts.ann : List (Nat × Ann) := [(58, .loop ⟨[(5, false, [.own (.pr (.int .i64) (.sl (.int .u8))) 80 .wr]), (6, false, [.dat (.int .i64)])], [], [], [], 81⟩ [(.exit 0, ⟨[(5, false, [.own (.pr (.int .i64) (.sl (.int .u8))) 80 .wr])], [], [], [], 81⟩)])]
def F_law22_puts.sig : Sig := ⟨[.val false [.sl (.sl (.int .u8))], .val false [.int .i64]], [(false, [.own (.pr (.int .i64) (.sl (.int .u8))) 0 .wr])]⟩
noncomputable def F_law22_puts.S : Summ := ⟨29, F_law22_puts.sig, F_law22_puts⟩
noncomputable def F_law22_puts.G : List Summ := []
theorem F_law22_puts.eq : absF Try.prog F_law22_puts.G F_law22_puts.ann F_law22_puts.sig Try.f29 = F_law22_puts := by kernel_rfl
theorem F_law22_puts.sound : Sound Try.prog F_law22_puts.S := absF_sound (fn := Try.f29) (Γ := F_law22_puts.G) all_nil mix (by kernel_rfl) (by kernel_rfl) (fun m p => congrFun (congrFun F_law22_puts.eq m) p)
/-! ### cloakroom/disk.at -/
noncomputable def F_disk_at_w (_ : Fu) (p : List Int × Int) : Option (Int × Int) :=
  let x1 := IntKind.i64.wrap (p.2 * (64 : Int))
  let x2 := IntKind.i64.wrap (IntKind.i64.wrap (p.2 + (1 : Int)) * (64 : Int))
  bif decide ((0 : Int) ≤ x1) && decide (x1 < x2) && decide (x2 ≤ (p.1.length : Int)) then some (x1, x2 - x1) else none
def F_disk_at_w.sig : Sig := ⟨[.own (.int .u8), .val false [.int .i64]], [(true, [.cst (.ptr 0 0), .dat (.int .i64), .dat (.int .i64)])]⟩
noncomputable def F_disk_at_w.S : Summ := ⟨43, F_disk_at_w.sig, F_disk_at_w⟩
theorem F_disk_at_w.core (n lo hi : Int) (len cap b o : Nat) (w : World) (hlo : wrap64 (n * 64) = lo) (hhi : wrap64 (wrap64 (n + 1) * 64) = hi) (h0 : 0 ≤ lo) (h1 : lo < hi) (h2 : hi ≤ (len : Int)) (hc : len ≤ cap) :
    Calls Try.prog 43 #[.agg #[.slice (some ⟨b, o, none⟩) len cap], .int .i64 n] w fun e w' => ∃ v, e = .returned v ∧ (∃ c', v = .slice (some ⟨b, o + lo.toNat, none⟩) (hi - lo).toNat c') ∧ Grows w w' := by
  have e1 : max hi 0 = hi := by omega
  have e2 : hi ≤ (cap : Int) := by omega
  have e3 : ¬ hi.toNat = lo.toNat := by omega
  have e4 : hi.toNat - lo.toNat = (hi - lo).toNat := by omega
  go_enter Try.func43, Try.ntmps43
  go_wp2_with (simp only [hlo, hhi, e1])
  go_ret
  refine ⟨_, rfl, ⟨_, rfl⟩, ?_⟩
  exact ⟨by rw [size_alloc]; omega, fun b hb => heap_alloc_lt _ _ hb, rfl, rfl, rfl⟩
theorem F_disk_at_w.sound : Sound Try.prog F_disk_at_w.S := by
  show WinSound Try.prog 43 (.int .u8) F_disk_at_w
  intro m xs n q hq
  change List Int at xs
  unfold F_disk_at_w at hq
  dsimp only at hq
  rw [show IntKind.i64.wrap (n * (64 : Int)) = wrap64 (n * 64) from by rw [IntKind.wrap_i64, wrap64], show IntKind.i64.wrap (IntKind.i64.wrap (n + (1 : Int)) * (64 : Int)) = wrap64 (wrap64 (n + 1) * 64) from by rw [IntKind.wrap_i64, IntKind.wrap_i64, wrap64, wrap64]] at hq
  generalize hlo : wrap64 (n * 64) = lo at hq
  generalize hhi : wrap64 (wrap64 (n + 1) * 64) = hi at hq
  cases hc : decide ((0 : Int) ≤ lo) && decide (lo < hi) && decide (hi ≤ (xs.length : Int)) with
  | false => rw [hc] at hq; cases hq
  | true =>
    rw [hc] at hq
    cases hq
    simp only [Bool.and_eq_true, decide_eq_true_eq] at hc
    obtain ⟨⟨c1, c2⟩, c3⟩ := hc
    refine ⟨by show 0 < xs.length; omega, fun w b o cap h1 h2 hn => ?_⟩
    have hcore := F_disk_at_w.core n lo hi xs.length cap b o w hlo hhi c1 c2 c3 h1
    have hrun : (callFunc 43 #[.agg #[.slice (some ⟨b, o, none⟩) xs.length cap], .int .i64 n]).run Try.prog w = .ok (.enter 43 #[.agg #[.slice (some ⟨b, o, none⟩) xs.length cap], .int .i64 n]) w := by
      have hb : Try.f43.body.isSome = true := by kernel_rfl
      have hn : (Try.f43.name == "runtime.NumGoroutine") = false := by kernel_rfl
      obtain ⟨c, hbody⟩ := Option.isSome_iff_exists.1 hb
      have hn' : ¬ Try.f43.name = "runtime.NumGoroutine" := by simpa using hn
      simp [callFunc, Try.func43, hn', hbody]
    unfold Go.Abs.Ends
    rw [show (callFunc 43 #[.agg #[.slice (some ⟨b, o, none⟩) (List.length xs) cap], .int .i64 n]).run Try.prog w = _ from hrun]
    have e1 : (lo.toNat) * (Ty.int IntKind.u8).sz = lo.toNat := Nat.mul_one _
    refine Calls.mono hcore ?_
    rintro e w' ⟨v, he, hv, hg⟩
    exact ⟨v, he, by rw [e1]; exact hv, hg⟩
/-! ### cloakroom/disk.Do -/
noncomputable def F_disk_Do.l58 (m : Fu) (a0 : List Int) (a1 : List (Int × (List Int))) (x3 : Int) (x4 : Int) : Option (Step Int (Int ⊕ Unit)) :=
  bif decide (x4 < x3) then
    bif (decide ((0 : Int) ≤ x4)) && (decide (x4 < (a1.length : Int))) then
      let x6 := a1.getD x4.toNat (0, [])
      (F_disk_asked m (a0, x6.1)).bind fun x7 =>
      bif x7 != (0 : Int) then some (.fin (Sum.inl x7)) else
      bif (x6.2.length : Int) != (64 : Int) then
        some (.fin (Sum.inl (3 : Int)))
      else some (.next (IntKind.i64.wrap (x4 + (1 : Int))))
    else none
  else some (.fin (Sum.inr ()))
noncomputable def F_disk_Do.l506 (m : Fu) (x19 : List (Int × (List Int))) (x20 : Int) (x21 : Int × (List Int)) : Option (Step (Int × (List Int)) ((List Int))) :=
  bif decide (x21.1 < x20) then
    bif (decide ((0 : Int) ≤ x21.1)) && (decide (x21.1 < (x19.length : Int))) then
      let x23 := x19.getD x21.1.toNat (0, [])
      (F_disk_at_w m (x21.2, x23.1)).bind fun x24 =>
      bif Nat.ble (x24.1.toNat + x24.2.toNat) x21.2.length && (Nat.beq x23.2.length x24.2.toNat && Nat.ble x24.2.toNat 4294967296) then
        some (.next ((IntKind.i64.wrap (x21.1 + (1 : Int))), (x21.2.take x24.1.toNat ++ x23.2 ++ x21.2.drop (x24.1.toNat + x24.2.toNat))))
      else none
    else none
  else some (.fin x21.2)
noncomputable def F_disk_Do (m : Fu) (p : (List Int) × (List (Int × (List Int))) × Int) : Option ((List Int) × Int) :=
  let a0 := p.1
  let a1 := p.2.1
  let a2 := p.2.2
  (F_disk_Check m a0).bind fun x1 =>
  bif x1 != (0 : Int) then some (([] : List Int), x1) else
  (iter m (F_disk_Do.l58 m a0 a1 (a1.length : Int)) (0 : Int)).bind fun x12 =>
  match x12 with
  | .inl x13 =>
    some (([] : List Int), x13)
  | .inr _ =>
    bif decide (a2 < (0 : Int)) then some (([] : List Int), (2 : Int)) else
    bif decide ((a1.length : Int) < a2) then some (([] : List Int), (2 : Int)) else
    (C_bytes_Clone m a0).bind fun x18 =>
    bif ((decide ((0 : Int) ≤ a2)) && (decide (a2 ≤ a2))) && (decide (a2 ≤ (a1.length : Int))) then
      let x19 := (a1.take a2.toNat).drop 0
      (iter m (F_disk_Do.l506 m x19 (x19.length : Int)) ((0 : Int), x18)).bind fun x27 =>
      some (x27, (0 : Int))
    else none
def F_disk_Do.ann : List (Nat × Ann) := [(58, .loop ⟨[(23, false, [.dat (.int .i64)])], [], [], [], 224⟩ [(.ret, ⟨[(7, false, [.dat (.int .i64)])], [(64, [.cst .nils])], [], [], 224⟩), (.exit 0, ⟨[], [], [], [], 224⟩)]),
  (506, .loop ⟨[(59, false, [.dat (.int .i64)])], [], [(384, .int .u8, .wr)], [], 544⟩ [(.exit 2, ⟨[], [], [(384, .int .u8, .wr)], [], 544⟩)])]
def F_disk_Do.sig : Sig := ⟨[.val true [.sl (.int .u8)], .val false [.sl (.pr (.int .i64) (.sl (.int .u8)))], .val false [.int .i64]], [(true, [.own (.int .u8) 0 .wr]), (false, [.dat (.int .i64)])]⟩
noncomputable def F_disk_Do.S : Summ := ⟨28, F_disk_Do.sig, F_disk_Do⟩
noncomputable def F_disk_Do.G : List Summ := [F_disk_Check.S, F_disk_asked.S, C_bytes_Clone.S, F_disk_at_w.S]
theorem F_disk_Do.eq : absF Try.prog F_disk_Do.G F_disk_Do.ann F_disk_Do.sig Try.f28 = F_disk_Do := by kernel_rfl
theorem F_disk_Do.sound : Sound Try.prog F_disk_Do.S := absF_sound (fn := Try.f28) (Γ := F_disk_Do.G) (all_cons F_disk_Check.sound (all_cons F_disk_asked.sound (all_cons C_bytes_Clone.sound (all_cons F_disk_at_w.sound all_nil)))) mix (by kernel_rfl) (by kernel_rfl) (fun m p => congrFun (congrFun F_disk_Do.eq m) p)
/-! ### cloakroom/cloakroomlaw22.same -/
noncomputable def F_law22_same (m : Fu) (p : (List (List Int)) × (List (List Int)) × (List Int) × Bool) : Option (Bool) :=
  let a0 := p.1
  let a1 := p.2.1
  let a2 := p.2.2.1
  let a3 := p.2.2.2
  bif !a3 then
    (F_ref22_Same m (a0, a1)).bind fun x2 =>
    some x2
  else
    bif (a0.length : Int) == (IntKind.i64.wrap ((a1.length : Int) + (1 : Int))) then
      let x7 := (a1.length : Int)
      bif ((decide ((0 : Int) ≤ x7)) && (decide (x7 ≤ (a0.length : Int)))) && (decide ((a0.length : Int) ≤ (a0.length : Int))) then
        (F_ref22_Same m (((a0.take x7.toNat).drop 0), a1)).bind fun x9 =>
        bif x9 then
          let x10 := (a1.length : Int)
          bif (decide ((0 : Int) ≤ x10)) && (decide (x10 < (a0.length : Int))) then
            some ((a0.getD x10.toNat []) == a2)
          else none
        else some false
      else none
    else some false
def F_law22_same.ann : List (Nat × Ann) := []
def F_law22_same.sig : Sig := ⟨[.val false [.sl (.sl (.int .u8))], .val false [.sl (.sl (.int .u8))], .val false [.sl (.int .u8)], .val false [.bool]], [(false, [.dat .bool])]⟩
noncomputable def F_law22_same.S : Summ := ⟨30, F_law22_same.sig, F_law22_same⟩
noncomputable def F_law22_same.G : List Summ := [F_ref22_Same.S]
theorem F_law22_same.eq : absF Try.prog F_law22_same.G F_law22_same.ann F_law22_same.sig Try.f30 = F_law22_same := by kernel_rfl
theorem F_law22_same.sound : Sound Try.prog F_law22_same.S := absF_sound (fn := Try.f30) (Γ := F_law22_same.G) (all_cons F_ref22_Same.sound all_nil) mix (by kernel_rfl) (by kernel_rfl) (fun m p => congrFun (congrFun F_law22_same.eq m) p)
/-! ### cloakroom/cloakroomlaw22.JournalTorn -/
noncomputable def F_law22_JournalTorn (m : Fu) (p : (List Int) × Int × Int × Int × (List Int) × Int) : Option (Bool) :=
  let a0 := p.1
  let a1 := p.2.1
  let a2 := p.2.2.1
  let a3 := p.2.2.2.1
  let a4 := p.2.2.2.2.1
  let a5 := p.2.2.2.2.2
  (F_law22_alive m ()).bind fun x1 =>
  bif !x1 then some false else
  bif decide ((300000 : Int) < (a0.length : Int)) then some x1 else
  bif decide ((66000 : Int) < (a4.length : Int)) then some x1 else
  (F_journal_Read m (a0, a1, a2, a3)).bind fun x7 =>
  bif x7.2.2.2.2 != (0 : Int) then
    bif x1 then
      some ((x7.1.length : Int) == (0 : Int))
    else some false
  else
    (F_journal_Next m (x7.1, x7.2.1, x7.2.2.1, x7.2.2.2.1, a1, a4)).bind fun x11 =>
    bif x11.2 != (0 : Int) then some x1 else
    bif decide ((IntKind.i64.wrap (a3 - x7.2.1)) < (x11.1.length : Int)) then some x1 else
    bif decide (a5 < (0 : Int)) then some x1 else
    bif decide ((x11.1.length : Int) < a5) then some x1 else
    (F_law22_puts m (x11.1, (IntKind.i64.wrap (a2 + x7.2.1)))).bind fun x20 =>
    (F_disk_Do m (a0, x20, a5)).bind fun x21 =>
    (F_journal_Read m (x21.1, a1, a2, a3)).bind fun x22 =>
    bif x21.2 != (0 : Int) then some false else
    bif x22.2.2.2.2 != (0 : Int) then some false else
    (F_law22_same m (x22.1, x7.1, a4, (a5 == (x11.1.length : Int)))).bind fun x27 =>
    bif !x27 then some false else
    bif decide (a5 < (x11.1.length : Int)) then
      bif x1 then
        bif x22.2.1 == x7.2.1 then
          some (x22.2.2.1 == x7.2.2.1)
        else some false
      else some false
    else
      bif x1 then
        some (x22.2.1 == (IntKind.i64.wrap (x7.2.1 + (x11.1.length : Int))))
      else some false
def F_law22_JournalTorn.ann : List (Nat × Ann) := []
def F_law22_JournalTorn.sig : Sig := ⟨[.val true [.sl (.int .u8)], .val false [.int .u32], .val false [.int .i64], .val false [.int .i64], .val false [.sl (.int .u8)], .val false [.int .i64]], [(false, [.dat .bool])]⟩
noncomputable def F_law22_JournalTorn.S : Summ := ⟨8, F_law22_JournalTorn.sig, F_law22_JournalTorn⟩
noncomputable def F_law22_JournalTorn.G : List Summ := [F_law22_alive.S, F_journal_Read.S, F_journal_Next.S, F_law22_puts.S, F_disk_Do.S, F_law22_same.S]
theorem F_law22_JournalTorn.eq : absF Try.prog F_law22_JournalTorn.G F_law22_JournalTorn.ann F_law22_JournalTorn.sig Try.f8 = F_law22_JournalTorn := by kernel_rfl
theorem F_law22_JournalTorn.sound : Sound Try.prog F_law22_JournalTorn.S := absF_sound (fn := Try.f8) (Γ := F_law22_JournalTorn.G) (all_cons F_law22_alive.sound (all_cons F_journal_Read.sound (all_cons F_journal_Next.sound (all_cons F_law22_puts.sound (all_cons F_disk_Do.sound (all_cons F_law22_same.sound all_nil)))))) mix (by kernel_rfl) (by kernel_rfl) (fun m p => congrFun (congrFun F_law22_JournalTorn.eq m) p)
/-! ### cloakroom/cloakroomlaw22.JournalAgain -/
noncomputable def F_law22_JournalAgain (m : Fu) (p : (List Int) × Int × Int × Int × (List Int) × (List Int) × Int × Int) : Option (Bool) :=
  let a0 := p.1
  let a1 := p.2.1
  let a2 := p.2.2.1
  let a3 := p.2.2.2.1
  let a4 := p.2.2.2.2.1
  let a5 := p.2.2.2.2.2.1
  let a6 := p.2.2.2.2.2.2.1
  let a7 := p.2.2.2.2.2.2.2
  (F_law22_alive m ()).bind fun x1 =>
  bif !x1 then some false else
  bif decide ((100000 : Int) < (a0.length : Int)) then some x1 else
  bif decide ((20000 : Int) < (a4.length : Int)) then some x1 else
  bif decide ((20000 : Int) < (a5.length : Int)) then some x1 else
  (F_journal_Read m (a0, a1, a2, a3)).bind fun x9 =>
  bif x9.2.2.2.2 != (0 : Int) then some x1 else
  (F_journal_Next m (x9.1, x9.2.1, x9.2.2.1, x9.2.2.2.1, a1, a4)).bind fun x11 =>
  bif x11.2 != (0 : Int) then some x1 else
  bif decide ((IntKind.i64.wrap (a3 - x9.2.1)) < (x11.1.length : Int)) then some x1 else
  bif decide (a6 < (0 : Int)) then some x1 else
  bif decide ((x11.1.length : Int) ≤ a6) then some x1 else
  (F_law22_puts m (x11.1, (IntKind.i64.wrap (a2 + x9.2.1)))).bind fun x20 =>
  (F_disk_Do m (a0, x20, a6)).bind fun x21 =>
  (F_journal_Read m (x21.1, a1, a2, a3)).bind fun x22 =>
  (F_journal_Next m (x22.1, x22.2.1, x22.2.2.1, x22.2.2.2.1, a1, a5)).bind fun x23 =>
  bif x21.2 != (0 : Int) then some false else
  bif x22.2.2.2.2 != (0 : Int) then some false else
  (F_ref22_Same m (x9.1, x22.1)).bind fun x26 =>
  bif !x26 then some false else
  bif x23.2 != (0 : Int) then some x1 else
  bif decide ((IntKind.i64.wrap (a3 - x22.2.1)) < (x23.1.length : Int)) then some x1 else
  bif decide (a7 < (0 : Int)) then some x1 else
  bif decide ((x23.1.length : Int) < a7) then some x1 else
  (F_law22_puts m (x23.1, (IntKind.i64.wrap (a2 + x22.2.1)))).bind fun x36 =>
  (F_disk_Do m (x21.1, x36, a7)).bind fun x37 =>
  (F_journal_Read m (x37.1, a1, a2, a3)).bind fun x38 =>
  bif x1 then
    bif x37.2 == (0 : Int) then
      bif x38.2.2.2.2 == (0 : Int) then
        (F_law22_same m (x38.1, x9.1, a5, (a7 == (x23.1.length : Int)))).bind fun x43 =>
        some x43
      else some false
    else some false
  else some false
def F_law22_JournalAgain.ann : List (Nat × Ann) := []
def F_law22_JournalAgain.sig : Sig := ⟨[.val true [.sl (.int .u8)], .val false [.int .u32], .val false [.int .i64], .val false [.int .i64], .val false [.sl (.int .u8)], .val false [.sl (.int .u8)], .val false [.int .i64], .val false [.int .i64]], [(false, [.dat .bool])]⟩
noncomputable def F_law22_JournalAgain.S : Summ := ⟨9, F_law22_JournalAgain.sig, F_law22_JournalAgain⟩
noncomputable def F_law22_JournalAgain.G : List Summ := [F_law22_alive.S, F_journal_Read.S, F_journal_Next.S, F_law22_puts.S, F_disk_Do.S, F_ref22_Same.S, F_law22_same.S]
theorem F_law22_JournalAgain.eq : absF Try.prog F_law22_JournalAgain.G F_law22_JournalAgain.ann F_law22_JournalAgain.sig Try.f9 = F_law22_JournalAgain := by kernel_rfl
theorem F_law22_JournalAgain.sound : Sound Try.prog F_law22_JournalAgain.S := absF_sound (fn := Try.f9) (Γ := F_law22_JournalAgain.G) (all_cons F_law22_alive.sound (all_cons F_journal_Read.sound (all_cons F_journal_Next.sound (all_cons F_law22_puts.sound (all_cons F_disk_Do.sound (all_cons F_ref22_Same.sound (all_cons F_law22_same.sound all_nil))))))) mix (by kernel_rfl) (by kernel_rfl) (fun m p => congrFun (congrFun F_law22_JournalAgain.eq m) p)
end Go.Proofs.Ytdnfmkkaojafhaa
