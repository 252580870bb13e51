/- The pure functions that the program's functions compute, and that they compute them. Printed by a program of this session (gen.py). -/
import Derived.Test.YtdnfmkkaojafhaaProg
import Derived.Test.YtdnfmkkaojafhaaA3
namespace Go.Proofs.Ytdnfmkkaojafhaa
open Go.Abs
set_option maxRecDepth 100000
theorem mix : Try.prog.follows .mixedOrders = true := by kernel_rfl
/-! ### cloakroom/cloakroomref22.Heavy -/
noncomputable def F_ref22_Heavy.s232 (_ : Fu) (a0 : List (List Int)) (x1 : Int × Int) : Option (Unit ⊕ Unit) :=
  bif decide (x1.2 < (a0.length : Int)) then
    bif decide (x1.2 < (10000 : Int)) then
      some (Sum.inl ())
    else some (Sum.inr ())
  else some (Sum.inr ())
noncomputable def F_ref22_Heavy.l58 (m : Fu) (a0 : List (List Int)) (x1 : Int × Int) : Option (Step (Int × Int) Int) :=
  (F_ref22_Heavy.s232 m a0 x1).bind fun x5 =>
  match x5 with
  | .inl _ =>
    bif (decide ((0 : Int) ≤ x1.2)) && (decide (x1.2 < (a0.length : Int))) then
      some (.next ((IntKind.i64.wrap (x1.1 + (mnI ((a0.getD x1.2.toNat []).length : Int) (100000 : Int)))), (IntKind.i64.wrap (x1.2 + (1 : Int)))))
    else none
  | .inr _ =>
    some (.fin x1.1)
noncomputable def F_ref22_Heavy (m : Fu) (p : List (List Int)) : Option (Bool) :=
  let a0 := p
  (iter m (F_ref22_Heavy.l58 m a0) ((0 : Int), (0 : Int))).bind fun x13 =>
  bif decide ((5000 : Int) < (a0.length : Int)) then
    some true
  else some (decide ((400000 : Int) < x13))
def F_ref22_Heavy.ann : List (Nat × Ann) := [(58, .loop ⟨[(3, false, [.dat (.int .i64)]), (4, false, [.dat (.int .i64)])], [], [], [], 64⟩ [(.exit 0, ⟨[(3, false, [.dat (.int .i64)])], [], [], [], 64⟩)]),
  (232, .jnt [(.normal, ⟨[], [], [], [], 64⟩), (.exit 0, ⟨[], [], [], [], 64⟩)])]
def F_ref22_Heavy.sig : Sig := ⟨[.val false [.sl (.sl (.int .u8))]], [(false, [.dat .bool])]⟩
noncomputable def F_ref22_Heavy.S : Summ := ⟨10, F_ref22_Heavy.sig, F_ref22_Heavy⟩
noncomputable def F_ref22_Heavy.G : List Summ := []
theorem F_ref22_Heavy.eq : absF Try.prog F_ref22_Heavy.G F_ref22_Heavy.ann F_ref22_Heavy.sig Try.f10 = F_ref22_Heavy := by kernel_rfl
theorem F_ref22_Heavy.sound : Sound Try.prog F_ref22_Heavy.S := absF_sound (fn := Try.f10) (Γ := F_ref22_Heavy.G) all_nil mix (by kernel_rfl) (by kernel_rfl) (fun m p => congrFun (congrFun F_ref22_Heavy.eq m) p)
/-! ### cloakroom/cloakroomref22.Twin -/
noncomputable def F_ref22_Twin.l58 (_ : Fu) (a0 : List (List Int)) (x1 : (List (List Int)) × Int) : Option (Step ((List (List Int)) × Int) ((List (List Int)))) :=
  bif decide (x1.2 < (a0.length : Int)) then
    bif (decide ((0 : Int) ≤ x1.2)) && (decide (x1.2 < (a0.length : Int))) then
      let x4 := a0.getD x1.2.toNat []
      bif Nat.ble x4.length 140737488351232 then
        let x5 := [x4]
        bif Nat.ble (x1.1.length + x5.length) 4294967296 then
          some (.next ((x1.1 ++ x5), (IntKind.i64.wrap (x1.2 + (1 : Int)))))
        else none
      else none
    else none
  else some (.fin x1.1)
noncomputable def F_ref22_Twin (m : Fu) (p : List (List Int)) : Option (List (List Int)) :=
  let a0 := p
  (iter m (F_ref22_Twin.l58 m a0) (([] : List (List Int)), (0 : Int))).bind fun x8 =>
  some x8
def F_ref22_Twin.ann : List (Nat × Ann) := [(58, .loop ⟨[(3, false, [.own (.sl (.int .u8)) 64 .wr]), (4, false, [.dat (.int .i64)])], [], [], [], 65⟩ [(.exit 0, ⟨[(3, false, [.own (.sl (.int .u8)) 64 .wr])], [], [], [], 65⟩)])]
def F_ref22_Twin.sig : Sig := ⟨[.val false [.sl (.sl (.int .u8))]], [(false, [.own (.sl (.int .u8)) 0 .wr])]⟩
noncomputable def F_ref22_Twin.S : Summ := ⟨11, F_ref22_Twin.sig, F_ref22_Twin⟩
noncomputable def F_ref22_Twin.G : List Summ := []
theorem F_ref22_Twin.eq : absF Try.prog F_ref22_Twin.G F_ref22_Twin.ann F_ref22_Twin.sig Try.f11 = F_ref22_Twin := by kernel_rfl
theorem F_ref22_Twin.sound : Sound Try.prog F_ref22_Twin.S := absF_sound (fn := Try.f11) (Γ := F_ref22_Twin.G) all_nil mix (by kernel_rfl) (by kernel_rfl) (fun m p => congrFun (congrFun F_ref22_Twin.eq m) p)
/-! ### cloakroom/journal.Frame -/
noncomputable def F_journal_Frame.i6s210 (_ : Fu) (x23 : Bool) : Option (Unit ⊕ Unit) :=
  bif x23 then
    some (Sum.inl ())
  else some (Sum.inr ())
noncomputable def F_journal_Frame.i6l26 (m : Fu) (x21 : Int) (x22 : (List Int) × Int) : Option (Step ((List Int) × Int) ((List Int))) :=
  (F_journal_Frame.i6s210 m (decide (x22.2 < (4 : Int)))).bind fun x24 =>
  match x24 with
  | .inl _ =>
    let x26 := IntKind.i64.wrap ((8 : Int) * x22.2)
    bif decide (x26 < (0 : Int)) then none else
    let x29 := [(IntKind.u8.wrap (shrOp .u32 x21 x26))]
    bif Nat.ble (x22.1.length + x29.length) 64 then
      some (.next ((x22.1 ++ x29), (IntKind.i64.wrap (x22.2 + (1 : Int)))))
    else none
  | .inr _ =>
    some (.fin x22.1)
noncomputable def F_journal_Frame.l2074234 (m : Fu) (x17 : List Int) (x18 : Int) (x19 : (List Int) × Int) : Option (Step ((List Int) × Int) ((List Int))) :=
  bif decide (x19.2 < x18) then
    bif (decide ((0 : Int) ≤ x19.2)) && (decide (x19.2 < (x17.length : Int))) then
      bif Nat.blt x19.2.toNat x17.length then
        (iter m (F_journal_Frame.i6l26 m (x17.getD x19.2.toNat 0)) (x19.1, (0 : Int))).bind fun x33 =>
        some (.next (x33, (IntKind.i64.wrap (x19.2 + (1 : Int)))))
      else none
    else none
  else some (.fin x19.1)
noncomputable def F_journal_Frame.i7s210 (_ : Fu) (x38 : Bool) : Option (Unit ⊕ Unit) :=
  bif x38 then
    some (Sum.inl ())
  else some (Sum.inr ())
noncomputable def F_journal_Frame.i7l26 (m : Fu) (x36 : Int) (x37 : (List Int) × Int) : Option (Step ((List Int) × Int) ((List Int))) :=
  (F_journal_Frame.i7s210 m (decide (x37.2 < (2 : Int)))).bind fun x39 =>
  match x39 with
  | .inl _ =>
    let x41 := IntKind.i64.wrap ((8 : Int) * x37.2)
    bif decide (x41 < (0 : Int)) then none else
    let x44 := [(IntKind.u8.wrap (shrOp .u32 x36 x41))]
    bif Nat.ble (x37.1.length + x44.length) 64 then
      some (.next ((x37.1 ++ x44), (IntKind.i64.wrap (x37.2 + (1 : Int)))))
    else none
  | .inr _ =>
    some (.fin x37.1)
noncomputable def F_journal_Frame.i8s210 (_ : Fu) (x51 : Bool) : Option (Unit ⊕ Unit) :=
  bif x51 then
    some (Sum.inl ())
  else some (Sum.inr ())
noncomputable def F_journal_Frame.i8l26 (m : Fu) (x49 : Int) (x50 : (List Int) × Int) : Option (Step ((List Int) × Int) ((List Int))) :=
  (F_journal_Frame.i8s210 m (decide (x50.2 < (2 : Int)))).bind fun x52 =>
  match x52 with
  | .inl _ =>
    let x54 := IntKind.i64.wrap ((8 : Int) * x50.2)
    bif decide (x54 < (0 : Int)) then none else
    let x57 := [(IntKind.u8.wrap (shrOp .u32 x49 x54))]
    bif Nat.ble (x50.1.length + x57.length) 64 then
      some (.next ((x50.1 ++ x57), (IntKind.i64.wrap (x50.2 + (1 : Int)))))
    else none
  | .inr _ =>
    some (.fin x50.1)
noncomputable def F_journal_Frame.l506 (m : Fu) (a0 : Int) (a1 : Int) (a2 : Int) (a3 : Int) (x9 : Int) (x10 : (List Int) × (List (List Int)) × Int) : Option (Step ((List Int) × (List (List Int)) × Int) ((List (List Int)))) :=
  bif decide (x10.2.2 < x9) then
    let x13 := mnI (x10.1.length : Int) (43 : Int)
    bif ((decide ((0 : Int) ≤ x13)) && (decide (x13 ≤ (x10.1.length : Int)))) && (decide ((x10.1.length : Int) ≤ (x10.1.length : Int))) then
      let x14 := (x10.1.take x13.toNat).drop 0
      let x15 := (x14.length : Int)
      bif (((decide ((0 : Int) ≤ x15)) && (decide (x15 ≤ (x10.1.length : Int)))) && (decide ((x10.1.length : Int) ≤ (x10.1.length : Int)))) && (decide ((x10.1.length : Int) ≤ (x10.1.length : Int))) then
        let x17 := [a0, a1, a2, a3]
        (iter m (F_journal_Frame.l2074234 m x17 (x17.length : Int)) (([] : List Int), (0 : Int))).bind fun x35 =>
        (iter m (F_journal_Frame.i7l26 m (IntKind.u32.wrap x10.2.2)) (x35, (0 : Int))).bind fun x48 =>
        (iter m (F_journal_Frame.i8l26 m (IntKind.u32.wrap x9)) (x48, (0 : Int))).bind fun x61 =>
        let x64 := [(IntKind.u8.wrap (x14.length : Int))]
        bif Nat.ble (x61.length + x64.length) 64 then
          let x65 := x61 ++ x64
          bif Nat.ble (x65.length + x14.length) 64 then
            let x66 := x65 ++ x14
            let x68 := [((x66 ++ List.replicate (64 - x66.length) 0).take 64)]
            bif Nat.ble (x10.2.1.length + x68.length) 4294967296 then
              some (.next (((x10.1.take ((x10.1.length : Int).toNat)).drop x15.toNat), (x10.2.1 ++ x68), (IntKind.i64.wrap (x10.2.2 + (1 : Int)))))
            else none
          else none
        else none
      else none
    else none
  else some (.fin x10.2.1)
noncomputable def F_journal_Frame (m : Fu) (p : Int × Int × Int × Int × (List Int)) : Option ((List (List Int)) × Int) :=
  let a0 := p.1
  let a1 := p.2.1
  let a2 := p.2.2.1
  let a3 := p.2.2.2.1
  let a4 := p.2.2.2.2
  bif a0 == (0 : Int) then some (([] : List (List Int)), (2 : Int)) else
  bif a1 == (0 : Int) then some (([] : List (List Int)), (2 : Int)) else
  bif decide ((65536 : Int) < (a4.length : Int)) then some (([] : List (List Int)), (3 : Int)) else
  let x9 := mxI (1 : Int) (IntKind.i64.wrap ((IntKind.i64.wrap ((IntKind.i64.wrap ((a4.length : Int) + (43 : Int))) - (1 : Int))).tdiv (43 : Int)))
  bif (decide ((0 : Int) ≤ x9)) && (decide (x9 ≤ (4294967296 : Int))) then
    (iter m (F_journal_Frame.l506 m a0 a1 a2 a3 x9) (a4, ([] : List (List Int)), (0 : Int))).bind fun x71 =>
    some (x71, (0 : Int))
  else none
def F_journal_Frame.ann : List (Nat × Ann) := [(506, .loop ⟨[(4, false, [.dat (.sl (.int .u8))]), (13, false, [.own (.pl false) 448 .wr]), (37, false, [.dat (.int .i64)])], [], [], [384], 449⟩ [(.exit 0, ⟨[(13, false, [.own (.pl false) 448 .wr])], [], [], [384], 449⟩)]),
  (1037118, .inl [(3, [(26, .loop ⟨[(0, false, [.own (.int .u8) 914 (.cp 64)]), (9, false, [.dat (.int .i64)])], [], [], [817], 915⟩ [(.exit 0, ⟨[(0, false, [.own (.int .u8) 914 (.cp 64)])], [], [], [817], 915⟩)]), (210, .jnt [(.normal, ⟨[], [], [], [], 931⟩), (.exit 0, ⟨[], [], [], [], 931⟩)])]), (6, [(26, .loop ⟨[(0, false, [.own (.int .u8) 1027 (.cp 64)]), (9, false, [.dat (.int .i64)])], [], [], [914], 1028⟩ [(.exit 0, ⟨[(0, false, [.own (.int .u8) 1027 (.cp 64)])], [], [], [914], 1028⟩)]), (210, .jnt [(.normal, ⟨[], [], [], [], 1044⟩), (.exit 0, ⟨[], [], [], [], 1044⟩)])])]),
  (2074234, .loop ⟨[(16, false, [.own (.int .u8) 817 (.cp 64)]), (56, false, [.dat (.int .i64)])], [], [], [673], 818⟩ [(.exit 2, ⟨[(16, false, [.own (.int .u8) 817 (.cp 64)])], [], [], [673], 818⟩)]),
  (132751001, .inl [(2, [(26, .loop ⟨[(0, false, [.own (.int .u8) 962 (.cp 64)]), (9, false, [.dat (.int .i64)])], [], [], [817], 963⟩ [(.exit 0, ⟨[(0, false, [.own (.int .u8) 962 (.cp 64)])], [], [], [817], 963⟩)]), (210, .jnt [(.normal, ⟨[], [], [], [], 979⟩), (.exit 0, ⟨[], [], [], [], 979⟩)])])])]
def F_journal_Frame.sig : Sig := ⟨[.val false [.int .u32], .val false [.int .u32], .val false [.int .u32], .val false [.int .u32], .val false [.sl (.int .u8)]], [(false, [.own (.pl false) 0 .wr]), (false, [.dat (.int .i64)])]⟩
noncomputable def F_journal_Frame.S : Summ := ⟨12, F_journal_Frame.sig, F_journal_Frame⟩
noncomputable def F_journal_Frame.G : List Summ := [markS]
theorem F_journal_Frame.eq : absF Try.prog F_journal_Frame.G F_journal_Frame.ann F_journal_Frame.sig Try.f12 = F_journal_Frame := by kernel_rfl
theorem F_journal_Frame.sound : Sound Try.prog F_journal_Frame.S := absF_sound (fn := Try.f12) (Γ := F_journal_Frame.G) (all_cons mark_sound all_nil) mix (by kernel_rfl) (by kernel_rfl) (fun m p => congrFun (congrFun F_journal_Frame.eq m) p)
/-! ### cloakroom/cloakroomref22.four -/
noncomputable def F_ref22_four (_ : Fu) (p : Int) : Option (List Int) :=
  let a0 := p
  some ([(IntKind.u8.wrap (a0.tmod (256 : Int))), (IntKind.u8.wrap ((IntKind.u32.wrap (a0.tdiv (256 : Int))).tmod (256 : Int))), (IntKind.u8.wrap ((IntKind.u32.wrap (a0.tdiv (65536 : Int))).tmod (256 : Int))), (IntKind.u8.wrap (IntKind.u32.wrap (a0.tdiv (16777216 : Int))))])
def F_ref22_four.ann : List (Nat × Ann) := []
def F_ref22_four.sig : Sig := ⟨[.val false [.int .u32]], [(false, [.own (.int .u8) 0 .wr])]⟩
noncomputable def F_ref22_four.S : Summ := ⟨32, F_ref22_four.sig, F_ref22_four⟩
noncomputable def F_ref22_four.G : List Summ := []
theorem F_ref22_four.eq : absF Try.prog F_ref22_four.G F_ref22_four.ann F_ref22_four.sig Try.f32 = F_ref22_four := by kernel_rfl
theorem F_ref22_four.sound : Sound Try.prog F_ref22_four.S := absF_sound (fn := Try.f32) (Γ := F_ref22_four.G) all_nil mix (by kernel_rfl) (by kernel_rfl) (fun m p => congrFun (congrFun F_ref22_four.eq m) p)
/-! ### cloakroom/cloakroomref22.Frame -/
noncomputable def F_ref22_Frame.l8295420 (_ : Fu) (x40 : List Int) : Option (Step (List Int) ((List Int))) :=
  bif decide ((x40.length : Int) < (64 : Int)) then
    bif Nat.ble (x40.length + 1) 140737488351232 then
      some (.next (x40 ++ ([0] : List Int)))
    else none
  else some (.fin x40)
noncomputable def F_ref22_Frame.l506 (m : Fu) (a0 : Int) (a1 : Int) (a2 : Int) (a3 : Int) (a4 : List Int) (x9 : Int) (x10 : (List (List Int)) × Int) : Option (Step ((List (List Int)) × Int) ((List (List Int)))) :=
  bif decide (x10.2 < x9) then
    let x14 := mnI (a4.length : Int) (IntKind.i64.wrap (x10.2 * (43 : Int)))
    let x18 := mnI (a4.length : Int) (IntKind.i64.wrap ((IntKind.i64.wrap (x10.2 * (43 : Int))) + (43 : Int)))
    bif (((decide ((0 : Int) ≤ x14)) && (decide (x14 ≤ x18))) && (decide (x18 ≤ (a4.length : Int)))) && (decide ((a4.length : Int) ≤ (a4.length : Int))) then
      let x19 := (a4.take x18.toNat).drop x14.toNat
      (F_ref22_four m a0).bind fun x20 =>
      bif Nat.ble x20.length 140737488351232 then
        (F_ref22_four m a1).bind fun x21 =>
        bif Nat.ble (x20.length + x21.length) 140737488351232 then
          let x22 := x20 ++ x21
          (F_ref22_four m a2).bind fun x23 =>
          bif Nat.ble (x22.length + x23.length) 140737488351232 then
            let x24 := x22 ++ x23
            (F_ref22_four m a3).bind fun x25 =>
            bif Nat.ble (x24.length + x25.length) 140737488351232 then
              let x26 := x24 ++ x25
              let x37 := [(IntKind.u8.wrap (x10.2.tmod (256 : Int))), (IntKind.u8.wrap (IntKind.i64.wrap (x10.2.tdiv (256 : Int)))), (IntKind.u8.wrap (x9.tmod (256 : Int))), (IntKind.u8.wrap (IntKind.i64.wrap (x9.tdiv (256 : Int)))), (IntKind.u8.wrap (x19.length : Int))]
              bif Nat.ble (x26.length + x37.length) 140737488351232 then
                let x38 := x26 ++ x37
                bif Nat.ble (x38.length + x19.length) 140737488351232 then
                  (iter m (F_ref22_Frame.l8295420 m) (x38 ++ x19)).bind fun x44 =>
                  let x45 := [x44]
                  bif Nat.ble (x10.1.length + x45.length) 4294967296 then
                    some (.next ((x10.1 ++ x45), (IntKind.i64.wrap (x10.2 + (1 : Int)))))
                  else none
                else none
              else none
            else none
          else none
        else none
      else none
    else none
  else some (.fin x10.1)
noncomputable def F_ref22_Frame (m : Fu) (p : Int × Int × Int × Int × (List Int)) : Option ((List (List Int)) × Int) :=
  let a0 := p.1
  let a1 := p.2.1
  let a2 := p.2.2.1
  let a3 := p.2.2.2.1
  let a4 := p.2.2.2.2
  bif a0 == (0 : Int) then some (([] : List (List Int)), (2 : Int)) else
  bif a1 == (0 : Int) then some (([] : List (List Int)), (2 : Int)) else
  bif decide ((65536 : Int) < (a4.length : Int)) then some (([] : List (List Int)), (3 : Int)) else
  (iter m (F_ref22_Frame.l506 m a0 a1 a2 a3 a4 (mxI (1 : Int) (IntKind.i64.wrap ((IntKind.i64.wrap ((IntKind.i64.wrap ((a4.length : Int) + (43 : Int))) - (1 : Int))).tdiv (43 : Int))))) (([] : List (List Int)), (0 : Int))).bind fun x48 =>
  some (x48, (0 : Int))
def F_ref22_Frame.ann : List (Nat × Ann) := [(506, .loop ⟨[(13, false, [.own (.sl (.int .u8)) 400 .wr]), (14, false, [.dat (.int .i64)])], [], [], [], 401⟩ [(.exit 0, ⟨[(13, false, [.own (.sl (.int .u8)) 400 .wr])], [], [], [], 401⟩)]),
  (8295420, .loop ⟨[(16, false, [.own (.int .u8) 1377 .wr])], [], [], [1345], 1378⟩ [(.exit 2, ⟨[(16, false, [.own (.int .u8) 1377 .wr])], [], [], [1345], 1378⟩)])]
def F_ref22_Frame.sig : Sig := ⟨[.val false [.int .u32], .val false [.int .u32], .val false [.int .u32], .val false [.int .u32], .val false [.sl (.int .u8)]], [(false, [.own (.sl (.int .u8)) 0 .wr]), (false, [.dat (.int .i64)])]⟩
noncomputable def F_ref22_Frame.S : Summ := ⟨13, F_ref22_Frame.sig, F_ref22_Frame⟩
noncomputable def F_ref22_Frame.G : List Summ := [F_ref22_four.S]
theorem F_ref22_Frame.eq : absF Try.prog F_ref22_Frame.G F_ref22_Frame.ann F_ref22_Frame.sig Try.f13 = F_ref22_Frame := by kernel_rfl
theorem F_ref22_Frame.sound : Sound Try.prog F_ref22_Frame.S := absF_sound (fn := Try.f13) (Γ := F_ref22_Frame.G) (all_cons F_ref22_four.sound all_nil) mix (by kernel_rfl) (by kernel_rfl) (fun m p => congrFun (congrFun F_ref22_Frame.eq m) p)
/-! ### cloakroom/journal.get -/
noncomputable def F_journal_get.l26 (_ : Fu) (a0 : List Int) (x1 : Int) (x2 : Int × Int) : Option (Step (Int × Int) Int) :=
  bif decide (x2.2 < x1) then
    bif (decide ((0 : Int) ≤ x2.2)) && (decide (x2.2 < (a0.length : Int))) then
      let x6 := IntKind.i64.wrap ((8 : Int) * x2.2)
      bif decide (x6 < (0 : Int)) then
        none
      else some (.next ((bitsOp .or .u32 x2.1 (shlOp .u32 (IntKind.u32.wrap (a0.getD x2.2.toNat 0)) x6)), (IntKind.i64.wrap (x2.2 + (1 : Int)))))
    else none
  else some (.fin x2.1)
noncomputable def F_journal_get (m : Fu) (p : List Int) : Option (Int) :=
  let a0 := p
  (iter m (F_journal_get.l26 m a0 (a0.length : Int)) ((0 : Int), (0 : Int))).bind fun x10 =>
  some x10
def F_journal_get.ann : List (Nat × Ann) := [(26, .loop ⟨[(2, false, [.dat (.int .u32)]), (7, false, [.dat (.int .i64)])], [], [], [], 80⟩ [(.exit 0, ⟨[(2, false, [.dat (.int .u32)])], [], [], [], 80⟩)])]
def F_journal_get.sig : Sig := ⟨[.val false [.sl (.int .u8)]], [(false, [.dat (.int .u32)])]⟩
noncomputable def F_journal_get.S : Summ := ⟨36, F_journal_get.sig, F_journal_get⟩
noncomputable def F_journal_get.G : List Summ := []
theorem F_journal_get.eq : absF Try.prog F_journal_get.G F_journal_get.ann F_journal_get.sig Try.f36 = F_journal_get := by kernel_rfl
theorem F_journal_get.sound : Sound Try.prog F_journal_get.S := absF_sound (fn := Try.f36) (Γ := F_journal_get.G) all_nil mix (by kernel_rfl) (by kernel_rfl) (fun m p => congrFun (congrFun F_journal_get.eq m) p)
/-! ### bytes.Equal -/
noncomputable def F_bytes_Equal (_ : Fu) (p : (List Int) × (List Int)) : Option (Bool) :=
  let a0 := p.1
  let a1 := p.2
  some (a0 == a1)
def F_bytes_Equal.ann : List (Nat × Ann) := []
def F_bytes_Equal.sig : Sig := ⟨[.val false [.sl (.int .u8)], .val false [.sl (.int .u8)]], [(false, [.dat .bool])]⟩
noncomputable def F_bytes_Equal.S : Summ := ⟨44, F_bytes_Equal.sig, F_bytes_Equal⟩
noncomputable def F_bytes_Equal.G : List Summ := []
theorem F_bytes_Equal.eq : absF Try.prog F_bytes_Equal.G F_bytes_Equal.ann F_bytes_Equal.sig Try.f44 = F_bytes_Equal := by kernel_rfl
theorem F_bytes_Equal.sound : Sound Try.prog F_bytes_Equal.S := absF_sound (fn := Try.f44) (Γ := F_bytes_Equal.G) all_nil mix (by kernel_rfl) (by kernel_rfl) (fun m p => congrFun (congrFun F_bytes_Equal.eq m) p)
/-! ### cloakroom/journal.open -/
noncomputable def F_journal_open.l250 (_ : Fu) (x13 : List (List Int)) (x14 : Int) (x15 : (List Int) × Int × Int × Int) : Option (Step ((List Int) × Int × Int × Int) ((Int × Int × Bool) ⊕ ((List Int) × Int × Int))) :=
  bif decide (x15.2.2.2 < x14) then
    bif (decide ((0 : Int) ≤ x15.2.2.2)) && (decide (x15.2.2.2 < (x13.length : Int))) then
      let x17 := x13.getD x15.2.2.2.toNat []
      bif decide ((20 : Int) < (x17.length : Int)) then
        let x19 := IntKind.i64.wrap (x17.getD 20 0)
        bif decide ((43 : Int) < x19) then some (.fin (Sum.inl ((0 : Int), (0 : Int), false))) else
        bif ((decide ((21 : Int) ≤ (x17.length : Int))) && (decide ((x17.length : Int) ≤ (x17.length : Int)))) && (decide ((x17.length : Int) ≤ (x17.length : Int))) then
          let x21 := (x17.take ((x17.length : Int).toNat)).drop 21
          bif ((decide ((0 : Int) ≤ x19)) && (decide (x19 ≤ (x21.length : Int)))) && (decide ((x21.length : Int) ≤ (x21.length : Int))) then
            let x22 := (x21.take x19.toNat).drop 0
            bif Nat.ble (x15.1.length + x22.length) 140737488351232 then
              some (.next ((x15.1 ++ x22), x15.2.1, x15.2.2.1, (IntKind.i64.wrap (x15.2.2.2 + (1 : Int)))))
            else none
          else none
        else none
      else none
    else none
  else some (.fin (Sum.inr (x15.1, x15.2.1, x15.2.2.1)))
noncomputable def F_journal_open.l2042 (m : Fu) (a3 : List (List Int)) (x28 : (List (List Int)) × Int) (x32 : Int) (x33 : (List Int) × Int × Int × Int) : Option (Step ((List Int) × Int × Int × Int) ((Int × Int × Bool) ⊕ ((List Int) × Int × Int))) :=
  bif decide (x33.2.2.2 < x32) then
    bif (decide ((0 : Int) ≤ x33.2.2.2)) && (decide (x33.2.2.2 < (x28.1.length : Int))) then
      bif Nat.blt x33.2.2.2.toNat x28.1.length then
        bif (decide ((0 : Int) ≤ x33.2.2.2)) && (decide (x33.2.2.2 < (a3.length : Int))) then
          (F_bytes_Equal m ((x28.1.getD x33.2.2.2.toNat []), (a3.getD x33.2.2.2.toNat []))).bind fun x37 =>
          bif !x37 then
            some (.fin (Sum.inl ((0 : Int), (0 : Int), false)))
          else some (.next (x33.1, x33.2.1, x33.2.2.1, (IntKind.i64.wrap (x33.2.2.2 + (1 : Int)))))
        else none
      else none
    else none
  else some (.fin (Sum.inr (x33.1, x33.2.1, x33.2.2.1)))
noncomputable def F_journal_open (m : Fu) (p : Int × Int × Int × (List (List Int))) : Option ((List Int) × Int × Int × Bool) :=
  let a0 := p.1
  let a1 := p.2.1
  let a2 := p.2.2.1
  let a3 := p.2.2.2
  bif (a3.length : Int) == (0 : Int) then some (([] : List Int), (0 : Int), (0 : Int), false) else
  bif decide ((0 : Int) < (a3.length : Int)) then
    let x3 := a3.getD 0 []
    bif (decide ((12 : Int) ≤ (x3.length : Int))) && (decide ((x3.length : Int) ≤ (x3.length : Int))) then
      (F_journal_get m ((x3.take 12).drop 8)).bind fun x5 =>
      bif decide ((0 : Int) < (a3.length : Int)) then
        let x6 := a3.getD 0 []
        bif (decide ((20 : Int) ≤ (x6.length : Int))) && (decide ((x6.length : Int) ≤ (x6.length : Int))) then
          (F_journal_get m ((x6.take 20).drop 18)).bind fun x8 =>
          let x9 := IntKind.i64.wrap x8
          bif decide (x9 < (1 : Int)) then some (([] : List Int), (0 : Int), (0 : Int), false) else
          bif decide ((a3.length : Int) < x9) then some (([] : List Int), (0 : Int), (0 : Int), false) else
          bif ((decide ((0 : Int) ≤ x9)) && (decide (x9 ≤ (a3.length : Int)))) && (decide ((a3.length : Int) ≤ (a3.length : Int))) then
            let x13 := (a3.take x9.toNat).drop 0
            (iter m (F_journal_open.l250 m x13 (x13.length : Int)) (([] : List Int), x5, x9, (0 : Int))).bind fun x25 =>
            match x25 with
            | .inl x26 =>
              some (([] : List Int), x26)
            | .inr x27 =>
              (F_journal_Frame m (a0, a1, x27.2.1, a2, x27.1)).bind fun x28 =>
              bif x28.2 != (0 : Int) then some (([] : List Int), (0 : Int), (0 : Int), false) else
              bif (x28.1.length : Int) != x27.2.2 then some (([] : List Int), (0 : Int), (0 : Int), false) else
              (iter m (F_journal_open.l2042 m a3 x28 (x28.1.length : Int)) (x27.1, x27.2.1, x27.2.2, (0 : Int))).bind fun x40 =>
              match x40 with
              | .inl x41 =>
                some (([] : List Int), x41)
              | .inr x42 =>
                some (x42.1, x42.2.1, x42.2.2, true)
          else none
        else none
      else none
    else none
  else none
def F_journal_open.ann : List (Nat × Ann) := [(250, .loop ⟨[(8, false, [.own (.int .u8) 592 .wr]), (9, false, [.dat (.int .u32)]), (10, false, [.dat (.int .i64)]), (44, false, [.dat (.int .i64)])], [], [], [], 593⟩ [(.ret, ⟨[(8, false, [.cst .nils]), (9, false, [.dat (.int .u32)]), (10, false, [.dat (.int .i64)]), (11, false, [.dat .bool])], [], [], [], 592⟩), (.exit 0, ⟨[(8, false, [.own (.int .u8) 592 .wr]), (9, false, [.dat (.int .u32)]), (10, false, [.dat (.int .i64)])], [], [], [], 593⟩)]),
  (2042, .loop ⟨[(8, false, [.own (.int .u8) 945 .wr]), (9, false, [.dat (.int .u32)]), (10, false, [.dat (.int .i64)]), (80, false, [.dat (.int .i64)])], [], [], [592], 946⟩ [(.ret, ⟨[(8, false, [.cst .nils]), (9, false, [.dat (.int .u32)]), (10, false, [.dat (.int .i64)]), (11, false, [.dat .bool])], [], [], [592], 945⟩), (.exit 2, ⟨[(8, false, [.own (.int .u8) 945 .wr]), (9, false, [.dat (.int .u32)]), (10, false, [.dat (.int .i64)])], [], [], [592], 946⟩)])]
def F_journal_open.sig : Sig := ⟨[.val false [.int .u32], .val false [.int .u32], .val false [.int .u32], .val false [.sl (.sl (.int .u8))]], [(false, [.own (.int .u8) 0 .wr]), (false, [.dat (.int .u32)]), (false, [.dat (.int .i64)]), (false, [.dat .bool])]⟩
noncomputable def F_journal_open.S : Summ := ⟨33, F_journal_open.sig, F_journal_open⟩
noncomputable def F_journal_open.G : List Summ := [F_journal_get.S, F_journal_Frame.S, F_bytes_Equal.S]
theorem F_journal_open.eq : absF Try.prog F_journal_open.G F_journal_open.ann F_journal_open.sig Try.f33 = F_journal_open := by kernel_rfl
theorem F_journal_open.sound : Sound Try.prog F_journal_open.S := absF_sound (fn := Try.f33) (Γ := F_journal_open.G) (all_cons F_journal_get.sound (all_cons F_journal_Frame.sound (all_cons F_bytes_Equal.sound all_nil))) mix (by kernel_rfl) (by kernel_rfl) (fun m p => congrFun (congrFun F_journal_open.eq m) p)
/-! ### cloakroom/journal.Open -/
noncomputable def F_journal_Open.l58 (_ : Fu) (a3 : List (List Int)) (x3 : Int) (x4 : Int) : Option (Step Int ((Int × Int × Int) ⊕ Unit)) :=
  bif decide (x4 < x3) then
    bif (decide ((0 : Int) ≤ x4)) && (decide (x4 < (a3.length : Int))) then
      bif ((a3.getD x4.toNat []).length : Int) != (64 : Int) then
        some (.fin (Sum.inl ((0 : Int), (0 : Int), (3 : Int))))
      else some (.next (IntKind.i64.wrap (x4 + (1 : Int))))
    else none
  else some (.fin (Sum.inr ()))
noncomputable def F_journal_Open (m : Fu) (p : Int × Int × Int × (List (List Int))) : Option ((List Int) × Int × Int × Int) :=
  let a0 := p.1
  let a1 := p.2.1
  let a2 := p.2.2.1
  let a3 := p.2.2.2
  bif decide ((4096 : Int) < (a3.length : Int)) then some (([] : List Int), (0 : Int), (0 : Int), (4 : Int)) else
  (iter m (F_journal_Open.l58 m a3 (a3.length : Int)) (0 : Int)).bind fun x10 =>
  match x10 with
  | .inl x11 =>
    some (([] : List Int), x11)
  | .inr _ =>
    (F_journal_open m (a0, a1, a2, a3)).bind fun x13 =>
    bif !x13.2.2.2 then
      some (([] : List Int), (0 : Int), (0 : Int), (6 : Int))
    else some (x13.1, x13.2.1, x13.2.2.1, (0 : Int))
def F_journal_Open.ann : List (Nat × Ann) := [(58, .loop ⟨[(20, false, [.dat (.int .i64)])], [], [], [], 224⟩ [(.ret, ⟨[(8, false, [.cst .nils]), (9, false, [.dat (.int .u32)]), (10, false, [.dat (.int .i64)]), (11, false, [.dat (.int .i64)])], [], [], [], 224⟩), (.exit 0, ⟨[], [], [], [], 224⟩)])]
def F_journal_Open.sig : Sig := ⟨[.val false [.int .u32], .val false [.int .u32], .val false [.int .u32], .val false [.sl (.sl (.int .u8))]], [(false, [.own (.int .u8) 0 .wr]), (false, [.dat (.int .u32)]), (false, [.dat (.int .i64)]), (false, [.dat (.int .i64)])]⟩
noncomputable def F_journal_Open.S : Summ := ⟨14, F_journal_Open.sig, F_journal_Open⟩
noncomputable def F_journal_Open.G : List Summ := [F_journal_open.S]
theorem F_journal_Open.eq : absF Try.prog F_journal_Open.G F_journal_Open.ann F_journal_Open.sig Try.f14 = F_journal_Open := by kernel_rfl
theorem F_journal_Open.sound : Sound Try.prog F_journal_Open.S := absF_sound (fn := Try.f14) (Γ := F_journal_Open.G) (all_cons F_journal_open.sound all_nil) mix (by kernel_rfl) (by kernel_rfl) (fun m p => congrFun (congrFun F_journal_Open.eq m) p)
/-! ### cloakroom/cloakroomref22.number -/
noncomputable def F_ref22_number (_ : Fu) (p : List Int) : Option (Int) :=
  let a0 := p
  bif decide ((0 : Int) < (a0.length : Int)) then
    bif decide ((1 : Int) < (a0.length : Int)) then
      bif decide ((2 : Int) < (a0.length : Int)) then
        bif decide ((3 : Int) < (a0.length : Int)) then
          some (IntKind.u32.wrap ((IntKind.u32.wrap ((IntKind.u32.wrap ((IntKind.u32.wrap (a0.getD 0 0)) + (IntKind.u32.wrap ((IntKind.u32.wrap (a0.getD 1 0)) * (256 : Int))))) + (IntKind.u32.wrap ((IntKind.u32.wrap (a0.getD 2 0)) * (65536 : Int))))) + (IntKind.u32.wrap ((IntKind.u32.wrap (a0.getD 3 0)) * (16777216 : Int)))))
        else none
      else none
    else none
  else none
def F_ref22_number.ann : List (Nat × Ann) := []
def F_ref22_number.sig : Sig := ⟨[.val false [.sl (.int .u8)]], [(false, [.dat (.int .u32)])]⟩
noncomputable def F_ref22_number.S : Summ := ⟨39, F_ref22_number.sig, F_ref22_number⟩
noncomputable def F_ref22_number.G : List Summ := []
theorem F_ref22_number.eq : absF Try.prog F_ref22_number.G F_ref22_number.ann F_ref22_number.sig Try.f39 = F_ref22_number := by kernel_rfl
theorem F_ref22_number.sound : Sound Try.prog F_ref22_number.S := absF_sound (fn := Try.f39) (Γ := F_ref22_number.G) all_nil mix (by kernel_rfl) (by kernel_rfl) (fun m p => congrFun (congrFun F_ref22_number.eq m) p)
/-! ### cloakroom/cloakroomref22.open -/
noncomputable def F_ref22_open.l1018 (_ : Fu) (a3 : List (List Int)) (x15 : Int) (x19 : (List Int) × Int) : Option (Step ((List Int) × Int) ((Int × Int × Int) ⊕ (List Int))) :=
  bif decide (x19.2 < x15) then
    bif (decide ((0 : Int) ≤ x19.2)) && (decide (x19.2 < (a3.length : Int))) then
      let x21 := a3.getD x19.2.toNat []
      bif decide ((20 : Int) < (x21.length : Int)) then
        let x23 := IntKind.i64.wrap (x21.getD 20 0)
        bif decide ((43 : Int) < x23) then some (.fin (Sum.inl ((0 : Int), (0 : Int), (6 : Int)))) else
        bif (decide ((0 : Int) ≤ x19.2)) && (decide (x19.2 < (a3.length : Int))) then
          let x25 := a3.getD x19.2.toNat []
          let x26 := IntKind.i64.wrap ((21 : Int) + x23)
          bif ((decide ((21 : Int) ≤ x26)) && (decide (x26 ≤ (x25.length : Int)))) && (decide ((x25.length : Int) ≤ (x25.length : Int))) then
            let x27 := (x25.take x26.toNat).drop 21
            bif Nat.ble (x19.1.length + x27.length) 140737488351232 then
              some (.next ((x19.1 ++ x27), (IntKind.i64.wrap (x19.2 + (1 : Int)))))
            else none
          else none
        else none
      else none
    else none
  else some (.fin (Sum.inr x19.1))
noncomputable def F_ref22_open.l8186 (_ : Fu) (a3 : List (List Int)) (x15 : Int) (x33 : (List (List Int)) × Int) (x37 : Int) : Option (Step Int ((Int × Int × Int) ⊕ Unit)) :=
  bif decide (x37 < x15) then
    bif (decide ((0 : Int) ≤ x37)) && (decide (x37 < (x33.1.length : Int))) then
      bif Nat.blt x37.toNat x33.1.length then
        bif (decide ((0 : Int) ≤ x37)) && (decide (x37 < (a3.length : Int))) then
          bif !((x33.1.getD x37.toNat []) == (a3.getD x37.toNat [])) then
            some (.fin (Sum.inl ((0 : Int), (0 : Int), (6 : Int))))
          else some (.next (IntKind.i64.wrap (x37 + (1 : Int))))
        else none
      else none
    else none
  else some (.fin (Sum.inr ()))
noncomputable def F_ref22_open (m : Fu) (p : Int × Int × Int × (List (List Int))) : Option ((List Int) × Int × Int × Int) :=
  let a0 := p.1
  let a1 := p.2.1
  let a2 := p.2.2.1
  let a3 := p.2.2.2
  bif (a3.length : Int) == (0 : Int) then some (([] : List Int), (0 : Int), (0 : Int), (6 : Int)) else
  bif a0 == (0 : Int) then some (([] : List Int), (0 : Int), (0 : Int), (6 : Int)) else
  bif a1 == (0 : Int) then some (([] : List Int), (0 : Int), (0 : Int), (6 : Int)) else
  bif decide ((0 : Int) < (a3.length : Int)) then
    let x5 := a3.getD 0 []
    bif (decide ((12 : Int) ≤ (x5.length : Int))) && (decide ((x5.length : Int) ≤ (x5.length : Int))) then
      (F_ref22_number m ((x5.take 12).drop 8)).bind fun x7 =>
      bif decide ((0 : Int) < (a3.length : Int)) then
        let x8 := a3.getD 0 []
        bif decide ((18 : Int) < (x8.length : Int)) then
          bif decide ((0 : Int) < (a3.length : Int)) then
            let x11 := a3.getD 0 []
            bif decide ((19 : Int) < (x11.length : Int)) then
              let x15 := IntKind.i64.wrap ((IntKind.i64.wrap (x8.getD 18 0)) + (IntKind.i64.wrap ((IntKind.i64.wrap (x11.getD 19 0)) * (256 : Int))))
              bif decide (x15 < (1 : Int)) then some (([] : List Int), (0 : Int), (0 : Int), (6 : Int)) else
              bif decide ((a3.length : Int) < x15) then some (([] : List Int), (0 : Int), (0 : Int), (6 : Int)) else
              (iter m (F_ref22_open.l1018 m a3 x15) (([] : List Int), (0 : Int))).bind fun x30 =>
              match x30 with
              | .inl x31 =>
                some (([] : List Int), x31)
              | .inr x32 =>
                (F_ref22_Frame m (a0, a1, x7, a2, x32)).bind fun x33 =>
                bif x33.2 != (0 : Int) then some (([] : List Int), (0 : Int), (0 : Int), (6 : Int)) else
                bif (x33.1.length : Int) != x15 then some (([] : List Int), (0 : Int), (0 : Int), (6 : Int)) else
                (iter m (F_ref22_open.l8186 m a3 x15 x33) (0 : Int)).bind fun x43 =>
                match x43 with
                | .inl x44 =>
                  some (([] : List Int), x44)
                | .inr _ =>
                  some (x32, x7, x15, (0 : Int))
            else none
          else none
        else none
      else none
    else none
  else none
def F_ref22_open.ann : List (Nat × Ann) := [(1018, .loop ⟨[(14, false, [.own (.int .u8) 800 .wr]), (15, false, [.dat (.int .i64)])], [], [], [], 801⟩ [(.ret, ⟨[(8, false, [.cst .nils]), (9, false, [.dat (.int .u32)]), (10, false, [.dat (.int .i64)]), (11, false, [.dat (.int .i64)])], [], [], [], 800⟩), (.exit 0, ⟨[(14, false, [.own (.int .u8) 800 .wr])], [], [], [], 801⟩)]),
  (8186, .loop ⟨[(19, false, [.dat (.int .i64)])], [], [], [], 1121⟩ [(.ret, ⟨[(8, false, [.cst .nils]), (9, false, [.dat (.int .u32)]), (10, false, [.dat (.int .i64)]), (11, false, [.dat (.int .i64)])], [], [], [], 1121⟩), (.exit 2, ⟨[], [], [], [], 1121⟩)])]
def F_ref22_open.sig : Sig := ⟨[.val false [.int .u32], .val false [.int .u32], .val false [.int .u32], .val false [.sl (.sl (.int .u8))]], [(false, [.own (.int .u8) 0 .fr]), (false, [.dat (.int .u32)]), (false, [.dat (.int .i64)]), (false, [.dat (.int .i64)])]⟩
noncomputable def F_ref22_open.S : Summ := ⟨34, F_ref22_open.sig, F_ref22_open⟩
noncomputable def F_ref22_open.G : List Summ := [F_ref22_number.S, F_ref22_Frame.S]
theorem F_ref22_open.eq : absF Try.prog F_ref22_open.G F_ref22_open.ann F_ref22_open.sig Try.f34 = F_ref22_open := by kernel_rfl
theorem F_ref22_open.sound : Sound Try.prog F_ref22_open.S := absF_sound (fn := Try.f34) (Γ := F_ref22_open.G) (all_cons F_ref22_number.sound (all_cons F_ref22_Frame.sound all_nil)) mix (by kernel_rfl) (by kernel_rfl) (fun m p => congrFun (congrFun F_ref22_open.eq m) p)
/-! ### cloakroom/cloakroomref22.Open -/
noncomputable def F_ref22_Open.l58 (_ : Fu) (a3 : List (List Int)) (x3 : Int) : Option (Step Int ((Int × Int × Int) ⊕ Unit)) :=
  bif decide (x3 < (a3.length : Int)) then
    bif (decide ((0 : Int) ≤ x3)) && (decide (x3 < (a3.length : Int))) then
      bif ((a3.getD x3.toNat []).length : Int) != (64 : Int) then
        some (.fin (Sum.inl ((0 : Int), (0 : Int), (3 : Int))))
      else some (.next (IntKind.i64.wrap (x3 + (1 : Int))))
    else none
  else some (.fin (Sum.inr ()))
noncomputable def F_ref22_Open (m : Fu) (p : Int × Int × Int × (List (List Int))) : Option ((List Int) × Int × Int × Int) :=
  let a0 := p.1
  let a1 := p.2.1
  let a2 := p.2.2.1
  let a3 := p.2.2.2
  bif decide ((4096 : Int) < (a3.length : Int)) then some (([] : List Int), (0 : Int), (0 : Int), (4 : Int)) else
  (iter m (F_ref22_Open.l58 m a3) (0 : Int)).bind fun x10 =>
  match x10 with
  | .inl x11 =>
    some (([] : List Int), x11)
  | .inr _ =>
    (F_ref22_open m (a0, a1, a2, a3)).bind fun x13 =>
    some x13
def F_ref22_Open.ann : List (Nat × Ann) := [(58, .loop ⟨[(12, false, [.dat (.int .i64)])], [], [], [], 192⟩ [(.ret, ⟨[(8, false, [.cst .nils]), (9, false, [.dat (.int .u32)]), (10, false, [.dat (.int .i64)]), (11, false, [.dat (.int .i64)])], [], [], [], 192⟩), (.exit 0, ⟨[], [], [], [], 192⟩)])]
def F_ref22_Open.sig : Sig := ⟨[.val false [.int .u32], .val false [.int .u32], .val false [.int .u32], .val false [.sl (.sl (.int .u8))]], [(false, [.own (.int .u8) 0 .fr]), (false, [.dat (.int .u32)]), (false, [.dat (.int .i64)]), (false, [.dat (.int .i64)])]⟩
noncomputable def F_ref22_Open.S : Summ := ⟨15, F_ref22_Open.sig, F_ref22_Open⟩
noncomputable def F_ref22_Open.G : List Summ := [F_ref22_open.S]
theorem F_ref22_Open.eq : absF Try.prog F_ref22_Open.G F_ref22_Open.ann F_ref22_Open.sig Try.f15 = F_ref22_Open := by kernel_rfl
theorem F_ref22_Open.sound : Sound Try.prog F_ref22_Open.S := absF_sound (fn := Try.f15) (Γ := F_ref22_Open.G) (all_cons F_ref22_open.sound all_nil) mix (by kernel_rfl) (by kernel_rfl) (fun m p => congrFun (congrFun F_ref22_Open.eq m) p)
/-! ### cloakroom/cloakroomref22.Same -/
noncomputable def F_ref22_Same.l58 (_ : Fu) (a0 : List (List Int)) (a1 : List (List Int)) (x4 : Int) : Option (Step Int (Bool ⊕ Unit)) :=
  bif decide (x4 < (a0.length : Int)) then
    bif (decide ((0 : Int) ≤ x4)) && (decide (x4 < (a0.length : Int))) then
      bif (decide ((0 : Int) ≤ x4)) && (decide (x4 < (a1.length : Int))) then
        bif !((a0.getD x4.toNat []) == (a1.getD x4.toNat [])) then
          some (.fin (Sum.inl false))
        else some (.next (IntKind.i64.wrap (x4 + (1 : Int))))
      else none
    else none
  else some (.fin (Sum.inr ()))
noncomputable def F_ref22_Same (m : Fu) (p : (List (List Int)) × (List (List Int))) : Option (Bool) :=
  let a0 := p.1
  let a1 := p.2
  bif (a0.length : Int) != (a1.length : Int) then some false else
  (iter m (F_ref22_Same.l58 m a0 a1) (0 : Int)).bind fun x11 =>
  match x11 with
  | .inl x12 =>
    some x12
  | .inr _ =>
    some true
def F_ref22_Same.ann : List (Nat × Ann) := [(58, .loop ⟨[(5, false, [.dat (.int .i64)])], [], [], [], 144⟩ [(.ret, ⟨[(4, false, [.dat .bool])], [], [], [], 144⟩), (.exit 0, ⟨[], [], [], [], 144⟩)])]
def F_ref22_Same.sig : Sig := ⟨[.val false [.sl (.sl (.int .u8))], .val false [.sl (.sl (.int .u8))]], [(false, [.dat .bool])]⟩
noncomputable def F_ref22_Same.S : Summ := ⟨16, F_ref22_Same.sig, F_ref22_Same⟩
noncomputable def F_ref22_Same.G : List Summ := []
theorem F_ref22_Same.eq : absF Try.prog F_ref22_Same.G F_ref22_Same.ann F_ref22_Same.sig Try.f16 = F_ref22_Same := by kernel_rfl
theorem F_ref22_Same.sound : Sound Try.prog F_ref22_Same.S := absF_sound (fn := Try.f16) (Γ := F_ref22_Same.G) all_nil mix (by kernel_rfl) (by kernel_rfl) (fun m p => congrFun (congrFun F_ref22_Same.eq m) p)
/-! ### cloakroom/cloakroomlaw22.JournalFrames -/
noncomputable def F_law22_JournalFrames.l523922 (_ : Fu) (x5 : (List (List Int)) × Int) (x16 : Int) (x19 : Int) : Option (Step Int Unit) :=
  bif (decide ((0 : Int) ≤ x16)) && (decide (x16 < (x5.1.length : Int))) then
    bif Nat.blt x16.toNat x5.1.length then
      bif decide (x19 < ((x5.1.getD x16.toNat []).length : Int)) then
        bif (decide ((0 : Int) ≤ x16)) && (decide (x16 < (x5.1.length : Int))) then
          bif Nat.blt x16.toNat x5.1.length then
            bif (decide ((0 : Int) ≤ x16)) && (decide (x16 < (x5.1.length : Int))) then
              bif Nat.blt x16.toNat x5.1.length then
                bif (decide ((0 : Int) ≤ x19)) && (decide (x19 < ((x5.1.getD x16.toNat []).length : Int))) then
                  bif (decide ((0 : Int) ≤ x19)) && (decide (x19 < ((x5.1.getD x16.toNat []).length : Int))) then
                    some (.next (IntKind.i64.wrap (x19 + (1 : Int))))
                  else none
                else none
              else none
            else none
          else none
        else none
      else some (.fin ())
    else none
  else none
noncomputable def F_law22_JournalFrames.l8186 (m : Fu) (x5 : (List (List Int)) × Int) (x16 : Int) : Option (Step Int Unit) :=
  bif decide (x16 < (x5.1.length : Int)) then
    (iter m (F_law22_JournalFrames.l523922 m x5 x16) (0 : Int)).bind fun _ =>
    some (.next (IntKind.i64.wrap (x16 + (1 : Int))))
  else some (.fin ())
noncomputable def F_law22_JournalFrames.l16378 (_ : Fu) (x29 : Int × (List Int)) : Option (Step (Int × (List Int)) Unit) :=
  bif decide (x29.1 < (x29.2.length : Int)) then
    bif (decide ((0 : Int) ≤ x29.1)) && (decide (x29.1 < (x29.2.length : Int))) then
      bif Nat.blt x29.1.toNat x29.2.length then
        bif (decide ((0 : Int) ≤ x29.1)) && (decide (x29.1 < (x29.2.length : Int))) then
          bif Nat.blt x29.1.toNat x29.2.length then
            some (.next ((IntKind.i64.wrap (x29.1 + (1 : Int))), (x29.2.set x29.1.toNat (IntKind.u8.wrap ((x29.2.getD x29.1.toNat 0) + (1 : Int))))))
          else none
        else none
      else none
    else none
  else some (.fin ())
noncomputable def F_law22_JournalFrames (m : Fu) (p : Int × Int × Int × Int × (List Int) × (List (List Int))) : Option (Bool) :=
  let a0 := p.1
  let a1 := p.2.1
  let a2 := p.2.2.1
  let a3 := p.2.2.2.1
  let a4 := p.2.2.2.2.1
  let a5 := p.2.2.2.2.2
  bif decide ((100000 : Int) < (a4.length : Int)) then some true else
  (F_ref22_Heavy m a5).bind fun x3 =>
  bif x3 then some true else
  bif Nat.ble a4.length 140737488351232 then
    (F_ref22_Twin m a5).bind fun x4 =>
    (F_journal_Frame m (a0, a1, a2, a3, a4)).bind fun x5 =>
    (F_ref22_Frame m (a0, a1, a2, a3, a4)).bind fun x6 =>
    (F_journal_Open m (a0, a1, a3, x4)).bind fun x7 =>
    (F_ref22_Open m (a0, a1, a3, a5)).bind fun x8 =>
    (F_ref22_Same m (x5.1, x6.1)).bind fun x9 =>
    bif !x9 then some false else
    bif x5.2 != x6.2 then some false else
    bif !(x7.1 == x8.1) then some false else
    bif x7.2.1 != x8.2.1 then some false else
    bif x7.2.2.1 != x8.2.2.1 then some false else
    bif x7.2.2.2 != x8.2.2.2 then some false else
    (iter m (F_law22_JournalFrames.l8186 m x5) (0 : Int)).bind fun _ =>
    (iter m (F_law22_JournalFrames.l16378 m) ((0 : Int), x7.1)).bind fun _ =>
    bif a4 == a4 then
      (F_ref22_Same m (x4, a5)).bind fun x38 =>
      some x38
    else some false
  else none
def F_law22_JournalFrames.ann : List (Nat × Ann) := [(0, .thaw 9),
  (8186, .loop ⟨[(27, false, [.dat (.int .i64)])], [], [], [], 1632⟩ [(.exit 0, ⟨[], [], [], [], 1632⟩)]),
  (16378, .loop ⟨[(29, false, [.dat (.int .i64)])], [], [(736, .int .u8, .wr)], [], 1648⟩ [(.exit 4, ⟨[], [], [], [736], 1648⟩)]),
  (523922, .loop ⟨[(28, false, [.dat (.int .i64)])], [], [], [], 1712⟩ [(.exit 2, ⟨[], [], [], [], 1712⟩)])]
def F_law22_JournalFrames.sig : Sig := ⟨[.val false [.int .u32], .val false [.int .u32], .val false [.int .u32], .val false [.int .u32], .val false [.sl (.int .u8)], .val false [.sl (.sl (.int .u8))]], [(false, [.dat .bool])]⟩
noncomputable def F_law22_JournalFrames.S : Summ := ⟨3, F_law22_JournalFrames.sig, F_law22_JournalFrames⟩
noncomputable def F_law22_JournalFrames.G : List Summ := [F_ref22_Heavy.S, F_ref22_Twin.S, F_journal_Frame.S, F_ref22_Frame.S, F_journal_Open.S, F_ref22_Open.S, F_ref22_Same.S]
theorem F_law22_JournalFrames.eq : absF Try.prog F_law22_JournalFrames.G F_law22_JournalFrames.ann F_law22_JournalFrames.sig Try.f3 = F_law22_JournalFrames := by kernel_rfl
theorem F_law22_JournalFrames.sound : Sound Try.prog F_law22_JournalFrames.S := absF_sound (fn := Try.f3) (Γ := F_law22_JournalFrames.G) (all_cons F_ref22_Heavy.sound (all_cons F_ref22_Twin.sound (all_cons F_journal_Frame.sound (all_cons F_ref22_Frame.sound (all_cons F_journal_Open.sound (all_cons F_ref22_Open.sound (all_cons F_ref22_Same.sound all_nil))))))) mix (by kernel_rfl) (by kernel_rfl) (fun m p => congrFun (congrFun F_law22_JournalFrames.eq m) p)
end Go.Proofs.Ytdnfmkkaojafhaa
