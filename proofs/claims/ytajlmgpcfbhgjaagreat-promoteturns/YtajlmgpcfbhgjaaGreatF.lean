/- The pure functions that the program's functions compute, and that they compute them. Printed by a program of this session (gen.py). -/
import Derived.Test.YtajlmgpcfbhgjaaGreatProg
import Derived.Test.YtajlmgpcfbhgjaaGreatA3
namespace Go.Proofs.YtajlmgpcfbhgjaaGreat
open Go.Abs
set_option maxRecDepth 100000
theorem mix : Tryz.prog.follows .mixedOrders = true := by kernel_rfl
/-! ### cloakroom/cloakroomref21.Great -/
noncomputable def F_ref21_Great.s232 (_ : Fu) (a2 : List (Int × (List Int) × (List Int) × Int × Int × Int)) (x1 : Int × Int) : Option (Unit ⊕ Unit) :=
  bif decide (x1.2 < (a2.length : Int)) then
    bif decide (x1.2 < (3000 : Int)) then
      some (Sum.inl ())
    else some (Sum.inr ())
  else some (Sum.inr ())
noncomputable def F_ref21_Great.l58 (m : Fu) (a2 : List (Int × (List Int) × (List Int) × Int × Int × Int)) (x1 : Int × Int) : Option (Step (Int × Int) Int) :=
  (F_ref21_Great.s232 m a2 x1).bind fun x5 =>
  match x5 with
  | .inl _ =>
    bif (decide ((0 : Int) ≤ x1.2)) && (decide (x1.2 < (a2.length : Int))) then
      bif (decide ((0 : Int) ≤ x1.2)) && (decide (x1.2 < (a2.length : Int))) then
        some (.next ((IntKind.i64.wrap ((IntKind.i64.wrap (x1.1 + (mnI ((((a2.getD x1.2.toNat (0, ([], ([], (0, (0, 0)))))).2).1).length : Int) (100000 : Int)))) + (mnI (((((a2.getD x1.2.toNat (0, ([], ([], (0, (0, 0)))))).2).2).1).length : Int) (100000 : Int)))), (IntKind.i64.wrap (x1.2 + (1 : Int)))))
      else none
    else none
  | .inr _ =>
    some (.fin x1.1)
noncomputable def F_ref21_Great (m : Fu) (p : Int × (List Int) × (List (Int × (List Int) × (List Int) × Int × Int × Int)) × Int × Int × Bool) : Option (Bool) :=
  let a1 := p.2.1
  let a2 := p.2.2.1
  (iter m (F_ref21_Great.l58 m a2) ((0 : Int), (0 : Int))).bind fun x17 =>
  bif decide ((40 : Int) < (a1.length : Int)) then some true else
  bif decide ((1100 : Int) < (a2.length : Int)) then
    some true
  else some (decide ((400000 : Int) < x17))
def F_ref21_Great.ann : List (Nat × Ann) := [(58, .loop ⟨[(3, false, [.dat (.int .i64)]), (4, false, [.dat (.int .i64)])], [], [], [], 80⟩ [(.exit 0, ⟨[(3, false, [.dat (.int .i64)])], [], [], [], 80⟩)]),
  (232, .jnt [(.normal, ⟨[], [], [], [], 80⟩), (.exit 0, ⟨[], [], [], [], 80⟩)])]
def F_ref21_Great.sig : Sig := ⟨[.val true [.int .i64, .sl (.int .i64), .sl (.pr (.int .i64) (.pr .str (.pr .str (.pr (.int .u32) (.pr (.int .i64) (.int .u64)))))), .int .i64, .int .i64, .bool]], [(false, [.dat .bool])]⟩
noncomputable def F_ref21_Great.S : Summ := ⟨4, F_ref21_Great.sig, F_ref21_Great⟩
noncomputable def F_ref21_Great.G : List Summ := []
theorem F_ref21_Great.eq : absF Tryz.prog F_ref21_Great.G F_ref21_Great.ann F_ref21_Great.sig Tryz.f4 = F_ref21_Great := by kernel_rfl
theorem F_ref21_Great.sound : Sound Tryz.prog F_ref21_Great.S := absF_sound (fn := Tryz.f4) (Γ := F_ref21_Great.G) all_nil mix (by kernel_rfl) (by kernel_rfl) (fun m p => congrFun (congrFun F_ref21_Great.eq m) p)
/-! ### cloakroom/cloakroomref24.Great -/
noncomputable def F_ref24_Great.s232 (_ : Fu) (a3 : List (List Int)) (x1 : Int × Int) : Option (Unit ⊕ Unit) :=
  bif decide (x1.2 < (a3.length : Int)) then
    bif decide (x1.2 < (200 : Int)) then
      some (Sum.inl ())
    else some (Sum.inr ())
  else some (Sum.inr ())
noncomputable def F_ref24_Great.l58 (m : Fu) (a3 : List (List Int)) (x1 : Int × Int) : Option (Step (Int × Int) Int) :=
  (F_ref24_Great.s232 m a3 x1).bind fun x5 =>
  match x5 with
  | .inl _ =>
    bif (decide ((0 : Int) ≤ x1.2)) && (decide (x1.2 < (a3.length : Int))) then
      some (.next ((IntKind.i64.wrap (x1.1 + (mnI ((a3.getD x1.2.toNat []).length : Int) (200000 : Int)))), (IntKind.i64.wrap (x1.2 + (1 : Int)))))
    else none
  | .inr _ =>
    some (.fin x1.1)
noncomputable def F_ref24_Great (m : Fu) (p : Int × Int × Int × (List (List Int))) : Option (Bool) :=
  let a3 := p.2.2.2
  (iter m (F_ref24_Great.l58 m a3) ((0 : Int), (0 : Int))).bind fun x13 =>
  bif decide ((100 : Int) < (a3.length : Int)) then
    some true
  else some (decide ((200000 : Int) < x13))
def F_ref24_Great.ann : List (Nat × Ann) := [(58, .loop ⟨[(3, false, [.dat (.int .i64)]), (4, false, [.dat (.int .i64)])], [], [], [], 80⟩ [(.exit 0, ⟨[(3, false, [.dat (.int .i64)])], [], [], [], 80⟩)]),
  (232, .jnt [(.normal, ⟨[], [], [], [], 80⟩), (.exit 0, ⟨[], [], [], [], 80⟩)])]
def F_ref24_Great.sig : Sig := ⟨[.val true [.int .i64, .int .i64, .int .i64, .sl (.sl (.int .u8))]], [(false, [.dat .bool])]⟩
noncomputable def F_ref24_Great.S : Summ := ⟨5, F_ref24_Great.sig, F_ref24_Great⟩
noncomputable def F_ref24_Great.G : List Summ := []
theorem F_ref24_Great.eq : absF Tryz.prog F_ref24_Great.G F_ref24_Great.ann F_ref24_Great.sig Tryz.f5 = F_ref24_Great := by kernel_rfl
theorem F_ref24_Great.sound : Sound Tryz.prog F_ref24_Great.S := absF_sound (fn := Tryz.f5) (Γ := F_ref24_Great.G) all_nil mix (by kernel_rfl) (by kernel_rfl) (fun m p => congrFun (congrFun F_ref24_Great.eq m) p)
/-! ### cloakroom/cloakroomref21.Twin -/
noncomputable def F_ref21_Twin (_ : Fu) (p : Int × (List Int) × (List (Int × (List Int) × (List Int) × Int × Int × Int)) × Int × Int × Bool) : Option (Int × (List Int) × (List (Int × (List Int) × (List Int) × Int × Int × Int)) × Int × Int × Bool) :=
  let a0 := p.1
  let a1 := p.2.1
  let a2 := p.2.2.1
  let a3 := p.2.2.2.1
  let a4 := p.2.2.2.2.1
  let a5 := p.2.2.2.2.2
  bif Nat.ble a1.length 4294967296 then
    bif Nat.ble a2.length 4294967296 then
      some (a0, a1, a2, a3, a4, a5)
    else none
  else none
def F_ref21_Twin.ann : List (Nat × Ann) := []
def F_ref21_Twin.sig : Sig := ⟨[.val true [.int .i64, .sl (.int .i64), .sl (.pr (.int .i64) (.pr .str (.pr .str (.pr (.int .u32) (.pr (.int .i64) (.int .u64)))))), .int .i64, .int .i64, .bool]], [(true, [.dat (.int .i64), .own (.int .i64) 0 .wr, .own (.pr (.int .i64) (.pr .str (.pr .str (.pr (.int .u32) (.pr (.int .i64) (.int .u64)))))) 0 .wr, .dat (.int .i64), .dat (.int .i64), .dat .bool])]⟩
noncomputable def F_ref21_Twin.S : Summ := ⟨8, F_ref21_Twin.sig, F_ref21_Twin⟩
noncomputable def F_ref21_Twin.G : List Summ := []
theorem F_ref21_Twin.eq : absF Tryz.prog F_ref21_Twin.G F_ref21_Twin.ann F_ref21_Twin.sig Tryz.f8 = F_ref21_Twin := by kernel_rfl
theorem F_ref21_Twin.sound : Sound Tryz.prog F_ref21_Twin.S := absF_sound (fn := Tryz.f8) (Γ := F_ref21_Twin.G) all_nil mix (by kernel_rfl) (by kernel_rfl) (fun m p => congrFun (congrFun F_ref21_Twin.eq m) p)
/-! ### cloakroom/cloakroomref25.Twin -/
noncomputable def F_ref25_Twin (m : Fu) (p : Int × Int × Int × (List Int) × (List (Int × (List Int) × (List Int) × Int × Int × Int)) × Int × Int × Bool) : Option (Int × Int × Int × (List Int) × (List (Int × (List Int) × (List Int) × Int × Int × Int)) × Int × Int × Bool) :=
  let a0 := p.1
  let a1 := p.2.1
  let a2 := p.2.2.1
  let a3 := p.2.2.2.1
  let a4 := p.2.2.2.2.1
  let a5 := p.2.2.2.2.2.1
  let a6 := p.2.2.2.2.2.2.1
  let a7 := p.2.2.2.2.2.2.2
  (F_ref21_Twin m (a2, a3, a4, a5, a6, a7)).bind fun x1 =>
  some (a0, a1, x1)
def F_ref25_Twin.ann : List (Nat × Ann) := []
def F_ref25_Twin.sig : Sig := ⟨[.val true [.int .i64, .int .i64, .int .i64, .sl (.int .i64), .sl (.pr (.int .i64) (.pr .str (.pr .str (.pr (.int .u32) (.pr (.int .i64) (.int .u64)))))), .int .i64, .int .i64, .bool]], [(true, [.dat (.int .i64), .dat (.int .i64), .dat (.int .i64), .own (.int .i64) 0 .wr, .own (.pr (.int .i64) (.pr .str (.pr .str (.pr (.int .u32) (.pr (.int .i64) (.int .u64)))))) 0 .wr, .dat (.int .i64), .dat (.int .i64), .dat .bool])]⟩
noncomputable def F_ref25_Twin.S : Summ := ⟨6, F_ref25_Twin.sig, F_ref25_Twin⟩
noncomputable def F_ref25_Twin.G : List Summ := [F_ref21_Twin.S]
theorem F_ref25_Twin.eq : absF Tryz.prog F_ref25_Twin.G F_ref25_Twin.ann F_ref25_Twin.sig Tryz.f6 = F_ref25_Twin := by kernel_rfl
theorem F_ref25_Twin.sound : Sound Tryz.prog F_ref25_Twin.S := absF_sound (fn := Tryz.f6) (Γ := F_ref25_Twin.G) (all_cons F_ref21_Twin.sound all_nil) mix (by kernel_rfl) (by kernel_rfl) (fun m p => congrFun (congrFun F_ref25_Twin.eq m) p)
/-! ### cloakroom/cloakroomref24.Twin -/
noncomputable def F_ref24_Twin.l58 (_ : Fu) (a3 : List (List Int)) (x1 : Int × Int × Int × Int × (List (List Int))) : Option (Step (Int × Int × Int × Int × (List (List Int))) ((Int × Int × Int × (List (List Int))))) :=
  bif decide (x1.1 < (a3.length : Int)) then
    bif (decide ((0 : Int) ≤ x1.1)) && (decide (x1.1 < (a3.length : Int))) then
      let x4 := a3.getD x1.1.toNat []
      bif Nat.ble x4.length 140737488351232 then
        let x5 := [x4]
        bif Nat.ble (x1.2.2.2.2.length + x5.length) 4294967296 then
          some (.next ((IntKind.i64.wrap (x1.1 + (1 : Int))), x1.2.1, x1.2.2.1, x1.2.2.2.1, (x1.2.2.2.2 ++ x5)))
        else none
      else none
    else none
  else some (.fin x1.2)
noncomputable def F_ref24_Twin (m : Fu) (p : Int × Int × Int × (List (List Int))) : Option (Int × Int × Int × (List (List Int))) :=
  let a0 := p.1
  let a1 := p.2.1
  let a2 := p.2.2.1
  let a3 := p.2.2.2
  (iter m (F_ref24_Twin.l58 m a3) ((0 : Int), a0, a1, a2, ([] : List (List Int)))).bind fun x8 =>
  some x8
def F_ref24_Twin.ann : List (Nat × Ann) := [(58, .loop ⟨[(4, false, [.dat (.int .i64)])], [(160, [.dat (.int .i64), .dat (.int .i64), .dat (.int .i64), .own (.sl (.int .u8)) 208 .wr])], [], [], 209⟩ [(.exit 0, ⟨[], [(160, [.dat (.int .i64), .dat (.int .i64), .dat (.int .i64), .own (.sl (.int .u8)) 208 .wr])], [], [], 209⟩)])]
def F_ref24_Twin.sig : Sig := ⟨[.val true [.int .i64, .int .i64, .int .i64, .sl (.sl (.int .u8))]], [(true, [.dat (.int .i64), .dat (.int .i64), .dat (.int .i64), .own (.sl (.int .u8)) 0 .wr])]⟩
noncomputable def F_ref24_Twin.S : Summ := ⟨7, F_ref24_Twin.sig, F_ref24_Twin⟩
noncomputable def F_ref24_Twin.G : List Summ := []
theorem F_ref24_Twin.eq : absF Tryz.prog F_ref24_Twin.G F_ref24_Twin.ann F_ref24_Twin.sig Tryz.f7 = F_ref24_Twin := by kernel_rfl
theorem F_ref24_Twin.sound : Sound Tryz.prog F_ref24_Twin.S := absF_sound (fn := Tryz.f7) (Γ := F_ref24_Twin.G) all_nil mix (by kernel_rfl) (by kernel_rfl) (fun m p => congrFun (congrFun F_ref24_Twin.eq m) p)
/-! ### cloakroom/promote.Next -/
noncomputable def F_promote_Next (_ : Fu) (p : Int × Int) : Option (Int × Int) :=
  let a0 := p.1
  let a1 := p.2
  bif decide (a0 < (0 : Int)) then some ((0 : Int), (2 : Int)) else
  bif decide ((2147483647 : Int) < a0) then some ((0 : Int), (2 : Int)) else
  bif (bitsOp .andNot .i64 a1 (1 : Int)) != (0 : Int) then some ((0 : Int), (2 : Int)) else
  let x5 := IntKind.i64.wrap (a0 + (1 : Int))
  let x8 := IntKind.i64.wrap (x5 + (bitsOp .xor .i64 (bitsOp .and .i64 x5 (1 : Int)) a1))
  bif decide ((2147483647 : Int) < x8) then
    some ((0 : Int), (250 : Int))
  else some (x8, (0 : Int))
def F_promote_Next.ann : List (Nat × Ann) := []
def F_promote_Next.sig : Sig := ⟨[.val false [.int .i64], .val false [.int .i64]], [(false, [.dat (.int .i64)]), (false, [.dat (.int .i64)])]⟩
noncomputable def F_promote_Next.S : Summ := ⟨9, F_promote_Next.sig, F_promote_Next⟩
noncomputable def F_promote_Next.G : List Summ := []
theorem F_promote_Next.eq : absF Tryz.prog F_promote_Next.G F_promote_Next.ann F_promote_Next.sig Tryz.f9 = F_promote_Next := by kernel_rfl
theorem F_promote_Next.sound : Sound Tryz.prog F_promote_Next.S := absF_sound (fn := Tryz.f9) (Γ := F_promote_Next.G) all_nil mix (by kernel_rfl) (by kernel_rfl) (fun m p => congrFun (congrFun F_promote_Next.eq m) p)
/-! ### cloakroom/cloakroomref26.in -/
noncomputable def F_ref26_in (_ : Fu) (p : Int) : Option (Bool) :=
  let a0 := p
  bif decide ((0 : Int) ≤ a0) then
    some (decide (a0 ≤ (2147483647 : Int)))
  else some false
def F_ref26_in.ann : List (Nat × Ann) := []
def F_ref26_in.sig : Sig := ⟨[.val false [.int .i64]], [(false, [.dat .bool])]⟩
noncomputable def F_ref26_in.S : Summ := ⟨23, F_ref26_in.sig, F_ref26_in⟩
noncomputable def F_ref26_in.G : List Summ := []
theorem F_ref26_in.eq : absF Tryz.prog F_ref26_in.G F_ref26_in.ann F_ref26_in.sig Tryz.f23 = F_ref26_in := by kernel_rfl
theorem F_ref26_in.sound : Sound Tryz.prog F_ref26_in.S := absF_sound (fn := Tryz.f23) (Γ := F_ref26_in.G) all_nil mix (by kernel_rfl) (by kernel_rfl) (fun m p => congrFun (congrFun F_ref26_in.eq m) p)
/-! ### cloakroom/cloakroomref26.Next -/
noncomputable def F_ref26_Next.s30 (_ : Fu) (a1 : Int) (x5 : Int) : Option (Int) :=
  bif (x5.tmod (2 : Int)) != a1 then
    some (IntKind.i64.wrap (x5 + (1 : Int)))
  else some x5
noncomputable def F_ref26_Next (m : Fu) (p : Int × Int) : Option (Int × Int) :=
  let a0 := p.1
  let a1 := p.2
  (F_ref26_in m a0).bind fun x1 =>
  bif !x1 then some ((0 : Int), (2 : Int)) else
  bif decide (a1 < (0 : Int)) then some ((0 : Int), (2 : Int)) else
  bif decide ((1 : Int) < a1) then some ((0 : Int), (2 : Int)) else
  (F_ref26_Next.s30 m a1 (IntKind.i64.wrap (a0 + (1 : Int)))).bind fun x9 =>
  bif decide ((2147483647 : Int) < x9) then
    some ((0 : Int), (250 : Int))
  else some (x9, (0 : Int))
def F_ref26_Next.ann : List (Nat × Ann) := [(30, .jnt [(.normal, ⟨[(6, false, [.dat (.int .i64)])], [], [], [], 288⟩)])]
def F_ref26_Next.sig : Sig := ⟨[.val false [.int .i64], .val false [.int .i64]], [(false, [.dat (.int .i64)]), (false, [.dat (.int .i64)])]⟩
noncomputable def F_ref26_Next.S : Summ := ⟨10, F_ref26_Next.sig, F_ref26_Next⟩
noncomputable def F_ref26_Next.G : List Summ := [F_ref26_in.S]
theorem F_ref26_Next.eq : absF Tryz.prog F_ref26_Next.G F_ref26_Next.ann F_ref26_Next.sig Tryz.f10 = F_ref26_Next := by kernel_rfl
theorem F_ref26_Next.sound : Sound Tryz.prog F_ref26_Next.S := absF_sound (fn := Tryz.f10) (Γ := F_ref26_Next.G) (all_cons F_ref26_in.sound all_nil) mix (by kernel_rfl) (by kernel_rfl) (fun m p => congrFun (congrFun F_ref26_Next.eq m) p)
/-! ### cloakroom/promote.Whose -/
noncomputable def F_promote_Whose (_ : Fu) (p : Int) : Option (Int × Int) :=
  let a0 := p
  bif decide (a0 < (0 : Int)) then some ((0 : Int), (2 : Int)) else
  bif decide ((2147483647 : Int) < a0) then
    some ((0 : Int), (2 : Int))
  else some ((bitsOp .and .i64 a0 (1 : Int)), (0 : Int))
def F_promote_Whose.ann : List (Nat × Ann) := []
def F_promote_Whose.sig : Sig := ⟨[.val false [.int .i64]], [(false, [.dat (.int .i64)]), (false, [.dat (.int .i64)])]⟩
noncomputable def F_promote_Whose.S : Summ := ⟨11, F_promote_Whose.sig, F_promote_Whose⟩
noncomputable def F_promote_Whose.G : List Summ := []
theorem F_promote_Whose.eq : absF Tryz.prog F_promote_Whose.G F_promote_Whose.ann F_promote_Whose.sig Tryz.f11 = F_promote_Whose := by kernel_rfl
theorem F_promote_Whose.sound : Sound Tryz.prog F_promote_Whose.S := absF_sound (fn := Tryz.f11) (Γ := F_promote_Whose.G) all_nil mix (by kernel_rfl) (by kernel_rfl) (fun m p => congrFun (congrFun F_promote_Whose.eq m) p)
/-! ### cloakroom/cloakroomref26.Whose -/
noncomputable def F_ref26_Whose (m : Fu) (p : Int) : Option (Int × Int) :=
  let a0 := p
  (F_ref26_in m a0).bind fun x1 =>
  bif !x1 then
    some ((0 : Int), (2 : Int))
  else some ((a0.tmod (2 : Int)), (0 : Int))
def F_ref26_Whose.ann : List (Nat × Ann) := []
def F_ref26_Whose.sig : Sig := ⟨[.val false [.int .i64]], [(false, [.dat (.int .i64)]), (false, [.dat (.int .i64)])]⟩
noncomputable def F_ref26_Whose.S : Summ := ⟨12, F_ref26_Whose.sig, F_ref26_Whose⟩
noncomputable def F_ref26_Whose.G : List Summ := [F_ref26_in.S]
theorem F_ref26_Whose.eq : absF Tryz.prog F_ref26_Whose.G F_ref26_Whose.ann F_ref26_Whose.sig Tryz.f12 = F_ref26_Whose := by kernel_rfl
theorem F_ref26_Whose.sound : Sound Tryz.prog F_ref26_Whose.S := absF_sound (fn := Tryz.f12) (Γ := F_ref26_Whose.G) (all_cons F_ref26_in.sound all_nil) mix (by kernel_rfl) (by kernel_rfl) (fun m p => congrFun (congrFun F_ref26_Whose.eq m) p)
/-! ### cloakroom/follow.in -/
noncomputable def F_follow_in (_ : Fu) (p : Int) : Option (Bool) :=
  let a0 := p
  bif decide ((0 : Int) ≤ a0) then
    some (decide (a0 ≤ (2147483647 : Int)))
  else some false
def F_follow_in.ann : List (Nat × Ann) := []
def F_follow_in.sig : Sig := ⟨[.val false [.int .i64]], [(false, [.dat .bool])]⟩
noncomputable def F_follow_in.S : Summ := ⟨35, F_follow_in.sig, F_follow_in⟩
noncomputable def F_follow_in.G : List Summ := []
theorem F_follow_in.eq : absF Tryz.prog F_follow_in.G F_follow_in.ann F_follow_in.sig Tryz.f35 = F_follow_in := by kernel_rfl
theorem F_follow_in.sound : Sound Tryz.prog F_follow_in.S := absF_sound (fn := Tryz.f35) (Γ := F_follow_in.G) all_nil mix (by kernel_rfl) (by kernel_rfl) (fun m p => congrFun (congrFun F_follow_in.eq m) p)
/-! ### cloakroom/image.in -/
noncomputable def F_image_in (_ : Fu) (p : Int × Int) : Option (Bool) :=
  let a0 := p.1
  let a1 := p.2
  bif decide ((0 : Int) ≤ a0) then
    some (decide (a0 ≤ a1))
  else some false
def F_image_in.ann : List (Nat × Ann) := []
def F_image_in.sig : Sig := ⟨[.val false [.int .i64], .val false [.int .i64]], [(false, [.dat .bool])]⟩
noncomputable def F_image_in.S : Summ := ⟨44, F_image_in.sig, F_image_in⟩
noncomputable def F_image_in.G : List Summ := []
theorem F_image_in.eq : absF Tryz.prog F_image_in.G F_image_in.ann F_image_in.sig Tryz.f44 = F_image_in := by kernel_rfl
theorem F_image_in.sound : Sound Tryz.prog F_image_in.S := absF_sound (fn := Tryz.f44) (Γ := F_image_in.G) all_nil mix (by kernel_rfl) (by kernel_rfl) (fun m p => congrFun (congrFun F_image_in.eq m) p)
/-! ### cloakroom/image.quotas$1 -/
noncomputable def F_image_quotas_c1 (m : Fu) (p : Int) : Option (Bool) :=
  let a0 := p
  (F_image_in m (a0, (16 : Int))).bind fun x1 =>
  some (!x1)
def F_image_quotas_c1.ann : List (Nat × Ann) := []
def F_image_quotas_c1.sig : Sig := ⟨[.val false [.int .i64]], [(false, [.dat .bool])]⟩
noncomputable def F_image_quotas_c1.S : Summ := ⟨65, F_image_quotas_c1.sig, F_image_quotas_c1⟩
noncomputable def F_image_quotas_c1.G : List Summ := [F_image_in.S]
theorem F_image_quotas_c1.eq : absF Tryz.prog F_image_quotas_c1.G F_image_quotas_c1.ann F_image_quotas_c1.sig Tryz.f65 = F_image_quotas_c1 := by kernel_rfl
theorem F_image_quotas_c1.sound : Sound Tryz.prog F_image_quotas_c1.S := absF_sound (fn := Tryz.f65) (Γ := F_image_quotas_c1.G) (all_cons F_image_in.sound all_nil) mix (by kernel_rfl) (by kernel_rfl) (fun m p => congrFun (congrFun F_image_quotas_c1.eq m) p)
/-! ### slices.IndexFunc[[]int,int] -/
noncomputable def F_slices_IndexFunc_int.l26 (m : Fu) (a0 : List Int) (x1 : Int) (x2 : Int) : Option (Step Int (Int ⊕ Unit)) :=
  bif decide (x2 < x1) then
    bif (decide ((0 : Int) ≤ x2)) && (decide (x2 < (a0.length : Int))) then
      (F_image_quotas_c1 m (a0.getD x2.toNat 0)).bind fun x5 =>
      bif x5 then
        some (.fin (Sum.inl x2))
      else some (.next (IntKind.i64.wrap (x2 + (1 : Int))))
    else none
  else some (.fin (Sum.inr ()))
noncomputable def F_slices_IndexFunc_int (m : Fu) (p : List Int) : Option (Int) :=
  let a0 := p
  (iter m (F_slices_IndexFunc_int.l26 m a0 (a0.length : Int)) (0 : Int)).bind fun x7 =>
  match x7 with
  | .inl x8 =>
    some x8
  | .inr _ =>
    some (-1 : Int)
def F_slices_IndexFunc_int.ann : List (Nat × Ann) := [(26, .loop ⟨[(8, false, [.dat (.int .i64)])], [], [], [], 96⟩ [(.ret, ⟨[(4, false, [.dat (.int .i64)])], [], [], [], 96⟩), (.exit 0, ⟨[], [], [], [], 96⟩)])]
def F_slices_IndexFunc_int.sig : Sig := ⟨[.val false [.sl (.int .i64)], .fn 65 []], [(false, [.dat (.int .i64)])]⟩
noncomputable def F_slices_IndexFunc_int.S : Summ := ⟨88, F_slices_IndexFunc_int.sig, F_slices_IndexFunc_int⟩
noncomputable def F_slices_IndexFunc_int.G : List Summ := [F_image_quotas_c1.S]
theorem F_slices_IndexFunc_int.eq : absF Tryz.prog F_slices_IndexFunc_int.G F_slices_IndexFunc_int.ann F_slices_IndexFunc_int.sig Tryz.f88 = F_slices_IndexFunc_int := by kernel_rfl
theorem F_slices_IndexFunc_int.sound : Sound Tryz.prog F_slices_IndexFunc_int.S := absF_sound (fn := Tryz.f88) (Γ := F_slices_IndexFunc_int.G) (all_cons F_image_quotas_c1.sound all_nil) mix (by kernel_rfl) (by kernel_rfl) (fun m p => congrFun (congrFun F_slices_IndexFunc_int.eq m) p)
/-! ### slices.ContainsFunc[[]int,int] -/
noncomputable def F_slices_ContainsFunc_int (m : Fu) (p : List Int) : Option (Bool) :=
  let a0 := p
  (F_slices_IndexFunc_int m a0).bind fun x1 =>
  some (decide ((0 : Int) ≤ x1))
def F_slices_ContainsFunc_int.ann : List (Nat × Ann) := []
def F_slices_ContainsFunc_int.sig : Sig := ⟨[.val false [.sl (.int .i64)], .fn 65 []], [(false, [.dat .bool])]⟩
noncomputable def F_slices_ContainsFunc_int.S : Summ := ⟨64, F_slices_ContainsFunc_int.sig, F_slices_ContainsFunc_int⟩
noncomputable def F_slices_ContainsFunc_int.G : List Summ := [F_slices_IndexFunc_int.S]
theorem F_slices_ContainsFunc_int.eq : absF Tryz.prog F_slices_ContainsFunc_int.G F_slices_ContainsFunc_int.ann F_slices_ContainsFunc_int.sig Tryz.f64 = F_slices_ContainsFunc_int := by kernel_rfl
theorem F_slices_ContainsFunc_int.sound : Sound Tryz.prog F_slices_ContainsFunc_int.S := absF_sound (fn := Tryz.f64) (Γ := F_slices_ContainsFunc_int.G) (all_cons F_slices_IndexFunc_int.sound all_nil) mix (by kernel_rfl) (by kernel_rfl) (fun m p => congrFun (congrFun F_slices_ContainsFunc_int.eq m) p)
/-! ### cloakroom/image.quotas -/
noncomputable def F_image_quotas (m : Fu) (p : List Int) : Option (Bool) :=
  let a0 := p
  bif decide ((0 : Int) < (a0.length : Int)) then
    bif decide ((a0.length : Int) ≤ (4 : Int)) then
      (F_slices_ContainsFunc_int m a0).bind fun x5 =>
      some (!x5)
    else some false
  else some false
def F_image_quotas.ann : List (Nat × Ann) := []
def F_image_quotas.sig : Sig := ⟨[.val false [.sl (.int .i64)]], [(false, [.dat .bool])]⟩
noncomputable def F_image_quotas.S : Summ := ⟨45, F_image_quotas.sig, F_image_quotas⟩
noncomputable def F_image_quotas.G : List Summ := [F_slices_ContainsFunc_int.S]
theorem F_image_quotas.eq : absF Tryz.prog F_image_quotas.G F_image_quotas.ann F_image_quotas.sig Tryz.f45 = F_image_quotas := by kernel_rfl
theorem F_image_quotas.sound : Sound Tryz.prog F_image_quotas.S := absF_sound (fn := Tryz.f45) (Γ := F_image_quotas.G) (all_cons F_slices_ContainsFunc_int.sound all_nil) mix (by kernel_rfl) (by kernel_rfl) (fun m p => congrFun (congrFun F_image_quotas.eq m) p)
/-! ### cloakroom/image.size -/
noncomputable def F_image_size (_ : Fu) (p : (List Int) × (List Int) × Int × Int × Int) : Option (Int) :=
  let a0 := p.1
  let a1 := p.2.1
  some (IntKind.i64.wrap ((IntKind.i64.wrap ((8 : Int) + (a0.length : Int))) + (a1.length : Int)))
def F_image_size.ann : List (Nat × Ann) := []
def F_image_size.sig : Sig := ⟨[.val true [.str, .str, .int .u32, .int .i64, .int .u64]], [(false, [.dat (.int .i64)])]⟩
noncomputable def F_image_size.S : Summ := ⟨66, F_image_size.sig, F_image_size⟩
noncomputable def F_image_size.G : List Summ := []
theorem F_image_size.eq : absF Tryz.prog F_image_size.G F_image_size.ann F_image_size.sig Tryz.f66 = F_image_size := by kernel_rfl
theorem F_image_size.sound : Sound Tryz.prog F_image_size.S := absF_sound (fn := Tryz.f66) (Γ := F_image_size.G) all_nil mix (by kernel_rfl) (by kernel_rfl) (fun m p => congrFun (congrFun F_image_size.eq m) p)
/-! ### cloakroom/image.may -/
noncomputable def F_image_may (m : Fu) (p : (List Int) × (List Int) × Int × Int × Int) : Option (Bool) :=
  let a0 := p.1
  let a1 := p.2.1
  let a2 := p.2.2.1
  let a3 := p.2.2.2.1
  let a4 := p.2.2.2.2
  bif !(a0 == ([] : List Int)) then
    bif decide ((a0.length : Int) ≤ (32 : Int)) then
      (F_image_size m (a0, a1, a2, a3, a4)).bind fun x4 =>
      bif decide (x4 ≤ (256 : Int)) then
        (F_image_in m (a3, (1099511627776 : Int))).bind fun x6 =>
        some x6
      else some false
    else some false
  else some false
def F_image_may.ann : List (Nat × Ann) := []
def F_image_may.sig : Sig := ⟨[.val true [.str, .str, .int .u32, .int .i64, .int .u64]], [(false, [.dat .bool])]⟩
noncomputable def F_image_may.S : Summ := ⟨46, F_image_may.sig, F_image_may⟩
noncomputable def F_image_may.G : List Summ := [F_image_size.S, F_image_in.S]
theorem F_image_may.eq : absF Tryz.prog F_image_may.G F_image_may.ann F_image_may.sig Tryz.f46 = F_image_may := by kernel_rfl
theorem F_image_may.sound : Sound Tryz.prog F_image_may.S := absF_sound (fn := Tryz.f46) (Γ := F_image_may.G) (all_cons F_image_size.sound (all_cons F_image_in.sound all_nil)) mix (by kernel_rfl) (by kernel_rfl) (fun m p => congrFun (congrFun F_image_may.eq m) p)
/-! ### cloakroom/image.due -/
noncomputable def F_image_due (_ : Fu) (p : (List Int) × (List Int) × Int × Int × Int × Int) : Option (Bool) :=
  let a3 := p.2.2.2.1
  let a5 := p.2.2.2.2.2
  bif a3 != (0 : Int) then
    some (decide (a3 ≤ a5))
  else some false
def F_image_due.ann : List (Nat × Ann) := []
def F_image_due.sig : Sig := ⟨[.val true [.str, .str, .int .u32, .int .i64, .int .u64], .val false [.int .i64]], [(false, [.dat .bool])]⟩
noncomputable def F_image_due.S : Summ := ⟨47, F_image_due.sig, F_image_due⟩
noncomputable def F_image_due.G : List Summ := []
theorem F_image_due.eq : absF Tryz.prog F_image_due.G F_image_due.ann F_image_due.sig Tryz.f47 = F_image_due := by kernel_rfl
theorem F_image_due.sound : Sound Tryz.prog F_image_due.S := absF_sound (fn := Tryz.f47) (Γ := F_image_due.G) all_nil mix (by kernel_rfl) (by kernel_rfl) (fun m p => congrFun (congrFun F_image_due.eq m) p)
/-! ### cloakroom/image.places -/
noncomputable def F_image_places.l58 (_ : Fu) (a0 : List (Int × (List Int) × (List Int) × Int × Int × Int)) (x1 : Int) (x2 : Int × (List ((Int × (List Int)) × Int))) : Option (Step (Int × (List ((Int × (List Int)) × Int))) ((List ((Int × (List Int)) × Int)))) :=
  bif decide (x2.1 < x1) then
    bif (decide ((0 : Int) ≤ x2.1)) && (decide (x2.1 < (a0.length : Int))) then
      let x4 := a0.getD x2.1.toNat (0, ([], ([], (0, (0, 0)))))
      bif Nat.blt x2.2.length 4294967296 then
        some (.next ((IntKind.i64.wrap (x2.1 + (1 : Int))), (mset (keyEq (.pr (.int .i64) .str)) x2.2 (x4.1, x4.2.1) x2.1)))
      else none
    else none
  else some (.fin x2.2)
noncomputable def F_image_places (m : Fu) (p : List (Int × (List Int) × (List Int) × Int × Int × Int)) : Option (List ((Int × (List Int)) × Int)) :=
  let a0 := p
  (iter m (F_image_places.l58 m a0 (a0.length : Int)) ((0 : Int), ([] : List ((Int × (List Int)) × Int)))).bind fun x7 =>
  some x7
def F_image_places.ann : List (Nat × Ann) := [(58, .loop ⟨[(9, false, [.dat (.int .i64)])], [], [(32, .pr (.pr (.int .i64) .str) (.int .i64), (.mp true false))], [], 112⟩ [(.exit 0, ⟨[], [], [(32, .pr (.pr (.int .i64) .str) (.int .i64), (.mp true false))], [], 112⟩)])]
def F_image_places.sig : Sig := ⟨[.val false [.sl (.pr (.int .i64) (.pr .str (.pr .str (.pr (.int .u32) (.pr (.int .i64) (.int .u64))))))]], [(false, [.own (.pr (.pr (.int .i64) .str) (.int .i64)) 0 (.mp true false)])]⟩
noncomputable def F_image_places.S : Summ := ⟨48, F_image_places.sig, F_image_places⟩
noncomputable def F_image_places.G : List Summ := []
theorem F_image_places.eq : absF Tryz.prog F_image_places.G F_image_places.ann F_image_places.sig Tryz.f48 = F_image_places := by kernel_rfl
theorem F_image_places.sound : Sound Tryz.prog F_image_places.S := absF_sound (fn := Tryz.f48) (Γ := F_image_places.G) all_nil mix (by kernel_rfl) (by kernel_rfl) (fun m p => congrFun (congrFun F_image_places.eq m) p)
/-! ### cloakroom/image.Check -/
noncomputable def F_image_Check.l58 (m : Fu) (a0 : Int) (a1 : List Int) (a2 : List (Int × (List Int) × (List Int) × Int × Int × Int)) (x11 : Int) (x12 : Int) : Option (Step Int (Int ⊕ Unit)) :=
  bif decide (x12 < x11) then
    bif (decide ((0 : Int) ≤ x12)) && (decide (x12 < (a2.length : Int))) then
      let x14 := a2.getD x12.toNat (0, ([], ([], (0, (0, 0)))))
      (F_image_in m (x14.1, (IntKind.i64.wrap ((a1.length : Int) - (1 : Int))))).bind fun x17 =>
      bif !x17 then some (.fin (Sum.inl (8 : Int))) else
      (F_image_may m x14.2).bind fun x19 =>
      bif !x19 then some (.fin (Sum.inl (8 : Int))) else
      (F_image_due m (x14.2.1, x14.2.2.1, x14.2.2.2.1, x14.2.2.2.2.1, x14.2.2.2.2.2, a0)).bind fun x21 =>
      bif x21 then
        some (.fin (Sum.inl (8 : Int)))
      else some (.next (IntKind.i64.wrap (x12 + (1 : Int))))
    else none
  else some (.fin (Sum.inr ()))
noncomputable def F_image_Check (m : Fu) (p : Int × (List Int) × (List (Int × (List Int) × (List Int) × Int × Int × Int)) × Int × Int × Bool) : Option (Int) :=
  let a0 := p.1
  let a1 := p.2.1
  let a2 := p.2.2.1
  let a3 := p.2.2.2.1
  let a4 := p.2.2.2.2.1
  (F_image_in m (a0, (1099511627776 : Int))).bind fun x1 =>
  bif !x1 then some (8 : Int) else
  (F_image_quotas m a1).bind fun x3 =>
  bif !x3 then some (8 : Int) else
  bif decide ((1024 : Int) < (a2.length : Int)) then some (8 : Int) else
  (F_image_in m (a3, (2147483647 : Int))).bind fun x7 =>
  bif !x7 then some (8 : Int) else
  (F_image_in m (a4, (2147483647 : Int))).bind fun x9 =>
  bif !x9 then some (8 : Int) else
  (iter m (F_image_Check.l58 m a0 a1 a2 (a2.length : Int)) (0 : Int)).bind fun x23 =>
  match x23 with
  | .inl x24 =>
    some x24
  | .inr _ =>
    (F_image_places m a2).bind fun x26 =>
    bif (x26.length : Int) != (a2.length : Int) then
      some (8 : Int)
    else some (0 : Int)
def F_image_Check.ann : List (Nat × Ann) := [(58, .loop ⟨[(36, false, [.dat (.int .i64)])], [], [], [], 560⟩ [(.ret, ⟨[(2, false, [.dat (.int .i64)])], [], [], [], 560⟩), (.exit 0, ⟨[], [], [], [], 560⟩)])]
def F_image_Check.sig : Sig := ⟨[.val true [.int .i64, .sl (.int .i64), .sl (.pr (.int .i64) (.pr .str (.pr .str (.pr (.int .u32) (.pr (.int .i64) (.int .u64)))))), .int .i64, .int .i64, .bool]], [(false, [.dat (.int .i64)])]⟩
noncomputable def F_image_Check.S : Summ := ⟨32, F_image_Check.sig, F_image_Check⟩
noncomputable def F_image_Check.G : List Summ := [F_image_in.S, F_image_quotas.S, F_image_may.S, F_image_due.S, F_image_places.S]
theorem F_image_Check.eq : absF Tryz.prog F_image_Check.G F_image_Check.ann F_image_Check.sig Tryz.f32 = F_image_Check := by kernel_rfl
theorem F_image_Check.sound : Sound Tryz.prog F_image_Check.S := absF_sound (fn := Tryz.f32) (Γ := F_image_Check.G) (all_cons F_image_in.sound (all_cons F_image_quotas.sound (all_cons F_image_may.sound (all_cons F_image_due.sound (all_cons F_image_places.sound all_nil))))) mix (by kernel_rfl) (by kernel_rfl) (fun m p => congrFun (congrFun F_image_Check.eq m) p)
/-! ### cloakroom/follow.Check -/
noncomputable def F_follow_Check (m : Fu) (p : Int × Int × Int × (List Int) × (List (Int × (List Int) × (List Int) × Int × Int × Int)) × Int × Int × Bool) : Option (Int) :=
  let a0 := p.1
  let a1 := p.2.1
  let a2 := p.2.2.1
  let a3 := p.2.2.2.1
  let a4 := p.2.2.2.2.1
  let a5 := p.2.2.2.2.2.1
  let a6 := p.2.2.2.2.2.2.1
  let a7 := p.2.2.2.2.2.2.2
  (F_follow_in m a0).bind fun x1 =>
  bif !x1 then some (8 : Int) else
  (F_follow_in m a1).bind fun x3 =>
  bif !x3 then some (8 : Int) else
  (F_image_Check m (a2, a3, a4, a5, a6, a7)).bind fun x5 =>
  bif x5 != (0 : Int) then some (8 : Int) else
  bif a5 != a0 then some (8 : Int) else
  bif a6 != a1 then some (8 : Int) else
  bif a7 then
    some (8 : Int)
  else some (0 : Int)
def F_follow_Check.ann : List (Nat × Ann) := []
def F_follow_Check.sig : Sig := ⟨[.val true [.int .i64, .int .i64, .int .i64, .sl (.int .i64), .sl (.pr (.int .i64) (.pr .str (.pr .str (.pr (.int .u32) (.pr (.int .i64) (.int .u64)))))), .int .i64, .int .i64, .bool]], [(false, [.dat (.int .i64)])]⟩
noncomputable def F_follow_Check.S : Summ := ⟨24, F_follow_Check.sig, F_follow_Check⟩
noncomputable def F_follow_Check.G : List Summ := [F_follow_in.S, F_image_Check.S]
theorem F_follow_Check.eq : absF Tryz.prog F_follow_Check.G F_follow_Check.ann F_follow_Check.sig Tryz.f24 = F_follow_Check := by kernel_rfl
theorem F_follow_Check.sound : Sound Tryz.prog F_follow_Check.S := absF_sound (fn := Tryz.f24) (Γ := F_follow_Check.G) (all_cons F_follow_in.sound (all_cons F_image_Check.sound all_nil)) mix (by kernel_rfl) (by kernel_rfl) (fun m p => congrFun (congrFun F_follow_Check.eq m) p)
/-! ### cloakroom/numbers.in -/
noncomputable def F_numbers_in (_ : Fu) (p : Int) : Option (Bool) :=
  let a0 := p
  bif decide ((0 : Int) ≤ a0) then
    some (decide (a0 ≤ (2147483647 : Int)))
  else some false
def F_numbers_in.ann : List (Nat × Ann) := []
def F_numbers_in.sig : Sig := ⟨[.val false [.int .i64]], [(false, [.dat .bool])]⟩
noncomputable def F_numbers_in.S : Summ := ⟨36, F_numbers_in.sig, F_numbers_in⟩
noncomputable def F_numbers_in.G : List Summ := []
theorem F_numbers_in.eq : absF Tryz.prog F_numbers_in.G F_numbers_in.ann F_numbers_in.sig Tryz.f36 = F_numbers_in := by kernel_rfl
theorem F_numbers_in.sound : Sound Tryz.prog F_numbers_in.S := absF_sound (fn := Tryz.f36) (Γ := F_numbers_in.G) all_nil mix (by kernel_rfl) (by kernel_rfl) (fun m p => congrFun (congrFun F_numbers_in.eq m) p)
/-! ### cloakroom/numbers.New -/
noncomputable def F_numbers_New (m : Fu) (p : Int × Int) : Option (Int × Int × Int × (List (List Int)) × Int) :=
  let a0 := p.1
  let a1 := p.2
  (F_numbers_in m a0).bind fun x1 =>
  bif !x1 then some ((0 : Int), (0 : Int), (0 : Int), ([] : List (List Int)), (2 : Int)) else
  (F_numbers_in m a1).bind fun x3 =>
  bif !x3 then
    some ((0 : Int), (0 : Int), (0 : Int), ([] : List (List Int)), (2 : Int))
  else some (a0, a1, (0 : Int), ([] : List (List Int)), (0 : Int))
def F_numbers_New.ann : List (Nat × Ann) := []
def F_numbers_New.sig : Sig := ⟨[.val false [.int .i64], .val false [.int .i64]], [(true, [.dat (.int .i64), .dat (.int .i64), .dat (.int .i64), .dat (.sl (.sl (.int .u8)))]), (false, [.dat (.int .i64)])]⟩
noncomputable def F_numbers_New.S : Summ := ⟨25, F_numbers_New.sig, F_numbers_New⟩
noncomputable def F_numbers_New.G : List Summ := [F_numbers_in.S]
theorem F_numbers_New.eq : absF Tryz.prog F_numbers_New.G F_numbers_New.ann F_numbers_New.sig Tryz.f25 = F_numbers_New := by kernel_rfl
theorem F_numbers_New.sound : Sound Tryz.prog F_numbers_New.S := absF_sound (fn := Tryz.f25) (Γ := F_numbers_New.G) (all_cons F_numbers_in.sound all_nil) mix (by kernel_rfl) (by kernel_rfl) (fun m p => congrFun (congrFun F_numbers_New.eq m) p)
/-! ### cloakroom/code.keyed -/
noncomputable def F_code_keyed (_ : Fu) (p : List Int) : Option (Bool) :=
  let a0 := p
  bif !(a0 == ([] : List Int)) then
    some (decide ((a0.length : Int) ≤ (32 : Int)))
  else some false
def F_code_keyed.ann : List (Nat × Ann) := []
def F_code_keyed.sig : Sig := ⟨[.val false [.str]], [(false, [.dat .bool])]⟩
noncomputable def F_code_keyed.S : Summ := ⟨93, F_code_keyed.sig, F_code_keyed⟩
noncomputable def F_code_keyed.G : List Summ := []
theorem F_code_keyed.eq : absF Tryz.prog F_code_keyed.G F_code_keyed.ann F_code_keyed.sig Tryz.f93 = F_code_keyed := by kernel_rfl
theorem F_code_keyed.sound : Sound Tryz.prog F_code_keyed.S := absF_sound (fn := Tryz.f93) (Γ := F_code_keyed.G) all_nil mix (by kernel_rfl) (by kernel_rfl) (fun m p => congrFun (congrFun F_code_keyed.eq m) p)
/-! ### cloakroom/code.in -/
noncomputable def F_code_in (_ : Fu) (p : Int × Int) : Option (Bool) :=
  let a0 := p.1
  let a1 := p.2
  bif decide ((0 : Int) ≤ a0) then
    some (decide (a0 ≤ a1))
  else some false
def F_code_in.ann : List (Nat × Ann) := []
def F_code_in.sig : Sig := ⟨[.val false [.int .i64], .val false [.int .i64]], [(false, [.dat .bool])]⟩
noncomputable def F_code_in.S : Summ := ⟨94, F_code_in.sig, F_code_in⟩
noncomputable def F_code_in.G : List Summ := []
theorem F_code_in.eq : absF Tryz.prog F_code_in.G F_code_in.ann F_code_in.sig Tryz.f94 = F_code_in := by kernel_rfl
theorem F_code_in.sound : Sound Tryz.prog F_code_in.S := absF_sound (fn := Tryz.f94) (Γ := F_code_in.G) all_nil mix (by kernel_rfl) (by kernel_rfl) (fun m p => congrFun (congrFun F_code_in.eq m) p)
/-! ### cloakroom/code.tenanted -/
noncomputable def F_code_tenanted (_ : Fu) (p : Int) : Option (Bool) :=
  let a0 := p
  bif decide ((0 : Int) ≤ a0) then
    some (decide (a0 < (4 : Int)))
  else some false
def F_code_tenanted.ann : List (Nat × Ann) := []
def F_code_tenanted.sig : Sig := ⟨[.val false [.int .i64]], [(false, [.dat .bool])]⟩
noncomputable def F_code_tenanted.S : Summ := ⟨95, F_code_tenanted.sig, F_code_tenanted⟩
noncomputable def F_code_tenanted.G : List Summ := []
theorem F_code_tenanted.eq : absF Tryz.prog F_code_tenanted.G F_code_tenanted.ann F_code_tenanted.sig Tryz.f95 = F_code_tenanted := by kernel_rfl
theorem F_code_tenanted.sound : Sound Tryz.prog F_code_tenanted.S := absF_sound (fn := Tryz.f95) (Γ := F_code_tenanted.G) all_nil mix (by kernel_rfl) (by kernel_rfl) (fun m p => congrFun (congrFun F_code_tenanted.eq m) p)
/-! ### cloakroom/code.may -/
noncomputable def F_code_may.s30 (m : Fu) (a0 : Int) (a1 : Int) (a2 : List Int) (a3 : List Int) (a4 : Int) (a5 : Int) (a6 : Int) (a7 : List Int) (a8 : Int) (a9 : Int) (a10 : Bool) : Option ((Bool × Int × Int × (List Int) × (List Int) × Int × Int × Int × (List Int) × Int × Int × Bool)) :=
  bif a0 == (1 : Int) then
    (F_code_keyed m a2).bind fun x2 =>
    bif x2 then
      bif decide ((a3.length : Int) ≤ (512 : Int)) then
        (F_code_in m (a5, (1099511627776 : Int))).bind fun x5 =>
        some (x5, a0, a1, a2, a3, a4, a5, a6, ([] : List Int), (0 : Int), (0 : Int), false)
      else some (false, a0, a1, a2, a3, a4, a5, a6, ([] : List Int), (0 : Int), (0 : Int), false)
    else some (false, a0, a1, a2, a3, a4, a5, a6, ([] : List Int), (0 : Int), (0 : Int), false)
  else
    bif a0 == (2 : Int) then
      (F_code_keyed m a7).bind fun x7 =>
      bif x7 then
        bif a8 == (1 : Int) then
          some (true, a0, a1, ([] : List Int), ([] : List Int), (0 : Int), (0 : Int), (0 : Int), a7, a8, (0 : Int), false)
        else some ((a8 == (2 : Int)), a0, a1, ([] : List Int), ([] : List Int), (0 : Int), (0 : Int), (0 : Int), a7, a8, (0 : Int), false)
      else some (false, a0, a1, ([] : List Int), ([] : List Int), (0 : Int), (0 : Int), (0 : Int), a7, a8, (0 : Int), false)
    else
      bif a0 == (3 : Int) then some (true, a0, a1, ([] : List Int), ([] : List Int), (0 : Int), (0 : Int), (0 : Int), ([] : List Int), (0 : Int), (0 : Int), false) else
      bif a0 == (4 : Int) then
        (F_code_in m (a9, (1099511627776 : Int))).bind fun x12 =>
        some (x12, a0, (0 : Int), ([] : List Int), ([] : List Int), (0 : Int), (0 : Int), (0 : Int), ([] : List Int), (0 : Int), a9, false)
      else
        bif a0 == (5 : Int) then
          (F_code_in m (a9, (16 : Int))).bind fun x14 =>
          some (x14, a0, a1, ([] : List Int), ([] : List Int), (0 : Int), (0 : Int), (0 : Int), ([] : List Int), (0 : Int), a9, false)
        else
          bif a0 == (6 : Int) then
            (F_code_in m (a9, (2147483647 : Int))).bind fun x16 =>
            some (x16, a0, (0 : Int), ([] : List Int), ([] : List Int), (0 : Int), (0 : Int), (0 : Int), ([] : List Int), (0 : Int), a9, a10)
          else
            bif a0 == (7 : Int) then
              (F_code_in m (a9, (2147483647 : Int))).bind fun x18 =>
              some (x18, a0, (0 : Int), ([] : List Int), ([] : List Int), (0 : Int), (0 : Int), (0 : Int), ([] : List Int), (0 : Int), a9, false)
            else some (false, a0, (0 : Int), ([] : List Int), ([] : List Int), (0 : Int), (0 : Int), (0 : Int), ([] : List Int), (0 : Int), (0 : Int), false)
noncomputable def F_code_may (m : Fu) (p : Int × Int × (List Int) × (List Int) × Int × Int × Int × (List Int) × Int × Int × Bool) : Option (Bool) :=
  let a0 := p.1
  let a1 := p.2.1
  let a2 := p.2.2.1
  let a3 := p.2.2.2.1
  let a4 := p.2.2.2.2.1
  let a5 := p.2.2.2.2.2.1
  let a6 := p.2.2.2.2.2.2.1
  let a7 := p.2.2.2.2.2.2.2.1
  let a8 := p.2.2.2.2.2.2.2.2.1
  let a9 := p.2.2.2.2.2.2.2.2.2.1
  let a10 := p.2.2.2.2.2.2.2.2.2.2
  (F_code_may.s30 m a0 a1 a2 a3 a4 a5 a6 a7 a8 a9 a10).bind fun x19 =>
  bif x19.1 then
    (F_code_tenanted m a1).bind fun x20 =>
    bif x20 then
      some ((x19.2.1 == a0) && ((x19.2.2.1 == a1) && (((x19.2.2.2.1 == a2) && ((x19.2.2.2.2.1 == a3) && ((x19.2.2.2.2.2.1 == a4) && ((x19.2.2.2.2.2.2.1 == a5) && ((x19.2.2.2.2.2.2.2.1 == a6) && true))))) && ((x19.2.2.2.2.2.2.2.2.1 == a7) && ((x19.2.2.2.2.2.2.2.2.2.1 == a8) && ((x19.2.2.2.2.2.2.2.2.2.2.1 == a9) && ((x19.2.2.2.2.2.2.2.2.2.2.2 == a10) && true)))))))
    else some false
  else some false
def F_code_may.ann : List (Nat × Ann) := [(30, .jnt [(.normal, ⟨[(4, false, [.dat .bool])], [(96, [.dat (.int .u8), .dat (.int .i64), .dat .str, .dat .str, .dat (.int .u32), .dat (.int .i64), .dat (.int .u64), .dat .str, .dat (.int .u8), .dat (.int .i64), .dat .bool])], [], [], 144⟩)])]
def F_code_may.sig : Sig := ⟨[.val true [.int .u8, .int .i64, .str, .str, .int .u32, .int .i64, .int .u64, .str, .int .u8, .int .i64, .bool]], [(false, [.dat .bool])]⟩
noncomputable def F_code_may.S : Summ := ⟨70, F_code_may.sig, F_code_may⟩
noncomputable def F_code_may.G : List Summ := [F_code_keyed.S, F_code_in.S, F_code_tenanted.S]
theorem F_code_may.eq : absF Tryz.prog F_code_may.G F_code_may.ann F_code_may.sig Tryz.f70 = F_code_may := by kernel_rfl
theorem F_code_may.sound : Sound Tryz.prog F_code_may.S := absF_sound (fn := Tryz.f70) (Γ := F_code_may.G) (all_cons F_code_keyed.sound (all_cons F_code_in.sound (all_cons F_code_tenanted.sound all_nil))) mix (by kernel_rfl) (by kernel_rfl) (fun m p => congrFun (congrFun F_code_may.eq m) p)
/-! ### cloakroom/code.Small -/
noncomputable def F_code_Small.l28 (_ : Fu) (x1 : Int × (List Int)) : Option (Step (Int × (List Int)) ((Int × (List Int)))) :=
  bif decide ((127 : Int) < x1.1) then
    let x5 := [(bitsOp .or .u8 (IntKind.u8.wrap x1.1) (128 : Int))]
    bif Nat.ble (x1.2.length + x5.length) 140737488351232 then
      some (.next ((shrOp .u64 x1.1 (7 : Int)), (x1.2 ++ x5)))
    else none
  else some (.fin x1)
noncomputable def F_code_Small (m : Fu) (p : Int) : Option (List Int) :=
  let a0 := p
  (iter m (F_code_Small.l28 m) (a0, ([] : List Int))).bind fun x8 =>
  let x10 := [(IntKind.u8.wrap x8.1)]
  bif Nat.ble (x8.2.length + x10.length) 140737488351232 then
    some (x8.2 ++ x10)
  else none
def F_code_Small.ann : List (Nat × Ann) := [(28, .loop ⟨[(0, false, [.dat (.int .u64)]), (3, false, [.own (.int .u8) 48 .wr])], [], [], [], 49⟩ [(.exit 0, ⟨[(0, false, [.dat (.int .u64)]), (3, false, [.own (.int .u8) 48 .wr])], [], [], [], 49⟩)])]
def F_code_Small.sig : Sig := ⟨[.val false [.int .u64]], [(false, [.own (.int .u8) 0 .wr])]⟩
noncomputable def F_code_Small.S : Summ := ⟨96, F_code_Small.sig, F_code_Small⟩
noncomputable def F_code_Small.G : List Summ := []
theorem F_code_Small.eq : absF Tryz.prog F_code_Small.G F_code_Small.ann F_code_Small.sig Tryz.f96 = F_code_Small := by kernel_rfl
theorem F_code_Small.sound : Sound Tryz.prog F_code_Small.S := absF_sound (fn := Tryz.f96) (Γ := F_code_Small.G) all_nil mix (by kernel_rfl) (by kernel_rfl) (fun m p => congrFun (congrFun F_code_Small.eq m) p)
/-! ### cloakroom/code.nums -/
noncomputable def F_code_nums.l26 (m : Fu) (a1 : List Int) (x1 : Int) (x2 : (List Int) × Int) : Option (Step ((List Int) × Int) ((List Int))) :=
  bif decide (x2.2 < x1) then
    bif (decide ((0 : Int) ≤ x2.2)) && (decide (x2.2 < (a1.length : Int))) then
      (F_code_Small m (IntKind.u64.wrap (a1.getD x2.2.toNat 0))).bind fun x6 =>
      bif Nat.ble (x2.1.length + x6.length) 140737488351232 then
        some (.next ((x2.1 ++ x6), (IntKind.i64.wrap (x2.2 + (1 : Int)))))
      else none
    else none
  else some (.fin x2.1)
noncomputable def F_code_nums (m : Fu) (p : (List Int) × (List Int)) : Option (List Int) :=
  let a0 := p.1
  let a1 := p.2
  (iter m (F_code_nums.l26 m a1 (a1.length : Int)) (a0, (0 : Int))).bind fun x9 =>
  some x9
def F_code_nums.ann : List (Nat × Ann) := [(26, .loop ⟨[(0, false, [.own (.int .u8) 96 .fr]), (9, false, [.dat (.int .i64)])], [], [], [0], 97⟩ [(.exit 0, ⟨[(0, false, [.own (.int .u8) 96 .fr])], [], [], [0], 97⟩)])]
def F_code_nums.sig : Sig := ⟨[.own (.int .u8), .val false [.sl (.int .i64)]], [(false, [.own (.int .u8) 0 .fr])]⟩
noncomputable def F_code_nums.S : Summ := ⟨71, F_code_nums.sig, F_code_nums⟩
noncomputable def F_code_nums.G : List Summ := [F_code_Small.S]
theorem F_code_nums.eq : absF Tryz.prog F_code_nums.G F_code_nums.ann F_code_nums.sig Tryz.f71 = F_code_nums := by kernel_rfl
theorem F_code_nums.sound : Sound Tryz.prog F_code_nums.S := absF_sound (fn := Tryz.f71) (Γ := F_code_nums.G) (all_cons F_code_Small.sound all_nil) mix (by kernel_rfl) (by kernel_rfl) (fun m p => congrFun (congrFun F_code_nums.eq m) p)
/-! ### cloakroom/code.Text -/
noncomputable def F_code_Text (m : Fu) (p : List Int) : Option (List Int) :=
  let a0 := p
  (F_code_Small m (IntKind.u64.wrap (a0.length : Int))).bind fun x3 =>
  bif Nat.ble (x3.length + a0.length) 140737488351232 then
    some (x3 ++ a0)
  else none
def F_code_Text.ann : List (Nat × Ann) := []
def F_code_Text.sig : Sig := ⟨[.val false [.str]], [(false, [.own (.int .u8) 0 .wr])]⟩
noncomputable def F_code_Text.S : Summ := ⟨101, F_code_Text.sig, F_code_Text⟩
noncomputable def F_code_Text.G : List Summ := [F_code_Small.S]
theorem F_code_Text.eq : absF Tryz.prog F_code_Text.G F_code_Text.ann F_code_Text.sig Tryz.f101 = F_code_Text := by kernel_rfl
theorem F_code_Text.sound : Sound Tryz.prog F_code_Text.S := absF_sound (fn := Tryz.f101) (Γ := F_code_Text.G) (all_cons F_code_Small.sound all_nil) mix (by kernel_rfl) (by kernel_rfl) (fun m p => congrFun (congrFun F_code_Text.eq m) p)
/-! ### cloakroom/code.texts -/
noncomputable def F_code_texts.l26 (m : Fu) (a1 : List (List Int)) (x1 : Int) (x2 : (List Int) × Int) : Option (Step ((List Int) × Int) ((List Int))) :=
  bif decide (x2.2 < x1) then
    bif (decide ((0 : Int) ≤ x2.2)) && (decide (x2.2 < (a1.length : Int))) then
      (F_code_Text m (a1.getD x2.2.toNat [])).bind fun x5 =>
      bif Nat.ble (x2.1.length + x5.length) 140737488351232 then
        some (.next ((x2.1 ++ x5), (IntKind.i64.wrap (x2.2 + (1 : Int)))))
      else none
    else none
  else some (.fin x2.1)
noncomputable def F_code_texts (m : Fu) (p : (List Int) × (List (List Int))) : Option (List Int) :=
  let a0 := p.1
  let a1 := p.2
  (iter m (F_code_texts.l26 m a1 (a1.length : Int)) (a0, (0 : Int))).bind fun x8 =>
  some x8
def F_code_texts.ann : List (Nat × Ann) := [(26, .loop ⟨[(0, false, [.own (.int .u8) 96 .fr]), (9, false, [.dat (.int .i64)])], [], [], [0], 97⟩ [(.exit 0, ⟨[(0, false, [.own (.int .u8) 96 .fr])], [], [], [0], 97⟩)])]
def F_code_texts.sig : Sig := ⟨[.own (.int .u8), .val false [.sl .str]], [(false, [.own (.int .u8) 0 .fr])]⟩
noncomputable def F_code_texts.S : Summ := ⟨97, F_code_texts.sig, F_code_texts⟩
noncomputable def F_code_texts.G : List Summ := [F_code_Text.S]
theorem F_code_texts.eq : absF Tryz.prog F_code_texts.G F_code_texts.ann F_code_texts.sig Tryz.f97 = F_code_texts := by kernel_rfl
theorem F_code_texts.sound : Sound Tryz.prog F_code_texts.S := absF_sound (fn := Tryz.f97) (Γ := F_code_texts.G) (all_cons F_code_Text.sound all_nil) mix (by kernel_rfl) (by kernel_rfl) (fun m p => congrFun (congrFun F_code_texts.eq m) p)
/-! ### cloakroom/code.put -/
noncomputable def F_code_put.s116 (_ : Fu) (a1 : Int) : Option (Bool) :=
  let x3 := a1 == (1 : Int)
  bif x3 then some x3 else
  let x4 := a1 == (2 : Int)
  bif x4 then some x4 else
  let x5 := a1 == (3 : Int)
  bif x5 then
    some x5
  else some (a1 == (5 : Int))
noncomputable def F_code_put.s14 (m : Fu) (a1 : Int) (a2 : Int) (x2 : List Int) : Option ((List Int)) :=
  (F_code_put.s116 m a1).bind fun x7 =>
  bif x7 then
    (F_code_nums m (x2, ([a2]))).bind fun x9 =>
    some x9
  else some x2
noncomputable def F_code_put.s3934 (_ : Fu) (a1 : Int) : Option (Bool) :=
  let x24 := a1 == (4 : Int)
  bif x24 then some x24 else
  let x25 := a1 == (5 : Int)
  bif x25 then some x25 else
  let x26 := a1 == (6 : Int)
  bif x26 then
    some x26
  else some (a1 == (7 : Int))
noncomputable def F_code_put.s30 (m : Fu) (a1 : Int) (a3 : List Int) (a4 : List Int) (a5 : Int) (a6 : Int) (a7 : Int) (a8 : List Int) (a9 : Int) (a10 : Int) (x10 : (List Int)) : Option ((List Int) ⊕ (List Int)) :=
  bif a1 == (1 : Int) then
    (F_code_texts m (x10, ([a3, a4]))).bind fun x13 =>
    (F_code_nums m (x13, ([(IntKind.i64.wrap a5), a6]))).bind fun x16 =>
    (F_code_Small m a7).bind fun x17 =>
    bif Nat.ble (x16.length + x17.length) 140737488351232 then
      some (Sum.inl (x16 ++ x17))
    else none
  else
    bif a1 == (2 : Int) then
      (F_code_texts m (x10, ([a8]))).bind fun x21 =>
      let x22 := [a9]
      bif Nat.ble (x21.length + x22.length) 140737488351232 then
        some (Sum.inl (x21 ++ x22))
      else none
    else
      (F_code_put.s3934 m a1).bind fun x28 =>
      bif x28 then
        (F_code_nums m (x10, ([a10]))).bind fun x30 =>
        some (Sum.inr x30)
      else some (Sum.inr x10)
noncomputable def F_code_put (m : Fu) (p : (List Int) × Int × Int × (List Int) × (List Int) × Int × Int × Int × (List Int) × Int × Int × Bool) : Option (List Int) :=
  let a0 := p.1
  let a1 := p.2.1
  let a2 := p.2.2.1
  let a3 := p.2.2.2.1
  let a4 := p.2.2.2.2.1
  let a5 := p.2.2.2.2.2.1
  let a6 := p.2.2.2.2.2.2.1
  let a7 := p.2.2.2.2.2.2.2.1
  let a8 := p.2.2.2.2.2.2.2.2.1
  let a9 := p.2.2.2.2.2.2.2.2.2.1
  let a10 := p.2.2.2.2.2.2.2.2.2.2.1
  let a11 := p.2.2.2.2.2.2.2.2.2.2.2
  let x1 := [a1]
  bif Nat.ble (a0.length + x1.length) 140737488351232 then
    (F_code_put.s14 m a1 a2 (a0 ++ x1)).bind fun x10 =>
    (F_code_put.s30 m a1 a3 a4 a5 a6 a7 a8 a9 a10 x10).bind fun x31 =>
    match x31 with
    | .inl x32 =>
      some x32
    | .inr x33 =>
      bif a1 == (6 : Int) then
        bif a11 then
          bif Nat.ble (x33.length + 1) 140737488351232 then
            some (x33 ++ ([1] : List Int))
          else none
        else
          bif Nat.ble (x33.length + 1) 140737488351232 then
            some (x33 ++ ([0] : List Int))
          else none
      else some x33
  else none
def F_code_put.ann : List (Nat × Ann) := [(14, .jnt [(.normal, ⟨[(0, false, [.own (.int .u8) 160 .fr])], [], [], [128], 161⟩)]),
  (30, .jnt [(.ret, ⟨[(4, false, [.own (.int .u8) 161 .fr])], [], [], [160], 162⟩), (.normal, ⟨[(0, false, [.own (.int .u8) 161 .fr])], [], [], [160], 162⟩)]),
  (116, .jnt [(.normal, ⟨[(12, false, [.dat .bool])], [], [], [], 192⟩)]),
  (3934, .jnt [(.normal, ⟨[(61, false, [.dat .bool])], [], [], [], 257⟩)])]
def F_code_put.sig : Sig := ⟨[.own (.int .u8), .val true [.int .u8, .int .i64, .str, .str, .int .u32, .int .i64, .int .u64, .str, .int .u8, .int .i64, .bool]], [(false, [.own (.int .u8) 0 .fr])]⟩
noncomputable def F_code_put.S : Summ := ⟨72, F_code_put.sig, F_code_put⟩
noncomputable def F_code_put.G : List Summ := [F_code_nums.S, F_code_texts.S, F_code_Small.S]
theorem F_code_put.eq : absF Tryz.prog F_code_put.G F_code_put.ann F_code_put.sig Tryz.f72 = F_code_put := by kernel_rfl
theorem F_code_put.sound : Sound Tryz.prog F_code_put.S := absF_sound (fn := Tryz.f72) (Γ := F_code_put.G) (all_cons F_code_nums.sound (all_cons F_code_texts.sound (all_cons F_code_Small.sound all_nil))) mix (by kernel_rfl) (by kernel_rfl) (fun m p => congrFun (congrFun F_code_put.eq m) p)
/-! ### cloakroom/code.Changes -/
noncomputable def F_code_Changes.l58 (m : Fu) (a0 : List (Int × Int × ((List Int) × (List Int) × Int × Int × Int) × (List Int) × Int × Int × Bool)) (x3 : Int) (x4 : Int) : Option (Step Int (Int ⊕ Unit)) :=
  bif decide (x4 < x3) then
    bif (decide ((0 : Int) ≤ x4)) && (decide (x4 < (a0.length : Int))) then
      let x6 := a0.getD x4.toNat (0, (0, (([], ([], (0, (0, 0)))), ([], (0, (0, false))))))
      (F_code_may m (x6.1, x6.2.1, x6.2.2.1.1, x6.2.2.1.2.1, x6.2.2.1.2.2.1, x6.2.2.1.2.2.2.1, x6.2.2.1.2.2.2.2, x6.2.2.2)).bind fun x7 =>
      bif !x7 then
        some (.fin (Sum.inl (8 : Int)))
      else some (.next (IntKind.i64.wrap (x4 + (1 : Int))))
    else none
  else some (.fin (Sum.inr ()))
noncomputable def F_code_Changes.l250 (m : Fu) (a0 : List (Int × Int × ((List Int) × (List Int) × Int × Int × Int) × (List Int) × Int × Int × Bool)) (x16 : Int) (x17 : (List Int) × Int) : Option (Step ((List Int) × Int) (Int ⊕ (List Int))) :=
  bif decide (x17.2 < x16) then
    bif (decide ((0 : Int) ≤ x17.2)) && (decide (x17.2 < (a0.length : Int))) then
      let x19 := a0.getD x17.2.toNat (0, (0, (([], ([], (0, (0, 0)))), ([], (0, (0, false))))))
      (F_code_put m (x17.1, x19.1, x19.2.1, x19.2.2.1.1, x19.2.2.1.2.1, x19.2.2.1.2.2.1, x19.2.2.1.2.2.2.1, x19.2.2.1.2.2.2.2, x19.2.2.2)).bind fun x20 =>
      bif decide ((65536 : Int) < (x20.length : Int)) then
        some (.fin (Sum.inl (3 : Int)))
      else some (.next (x20, (IntKind.i64.wrap (x17.2 + (1 : Int)))))
    else none
  else some (.fin (Sum.inr x17.1))
noncomputable def F_code_Changes (m : Fu) (p : List (Int × Int × ((List Int) × (List Int) × Int × Int × Int) × (List Int) × Int × Int × Bool)) : Option ((List Int) × Int) :=
  let a0 := p
  bif decide ((4096 : Int) < (a0.length : Int)) then some (([] : List Int), (4 : Int)) else
  (iter m (F_code_Changes.l58 m a0 (a0.length : Int)) (0 : Int)).bind fun x10 =>
  match x10 with
  | .inl x11 =>
    some (([] : List Int), x11)
  | .inr _ =>
    (F_code_nums m (([] : List Int), ([(a0.length : Int)]))).bind fun x15 =>
    (iter m (F_code_Changes.l250 m a0 (a0.length : Int)) (x15, (0 : Int))).bind fun x24 =>
    match x24 with
    | .inl x25 =>
      some (([] : List Int), x25)
    | .inr x26 =>
      some (x26, (0 : Int))
def F_code_Changes.ann : List (Nat × Ann) := [(58, .loop ⟨[(14, false, [.dat (.int .i64)])], [], [], [], 144⟩ [(.ret, ⟨[(2, false, [.cst .nils]), (3, false, [.dat (.int .i64)])], [], [], [], 144⟩), (.exit 0, ⟨[], [], [], [], 144⟩)]),
  (250, .loop ⟨[(6, false, [.own (.int .u8) 272 .fr]), (28, false, [.dat (.int .i64)])], [], [], [192], 273⟩ [(.ret, ⟨[(2, false, [.cst .nils]), (3, false, [.dat (.int .i64)])], [], [], [192], 272⟩), (.exit 2, ⟨[(6, false, [.own (.int .u8) 272 .fr])], [], [], [192], 273⟩)])]
def F_code_Changes.sig : Sig := ⟨[.val false [.sl (.pr (.int .u8) (.pr (.int .i64) (.pr (.pr .str (.pr .str (.pr (.int .u32) (.pr (.int .i64) (.int .u64))))) (.pr .str (.pr (.int .u8) (.pr (.int .i64) .bool))))))]], [(false, [.own (.int .u8) 0 .fr]), (false, [.dat (.int .i64)])]⟩
noncomputable def F_code_Changes.S : Summ := ⟨54, F_code_Changes.sig, F_code_Changes⟩
noncomputable def F_code_Changes.G : List Summ := [F_code_may.S, F_code_nums.S, F_code_put.S]
theorem F_code_Changes.eq : absF Tryz.prog F_code_Changes.G F_code_Changes.ann F_code_Changes.sig Tryz.f54 = F_code_Changes := by kernel_rfl
theorem F_code_Changes.sound : Sound Tryz.prog F_code_Changes.S := absF_sound (fn := Tryz.f54) (Γ := F_code_Changes.G) (all_cons F_code_may.sound (all_cons F_code_nums.sound (all_cons F_code_put.sound all_nil))) mix (by kernel_rfl) (by kernel_rfl) (fun m p => congrFun (congrFun F_code_Changes.eq m) p)
/-! ### slices.Clone[[]int,int] -/
noncomputable def F_slices_Clone_int (_ : Fu) (p : List Int) : Option (List Int) :=
  let a0 := p
  match a0 with
  | [] => same2
   (
    some ([] : List Int))
   (
    bif Nat.ble (0 + a0.length) 4294967296 then
      some (([] : List Int) ++ a0)
    else none)
  | _ :: _ =>
    bif Nat.ble (0 + a0.length) 4294967296 then
      some (([] : List Int) ++ a0)
    else none
def F_slices_Clone_int.ann : List (Nat × Ann) := []
def F_slices_Clone_int.sig : Sig := ⟨[.val false [.sl (.int .i64)]], [(false, [.own (.int .i64) 0 .wr])]⟩
noncomputable def F_slices_Clone_int.S : Summ := ⟨73, F_slices_Clone_int.sig, F_slices_Clone_int⟩
noncomputable def F_slices_Clone_int.G : List Summ := []
theorem F_slices_Clone_int.eq : absF Tryz.prog F_slices_Clone_int.G F_slices_Clone_int.ann F_slices_Clone_int.sig Tryz.f73 = F_slices_Clone_int := by kernel_rfl
theorem F_slices_Clone_int.sound : Sound Tryz.prog F_slices_Clone_int.S := absF_sound (fn := Tryz.f73) (Γ := F_slices_Clone_int.G) all_nil mix (by kernel_rfl) (by kernel_rfl) (fun m p => congrFun (congrFun F_slices_Clone_int.eq m) p)
noncomputable def C_slices_Clone_int (m : Fu) (p : List Int) : Option (List Int) := bif Nat.ble p.length 4294967296 then some p else none
theorem C_slices_Clone_int.is : F_slices_Clone_int = C_slices_Clone_int := by
  funext m p
  have h0 : Nat.ble 0 4294967296 = true := rfl
  cases p <;> simp [F_slices_Clone_int, C_slices_Clone_int, same2_self, h0]
noncomputable def C_slices_Clone_int.S : Summ := ⟨73, F_slices_Clone_int.sig, C_slices_Clone_int⟩
theorem C_slices_Clone_int.sound : Sound Tryz.prog C_slices_Clone_int.S := by
  have h := F_slices_Clone_int.sound
  unfold F_slices_Clone_int.S at h
  rw [C_slices_Clone_int.is] at h
  exact h
/-! ### slices.Clone[[]cloakroom/api.Kept,cloakroom/api.Kept] -/
noncomputable def F_slices_Clone_Kept (_ : Fu) (p : List (Int × (List Int) × (List Int) × Int × Int × Int)) : Option (List (Int × (List Int) × (List Int) × Int × Int × Int)) :=
  let a0 := p
  match a0 with
  | [] => same2
   (
    some ([] : List (Int × (List Int) × (List Int) × Int × Int × Int)))
   (
    bif Nat.ble (0 + a0.length) 4294967296 then
      some (([] : List (Int × (List Int) × (List Int) × Int × Int × Int)) ++ a0)
    else none)
  | _ :: _ =>
    bif Nat.ble (0 + a0.length) 4294967296 then
      some (([] : List (Int × (List Int) × (List Int) × Int × Int × Int)) ++ a0)
    else none
def F_slices_Clone_Kept.ann : List (Nat × Ann) := []
def F_slices_Clone_Kept.sig : Sig := ⟨[.val false [.sl (.pr (.int .i64) (.pr .str (.pr .str (.pr (.int .u32) (.pr (.int .i64) (.int .u64))))))]], [(false, [.own (.pr (.int .i64) (.pr .str (.pr .str (.pr (.int .u32) (.pr (.int .i64) (.int .u64)))))) 0 .wr])]⟩
noncomputable def F_slices_Clone_Kept.S : Summ := ⟨74, F_slices_Clone_Kept.sig, F_slices_Clone_Kept⟩
noncomputable def F_slices_Clone_Kept.G : List Summ := []
theorem F_slices_Clone_Kept.eq : absF Tryz.prog F_slices_Clone_Kept.G F_slices_Clone_Kept.ann F_slices_Clone_Kept.sig Tryz.f74 = F_slices_Clone_Kept := by kernel_rfl
theorem F_slices_Clone_Kept.sound : Sound Tryz.prog F_slices_Clone_Kept.S := absF_sound (fn := Tryz.f74) (Γ := F_slices_Clone_Kept.G) all_nil mix (by kernel_rfl) (by kernel_rfl) (fun m p => congrFun (congrFun F_slices_Clone_Kept.eq m) p)
noncomputable def C_slices_Clone_Kept (m : Fu) (p : List (Int × (List Int) × (List Int) × Int × Int × Int)) : Option (List (Int × (List Int) × (List Int) × Int × Int × Int)) := bif Nat.ble p.length 4294967296 then some p else none
theorem C_slices_Clone_Kept.is : F_slices_Clone_Kept = C_slices_Clone_Kept := by
  funext m p
  have h0 : Nat.ble 0 4294967296 = true := rfl
  cases p <;> simp [F_slices_Clone_Kept, C_slices_Clone_Kept, same2_self, h0]
noncomputable def C_slices_Clone_Kept.S : Summ := ⟨74, F_slices_Clone_Kept.sig, C_slices_Clone_Kept⟩
theorem C_slices_Clone_Kept.sound : Sound Tryz.prog C_slices_Clone_Kept.S := by
  have h := F_slices_Clone_Kept.sound
  unfold F_slices_Clone_Kept.S at h
  rw [C_slices_Clone_Kept.is] at h
  exact h
/-! ### (*cloakroom/image.state).do$1 -/
noncomputable def F_image_state_do_c1 (m : Fu) (p : Int × (List Int) × (List Int) × Int × Int × Int × Int × Int × (List Int) × (List Int) × Int × Int × Int × (List Int) × Int × Int × Bool) : Option (Bool × Int × Int × (List Int) × (List Int) × Int × Int × Int × (List Int) × Int × Int × Bool) :=
  let a1 := p.2.1
  let a2 := p.2.2.1
  let a3 := p.2.2.2.1
  let a4 := p.2.2.2.2.1
  let a5 := p.2.2.2.2.2.1
  let a6 := p.2.2.2.2.2.2.1
  let a7 := p.2.2.2.2.2.2.2.1
  let a8 := p.2.2.2.2.2.2.2.2.1
  let a9 := p.2.2.2.2.2.2.2.2.2.1
  let a10 := p.2.2.2.2.2.2.2.2.2.2.1
  let a11 := p.2.2.2.2.2.2.2.2.2.2.2.1
  let a12 := p.2.2.2.2.2.2.2.2.2.2.2.2.1
  let a13 := p.2.2.2.2.2.2.2.2.2.2.2.2.2.1
  let a14 := p.2.2.2.2.2.2.2.2.2.2.2.2.2.2.1
  let a15 := p.2.2.2.2.2.2.2.2.2.2.2.2.2.2.2.1
  let a16 := p.2.2.2.2.2.2.2.2.2.2.2.2.2.2.2.2
  (F_image_due m (a1, a2, a3, a4, a5, a15)).bind fun x1 =>
  some (x1, a6, a7, a8, a9, a10, a11, a12, a13, a14, a15, a16)
def F_image_state_do_c1.ann : List (Nat × Ann) := []
def F_image_state_do_c1.sig : Sig := ⟨[.val true [.int .i64, .str, .str, .int .u32, .int .i64, .int .u64], .box [.int .u8, .int .i64, .str, .str, .int .u32, .int .i64, .int .u64, .str, .int .u8, .int .i64, .bool]], [(false, [.dat .bool])]⟩
noncomputable def F_image_state_do_c1.S : Summ := ⟨76, F_image_state_do_c1.sig, F_image_state_do_c1⟩
noncomputable def F_image_state_do_c1.G : List Summ := [F_image_due.S]
theorem F_image_state_do_c1.eq : absF Tryz.prog F_image_state_do_c1.G F_image_state_do_c1.ann F_image_state_do_c1.sig Tryz.f76 = F_image_state_do_c1 := by kernel_rfl
theorem F_image_state_do_c1.sound : Sound Tryz.prog F_image_state_do_c1.S := absF_sound (fn := Tryz.f76) (Γ := F_image_state_do_c1.G) (all_cons F_image_due.sound all_nil) mix (by kernel_rfl) (by kernel_rfl) (fun m p => congrFun (congrFun F_image_state_do_c1.eq m) p)
/-! ### (*cloakroom/image.state).do$2 -/
noncomputable def F_image_state_do_c2 (_ : Fu) (p : Int × (List Int) × (List Int) × Int × Int × Int × Int × Int × (List Int) × (List Int) × Int × Int × Int × (List Int) × Int × Int × Bool) : Option (Bool × Int × Int × (List Int) × (List Int) × Int × Int × Int × (List Int) × Int × Int × Bool) :=
  let a0 := p.1
  let a6 := p.2.2.2.2.2.2.1
  let a7 := p.2.2.2.2.2.2.2.1
  let a8 := p.2.2.2.2.2.2.2.2.1
  let a9 := p.2.2.2.2.2.2.2.2.2.1
  let a10 := p.2.2.2.2.2.2.2.2.2.2.1
  let a11 := p.2.2.2.2.2.2.2.2.2.2.2.1
  let a12 := p.2.2.2.2.2.2.2.2.2.2.2.2.1
  let a13 := p.2.2.2.2.2.2.2.2.2.2.2.2.2.1
  let a14 := p.2.2.2.2.2.2.2.2.2.2.2.2.2.2.1
  let a15 := p.2.2.2.2.2.2.2.2.2.2.2.2.2.2.2.1
  let a16 := p.2.2.2.2.2.2.2.2.2.2.2.2.2.2.2.2
  some ((a0 == a7), a6, a7, a8, a9, a10, a11, a12, a13, a14, a15, a16)
def F_image_state_do_c2.ann : List (Nat × Ann) := []
def F_image_state_do_c2.sig : Sig := ⟨[.val true [.int .i64, .str, .str, .int .u32, .int .i64, .int .u64], .box [.int .u8, .int .i64, .str, .str, .int .u32, .int .i64, .int .u64, .str, .int .u8, .int .i64, .bool]], [(false, [.dat .bool])]⟩
noncomputable def F_image_state_do_c2.S : Summ := ⟨79, F_image_state_do_c2.sig, F_image_state_do_c2⟩
noncomputable def F_image_state_do_c2.G : List Summ := []
theorem F_image_state_do_c2.eq : absF Tryz.prog F_image_state_do_c2.G F_image_state_do_c2.ann F_image_state_do_c2.sig Tryz.f79 = F_image_state_do_c2 := by kernel_rfl
theorem F_image_state_do_c2.sound : Sound Tryz.prog F_image_state_do_c2.S := absF_sound (fn := Tryz.f79) (Γ := F_image_state_do_c2.G) all_nil mix (by kernel_rfl) (by kernel_rfl) (fun m p => congrFun (congrFun F_image_state_do_c2.eq m) p)
/-! ### cloakroom/image.Apply -/
noncomputable def F_image_Apply.i26s212 (_ : Fu) (x12 : Int × Int × (List Int) × (List (Int × (List Int) × (List Int) × Int × Int × Int)) × Int × Int × Bool × (List Bool) × (List ((Int × (List Int)) × Int)) × Int) (x14 : Int × Int × ((List Int) × (List Int) × Int × Int × Int) × (List Int) × Int × Int × Bool) : Option (Int ⊕ Unit) :=
  bif decide (x14.2.2.2.2.2.1 < x12.2.1) then
    some (Sum.inl (2 : Int))
  else some (Sum.inr ())
noncomputable def F_image_Apply.i27s50 (_ : Fu) (x22 : Bool) : Option (Unit ⊕ Unit) :=
  bif x22 then
    some (Sum.inl ())
  else some (Sum.inr ())
noncomputable def F_image_Apply.i27s818 (m : Fu) (x21 : Int × Int × (List Int) × Int × Int × Bool × (List Bool) × (List ((Int × (List Int)) × Int)) × Int × Int × Int × (List Int) × (List Int) × Int × Int × Int × (List Int) × Int × Int × Bool) (x25 : Int × (List Int) × (List Int) × Int × Int × Int) : Option ((Bool × Int × Int × (List Int) × (List Int) × Int × Int × Int × (List Int) × Int × Int × Bool)) :=
  bif (decide ((0 : Int) ≤ x21.1)) && (decide (x21.1 < (x21.2.2.2.2.2.2.1.length : Int))) then
    bif Nat.blt x21.1.toNat x21.2.2.2.2.2.2.1.length then
      bif !(x21.2.2.2.2.2.2.1.getD x21.1.toNat false) then
        (F_image_state_do_c1 m (x25.1, x25.2.1, x25.2.2.1, x25.2.2.2.1, x25.2.2.2.2.1, x25.2.2.2.2.2, x21.2.2.2.2.2.2.2.2.2)).bind fun x28 =>
        some x28
      else some (false, x21.2.2.2.2.2.2.2.2.2)
    else none
  else none
noncomputable def F_image_Apply.i30s1 (_ : Fu) (x21 : Int × Int × (List Int) × Int × Int × Bool × (List Bool) × (List ((Int × (List Int)) × Int)) × Int × Int × Int × (List Int) × (List Int) × Int × Int × Int × (List Int) × Int × Int × Bool) (x25 : Int × (List Int) × (List Int) × Int × Int × Int) : Option ((Int × (List Int) × Int × Int × Bool × (List Bool) × (List ((Int × (List Int)) × Int)) × Int)) :=
  let x30 := mget (keyEq (.pr (.int .i64) .str)) x21.2.2.2.2.2.2.2.1 (x25.1, x25.2.1)
  bif x30.isSome then
    bif (decide ((0 : Int) ≤ (x30.getD 0))) && (decide ((x30.getD 0) < (x21.2.2.2.2.2.2.1.length : Int))) then
      bif Nat.blt ((x30.getD 0).toNat) x21.2.2.2.2.2.2.1.length then
        some (x21.2.1, x21.2.2.1, x21.2.2.2.1, x21.2.2.2.2.1, x21.2.2.2.2.2.1, (x21.2.2.2.2.2.2.1.set ((x30.getD 0).toNat) true), (mdel (keyEq (.pr (.int .i64) .str)) x21.2.2.2.2.2.2.2.1 (x25.1, x25.2.1)), (IntKind.i64.wrap (x21.2.2.2.2.2.2.2.2.1 - (1 : Int))))
      else none
    else none
  else some (x21.2.1, x21.2.2.1, x21.2.2.2.1, x21.2.2.2.2.1, x21.2.2.2.2.2.1, x21.2.2.2.2.2.2.1, x21.2.2.2.2.2.2.2.1, x21.2.2.2.2.2.2.2.2.1)
noncomputable def F_image_Apply.i27l6 (m : Fu) (x12 : Int × Int × (List Int) × (List (Int × (List Int) × (List Int) × Int × Int × Int)) × Int × Int × Bool × (List Bool) × (List ((Int × (List Int)) × Int)) × Int) (x20 : Int) (x21 : Int × Int × (List Int) × Int × Int × Bool × (List Bool) × (List ((Int × (List Int)) × Int)) × Int × Int × Int × (List Int) × (List Int) × Int × Int × Int × (List Int) × Int × Int × Bool) : Option (Step (Int × Int × (List Int) × Int × Int × Bool × (List Bool) × (List ((Int × (List Int)) × Int)) × Int × Int × Int × (List Int) × (List Int) × Int × Int × Int × (List Int) × Int × Int × Bool) ((Int × (List Int) × (List (Int × (List Int) × (List Int) × Int × Int × Int)) × Int × Int × Bool × (List Bool) × (List ((Int × (List Int)) × Int)) × Int))) :=
  (F_image_Apply.i27s50 m (decide (x21.1 < x20))).bind fun x23 =>
  match x23 with
  | .inl _ =>
    bif (decide ((0 : Int) ≤ x21.1)) && (decide (x21.1 < (x12.2.2.2.1.length : Int))) then
      bif Nat.blt x21.1.toNat x12.2.2.2.1.length then
        let x25 := x12.2.2.2.1.getD x21.1.toNat (0, ([], ([], (0, (0, 0)))))
        (F_image_Apply.i27s818 m x21 x25).bind fun x29 =>
        bif x29.1 then
          (F_image_Apply.i30s1 m x21 x25).bind fun x34 =>
          some (.next ((IntKind.i64.wrap (x21.1 + (1 : Int))), x34.1, x34.2.1, x34.2.2.1, x34.2.2.2.1, x34.2.2.2.2.1, x34.2.2.2.2.2.1, x34.2.2.2.2.2.2.1, x34.2.2.2.2.2.2.2, x29.2))
        else some (.next ((IntKind.i64.wrap (x21.1 + (1 : Int))), x21.2.1, x21.2.2.1, x21.2.2.2.1, x21.2.2.2.2.1, x21.2.2.2.2.2.1, x21.2.2.2.2.2.2.1, x21.2.2.2.2.2.2.2.1, x21.2.2.2.2.2.2.2.2.1, x29.2))
      else none
    else none
  | .inr _ =>
    some (.fin (x21.2.1, x21.2.2.1, x12.2.2.2.1, x21.2.2.2.1, x21.2.2.2.2.1, x21.2.2.2.2.2.1, x21.2.2.2.2.2.2.1, x21.2.2.2.2.2.2.2.1, x21.2.2.2.2.2.2.2.2.1))
noncomputable def F_image_Apply.i26s860 (_ : Fu) (x12 : Int × Int × (List Int) × (List (Int × (List Int) × (List Int) × Int × Int × Int)) × Int × Int × Bool × (List Bool) × (List ((Int × (List Int)) × Int)) × Int) (x14 : Int × Int × ((List Int) × (List Int) × Int × Int × Int) × (List Int) × Int × Int × Bool) : Option (Int ⊕ Unit) :=
  bif decide (x14.2.2.2.2.2.1 < x12.2.2.2.2.1) then
    some (Sum.inl (2 : Int))
  else some (Sum.inr ())
noncomputable def F_image_Apply.i26s6 (m : Fu) (x12 : Int × Int × (List Int) × (List (Int × (List Int) × (List Int) × Int × Int × Int)) × Int × Int × Bool × (List Bool) × (List ((Int × (List Int)) × Int)) × Int) (x14 : Int × Int × ((List Int) × (List Int) × Int × Int × Int) × (List Int) × Int × Int × Bool) : Option ((Int × Int × (List Int) × (List (Int × (List Int) × (List Int) × Int × Int × Int)) × Int × Int × Bool × (List Bool) × (List ((Int × (List Int)) × Int)) × Int) ⊕ Unit) :=
  bif x14.1 == (4 : Int) then
    (F_image_Apply.i26s212 m x12 x14).bind fun x17 =>
    match x17 with
    | .inl x18 =>
      some (Sum.inl (x18, x12.2))
    | .inr _ =>
      (iter m (F_image_Apply.i27l6 m x12 (x12.2.2.2.1.length : Int)) ((0 : Int), x14.2.2.2.2.2.1, x12.2.2.1, x12.2.2.2.2.1, x12.2.2.2.2.2.1, x12.2.2.2.2.2.2.1, x12.2.2.2.2.2.2.2.1, x12.2.2.2.2.2.2.2.2.1, x12.2.2.2.2.2.2.2.2.2, x14.1, x14.2.1, x14.2.2.1.1, x14.2.2.1.2.1, x14.2.2.1.2.2.1, x14.2.2.1.2.2.2.1, x14.2.2.1.2.2.2.2, x14.2.2.2)).bind fun x38 =>
      some (Sum.inl ((0 : Int), x38))
  else
    bif x14.1 == (6 : Int) then
      (F_image_Apply.i26s860 m x12 x14).bind fun x41 =>
      match x41 with
      | .inl x42 =>
        some (Sum.inl (x42, x12.2))
      | .inr _ =>
        some (Sum.inl ((0 : Int), x12.2.1, x12.2.2.1, x12.2.2.2.1, x14.2.2.2.2.2.1, x12.2.2.2.2.2.1, x14.2.2.2.2.2.2, x12.2.2.2.2.2.2.2))
    else
      bif x14.1 == (7 : Int) then
        some (Sum.inl ((0 : Int), x12.2.1, x12.2.2.1, x12.2.2.2.1, x12.2.2.2.2.1, x14.2.2.2.2.2.1, x12.2.2.2.2.2.2))
      else some (Sum.inr ())
noncomputable def F_image_Apply.i26s14 (_ : Fu) (x12 : Int × Int × (List Int) × (List (Int × (List Int) × (List Int) × Int × Int × Int)) × Int × Int × Bool × (List Bool) × (List ((Int × (List Int)) × Int)) × Int) (x14 : Int × Int × ((List Int) × (List Int) × Int × Int × Int) × (List Int) × Int × Int × Bool) : Option (Int ⊕ Unit) :=
  bif decide ((x12.2.2.1.length : Int) ≤ x14.2.1) then
    some (Sum.inl (2 : Int))
  else some (Sum.inr ())
noncomputable def F_image_Apply.i31s6 (m : Fu) (x14 : Int × Int × ((List Int) × (List Int) × Int × Int × Int) × (List Int) × Int × Int × Bool) : Option (Int ⊕ Unit) :=
  (F_image_size m x14.2.2.1).bind fun x54 =>
  bif decide ((256 : Int) < x54) then
    some (Sum.inl (2 : Int))
  else some (Sum.inr ())
noncomputable def F_image_Apply.i32s1 (_ : Fu) (x12 : Int × Int × (List Int) × (List (Int × (List Int) × (List Int) × Int × Int × Int)) × Int × Int × Bool × (List Bool) × (List ((Int × (List Int)) × Int)) × Int) (x14 : Int × Int × ((List Int) × (List Int) × Int × Int × Int) × (List Int) × Int × Int × Bool) : Option ((Int × (List Int) × (List (Int × (List Int) × (List Int) × Int × Int × Int)) × Int × Int × Bool × (List Bool) × (List ((Int × (List Int)) × Int)) × Int)) :=
  let x59 := mget (keyEq (.pr (.int .i64) .str)) x12.2.2.2.2.2.2.2.2.1 (x14.2.1, x14.2.2.1.1)
  bif x59.isSome then
    bif (decide ((0 : Int) ≤ (x59.getD 0))) && (decide ((x59.getD 0) < (x12.2.2.2.2.2.2.2.1.length : Int))) then
      bif Nat.blt ((x59.getD 0).toNat) x12.2.2.2.2.2.2.2.1.length then
        some (x12.2.1, x12.2.2.1, x12.2.2.2.1, x12.2.2.2.2.1, x12.2.2.2.2.2.1, x12.2.2.2.2.2.2.1, (x12.2.2.2.2.2.2.2.1.set ((x59.getD 0).toNat) true), (mdel (keyEq (.pr (.int .i64) .str)) x12.2.2.2.2.2.2.2.2.1 (x14.2.1, x14.2.2.1.1)), (IntKind.i64.wrap (x12.2.2.2.2.2.2.2.2.2 - (1 : Int))))
      else none
    else none
  else some x12.2
noncomputable def F_image_Apply.i31s62 (m : Fu) (x14 : Int × Int × ((List Int) × (List Int) × Int × Int × Int) × (List Int) × Int × Int × Bool) (x63 : (Int × (List Int) × (List (Int × (List Int) × (List Int) × Int × Int × Int)) × Int × Int × Bool × (List Bool) × (List ((Int × (List Int)) × Int)) × Int)) : Option (Int ⊕ Unit) :=
  (F_image_due m (x14.2.2.1.1, x14.2.2.1.2.1, x14.2.2.1.2.2.1, x14.2.2.1.2.2.2.1, x14.2.2.1.2.2.2.2, x63.1)).bind fun x64 =>
  bif x64 then
    some (Sum.inl (0 : Int))
  else some (Sum.inr ())
noncomputable def F_image_Apply.i31s126 (_ : Fu) (x63 : (Int × (List Int) × (List (Int × (List Int) × (List Int) × Int × Int × Int)) × Int × Int × Bool × (List Bool) × (List ((Int × (List Int)) × Int)) × Int)) : Option (Int ⊕ Unit) :=
  bif x63.2.2.2.2.2.2.2.2 == (1024 : Int) then
    some (Sum.inl (9 : Int))
  else some (Sum.inr ())
noncomputable def F_image_Apply.i31s1 (m : Fu) (x12 : Int × Int × (List Int) × (List (Int × (List Int) × (List Int) × Int × Int × Int)) × Int × Int × Bool × (List Bool) × (List ((Int × (List Int)) × Int)) × Int) (x14 : Int × Int × ((List Int) × (List Int) × Int × Int × Int) × (List Int) × Int × Int × Bool) : Option ((Int × Int × (List Int) × (List (Int × (List Int) × (List Int) × Int × Int × Int)) × Int × Int × Bool × (List Bool) × (List ((Int × (List Int)) × Int)) × Int)) :=
  (F_image_Apply.i31s6 m x14).bind fun x56 =>
  match x56 with
  | .inl x57 =>
    some (x57, x12.2)
  | .inr _ =>
    (F_image_Apply.i32s1 m x12 x14).bind fun x63 =>
    (F_image_Apply.i31s62 m x14 x63).bind fun x65 =>
    match x65 with
    | .inl x66 =>
      some (x66, x63)
    | .inr _ =>
      (F_image_Apply.i31s126 m x63).bind fun x69 =>
      match x69 with
      | .inl x70 =>
        some (x70, x63)
      | .inr _ =>
        bif Nat.blt x63.2.2.2.2.2.2.2.1.length 4294967296 then
          let x74 := [(x14.2.1, x14.2.2.1)]
          bif Nat.ble (x63.2.2.1.length + x74.length) 4294967296 then
            let x76 := [false]
            bif Nat.ble (x63.2.2.2.2.2.2.1.length + x76.length) 140737488351232 then
              some ((0 : Int), x63.1, x63.2.1, (x63.2.2.1 ++ x74), x63.2.2.2.1, x63.2.2.2.2.1, x63.2.2.2.2.2.1, (x63.2.2.2.2.2.2.1 ++ x76), (mset (keyEq (.pr (.int .i64) .str)) x63.2.2.2.2.2.2.2.1 (x14.2.1, x14.2.2.1.1) (x63.2.2.1.length : Int)), (IntKind.i64.wrap (x63.2.2.2.2.2.2.2.2 + (1 : Int))))
            else none
          else none
        else none
noncomputable def F_image_Apply.i33s1 (_ : Fu) (x12 : Int × Int × (List Int) × (List (Int × (List Int) × (List Int) × Int × Int × Int)) × Int × Int × Bool × (List Bool) × (List ((Int × (List Int)) × Int)) × Int) (x14 : Int × Int × ((List Int) × (List Int) × Int × Int × Int) × (List Int) × Int × Int × Bool) : Option ((Int × (List Int) × (List (Int × (List Int) × (List Int) × Int × Int × Int)) × Int × Int × Bool × (List Bool) × (List ((Int × (List Int)) × Int)) × Int)) :=
  let x81 := mget (keyEq (.pr (.int .i64) .str)) x12.2.2.2.2.2.2.2.2.1 (x14.2.1, x14.2.2.2.1)
  bif x81.isSome then
    bif (decide ((0 : Int) ≤ (x81.getD 0))) && (decide ((x81.getD 0) < (x12.2.2.2.2.2.2.2.1.length : Int))) then
      bif Nat.blt ((x81.getD 0).toNat) x12.2.2.2.2.2.2.2.1.length then
        some (x12.2.1, x12.2.2.1, x12.2.2.2.1, x12.2.2.2.2.1, x12.2.2.2.2.2.1, x12.2.2.2.2.2.2.1, (x12.2.2.2.2.2.2.2.1.set ((x81.getD 0).toNat) true), (mdel (keyEq (.pr (.int .i64) .str)) x12.2.2.2.2.2.2.2.2.1 (x14.2.1, x14.2.2.2.1)), (IntKind.i64.wrap (x12.2.2.2.2.2.2.2.2.2 - (1 : Int))))
      else none
    else none
  else some x12.2
noncomputable def F_image_Apply.i34s50 (_ : Fu) (x89 : Bool) : Option (Unit ⊕ Unit) :=
  bif x89 then
    some (Sum.inl ())
  else some (Sum.inr ())
noncomputable def F_image_Apply.i34s818 (m : Fu) (x88 : Int × Int × (List Int) × Int × Int × Bool × (List Bool) × (List ((Int × (List Int)) × Int)) × Int × Int × Int × (List Int) × (List Int) × Int × Int × Int × (List Int) × Int × Int × Bool) (x92 : Int × (List Int) × (List Int) × Int × Int × Int) : Option ((Bool × Int × Int × (List Int) × (List Int) × Int × Int × Int × (List Int) × Int × Int × Bool)) :=
  bif (decide ((0 : Int) ≤ x88.1)) && (decide (x88.1 < (x88.2.2.2.2.2.2.1.length : Int))) then
    bif Nat.blt x88.1.toNat x88.2.2.2.2.2.2.1.length then
      bif !(x88.2.2.2.2.2.2.1.getD x88.1.toNat false) then
        (F_image_state_do_c2 m (x92.1, x92.2.1, x92.2.2.1, x92.2.2.2.1, x92.2.2.2.2.1, x92.2.2.2.2.2, x88.2.2.2.2.2.2.2.2.2)).bind fun x95 =>
        some x95
      else some (false, x88.2.2.2.2.2.2.2.2.2)
    else none
  else none
noncomputable def F_image_Apply.i37s1 (_ : Fu) (x88 : Int × Int × (List Int) × Int × Int × Bool × (List Bool) × (List ((Int × (List Int)) × Int)) × Int × Int × Int × (List Int) × (List Int) × Int × Int × Int × (List Int) × Int × Int × Bool) (x92 : Int × (List Int) × (List Int) × Int × Int × Int) : Option ((Int × (List Int) × Int × Int × Bool × (List Bool) × (List ((Int × (List Int)) × Int)) × Int)) :=
  let x97 := mget (keyEq (.pr (.int .i64) .str)) x88.2.2.2.2.2.2.2.1 (x92.1, x92.2.1)
  bif x97.isSome then
    bif (decide ((0 : Int) ≤ (x97.getD 0))) && (decide ((x97.getD 0) < (x88.2.2.2.2.2.2.1.length : Int))) then
      bif Nat.blt ((x97.getD 0).toNat) x88.2.2.2.2.2.2.1.length then
        some (x88.2.1, x88.2.2.1, x88.2.2.2.1, x88.2.2.2.2.1, x88.2.2.2.2.2.1, (x88.2.2.2.2.2.2.1.set ((x97.getD 0).toNat) true), (mdel (keyEq (.pr (.int .i64) .str)) x88.2.2.2.2.2.2.2.1 (x92.1, x92.2.1)), (IntKind.i64.wrap (x88.2.2.2.2.2.2.2.2.1 - (1 : Int))))
      else none
    else none
  else some (x88.2.1, x88.2.2.1, x88.2.2.2.1, x88.2.2.2.2.1, x88.2.2.2.2.2.1, x88.2.2.2.2.2.2.1, x88.2.2.2.2.2.2.2.1, x88.2.2.2.2.2.2.2.2.1)
noncomputable def F_image_Apply.i34l6 (m : Fu) (x12 : Int × Int × (List Int) × (List (Int × (List Int) × (List Int) × Int × Int × Int)) × Int × Int × Bool × (List Bool) × (List ((Int × (List Int)) × Int)) × Int) (x87 : Int) (x88 : Int × Int × (List Int) × Int × Int × Bool × (List Bool) × (List ((Int × (List Int)) × Int)) × Int × Int × Int × (List Int) × (List Int) × Int × Int × Int × (List Int) × Int × Int × Bool) : Option (Step (Int × Int × (List Int) × Int × Int × Bool × (List Bool) × (List ((Int × (List Int)) × Int)) × Int × Int × Int × (List Int) × (List Int) × Int × Int × Int × (List Int) × Int × Int × Bool) ((Int × (List Int) × (List (Int × (List Int) × (List Int) × Int × Int × Int)) × Int × Int × Bool × (List Bool) × (List ((Int × (List Int)) × Int)) × Int))) :=
  (F_image_Apply.i34s50 m (decide (x88.1 < x87))).bind fun x90 =>
  match x90 with
  | .inl _ =>
    bif (decide ((0 : Int) ≤ x88.1)) && (decide (x88.1 < (x12.2.2.2.1.length : Int))) then
      bif Nat.blt x88.1.toNat x12.2.2.2.1.length then
        let x92 := x12.2.2.2.1.getD x88.1.toNat (0, ([], ([], (0, (0, 0)))))
        (F_image_Apply.i34s818 m x88 x92).bind fun x96 =>
        bif x96.1 then
          (F_image_Apply.i37s1 m x88 x92).bind fun x101 =>
          some (.next ((IntKind.i64.wrap (x88.1 + (1 : Int))), x101.1, x101.2.1, x101.2.2.1, x101.2.2.2.1, x101.2.2.2.2.1, x101.2.2.2.2.2.1, x101.2.2.2.2.2.2.1, x101.2.2.2.2.2.2.2, x96.2))
        else some (.next ((IntKind.i64.wrap (x88.1 + (1 : Int))), x88.2.1, x88.2.2.1, x88.2.2.2.1, x88.2.2.2.2.1, x88.2.2.2.2.2.1, x88.2.2.2.2.2.2.1, x88.2.2.2.2.2.2.2.1, x88.2.2.2.2.2.2.2.2.1, x96.2))
      else none
    else none
  | .inr _ =>
    some (.fin (x88.2.1, x88.2.2.1, x12.2.2.2.1, x88.2.2.2.1, x88.2.2.2.2.1, x88.2.2.2.2.2.1, x88.2.2.2.2.2.2.1, x88.2.2.2.2.2.2.2.1, x88.2.2.2.2.2.2.2.2.1))
noncomputable def F_image_Apply.i26s1 (m : Fu) (x12 : Int × Int × (List Int) × (List (Int × (List Int) × (List Int) × Int × Int × Int)) × Int × Int × Bool × (List Bool) × (List ((Int × (List Int)) × Int)) × Int) (x14 : Int × Int × ((List Int) × (List Int) × Int × Int × Int) × (List Int) × Int × Int × Bool) : Option ((Int × Int × (List Int) × (List (Int × (List Int) × (List Int) × Int × Int × Int)) × Int × Int × Bool × (List Bool) × (List ((Int × (List Int)) × Int)) × Int)) :=
  (F_image_Apply.i26s6 m x12 x14).bind fun x45 =>
  match x45 with
  | .inl x46 =>
    some x46
  | .inr _ =>
    (F_image_Apply.i26s14 m x12 x14).bind fun x50 =>
    match x50 with
    | .inl x51 =>
      some (x51, x12.2)
    | .inr _ =>
      bif x14.1 == (1 : Int) then
        (F_image_Apply.i31s1 m x12 x14).bind fun x79 =>
        some x79
      else
        bif x14.1 == (2 : Int) then
          (F_image_Apply.i33s1 m x12 x14).bind fun x85 =>
          some ((0 : Int), x85)
        else
          bif x14.1 == (3 : Int) then
            (iter m (F_image_Apply.i34l6 m x12 (x12.2.2.2.1.length : Int)) ((0 : Int), x12.2.1, x12.2.2.1, x12.2.2.2.2.1, x12.2.2.2.2.2.1, x12.2.2.2.2.2.2.1, x12.2.2.2.2.2.2.2.1, x12.2.2.2.2.2.2.2.2.1, x12.2.2.2.2.2.2.2.2.2, x14.1, x14.2.1, x14.2.2.1.1, x14.2.2.1.2.1, x14.2.2.1.2.2.1, x14.2.2.1.2.2.2.1, x14.2.2.1.2.2.2.2, x14.2.2.2)).bind fun x105 =>
            some ((0 : Int), x105)
          else
            bif x14.1 == (5 : Int) then
              bif (decide ((0 : Int) ≤ x14.2.1)) && (decide (x14.2.1 < (x12.2.2.1.length : Int))) then
                bif Nat.blt x14.2.1.toNat x12.2.2.1.length then
                  some ((0 : Int), x12.2.1, (x12.2.2.1.set x14.2.1.toNat x14.2.2.2.2.2.1), x12.2.2.2)
                else none
              else none
            else some ((0 : Int), x12.2)
noncomputable def F_image_Apply.l250 (m : Fu) (a6 : List (Int × Int × ((List Int) × (List Int) × Int × Int × Int) × (List Int) × Int × Int × Bool)) (x11 : Int) (x12 : Int × Int × (List Int) × (List (Int × (List Int) × (List Int) × Int × Int × Int)) × Int × Int × Bool × (List Bool) × (List ((Int × (List Int)) × Int)) × Int) : Option (Step (Int × Int × (List Int) × (List (Int × (List Int) × (List Int) × Int × Int × Int)) × Int × Int × Bool × (List Bool) × (List ((Int × (List Int)) × Int)) × Int) ((Int × Int × Int × Int × Bool) ⊕ (Int × (List Int) × (List (Int × (List Int) × (List Int) × Int × Int × Int)) × Int × Int × Bool × (List Bool) × (List ((Int × (List Int)) × Int)) × Int))) :=
  bif decide (x12.1 < x11) then
    bif (decide ((0 : Int) ≤ x12.1)) && (decide (x12.1 < (a6.length : Int))) then
      (F_image_Apply.i26s1 m x12 (a6.getD x12.1.toNat (0, (0, (([], ([], (0, (0, 0)))), ([], (0, (0, false)))))))).bind fun x108 =>
      bif x108.1 != (0 : Int) then
        some (.fin (Sum.inl (x108.1, (0 : Int), (0 : Int), (0 : Int), false)))
      else some (.next ((IntKind.i64.wrap (x12.1 + (1 : Int))), x108.2))
    else none
  else some (.fin (Sum.inr x12.2))
noncomputable def F_image_Apply.i38s466 (_ : Fu) (x116 : Bool) : Option (Unit ⊕ Unit) :=
  bif x116 then
    some (Sum.inl ())
  else some (Sum.inr ())
noncomputable def F_image_Apply.i38l58 (m : Fu) (x113 : Int × (List Int) × (List (Int × (List Int) × (List Int) × Int × Int × Int)) × Int × Int × Bool × (List Bool) × (List ((Int × (List Int)) × Int)) × Int) (x114 : Int) (x115 : (List (Int × (List Int) × (List Int) × Int × Int × Int)) × Int) : Option (Step ((List (Int × (List Int) × (List Int) × Int × Int × Int)) × Int) ((List (Int × (List Int) × (List Int) × Int × Int × Int)))) :=
  (F_image_Apply.i38s466 m (decide (x115.2 < x114))).bind fun x117 =>
  match x117 with
  | .inl _ =>
    bif (decide ((0 : Int) ≤ x115.2)) && (decide (x115.2 < (x113.2.2.1.length : Int))) then
      bif Nat.blt x115.2.toNat x113.2.2.1.length then
        bif (decide ((0 : Int) ≤ x115.2)) && (decide (x115.2 < (x113.2.2.2.2.2.2.1.length : Int))) then
          bif Nat.blt x115.2.toNat x113.2.2.2.2.2.2.1.length then
            bif !(x113.2.2.2.2.2.2.1.getD x115.2.toNat false) then
              let x122 := [(x113.2.2.1.getD x115.2.toNat (0, ([], ([], (0, (0, 0))))))]
              bif Nat.ble (x115.1.length + x122.length) 4294967296 then
                some (.next ((x115.1 ++ x122), (IntKind.i64.wrap (x115.2 + (1 : Int)))))
              else none
            else some (.next (x115.1, (IntKind.i64.wrap (x115.2 + (1 : Int)))))
          else none
        else none
      else none
    else none
  | .inr _ =>
    some (.fin x115.1)
noncomputable def F_image_Apply (m : Fu) (p : Int × (List Int) × (List (Int × (List Int) × (List Int) × Int × Int × Int)) × Int × Int × Bool × (List (Int × Int × ((List Int) × (List Int) × Int × Int × Int) × (List Int) × Int × Int × Bool))) : Option (Int × (List Int) × (List (Int × (List Int) × (List Int) × Int × Int × Int)) × Int × Int × Bool × Int) :=
  let a0 := p.1
  let a1 := p.2.1
  let a2 := p.2.2.1
  let a3 := p.2.2.2.1
  let a4 := p.2.2.2.2.1
  let a5 := p.2.2.2.2.2.1
  let a6 := p.2.2.2.2.2.2
  (F_image_Check m (a0, a1, a2, a3, a4, a5)).bind fun x1 =>
  bif x1 != (0 : Int) then some ((0 : Int), ([] : List Int), ([] : List (Int × (List Int) × (List Int) × Int × Int × Int)), (0 : Int), (0 : Int), false, x1) else
  (F_code_Changes m a6).bind fun x3 =>
  bif x3.2 != (0 : Int) then some ((0 : Int), ([] : List Int), ([] : List (Int × (List Int) × (List Int) × Int × Int × Int)), (0 : Int), (0 : Int), false, x3.2) else
  (C_slices_Clone_int m a1).bind fun x5 =>
  (C_slices_Clone_Kept m a2).bind fun x6 =>
  let x7 := (x6.length : Int)
  bif ((decide ((0 : Int) ≤ x7)) && (decide (x7 ≤ x7))) && (decide (x7 ≤ (4294967296 : Int))) then
    (F_image_places m x6).bind fun x9 =>
    (iter m (F_image_Apply.l250 m a6 (a6.length : Int)) ((0 : Int), a0, x5, x6, a3, a4, a5, (List.replicate x7.toNat false), x9, (x6.length : Int))).bind fun x111 =>
    match x111 with
    | .inl x112 =>
      some (x112.2.1, ([] : List Int), ([] : List (Int × (List Int) × (List Int) × Int × Int × Int)), x112.2.2.1, x112.2.2.2.1, x112.2.2.2.2, x112.1)
    | .inr x113 =>
      (iter m (F_image_Apply.i38l58 m x113 (x113.2.2.1.length : Int)) (([] : List (Int × (List Int) × (List Int) × Int × Int × Int)), (0 : Int))).bind fun x127 =>
      some (x113.1, x113.2.1, x127, x113.2.2.2.1, x113.2.2.2.2.1, x113.2.2.2.2.2.1, (0 : Int))
  else none
def F_image_Apply.ann : List (Nat × Ann) := [(30, .inl [(1, [])]),
  (126, .inl [(1, [(58, .loop ⟨[(3, false, [.own (.pr (.int .i64) (.pr .str (.pr .str (.pr (.int .u32) (.pr (.int .i64) (.int .u64)))))) 964 .wr]), (12, false, [.dat (.int .i64)])], [], [], [], 965⟩ [(.exit 0, ⟨[(3, false, [.own (.pr (.int .i64) (.pr .str (.pr .str (.pr (.int .u32) (.pr (.int .i64) (.int .u64)))))) 964 .wr])], [], [], [], 965⟩)]), (466, .jnt [(.normal, ⟨[], [], [], [], 981⟩), (.exit 0, ⟨[], [], [], [], 981⟩)])])]),
  (250, .loop ⟨[(32, false, [.dat (.int .i64)])], [(704, [.dat (.int .i64), .own (.int .i64) 800 .wr, .own (.pr (.int .i64) (.pr .str (.pr .str (.pr (.int .u32) (.pr (.int .i64) (.int .u64)))))) 801 .wr, .dat (.int .i64), .dat (.int .i64), .dat .bool, .own .bool 802 .wr, .own (.pr (.pr (.int .i64) .str) (.int .i64)) 803 (.mp true false), .dat (.int .i64)])], [], [384, 432, 576, 624], 804⟩ [(.ret, ⟨[(5, false, [.dat (.int .i64)])], [(48, [.dat (.int .i64), .cst .nils, .cst .nils, .dat (.int .i64), .dat (.int .i64), .dat .bool])], [], [384, 432, 576, 624, 704], 800⟩), (.exit 0, ⟨[], [(704, [.dat (.int .i64), .own (.int .i64) 800 .wr, .own (.pr (.int .i64) (.pr .str (.pr .str (.pr (.int .u32) (.pr (.int .i64) (.int .u64)))))) 801 .wr, .dat (.int .i64), .dat (.int .i64), .dat .bool, .own .bool 802 .wr, .own (.pr (.pr (.int .i64) .str) (.int .i64)) 803 (.mp true false), .dat (.int .i64)])], [], [384, 432, 576, 624], 804⟩)]),
  (32050, .inl [(2, [(1, .jnt [(.ret, ⟨[(4, false, [.dat (.int .i64)])], [(704, [.dat (.int .i64), .own (.int .i64) 916 .wr, .own (.pr (.int .i64) (.pr .str (.pr .str (.pr (.int .u32) (.pr (.int .i64) (.int .u64)))))) 917 .wr, .dat (.int .i64), .dat (.int .i64), .dat .bool, .own .bool 918 .wr, .own (.pr (.pr (.int .i64) .str) (.int .i64)) 919 (.mp true false), .dat (.int .i64)])], [], [800, 801, 802, 803], 920⟩)]), (6, .jnt [(.ret, ⟨[(4, false, [.dat (.int .i64)])], [(704, [.dat (.int .i64), .own (.int .i64) 948 .wr, .own (.pr (.int .i64) (.pr .str (.pr .str (.pr (.int .u32) (.pr (.int .i64) (.int .u64)))))) 949 .wr, .dat (.int .i64), .dat (.int .i64), .dat .bool, .own .bool 950 .wr, .own (.pr (.pr (.int .i64) .str) (.int .i64)) 951 (.mp true false), .dat (.int .i64)])], [], [800, 801, 802, 803, 916], 952⟩), (.normal, ⟨[], [], [], [], 948⟩)]), (14, .jnt [(.ret, ⟨[(4, false, [.dat (.int .i64)])], [], [], [], 948⟩), (.normal, ⟨[], [], [], [], 948⟩)]), (212, .jnt [(.ret, ⟨[(4, false, [.dat (.int .i64)])], [], [], [], 1012⟩), (.normal, ⟨[], [], [], [], 1012⟩)]), (854, .inl [(2, [(6, .loop ⟨[(12, false, [.dat (.int .i64)])], [(704, [.dat (.int .i64), .own (.int .i64) 1268 .wr, .cst (.own (.pr (.int .i64) (.pr .str (.pr .str (.pr (.int .u32) (.pr (.int .i64) (.int .u64)))))) 801), .dat (.int .i64), .dat (.int .i64), .dat .bool, .own .bool 1269 .wr, .own (.pr (.pr (.int .i64) .str) (.int .i64)) 1270 (.mp true false), .dat (.int .i64)]), (916, [.dat (.int .u8), .dat (.int .i64), .dat .str, .dat .str, .dat (.int .u32), .dat (.int .i64), .dat (.int .u64), .dat .str, .dat (.int .u8), .dat (.int .i64), .dat .bool])], [], [800, 802, 803], 1271⟩ [(.exit 0, ⟨[], [(704, [.dat (.int .i64), .own (.int .i64) 1268 .wr, .own (.pr (.int .i64) (.pr .str (.pr .str (.pr (.int .u32) (.pr (.int .i64) (.int .u64)))))) 1269 .wr, .dat (.int .i64), .dat (.int .i64), .dat .bool, .own .bool 1270 .wr, .own (.pr (.pr (.int .i64) .str) (.int .i64)) 1271 (.mp true false), .dat (.int .i64)])], [], [800, 801, 802, 803, 916], 1272⟩)]), (50, .jnt [(.normal, ⟨[], [], [], [], 1287⟩), (.exit 0, ⟨[], [], [], [], 1287⟩)]), (818, .jnt [(.normal, ⟨[(29, false, [.dat .bool])], [(916, [.dat (.int .u8), .dat (.int .i64), .dat .str, .dat .str, .dat (.int .u32), .dat (.int .i64), .dat (.int .u64), .dat .str, .dat (.int .u8), .dat (.int .i64), .dat .bool])], [], [], 1383⟩)]), (1638, .inl [(7, [(1, .jnt [(.normal, ⟨[], [(704, [.dat (.int .i64), .own (.int .i64) 1495 .wr, .cst (.own (.pr (.int .i64) (.pr .str (.pr .str (.pr (.int .u32) (.pr (.int .i64) (.int .u64)))))) 801), .dat (.int .i64), .dat (.int .i64), .dat .bool, .own .bool 1496 .wr, .own (.pr (.pr (.int .i64) .str) (.int .i64)) 1497 (.mp true false), .dat (.int .i64)])], [], [1268, 1269, 1270], 1498⟩)])])])])]), (860, .jnt [(.ret, ⟨[(4, false, [.dat (.int .i64)])], [], [], [], 1044⟩), (.normal, ⟨[], [], [], [], 1044⟩)]), (980, .inl [(5, [(1, .jnt [(.ret, ⟨[(6, false, [.dat (.int .i64)])], [(704, [.dat (.int .i64), .own (.int .i64) 1092 .wr, .own (.pr (.int .i64) (.pr .str (.pr .str (.pr (.int .u32) (.pr (.int .i64) (.int .u64)))))) 1093 .wr, .dat (.int .i64), .dat (.int .i64), .dat .bool, .own .bool 1094 .wr, .own (.pr (.pr (.int .i64) .str) (.int .i64)) 1095 (.mp true false), .dat (.int .i64)])], [], [800, 801, 802, 803], 1096⟩)]), (6, .jnt [(.ret, ⟨[(6, false, [.dat (.int .i64)])], [], [], [], 1124⟩), (.normal, ⟨[], [], [], [], 1124⟩)]), (30, .inl [(2, [(1, .jnt [(.normal, ⟨[], [(704, [.dat (.int .i64), .own (.int .i64) 1252 .wr, .own (.pr (.int .i64) (.pr .str (.pr .str (.pr (.int .u32) (.pr (.int .i64) (.int .u64)))))) 1253 .wr, .dat (.int .i64), .dat (.int .i64), .dat .bool, .own .bool 1254 .wr, .own (.pr (.pr (.int .i64) .str) (.int .i64)) 1255 (.mp true false), .dat (.int .i64)])], [], [800, 801, 802, 803], 1256⟩)])])]), (62, .jnt [(.ret, ⟨[(6, false, [.dat (.int .i64)])], [], [], [], 1256⟩), (.normal, ⟨[], [], [], [], 1256⟩)]), (126, .jnt [(.ret, ⟨[(6, false, [.dat (.int .i64)])], [], [], [], 1256⟩), (.normal, ⟨[], [], [], [], 1256⟩)])])]), (1966, .inl [(6, [(1, .jnt [(.normal, ⟨[], [(704, [.dat (.int .i64), .own (.int .i64) 1140 .wr, .own (.pr (.int .i64) (.pr .str (.pr .str (.pr (.int .u32) (.pr (.int .i64) (.int .u64)))))) 1141 .wr, .dat (.int .i64), .dat (.int .i64), .dat .bool, .own .bool 1142 .wr, .own (.pr (.pr (.int .i64) .str) (.int .i64)) 1143 (.mp true false), .dat (.int .i64)])], [], [800, 801, 802, 803], 1144⟩)])])]), (7870, .inl [(2, [(6, .loop ⟨[(12, false, [.dat (.int .i64)])], [(704, [.dat (.int .i64), .own (.int .i64) 1220 .wr, .cst (.own (.pr (.int .i64) (.pr .str (.pr .str (.pr (.int .u32) (.pr (.int .i64) (.int .u64)))))) 801), .dat (.int .i64), .dat (.int .i64), .dat .bool, .own .bool 1221 .wr, .own (.pr (.pr (.int .i64) .str) (.int .i64)) 1222 (.mp true false), .dat (.int .i64)]), (916, [.dat (.int .u8), .dat (.int .i64), .dat .str, .dat .str, .dat (.int .u32), .dat (.int .i64), .dat (.int .u64), .dat .str, .dat (.int .u8), .dat (.int .i64), .dat .bool])], [], [800, 802, 803], 1223⟩ [(.exit 0, ⟨[], [(704, [.dat (.int .i64), .own (.int .i64) 1220 .wr, .own (.pr (.int .i64) (.pr .str (.pr .str (.pr (.int .u32) (.pr (.int .i64) (.int .u64)))))) 1221 .wr, .dat (.int .i64), .dat (.int .i64), .dat .bool, .own .bool 1222 .wr, .own (.pr (.pr (.int .i64) .str) (.int .i64)) 1223 (.mp true false), .dat (.int .i64)])], [], [800, 801, 802, 803, 916], 1224⟩)]), (50, .jnt [(.normal, ⟨[], [], [], [], 1239⟩), (.exit 0, ⟨[], [], [], [], 1239⟩)]), (818, .jnt [(.normal, ⟨[(29, false, [.dat .bool])], [(916, [.dat (.int .u8), .dat (.int .i64), .dat .str, .dat .str, .dat (.int .u32), .dat (.int .i64), .dat (.int .u64), .dat .str, .dat (.int .u8), .dat (.int .i64), .dat .bool])], [], [], 1335⟩)]), (1638, .inl [(7, [(1, .jnt [(.normal, ⟨[], [(704, [.dat (.int .i64), .own (.int .i64) 1447 .wr, .cst (.own (.pr (.int .i64) (.pr .str (.pr .str (.pr (.int .u32) (.pr (.int .i64) (.int .u64)))))) 801), .dat (.int .i64), .dat (.int .i64), .dat .bool, .own .bool 1448 .wr, .own (.pr (.pr (.int .i64) .str) (.int .i64)) 1449 (.mp true false), .dat (.int .i64)])], [], [1220, 1221, 1222], 1450⟩)])])])])])])])]
def F_image_Apply.sig : Sig := ⟨[.val true [.int .i64, .sl (.int .i64), .sl (.pr (.int .i64) (.pr .str (.pr .str (.pr (.int .u32) (.pr (.int .i64) (.int .u64)))))), .int .i64, .int .i64, .bool], .val false [.sl (.pr (.int .u8) (.pr (.int .i64) (.pr (.pr .str (.pr .str (.pr (.int .u32) (.pr (.int .i64) (.int .u64))))) (.pr .str (.pr (.int .u8) (.pr (.int .i64) .bool))))))]], [(true, [.dat (.int .i64), .own (.int .i64) 0 .wr, .own (.pr (.int .i64) (.pr .str (.pr .str (.pr (.int .u32) (.pr (.int .i64) (.int .u64)))))) 0 .wr, .dat (.int .i64), .dat (.int .i64), .dat .bool]), (false, [.dat (.int .i64)])]⟩
noncomputable def F_image_Apply.S : Summ := ⟨37, F_image_Apply.sig, F_image_Apply⟩
noncomputable def F_image_Apply.G : List Summ := [F_image_Check.S, F_code_Changes.S, C_slices_Clone_int.S, C_slices_Clone_Kept.S, F_image_places.S, F_image_state_do_c1.S, F_image_size.S, F_image_due.S, F_image_state_do_c2.S]
theorem F_image_Apply.eq : absF Tryz.prog F_image_Apply.G F_image_Apply.ann F_image_Apply.sig Tryz.f37 = F_image_Apply := by kernel_rfl
theorem F_image_Apply.sound : Sound Tryz.prog F_image_Apply.S := absF_sound (fn := Tryz.f37) (Γ := F_image_Apply.G) (all_cons F_image_Check.sound (all_cons F_code_Changes.sound (all_cons C_slices_Clone_int.sound (all_cons C_slices_Clone_Kept.sound (all_cons F_image_places.sound (all_cons F_image_state_do_c1.sound (all_cons F_image_size.sound (all_cons F_image_due.sound (all_cons F_image_state_do_c2.sound all_nil))))))))) mix (by kernel_rfl) (by kernel_rfl) (fun m p => congrFun (congrFun F_image_Apply.eq m) p)
/-! ### cloakroom/promote.turn -/
noncomputable def F_promote_turn (m : Fu) (p : Int × (List Int) × (List (Int × (List Int) × (List Int) × Int × Int × Int)) × Int × Int × Bool × Int × Bool) : Option (Int × (List Int) × (List (Int × (List Int) × (List Int) × Int × Int × Int)) × Int × Int × Bool × (List (Int × Int × ((List Int) × (List Int) × Int × Int × Int) × (List Int) × Int × Int × Bool)) × Int) :=
  let a0 := p.1
  let a1 := p.2.1
  let a2 := p.2.2.1
  let a3 := p.2.2.2.1
  let a4 := p.2.2.2.2.1
  let a5 := p.2.2.2.2.2.1
  let a6 := p.2.2.2.2.2.2.1
  let a7 := p.2.2.2.2.2.2.2
  let x1 := [((6 : Int), ((0 : Int), ((([] : List Int), (([] : List Int), ((0 : Int), ((0 : Int), (0 : Int))))), (([] : List Int), ((0 : Int), (a6, a7))))))]
  (F_image_Apply m (a0, a1, a2, a3, a4, a5, x1)).bind fun x2 =>
  some (x2.1, x2.2.1, x2.2.2.1, x2.2.2.2.1, x2.2.2.2.2.1, x2.2.2.2.2.2.1, x1, x2.2.2.2.2.2.2)
def F_promote_turn.ann : List (Nat × Ann) := []
def F_promote_turn.sig : Sig := ⟨[.val true [.int .i64, .sl (.int .i64), .sl (.pr (.int .i64) (.pr .str (.pr .str (.pr (.int .u32) (.pr (.int .i64) (.int .u64)))))), .int .i64, .int .i64, .bool], .val false [.int .i64], .val false [.bool]], [(true, [.dat (.int .i64), .own (.int .i64) 0 .wr, .own (.pr (.int .i64) (.pr .str (.pr .str (.pr (.int .u32) (.pr (.int .i64) (.int .u64)))))) 0 .wr, .dat (.int .i64), .dat (.int .i64), .dat .bool]), (false, [.own (.pr (.int .u8) (.pr (.int .i64) (.pr (.pr .str (.pr .str (.pr (.int .u32) (.pr (.int .i64) (.int .u64))))) (.pr .str (.pr (.int .u8) (.pr (.int .i64) .bool)))))) 0 .wr]), (false, [.dat (.int .i64)])]⟩
noncomputable def F_promote_turn.S : Summ := ⟨26, F_promote_turn.sig, F_promote_turn⟩
noncomputable def F_promote_turn.G : List Summ := [F_image_Apply.S]
theorem F_promote_turn.eq : absF Tryz.prog F_promote_turn.G F_promote_turn.ann F_promote_turn.sig Tryz.f26 = F_promote_turn := by kernel_rfl
theorem F_promote_turn.sound : Sound Tryz.prog F_promote_turn.S := absF_sound (fn := Tryz.f26) (Γ := F_promote_turn.G) (all_cons F_image_Apply.sound all_nil) mix (by kernel_rfl) (by kernel_rfl) (fun m p => congrFun (congrFun F_promote_turn.eq m) p)
/-! ### cloakroom/promote.Up -/
noncomputable def F_promote_Up (m : Fu) (p : Int × Int × Int × (List Int) × (List (Int × (List Int) × (List Int) × Int × Int × Int)) × Int × Int × Bool × Int) : Option (Int × Int × Int × (List (List Int)) × Int × (List Int) × (List (Int × (List Int) × (List Int) × Int × Int × Int)) × Int × Int × Bool × (List (Int × Int × ((List Int) × (List Int) × Int × Int × Int) × (List Int) × Int × Int × Bool)) × Int) :=
  let a0 := p.1
  let a1 := p.2.1
  let a2 := p.2.2.1
  let a3 := p.2.2.2.1
  let a4 := p.2.2.2.2.1
  let a5 := p.2.2.2.2.2.1
  let a6 := p.2.2.2.2.2.2.1
  let a7 := p.2.2.2.2.2.2.2.1
  let a8 := p.2.2.2.2.2.2.2.2
  (F_follow_Check m (a0, a1, a2, a3, a4, a5, a6, a7)).bind fun x1 =>
  bif x1 != (0 : Int) then some ((0 : Int), (0 : Int), (0 : Int), ([] : List (List Int)), (0 : Int), ([] : List Int), ([] : List (Int × (List Int) × (List Int) × Int × Int × Int)), (0 : Int), (0 : Int), false, ([] : List (Int × Int × ((List Int) × (List Int) × Int × Int × Int) × (List Int) × Int × Int × Bool)), x1) else
  (F_promote_Next m (a0, a8)).bind fun x3 =>
  bif x3.2 != (0 : Int) then some ((0 : Int), (0 : Int), (0 : Int), ([] : List (List Int)), (0 : Int), ([] : List Int), ([] : List (Int × (List Int) × (List Int) × Int × Int × Int)), (0 : Int), (0 : Int), false, ([] : List (Int × Int × ((List Int) × (List Int) × Int × Int × Int) × (List Int) × Int × Int × Bool)), x3.2) else
  (F_numbers_New m (x3.1, a1)).bind fun x5 =>
  bif x5.2.2.2.2 != (0 : Int) then some ((0 : Int), (0 : Int), (0 : Int), ([] : List (List Int)), (0 : Int), ([] : List Int), ([] : List (Int × (List Int) × (List Int) × Int × Int × Int)), (0 : Int), (0 : Int), false, ([] : List (Int × Int × ((List Int) × (List Int) × Int × Int × Int) × (List Int) × Int × Int × Bool)), x5.2.2.2.2) else
  (F_promote_turn m (a2, a3, a4, a5, a6, a7, x3.1, true)).bind fun x7 =>
  some (x5.1, x5.2.1, x5.2.2.1, x5.2.2.2.1, x7)
def F_promote_Up.ann : List (Nat × Ann) := []
def F_promote_Up.sig : Sig := ⟨[.val true [.int .i64, .int .i64, .int .i64, .sl (.int .i64), .sl (.pr (.int .i64) (.pr .str (.pr .str (.pr (.int .u32) (.pr (.int .i64) (.int .u64)))))), .int .i64, .int .i64, .bool], .val false [.int .i64]], [(true, [.dat (.int .i64), .dat (.int .i64), .dat (.int .i64), .dat (.sl (.sl (.int .u8)))]), (true, [.dat (.int .i64), .own (.int .i64) 0 .wr, .own (.pr (.int .i64) (.pr .str (.pr .str (.pr (.int .u32) (.pr (.int .i64) (.int .u64)))))) 0 .wr, .dat (.int .i64), .dat (.int .i64), .dat .bool]), (false, [.own (.pr (.int .u8) (.pr (.int .i64) (.pr (.pr .str (.pr .str (.pr (.int .u32) (.pr (.int .i64) (.int .u64))))) (.pr .str (.pr (.int .u8) (.pr (.int .i64) .bool)))))) 0 .wr]), (false, [.dat (.int .i64)])]⟩
noncomputable def F_promote_Up.S : Summ := ⟨13, F_promote_Up.sig, F_promote_Up⟩
noncomputable def F_promote_Up.G : List Summ := [F_follow_Check.S, F_promote_Next.S, F_numbers_New.S, F_promote_turn.S]
theorem F_promote_Up.eq : absF Tryz.prog F_promote_Up.G F_promote_Up.ann F_promote_Up.sig Tryz.f13 = F_promote_Up := by kernel_rfl
theorem F_promote_Up.sound : Sound Tryz.prog F_promote_Up.S := absF_sound (fn := Tryz.f13) (Γ := F_promote_Up.G) (all_cons F_follow_Check.sound (all_cons F_promote_Next.sound (all_cons F_numbers_New.sound (all_cons F_promote_turn.sound all_nil)))) mix (by kernel_rfl) (by kernel_rfl) (fun m p => congrFun (congrFun F_promote_Up.eq m) p)
/-! ### cloakroom/cloakroomref21.quotas -/
noncomputable def F_ref21_quotas.l58 (_ : Fu) (a0 : List Int) (x5 : Int) : Option (Step Int (Bool ⊕ Unit)) :=
  bif decide (x5 < (a0.length : Int)) then
    bif (decide ((0 : Int) ≤ x5)) && (decide (x5 < (a0.length : Int))) then
      bif decide ((a0.getD x5.toNat 0) < (0 : Int)) then some (.fin (Sum.inl false)) else
      bif (decide ((0 : Int) ≤ x5)) && (decide (x5 < (a0.length : Int))) then
        bif decide ((16 : Int) < (a0.getD x5.toNat 0)) then
          some (.fin (Sum.inl false))
        else some (.next (IntKind.i64.wrap (x5 + (1 : Int))))
      else none
    else none
  else some (.fin (Sum.inr ()))
noncomputable def F_ref21_quotas (m : Fu) (p : List Int) : Option (Bool) :=
  let a0 := p
  bif decide ((a0.length : Int) < (1 : Int)) then some false else
  bif decide ((4 : Int) < (a0.length : Int)) then some false else
  (iter m (F_ref21_quotas.l58 m a0) (0 : Int)).bind fun x13 =>
  match x13 with
  | .inl x14 =>
    some x14
  | .inr _ =>
    some true
def F_ref21_quotas.ann : List (Nat × Ann) := [(58, .loop ⟨[(3, false, [.dat (.int .i64)])], [], [], [], 176⟩ [(.ret, ⟨[(2, false, [.dat .bool])], [], [], [], 176⟩), (.exit 0, ⟨[], [], [], [], 176⟩)])]
def F_ref21_quotas.sig : Sig := ⟨[.val false [.sl (.int .i64)]], [(false, [.dat .bool])]⟩
noncomputable def F_ref21_quotas.S : Summ := ⟨50, F_ref21_quotas.sig, F_ref21_quotas⟩
noncomputable def F_ref21_quotas.G : List Summ := []
theorem F_ref21_quotas.eq : absF Tryz.prog F_ref21_quotas.G F_ref21_quotas.ann F_ref21_quotas.sig Tryz.f50 = F_ref21_quotas := by kernel_rfl
theorem F_ref21_quotas.sound : Sound Tryz.prog F_ref21_quotas.S := absF_sound (fn := Tryz.f50) (Γ := F_ref21_quotas.G) all_nil mix (by kernel_rfl) (by kernel_rfl) (fun m p => congrFun (congrFun F_ref21_quotas.eq m) p)
/-! ### cloakroom/cloakroomref01.Key -/
noncomputable def F_ref01_Key (_ : Fu) (p : List Int) : Option (Bool) :=
  let a0 := p
  bif decide ((1 : Int) ≤ (a0.length : Int)) then
    some (decide ((a0.length : Int) ≤ (32 : Int)))
  else some false
def F_ref01_Key.ann : List (Nat × Ann) := []
def F_ref01_Key.sig : Sig := ⟨[.val false [.str]], [(false, [.dat .bool])]⟩
noncomputable def F_ref01_Key.S : Summ := ⟨69, F_ref01_Key.sig, F_ref01_Key⟩
noncomputable def F_ref01_Key.G : List Summ := []
theorem F_ref01_Key.eq : absF Tryz.prog F_ref01_Key.G F_ref01_Key.ann F_ref01_Key.sig Tryz.f69 = F_ref01_Key := by kernel_rfl
theorem F_ref01_Key.sound : Sound Tryz.prog F_ref01_Key.S := absF_sound (fn := Tryz.f69) (Γ := F_ref01_Key.G) all_nil mix (by kernel_rfl) (by kernel_rfl) (fun m p => congrFun (congrFun F_ref01_Key.eq m) p)
/-! ### cloakroom/cloakroomref01.Item -/
noncomputable def F_ref01_Item (m : Fu) (p : (List Int) × (List Int) × Int × Int × Int) : Option (Bool) :=
  let a0 := p.1
  let a1 := p.2.1
  let a3 := p.2.2.2.1
  (F_ref01_Key m a0).bind fun x1 =>
  bif x1 then
    bif decide ((a1.length : Int) ≤ (512 : Int)) then
      bif decide ((0 : Int) ≤ a3) then
        some (decide (a3 ≤ (1099511627776 : Int)))
      else some false
    else some false
  else some false
def F_ref01_Item.ann : List (Nat × Ann) := []
def F_ref01_Item.sig : Sig := ⟨[.val true [.str, .str, .int .u32, .int .i64, .int .u64]], [(false, [.dat .bool])]⟩
noncomputable def F_ref01_Item.S : Summ := ⟨51, F_ref01_Item.sig, F_ref01_Item⟩
noncomputable def F_ref01_Item.G : List Summ := [F_ref01_Key.S]
theorem F_ref01_Item.eq : absF Tryz.prog F_ref01_Item.G F_ref01_Item.ann F_ref01_Item.sig Tryz.f51 = F_ref01_Item := by kernel_rfl
theorem F_ref01_Item.sound : Sound Tryz.prog F_ref01_Item.S := absF_sound (fn := Tryz.f51) (Γ := F_ref01_Item.G) (all_cons F_ref01_Key.sound all_nil) mix (by kernel_rfl) (by kernel_rfl) (fun m p => congrFun (congrFun F_ref01_Item.eq m) p)
/-! ### cloakroom/cloakroomref21.Size -/
noncomputable def F_ref21_Size (_ : Fu) (p : (List Int) × (List Int) × Int × Int × Int) : Option (Int) :=
  let a0 := p.1
  let a1 := p.2.1
  some (IntKind.i64.wrap ((IntKind.i64.wrap ((8 : Int) + (a0.length : Int))) + (a1.length : Int)))
def F_ref21_Size.ann : List (Nat × Ann) := []
def F_ref21_Size.sig : Sig := ⟨[.val true [.str, .str, .int .u32, .int .i64, .int .u64]], [(false, [.dat (.int .i64)])]⟩
noncomputable def F_ref21_Size.S : Summ := ⟨52, F_ref21_Size.sig, F_ref21_Size⟩
noncomputable def F_ref21_Size.G : List Summ := []
theorem F_ref21_Size.eq : absF Tryz.prog F_ref21_Size.G F_ref21_Size.ann F_ref21_Size.sig Tryz.f52 = F_ref21_Size := by kernel_rfl
theorem F_ref21_Size.sound : Sound Tryz.prog F_ref21_Size.S := absF_sound (fn := Tryz.f52) (Γ := F_ref21_Size.G) all_nil mix (by kernel_rfl) (by kernel_rfl) (fun m p => congrFun (congrFun F_ref21_Size.eq m) p)
/-! ### cloakroom/cloakroomref20.Due -/
noncomputable def F_ref20_Due (_ : Fu) (p : (List Int) × (List Int) × Int × Int × Int × Int) : Option (Bool) :=
  let a3 := p.2.2.2.1
  let a5 := p.2.2.2.2.2
  bif a3 != (0 : Int) then
    some (decide (a3 ≤ a5))
  else some false
def F_ref20_Due.ann : List (Nat × Ann) := []
def F_ref20_Due.sig : Sig := ⟨[.val true [.str, .str, .int .u32, .int .i64, .int .u64], .val false [.int .i64]], [(false, [.dat .bool])]⟩
noncomputable def F_ref20_Due.S : Summ := ⟨53, F_ref20_Due.sig, F_ref20_Due⟩
noncomputable def F_ref20_Due.G : List Summ := []
theorem F_ref20_Due.eq : absF Tryz.prog F_ref20_Due.G F_ref20_Due.ann F_ref20_Due.sig Tryz.f53 = F_ref20_Due := by kernel_rfl
theorem F_ref20_Due.sound : Sound Tryz.prog F_ref20_Due.S := absF_sound (fn := Tryz.f53) (Γ := F_ref20_Due.G) all_nil mix (by kernel_rfl) (by kernel_rfl) (fun m p => congrFun (congrFun F_ref20_Due.eq m) p)
/-! ### cloakroom/cloakroomref21.Check -/
noncomputable def F_ref21_Check.l14926 (_ : Fu) (a2 : List (Int × (List Int) × (List Int) × Int × Int × Int)) (x11 : Int) (x14 : Int × (List Int) × (List Int) × Int × Int × Int) (x23 : Int) : Option (Step Int (Int ⊕ Unit)) :=
  bif decide (x23 < x11) then
    bif (decide ((0 : Int) ≤ x23)) && (decide (x23 < (a2.length : Int))) then
      bif ((a2.getD x23.toNat (0, ([], ([], (0, (0, 0)))))).1) == x14.1 then
        bif (decide ((0 : Int) ≤ x23)) && (decide (x23 < (a2.length : Int))) then
          bif (((a2.getD x23.toNat (0, ([], ([], (0, (0, 0)))))).2).1) == x14.2.1 then
            some (.fin (Sum.inl (8 : Int)))
          else some (.next (IntKind.i64.wrap (x23 + (1 : Int))))
        else none
      else some (.next (IntKind.i64.wrap (x23 + (1 : Int))))
    else none
  else some (.fin (Sum.inr ()))
noncomputable def F_ref21_Check.l58 (m : Fu) (a0 : Int) (a1 : List Int) (a2 : List (Int × (List Int) × (List Int) × Int × Int × Int)) (x11 : Int) : Option (Step Int (Int ⊕ Unit)) :=
  bif decide (x11 < (a2.length : Int)) then
    bif (decide ((0 : Int) ≤ x11)) && (decide (x11 < (a2.length : Int))) then
      let x14 := a2.getD x11.toNat (0, ([], ([], (0, (0, 0)))))
      bif decide (x14.1 < (0 : Int)) then some (.fin (Sum.inl (8 : Int))) else
      bif decide ((a1.length : Int) ≤ x14.1) then some (.fin (Sum.inl (8 : Int))) else
      (F_ref01_Item m x14.2).bind fun x18 =>
      bif !x18 then some (.fin (Sum.inl (8 : Int))) else
      (F_ref21_Size m x14.2).bind fun x20 =>
      bif decide ((256 : Int) < x20) then some (.fin (Sum.inl (8 : Int))) else
      (F_ref20_Due m (x14.2.1, x14.2.2.1, x14.2.2.2.1, x14.2.2.2.2.1, x14.2.2.2.2.2, a0)).bind fun x22 =>
      bif x22 then some (.fin (Sum.inl (8 : Int))) else
      (iter m (F_ref21_Check.l14926 m a2 x11 x14) (0 : Int)).bind fun x31 =>
      match x31 with
      | .inl x32 =>
        some (.fin (Sum.inl x32))
      | .inr _ =>
        some (.next (IntKind.i64.wrap (x11 + (1 : Int))))
    else none
  else some (.fin (Sum.inr ()))
noncomputable def F_ref21_Check (m : Fu) (p : Int × (List Int) × (List (Int × (List Int) × (List Int) × Int × Int × Int)) × Int × Int × Bool) : Option (Int) :=
  let a0 := p.1
  let a1 := p.2.1
  let a2 := p.2.2.1
  let a3 := p.2.2.2.1
  let a4 := p.2.2.2.2.1
  bif decide (a0 < (0 : Int)) then some (8 : Int) else
  bif decide ((1099511627776 : Int) < a0) then some (8 : Int) else
  (F_ref21_quotas m a1).bind fun x3 =>
  bif !x3 then some (8 : Int) else
  bif decide ((1024 : Int) < (a2.length : Int)) then some (8 : Int) else
  bif decide (a3 < (0 : Int)) then some (8 : Int) else
  bif decide ((2147483647 : Int) < a3) then some (8 : Int) else
  bif decide (a4 < (0 : Int)) then some (8 : Int) else
  bif decide ((2147483647 : Int) < a4) then some (8 : Int) else
  (iter m (F_ref21_Check.l58 m a0 a1 a2) (0 : Int)).bind fun x35 =>
  match x35 with
  | .inl x36 =>
    some x36
  | .inr _ =>
    some (0 : Int)
def F_ref21_Check.ann : List (Nat × Ann) := [(58, .loop ⟨[(3, false, [.dat (.int .i64)])], [], [], [], 704⟩ [(.ret, ⟨[(2, false, [.dat (.int .i64)])], [], [], [], 704⟩), (.exit 0, ⟨[], [], [], [], 704⟩)]),
  (14926, .loop ⟨[(5, false, [.dat (.int .i64)])], [], [], [], 1392⟩ [(.ret, ⟨[(2, false, [.dat (.int .i64)])], [], [], [], 1392⟩), (.exit 2, ⟨[], [], [], [], 1392⟩)])]
def F_ref21_Check.sig : Sig := ⟨[.val true [.int .i64, .sl (.int .i64), .sl (.pr (.int .i64) (.pr .str (.pr .str (.pr (.int .u32) (.pr (.int .i64) (.int .u64)))))), .int .i64, .int .i64, .bool]], [(false, [.dat (.int .i64)])]⟩
noncomputable def F_ref21_Check.S : Summ := ⟨34, F_ref21_Check.sig, F_ref21_Check⟩
noncomputable def F_ref21_Check.G : List Summ := [F_ref21_quotas.S, F_ref01_Item.S, F_ref21_Size.S, F_ref20_Due.S]
theorem F_ref21_Check.eq : absF Tryz.prog F_ref21_Check.G F_ref21_Check.ann F_ref21_Check.sig Tryz.f34 = F_ref21_Check := by kernel_rfl
theorem F_ref21_Check.sound : Sound Tryz.prog F_ref21_Check.S := absF_sound (fn := Tryz.f34) (Γ := F_ref21_Check.G) (all_cons F_ref21_quotas.sound (all_cons F_ref01_Item.sound (all_cons F_ref21_Size.sound (all_cons F_ref20_Due.sound all_nil)))) mix (by kernel_rfl) (by kernel_rfl) (fun m p => congrFun (congrFun F_ref21_Check.eq m) p)
/-! ### cloakroom/cloakroomref25.Check -/
noncomputable def F_ref25_Check (m : Fu) (p : Int × Int × Int × (List Int) × (List (Int × (List Int) × (List Int) × Int × Int × Int)) × Int × Int × Bool) : Option (Int) :=
  let a0 := p.1
  let a1 := p.2.1
  let a2 := p.2.2.1
  let a3 := p.2.2.2.1
  let a4 := p.2.2.2.2.1
  let a5 := p.2.2.2.2.2.1
  let a6 := p.2.2.2.2.2.2.1
  let a7 := p.2.2.2.2.2.2.2
  bif decide (a0 < (0 : Int)) then some (8 : Int) else
  bif decide ((2147483647 : Int) < a0) then some (8 : Int) else
  bif decide (a1 < (0 : Int)) then some (8 : Int) else
  bif decide ((2147483647 : Int) < a1) then some (8 : Int) else
  (F_ref21_Check m (a2, a3, a4, a5, a6, a7)).bind fun x5 =>
  bif x5 != (0 : Int) then some (8 : Int) else
  bif a5 != a0 then some (8 : Int) else
  bif a6 != a1 then some (8 : Int) else
  bif a7 then
    some (8 : Int)
  else some (0 : Int)
def F_ref25_Check.ann : List (Nat × Ann) := []
def F_ref25_Check.sig : Sig := ⟨[.val true [.int .i64, .int .i64, .int .i64, .sl (.int .i64), .sl (.pr (.int .i64) (.pr .str (.pr .str (.pr (.int .u32) (.pr (.int .i64) (.int .u64)))))), .int .i64, .int .i64, .bool]], [(false, [.dat (.int .i64)])]⟩
noncomputable def F_ref25_Check.S : Summ := ⟨27, F_ref25_Check.sig, F_ref25_Check⟩
noncomputable def F_ref25_Check.G : List Summ := [F_ref21_Check.S]
theorem F_ref25_Check.eq : absF Tryz.prog F_ref25_Check.G F_ref25_Check.ann F_ref25_Check.sig Tryz.f27 = F_ref25_Check := by kernel_rfl
theorem F_ref25_Check.sound : Sound Tryz.prog F_ref25_Check.S := absF_sound (fn := Tryz.f27) (Γ := F_ref25_Check.G) (all_cons F_ref21_Check.sound all_nil) mix (by kernel_rfl) (by kernel_rfl) (fun m p => congrFun (congrFun F_ref25_Check.eq m) p)
/-! ### cloakroom/cloakroomref26.term -/
noncomputable def F_ref26_term (_ : Fu) (p : Int × Bool) : Option (List (Int × Int × ((List Int) × (List Int) × Int × Int × Int) × (List Int) × Int × Int × Bool)) :=
  let a0 := p.1
  let a1 := p.2
  some ([((6 : Int), ((0 : Int), ((([] : List Int), (([] : List Int), ((0 : Int), ((0 : Int), (0 : Int))))), (([] : List Int), ((0 : Int), (a0, a1))))))])
def F_ref26_term.ann : List (Nat × Ann) := []
def F_ref26_term.sig : Sig := ⟨[.val false [.int .i64], .val false [.bool]], [(false, [.own (.pr (.int .u8) (.pr (.int .i64) (.pr (.pr .str (.pr .str (.pr (.int .u32) (.pr (.int .i64) (.int .u64))))) (.pr .str (.pr (.int .u8) (.pr (.int .i64) .bool)))))) 0 .wr])]⟩
noncomputable def F_ref26_term.S : Summ := ⟨28, F_ref26_term.sig, F_ref26_term⟩
noncomputable def F_ref26_term.G : List Summ := []
theorem F_ref26_term.eq : absF Tryz.prog F_ref26_term.G F_ref26_term.ann F_ref26_term.sig Tryz.f28 = F_ref26_term := by kernel_rfl
theorem F_ref26_term.sound : Sound Tryz.prog F_ref26_term.S := absF_sound (fn := Tryz.f28) (Γ := F_ref26_term.G) all_nil mix (by kernel_rfl) (by kernel_rfl) (fun m p => congrFun (congrFun F_ref26_term.eq m) p)
/-! ### cloakroom/cloakroomref01.Small -/
noncomputable def F_ref01_Small.l28 (_ : Fu) (x1 : Int × (List Int)) : Option (Step (Int × (List Int)) ((Int × (List Int)))) :=
  bif decide ((128 : Int) ≤ x1.1) then
    let x6 := [(IntKind.u8.wrap ((IntKind.u8.wrap (x1.1.tmod (128 : Int))) + (128 : Int)))]
    bif Nat.ble (x1.2.length + x6.length) 140737488351232 then
      some (.next ((IntKind.u64.wrap (x1.1.tdiv (128 : Int))), (x1.2 ++ x6)))
    else none
  else some (.fin x1)
noncomputable def F_ref01_Small (m : Fu) (p : Int) : Option (List Int) :=
  let a0 := p
  (iter m (F_ref01_Small.l28 m) (a0, ([] : List Int))).bind fun x9 =>
  let x11 := [(IntKind.u8.wrap x9.1)]
  bif Nat.ble (x9.2.length + x11.length) 140737488351232 then
    some (x9.2 ++ x11)
  else none
def F_ref01_Small.ann : List (Nat × Ann) := [(28, .loop ⟨[(0, false, [.dat (.int .u64)]), (3, false, [.own (.int .u8) 48 .wr])], [], [], [], 49⟩ [(.exit 0, ⟨[(0, false, [.dat (.int .u64)]), (3, false, [.own (.int .u8) 48 .wr])], [], [], [], 49⟩)])]
def F_ref01_Small.sig : Sig := ⟨[.val false [.int .u64]], [(false, [.own (.int .u8) 0 .wr])]⟩
noncomputable def F_ref01_Small.S : Summ := ⟨80, F_ref01_Small.sig, F_ref01_Small⟩
noncomputable def F_ref01_Small.G : List Summ := []
theorem F_ref01_Small.eq : absF Tryz.prog F_ref01_Small.G F_ref01_Small.ann F_ref01_Small.sig Tryz.f80 = F_ref01_Small := by kernel_rfl
theorem F_ref01_Small.sound : Sound Tryz.prog F_ref01_Small.S := absF_sound (fn := Tryz.f80) (Γ := F_ref01_Small.G) all_nil mix (by kernel_rfl) (by kernel_rfl) (fun m p => congrFun (congrFun F_ref01_Small.eq m) p)
/-! ### cloakroom/cloakroomref01.small -/
noncomputable def F_ref01_small.l58 (m : Fu) (a0 : List Int) (x1 : (List Int) × Int) : Option (Step ((List Int) × Int) ((List Int))) :=
  bif decide (x1.2 < (a0.length : Int)) then
    bif (decide ((0 : Int) ≤ x1.2)) && (decide (x1.2 < (a0.length : Int))) then
      (F_ref01_Small m (IntKind.u64.wrap (a0.getD x1.2.toNat 0))).bind fun x6 =>
      bif Nat.ble (x1.1.length + x6.length) 140737488351232 then
        some (.next ((x1.1 ++ x6), (IntKind.i64.wrap (x1.2 + (1 : Int)))))
      else none
    else none
  else some (.fin x1.1)
noncomputable def F_ref01_small (m : Fu) (p : List Int) : Option (List Int) :=
  let a0 := p
  (iter m (F_ref01_small.l58 m a0) (([] : List Int), (0 : Int))).bind fun x9 =>
  some x9
def F_ref01_small.ann : List (Nat × Ann) := [(58, .loop ⟨[(3, false, [.own (.int .u8) 64 .wr]), (4, false, [.dat (.int .i64)])], [], [], [], 65⟩ [(.exit 0, ⟨[(3, false, [.own (.int .u8) 64 .wr])], [], [], [], 65⟩)])]
def F_ref01_small.sig : Sig := ⟨[.val false [.sl (.int .i64)]], [(false, [.own (.int .u8) 0 .wr])]⟩
noncomputable def F_ref01_small.S : Summ := ⟨58, F_ref01_small.sig, F_ref01_small⟩
noncomputable def F_ref01_small.G : List Summ := [F_ref01_Small.S]
theorem F_ref01_small.eq : absF Tryz.prog F_ref01_small.G F_ref01_small.ann F_ref01_small.sig Tryz.f58 = F_ref01_small := by kernel_rfl
theorem F_ref01_small.sound : Sound Tryz.prog F_ref01_small.S := absF_sound (fn := Tryz.f58) (Γ := F_ref01_small.G) (all_cons F_ref01_Small.sound all_nil) mix (by kernel_rfl) (by kernel_rfl) (fun m p => congrFun (congrFun F_ref01_small.eq m) p)
/-! ### cloakroom/cloakroomref01.bare -/
noncomputable def F_ref01_bare.s14 (_ : Fu) (a0 : Int) (a1 : Int) (a2 : List Int) (a3 : List Int) (a4 : Int) (a5 : Int) (a6 : Int) (a7 : List Int) (a8 : Int) (a9 : Int) (a10 : Bool) : Option ((Int × Int × (List Int) × (List Int) × Int × Int × Int × (List Int) × Int × Int × Bool)) :=
  bif a0 == (1 : Int) then some (a0, a1, a2, a3, a4, a5, a6, ([] : List Int), (0 : Int), (0 : Int), false) else
  bif a0 == (2 : Int) then some (a0, a1, ([] : List Int), ([] : List Int), (0 : Int), (0 : Int), (0 : Int), a7, a8, (0 : Int), false) else
  bif a0 == (3 : Int) then some (a0, a1, ([] : List Int), ([] : List Int), (0 : Int), (0 : Int), (0 : Int), ([] : List Int), (0 : Int), (0 : Int), false) else
  bif a0 == (4 : Int) then some (a0, (0 : Int), ([] : List Int), ([] : List Int), (0 : Int), (0 : Int), (0 : Int), ([] : List Int), (0 : Int), a9, false) else
  bif a0 == (5 : Int) then some (a0, a1, ([] : List Int), ([] : List Int), (0 : Int), (0 : Int), (0 : Int), ([] : List Int), (0 : Int), a9, false) else
  bif a0 == (6 : Int) then some (a0, (0 : Int), ([] : List Int), ([] : List Int), (0 : Int), (0 : Int), (0 : Int), ([] : List Int), (0 : Int), a9, a10) else
  bif a0 == (7 : Int) then
    some (a0, (0 : Int), ([] : List Int), ([] : List Int), (0 : Int), (0 : Int), (0 : Int), ([] : List Int), (0 : Int), a9, false)
  else some (a0, (0 : Int), ([] : List Int), ([] : List Int), (0 : Int), (0 : Int), (0 : Int), ([] : List Int), (0 : Int), (0 : Int), false)
noncomputable def F_ref01_bare (m : Fu) (p : Int × Int × (List Int) × (List Int) × Int × Int × Int × (List Int) × Int × Int × Bool) : Option (Int × Int × (List Int) × (List Int) × Int × Int × Int × (List Int) × Int × Int × Bool) :=
  let a0 := p.1
  let a1 := p.2.1
  let a2 := p.2.2.1
  let a3 := p.2.2.2.1
  let a4 := p.2.2.2.2.1
  let a5 := p.2.2.2.2.2.1
  let a6 := p.2.2.2.2.2.2.1
  let a7 := p.2.2.2.2.2.2.2.1
  let a8 := p.2.2.2.2.2.2.2.2.1
  let a9 := p.2.2.2.2.2.2.2.2.2.1
  let a10 := p.2.2.2.2.2.2.2.2.2.2
  (F_ref01_bare.s14 m a0 a1 a2 a3 a4 a5 a6 a7 a8 a9 a10).bind fun x8 =>
  some x8
def F_ref01_bare.ann : List (Nat × Ann) := [(14, .jnt [(.normal, ⟨[], [(96, [.dat (.int .u8), .dat (.int .i64), .dat .str, .dat .str, .dat (.int .u32), .dat (.int .i64), .dat (.int .u64), .dat .str, .dat (.int .u8), .dat (.int .i64), .dat .bool])], [], [], 128⟩)])]
def F_ref01_bare.sig : Sig := ⟨[.val true [.int .u8, .int .i64, .str, .str, .int .u32, .int .i64, .int .u64, .str, .int .u8, .int .i64, .bool]], [(true, [.dat (.int .u8), .dat (.int .i64), .dat .str, .dat .str, .dat (.int .u32), .dat (.int .i64), .dat (.int .u64), .dat .str, .dat (.int .u8), .dat (.int .i64), .dat .bool])]⟩
noncomputable def F_ref01_bare.S : Summ := ⟨81, F_ref01_bare.sig, F_ref01_bare⟩
noncomputable def F_ref01_bare.G : List Summ := []
theorem F_ref01_bare.eq : absF Tryz.prog F_ref01_bare.G F_ref01_bare.ann F_ref01_bare.sig Tryz.f81 = F_ref01_bare := by kernel_rfl
theorem F_ref01_bare.sound : Sound Tryz.prog F_ref01_bare.S := absF_sound (fn := Tryz.f81) (Γ := F_ref01_bare.G) all_nil mix (by kernel_rfl) (by kernel_rfl) (fun m p => congrFun (congrFun F_ref01_bare.eq m) p)
/-! ### cloakroom/cloakroomref01.Tenant -/
noncomputable def F_ref01_Tenant (_ : Fu) (p : Int) : Option (Bool) :=
  let a0 := p
  bif decide ((0 : Int) ≤ a0) then
    some (decide (a0 < (4 : Int)))
  else some false
def F_ref01_Tenant.ann : List (Nat × Ann) := []
def F_ref01_Tenant.sig : Sig := ⟨[.val false [.int .i64]], [(false, [.dat .bool])]⟩
noncomputable def F_ref01_Tenant.S : Summ := ⟨82, F_ref01_Tenant.sig, F_ref01_Tenant⟩
noncomputable def F_ref01_Tenant.G : List Summ := []
theorem F_ref01_Tenant.eq : absF Tryz.prog F_ref01_Tenant.G F_ref01_Tenant.ann F_ref01_Tenant.sig Tryz.f82 = F_ref01_Tenant := by kernel_rfl
theorem F_ref01_Tenant.sound : Sound Tryz.prog F_ref01_Tenant.S := absF_sound (fn := Tryz.f82) (Γ := F_ref01_Tenant.G) all_nil mix (by kernel_rfl) (by kernel_rfl) (fun m p => congrFun (congrFun F_ref01_Tenant.eq m) p)
/-! ### cloakroom/cloakroomref01.Change -/
noncomputable def F_ref01_Change (m : Fu) (p : Int × Int × (List Int) × (List Int) × Int × Int × Int × (List Int) × Int × Int × Bool) : Option (Bool) :=
  let a0 := p.1
  let a1 := p.2.1
  let a2 := p.2.2.1
  let a3 := p.2.2.2.1
  let a4 := p.2.2.2.2.1
  let a5 := p.2.2.2.2.2.1
  let a6 := p.2.2.2.2.2.2.1
  let a7 := p.2.2.2.2.2.2.2.1
  let a8 := p.2.2.2.2.2.2.2.2.1
  let a9 := p.2.2.2.2.2.2.2.2.2.1
  let a10 := p.2.2.2.2.2.2.2.2.2.2
  (F_ref01_bare m (a0, a1, a2, a3, a4, a5, a6, a7, a8, a9, a10)).bind fun x1 =>
  bif !((x1.1 == a0) && ((x1.2.1 == a1) && (((x1.2.2.1 == a2) && ((x1.2.2.2.1 == a3) && ((x1.2.2.2.2.1 == a4) && ((x1.2.2.2.2.2.1 == a5) && ((x1.2.2.2.2.2.2.1 == a6) && true))))) && ((x1.2.2.2.2.2.2.2.1 == a7) && ((x1.2.2.2.2.2.2.2.2.1 == a8) && ((x1.2.2.2.2.2.2.2.2.2.1 == a9) && ((x1.2.2.2.2.2.2.2.2.2.2 == a10) && true))))))) then some false else
  (F_ref01_Tenant m a1).bind fun x3 =>
  bif !x3 then some false else
  bif a0 == (1 : Int) then
    (F_ref01_Item m (a2, a3, a4, a5, a6)).bind fun x6 =>
    some x6
  else
    bif a0 == (2 : Int) then
      (F_ref01_Key m a7).bind fun x8 =>
      bif x8 then
        bif a8 == (1 : Int) then
          some true
        else some (a8 == (2 : Int))
      else some false
    else
      bif a0 == (3 : Int) then some true else
      bif a0 == (4 : Int) then
        bif decide ((0 : Int) ≤ a9) then
          some (decide (a9 ≤ (1099511627776 : Int)))
        else some false
      else
        bif a0 == (5 : Int) then
          bif decide ((0 : Int) ≤ a9) then
            some (decide (a9 ≤ (16 : Int)))
          else some false
        else
          bif a0 == (6 : Int) then
            bif decide ((0 : Int) ≤ a9) then
              some (decide (a9 ≤ (2147483647 : Int)))
            else some false
          else
            bif a0 == (7 : Int) then
              bif decide ((0 : Int) ≤ a9) then
                some (decide (a9 ≤ (2147483647 : Int)))
              else some false
            else some false
def F_ref01_Change.ann : List (Nat × Ann) := []
def F_ref01_Change.sig : Sig := ⟨[.val true [.int .u8, .int .i64, .str, .str, .int .u32, .int .i64, .int .u64, .str, .int .u8, .int .i64, .bool]], [(false, [.dat .bool])]⟩
noncomputable def F_ref01_Change.S : Summ := ⟨59, F_ref01_Change.sig, F_ref01_Change⟩
noncomputable def F_ref01_Change.G : List Summ := [F_ref01_bare.S, F_ref01_Tenant.S, F_ref01_Item.S, F_ref01_Key.S]
theorem F_ref01_Change.eq : absF Tryz.prog F_ref01_Change.G F_ref01_Change.ann F_ref01_Change.sig Tryz.f59 = F_ref01_Change := by kernel_rfl
theorem F_ref01_Change.sound : Sound Tryz.prog F_ref01_Change.S := absF_sound (fn := Tryz.f59) (Γ := F_ref01_Change.G) (all_cons F_ref01_bare.sound (all_cons F_ref01_Tenant.sound (all_cons F_ref01_Item.sound (all_cons F_ref01_Key.sound all_nil)))) mix (by kernel_rfl) (by kernel_rfl) (fun m p => congrFun (congrFun F_ref01_Change.eq m) p)
/-! ### cloakroom/cloakroomref01.Text -/
noncomputable def F_ref01_Text (m : Fu) (p : List Int) : Option (List Int) :=
  let a0 := p
  (F_ref01_Small m (IntKind.u64.wrap (a0.length : Int))).bind fun x3 =>
  bif Nat.ble (x3.length + a0.length) 140737488351232 then
    some (x3 ++ a0)
  else none
def F_ref01_Text.ann : List (Nat × Ann) := []
def F_ref01_Text.sig : Sig := ⟨[.val false [.str]], [(false, [.own (.int .u8) 0 .wr])]⟩
noncomputable def F_ref01_Text.S : Summ := ⟨84, F_ref01_Text.sig, F_ref01_Text⟩
noncomputable def F_ref01_Text.G : List Summ := [F_ref01_Small.S]
theorem F_ref01_Text.eq : absF Tryz.prog F_ref01_Text.G F_ref01_Text.ann F_ref01_Text.sig Tryz.f84 = F_ref01_Text := by kernel_rfl
theorem F_ref01_Text.sound : Sound Tryz.prog F_ref01_Text.S := absF_sound (fn := Tryz.f84) (Γ := F_ref01_Text.G) (all_cons F_ref01_Small.sound all_nil) mix (by kernel_rfl) (by kernel_rfl) (fun m p => congrFun (congrFun F_ref01_Text.eq m) p)
/-! ### cloakroom/cloakroomref01.ItemBytes -/
noncomputable def F_ref01_ItemBytes (m : Fu) (p : (List Int) × (List Int) × Int × Int × Int) : Option (List Int) :=
  let a0 := p.1
  let a1 := p.2.1
  let a2 := p.2.2.1
  let a3 := p.2.2.2.1
  let a4 := p.2.2.2.2
  (F_ref01_Text m a0).bind fun x1 =>
  (F_ref01_Text m a1).bind fun x2 =>
  bif Nat.ble (x1.length + x2.length) 140737488351232 then
    let x3 := x1 ++ x2
    (F_ref01_Small m (IntKind.u64.wrap a2)).bind fun x5 =>
    bif Nat.ble (x3.length + x5.length) 140737488351232 then
      let x6 := x3 ++ x5
      (F_ref01_small m ([a3])).bind fun x8 =>
      bif Nat.ble (x6.length + x8.length) 140737488351232 then
        let x9 := x6 ++ x8
        (F_ref01_Small m a4).bind fun x10 =>
        bif Nat.ble (x9.length + x10.length) 140737488351232 then
          some (x9 ++ x10)
        else none
      else none
    else none
  else none
def F_ref01_ItemBytes.ann : List (Nat × Ann) := []
def F_ref01_ItemBytes.sig : Sig := ⟨[.val true [.str, .str, .int .u32, .int .i64, .int .u64]], [(false, [.own (.int .u8) 0 .wr])]⟩
noncomputable def F_ref01_ItemBytes.S : Summ := ⟨83, F_ref01_ItemBytes.sig, F_ref01_ItemBytes⟩
noncomputable def F_ref01_ItemBytes.G : List Summ := [F_ref01_Text.S, F_ref01_Small.S, F_ref01_small.S]
theorem F_ref01_ItemBytes.eq : absF Tryz.prog F_ref01_ItemBytes.G F_ref01_ItemBytes.ann F_ref01_ItemBytes.sig Tryz.f83 = F_ref01_ItemBytes := by kernel_rfl
theorem F_ref01_ItemBytes.sound : Sound Tryz.prog F_ref01_ItemBytes.S := absF_sound (fn := Tryz.f83) (Γ := F_ref01_ItemBytes.G) (all_cons F_ref01_Text.sound (all_cons F_ref01_Small.sound (all_cons F_ref01_small.sound all_nil))) mix (by kernel_rfl) (by kernel_rfl) (fun m p => congrFun (congrFun F_ref01_ItemBytes.eq m) p)
/-! ### cloakroom/cloakroomref01.one -/
noncomputable def F_ref01_one (m : Fu) (p : Int × Int × (List Int) × (List Int) × Int × Int × Int × (List Int) × Int × Int × Bool) : Option (List Int) :=
  let a0 := p.1
  let a1 := p.2.1
  let a2 := p.2.2.1
  let a3 := p.2.2.2.1
  let a4 := p.2.2.2.2.1
  let a5 := p.2.2.2.2.2.1
  let a6 := p.2.2.2.2.2.2.1
  let a7 := p.2.2.2.2.2.2.2.1
  let a8 := p.2.2.2.2.2.2.2.2.1
  let a9 := p.2.2.2.2.2.2.2.2.2.1
  let a10 := p.2.2.2.2.2.2.2.2.2.2
  let x1 := [a0]
  bif a0 == (1 : Int) then
    (F_ref01_small m ([a1])).bind fun x4 =>
    bif Nat.ble (x1.length + x4.length) 140737488351232 then
      let x5 := x1 ++ x4
      (F_ref01_ItemBytes m (a2, a3, a4, a5, a6)).bind fun x6 =>
      bif Nat.ble (x5.length + x6.length) 140737488351232 then
        some (x5 ++ x6)
      else none
    else none
  else
    bif a0 == (2 : Int) then
      (F_ref01_small m ([a1])).bind fun x10 =>
      bif Nat.ble (x1.length + x10.length) 140737488351232 then
        let x11 := x1 ++ x10
        (F_ref01_Text m a7).bind fun x12 =>
        bif Nat.ble (x11.length + x12.length) 140737488351232 then
          let x13 := x11 ++ x12
          let x14 := [a8]
          bif Nat.ble (x13.length + x14.length) 140737488351232 then
            some (x13 ++ x14)
          else none
        else none
      else none
    else
      bif a0 == (3 : Int) then
        (F_ref01_small m ([a1])).bind fun x18 =>
        bif Nat.ble (x1.length + x18.length) 140737488351232 then
          some (x1 ++ x18)
        else none
      else
        bif a0 == (4 : Int) then
          (F_ref01_small m ([a9])).bind fun x22 =>
          bif Nat.ble (x1.length + x22.length) 140737488351232 then
            some (x1 ++ x22)
          else none
        else
          bif a0 == (5 : Int) then
            (F_ref01_small m ([a1, a9])).bind fun x26 =>
            bif Nat.ble (x1.length + x26.length) 140737488351232 then
              some (x1 ++ x26)
            else none
          else
            bif a0 == (7 : Int) then
              (F_ref01_small m ([a9])).bind fun x30 =>
              bif Nat.ble (x1.length + x30.length) 140737488351232 then
                some (x1 ++ x30)
              else none
            else
              bif a0 == (6 : Int) then
                (F_ref01_small m ([a9])).bind fun x34 =>
                bif Nat.ble (x1.length + x34.length) 140737488351232 then
                  let x35 := x1 ++ x34
                  bif a10 then
                    bif Nat.ble (x35.length + 1) 140737488351232 then
                      some (x35 ++ ([1] : List Int))
                    else none
                  else
                    bif Nat.ble (x35.length + 1) 140737488351232 then
                      some (x35 ++ ([0] : List Int))
                    else none
                else none
              else some x1
def F_ref01_one.ann : List (Nat × Ann) := []
def F_ref01_one.sig : Sig := ⟨[.val true [.int .u8, .int .i64, .str, .str, .int .u32, .int .i64, .int .u64, .str, .int .u8, .int .i64, .bool]], [(false, [.own (.int .u8) 0 .wr])]⟩
noncomputable def F_ref01_one.S : Summ := ⟨60, F_ref01_one.sig, F_ref01_one⟩
noncomputable def F_ref01_one.G : List Summ := [F_ref01_small.S, F_ref01_ItemBytes.S, F_ref01_Text.S]
theorem F_ref01_one.eq : absF Tryz.prog F_ref01_one.G F_ref01_one.ann F_ref01_one.sig Tryz.f60 = F_ref01_one := by kernel_rfl
theorem F_ref01_one.sound : Sound Tryz.prog F_ref01_one.S := absF_sound (fn := Tryz.f60) (Γ := F_ref01_one.G) (all_cons F_ref01_small.sound (all_cons F_ref01_ItemBytes.sound (all_cons F_ref01_Text.sound all_nil))) mix (by kernel_rfl) (by kernel_rfl) (fun m p => congrFun (congrFun F_ref01_one.eq m) p)
/-! ### cloakroom/cloakroomref01.Changes -/
noncomputable def F_ref01_Changes.l122 (m : Fu) (a0 : List (Int × Int × ((List Int) × (List Int) × Int × Int × Int) × (List Int) × Int × Int × Bool)) (x6 : Int) : Option (Step Int (Int ⊕ Unit)) :=
  bif decide (x6 < (a0.length : Int)) then
    bif (decide ((0 : Int) ≤ x6)) && (decide (x6 < (a0.length : Int))) then
      let x9 := a0.getD x6.toNat (0, (0, (([], ([], (0, (0, 0)))), ([], (0, (0, false))))))
      (F_ref01_Change m (x9.1, x9.2.1, x9.2.2.1.1, x9.2.2.1.2.1, x9.2.2.1.2.2.1, x9.2.2.1.2.2.2.1, x9.2.2.1.2.2.2.2, x9.2.2.2)).bind fun x10 =>
      bif !x10 then
        some (.fin (Sum.inl (8 : Int)))
      else some (.next (IntKind.i64.wrap (x6 + (1 : Int))))
    else none
  else some (.fin (Sum.inr ()))
noncomputable def F_ref01_Changes.s1000 (_ : Fu) (a0 : List (Int × Int × ((List Int) × (List Int) × Int × Int × Int) × (List Int) × Int × Int × Bool)) (x16 : (List Int) × Int) : Option (Unit ⊕ Unit) :=
  bif decide (x16.2 < (a0.length : Int)) then
    bif decide ((x16.1.length : Int) ≤ (65536 : Int)) then
      some (Sum.inl ())
    else some (Sum.inr ())
  else some (Sum.inr ())
noncomputable def F_ref01_Changes.l250 (m : Fu) (a0 : List (Int × Int × ((List Int) × (List Int) × Int × Int × Int) × (List Int) × Int × Int × Bool)) (x16 : (List Int) × Int) : Option (Step ((List Int) × Int) ((List Int))) :=
  (F_ref01_Changes.s1000 m a0 x16).bind fun x21 =>
  match x21 with
  | .inl _ =>
    bif (decide ((0 : Int) ≤ x16.2)) && (decide (x16.2 < (a0.length : Int))) then
      let x23 := a0.getD x16.2.toNat (0, (0, (([], ([], (0, (0, 0)))), ([], (0, (0, false))))))
      (F_ref01_one m (x23.1, x23.2.1, x23.2.2.1.1, x23.2.2.1.2.1, x23.2.2.1.2.2.1, x23.2.2.1.2.2.2.1, x23.2.2.1.2.2.2.2, x23.2.2.2)).bind fun x24 =>
      bif Nat.ble (x16.1.length + x24.length) 140737488351232 then
        some (.next ((x16.1 ++ x24), (IntKind.i64.wrap (x16.2 + (1 : Int)))))
      else none
    else none
  | .inr _ =>
    some (.fin x16.1)
noncomputable def F_ref01_Changes (m : Fu) (p : List (Int × Int × ((List Int) × (List Int) × Int × Int × Int) × (List Int) × Int × Int × Bool)) : Option ((List Int) × Int) :=
  let a0 := p
  bif decide ((4096 : Int) < (a0.length : Int)) then some (([] : List Int), (4 : Int)) else
  (F_ref01_small m ([(a0.length : Int)])).bind fun x5 =>
  (iter m (F_ref01_Changes.l122 m a0) (0 : Int)).bind fun x13 =>
  match x13 with
  | .inl x14 =>
    some (([] : List Int), x14)
  | .inr _ =>
    (iter m (F_ref01_Changes.l250 m a0) (x5, (0 : Int))).bind fun x28 =>
    bif decide ((65536 : Int) < (x28.length : Int)) then
      some (([] : List Int), (3 : Int))
    else some (x28, (0 : Int))
def F_ref01_Changes.ann : List (Nat × Ann) := [(122, .loop ⟨[(5, false, [.dat (.int .i64)])], [], [], [], 192⟩ [(.ret, ⟨[(2, false, [.cst .nils]), (3, false, [.dat (.int .i64)])], [], [], [], 192⟩), (.exit 0, ⟨[], [], [], [], 192⟩)]),
  (250, .loop ⟨[(4, false, [.own (.int .u8) 208 .wr]), (6, false, [.dat (.int .i64)])], [], [], [144], 209⟩ [(.exit 2, ⟨[(4, false, [.own (.int .u8) 208 .wr])], [], [], [144], 209⟩)]),
  (1000, .jnt [(.normal, ⟨[], [], [], [], 209⟩), (.exit 2, ⟨[], [], [], [], 209⟩)])]
def F_ref01_Changes.sig : Sig := ⟨[.val false [.sl (.pr (.int .u8) (.pr (.int .i64) (.pr (.pr .str (.pr .str (.pr (.int .u32) (.pr (.int .i64) (.int .u64))))) (.pr .str (.pr (.int .u8) (.pr (.int .i64) .bool))))))]], [(false, [.own (.int .u8) 0 .wr]), (false, [.dat (.int .i64)])]⟩
noncomputable def F_ref01_Changes.S : Summ := ⟨38, F_ref01_Changes.sig, F_ref01_Changes⟩
noncomputable def F_ref01_Changes.G : List Summ := [F_ref01_small.S, F_ref01_Change.S, F_ref01_one.S]
theorem F_ref01_Changes.eq : absF Tryz.prog F_ref01_Changes.G F_ref01_Changes.ann F_ref01_Changes.sig Tryz.f38 = F_ref01_Changes := by kernel_rfl
theorem F_ref01_Changes.sound : Sound Tryz.prog F_ref01_Changes.S := absF_sound (fn := Tryz.f38) (Γ := F_ref01_Changes.G) (all_cons F_ref01_small.sound (all_cons F_ref01_Change.sound (all_cons F_ref01_one.sound all_nil))) mix (by kernel_rfl) (by kernel_rfl) (fun m p => congrFun (congrFun F_ref01_Changes.eq m) p)
/-! ### cloakroom/cloakroomref21.left -/
noncomputable def F_ref21_left.s7462 (m : Fu) (a1 : Int) (a2 : Int) (a3 : List Int) (a8 : List Int) (a10 : Int) (x4 : Int × (List Int) × (List Int) × Int × Int × Int) : Option (Bool) :=
  bif a1 == (1 : Int) then
    bif x4.1 == a2 then
      some (x4.2.1 == a3)
    else some false
  else
    bif a1 == (2 : Int) then
      bif x4.1 == a2 then
        some (x4.2.1 == a8)
      else some false
    else
      bif a1 == (3 : Int) then some (x4.1 == a2) else
      bif a1 == (4 : Int) then
        (F_ref20_Due m (x4.2.1, x4.2.2.1, x4.2.2.2.1, x4.2.2.2.2.1, x4.2.2.2.2.2, a10)).bind fun x14 =>
        some x14
      else some false
noncomputable def F_ref21_left.l58 (m : Fu) (a0 : List (Int × (List Int) × (List Int) × Int × Int × Int)) (a1 : Int) (a2 : Int) (a3 : List Int) (a8 : List Int) (a10 : Int) (x1 : (List (Int × (List Int) × (List Int) × Int × Int × Int)) × Int) : Option (Step ((List (Int × (List Int) × (List Int) × Int × Int × Int)) × Int) ((List (Int × (List Int) × (List Int) × Int × Int × Int)))) :=
  bif decide (x1.2 < (a0.length : Int)) then
    bif (decide ((0 : Int) ≤ x1.2)) && (decide (x1.2 < (a0.length : Int))) then
      let x4 := a0.getD x1.2.toNat (0, ([], ([], (0, (0, 0)))))
      (F_ref21_left.s7462 m a1 a2 a3 a8 a10 x4).bind fun x15 =>
      bif !x15 then
        let x17 := [x4]
        bif Nat.ble (x1.1.length + x17.length) 4294967296 then
          some (.next ((x1.1 ++ x17), (IntKind.i64.wrap (x1.2 + (1 : Int)))))
        else none
      else some (.next (x1.1, (IntKind.i64.wrap (x1.2 + (1 : Int)))))
    else none
  else some (.fin x1.1)
noncomputable def F_ref21_left (m : Fu) (p : (List (Int × (List Int) × (List Int) × Int × Int × Int)) × Int × Int × (List Int) × (List Int) × Int × Int × Int × (List Int) × Int × Int × Bool) : Option (List (Int × (List Int) × (List Int) × Int × Int × Int)) :=
  let a0 := p.1
  let a1 := p.2.1
  let a2 := p.2.2.1
  let a3 := p.2.2.2.1
  let a8 := p.2.2.2.2.2.2.2.2.1
  let a10 := p.2.2.2.2.2.2.2.2.2.2.1
  (iter m (F_ref21_left.l58 m a0 a1 a2 a3 a8 a10) (([] : List (Int × (List Int) × (List Int) × Int × Int × Int)), (0 : Int))).bind fun x21 =>
  some x21
def F_ref21_left.ann : List (Nat × Ann) := [(58, .loop ⟨[(5, false, [.own (.pr (.int .i64) (.pr .str (.pr .str (.pr (.int .u32) (.pr (.int .i64) (.int .u64)))))) 96 .wr]), (6, false, [.dat (.int .i64)])], [], [], [], 97⟩ [(.exit 0, ⟨[(5, false, [.own (.pr (.int .i64) (.pr .str (.pr .str (.pr (.int .u32) (.pr (.int .i64) (.int .u64)))))) 96 .wr])], [], [], [], 97⟩)]),
  (7462, .jnt [(.normal, ⟨[(8, false, [.dat .bool])], [], [], [], 273⟩)])]
def F_ref21_left.sig : Sig := ⟨[.val false [.sl (.pr (.int .i64) (.pr .str (.pr .str (.pr (.int .u32) (.pr (.int .i64) (.int .u64))))))], .val true [.int .u8, .int .i64, .str, .str, .int .u32, .int .i64, .int .u64, .str, .int .u8, .int .i64, .bool]], [(false, [.own (.pr (.int .i64) (.pr .str (.pr .str (.pr (.int .u32) (.pr (.int .i64) (.int .u64)))))) 0 .wr])]⟩
noncomputable def F_ref21_left.S : Summ := ⟨61, F_ref21_left.sig, F_ref21_left⟩
noncomputable def F_ref21_left.G : List Summ := [F_ref20_Due.S]
theorem F_ref21_left.eq : absF Tryz.prog F_ref21_left.G F_ref21_left.ann F_ref21_left.sig Tryz.f61 = F_ref21_left := by kernel_rfl
theorem F_ref21_left.sound : Sound Tryz.prog F_ref21_left.S := absF_sound (fn := Tryz.f61) (Γ := F_ref21_left.G) (all_cons F_ref20_Due.sound all_nil) mix (by kernel_rfl) (by kernel_rfl) (fun m p => congrFun (congrFun F_ref21_left.eq m) p)
/-! ### cloakroom/cloakroomref21.one -/
noncomputable def F_ref21_one.s14 (_ : Fu) (a1 : List Int) (a6 : Int) (a7 : Int) (x1 : Int × (List Int) × (List (Int × (List Int) × (List Int) × Int × Int × Int)) × Int × Int × Bool) : Option ((Int × Int × (List Int) × (List (Int × (List Int) × (List Int) × Int × Int × Int)) × Int × Int × Bool) ⊕ Unit) :=
  bif a6 != (4 : Int) then
    bif a6 != (6 : Int) then
      bif a6 != (7 : Int) then
        bif decide ((a1.length : Int) ≤ a7) then
          some (Sum.inl ((2 : Int), x1))
        else some (Sum.inr ())
      else some (Sum.inr ())
    else some (Sum.inr ())
  else some (Sum.inr ())
noncomputable def F_ref21_one.s4010 (m : Fu) (a0 : Int) (a7 : Int) (a8 : List Int) (a9 : List Int) (a10 : Int) (a11 : Int) (a12 : Int) (x1 : Int × (List Int) × (List (Int × (List Int) × (List Int) × Int × Int × Int)) × Int × Int × Bool) (x10 : List (Int × (List Int) × (List Int) × Int × Int × Int)) : Option ((Int × (List Int) × (List (Int × (List Int) × (List Int) × Int × Int × Int)) × Int × Int × Bool)) :=
  (F_ref20_Due m (a8, a9, a10, a11, a12, a0)).bind fun x14 =>
  bif !x14 then
    let x16 := [(a7, (a8, (a9, (a10, (a11, a12)))))]
    bif Nat.ble (x10.length + x16.length) 4294967296 then
      some (x1.1, x1.2.1, (x10 ++ x16), x1.2.2.2)
    else none
  else some (x1.1, x1.2.1, x10, x1.2.2.2)
noncomputable def F_ref21_one.s62 (m : Fu) (a0 : Int) (a3 : Int) (a6 : Int) (a7 : Int) (a8 : List Int) (a9 : List Int) (a10 : Int) (a11 : Int) (a12 : Int) (a15 : Int) (a16 : Bool) (x1 : Int × (List Int) × (List (Int × (List Int) × (List Int) × Int × Int × Int)) × Int × Int × Bool) (x10 : List (Int × (List Int) × (List Int) × Int × Int × Int)) : Option ((Int × Int × (List Int) × (List (Int × (List Int) × (List Int) × Int × Int × Int)) × Int × Int × Bool) ⊕ (Int × (List Int) × (List (Int × (List Int) × (List Int) × Int × Int × Int)) × Int × Int × Bool)) :=
  bif a6 == (1 : Int) then
    (F_ref21_Size m (a8, a9, a10, a11, a12)).bind fun x12 =>
    bif decide ((256 : Int) < x12) then some (Sum.inl ((2 : Int), x1.1, x1.2.1, x10, x1.2.2.2)) else
    (F_ref21_one.s4010 m a0 a7 a8 a9 a10 a11 a12 x1 x10).bind fun x18 =>
    bif decide ((1024 : Int) < (x18.2.2.1.length : Int)) then
      some (Sum.inl ((9 : Int), x18))
    else some (Sum.inr x18)
  else
    bif a6 == (4 : Int) then
      bif decide (a15 < a0) then
        some (Sum.inl ((2 : Int), x1.1, x1.2.1, x10, x1.2.2.2))
      else some (Sum.inr (a15, x1.2.1, x10, x1.2.2.2))
    else
      bif a6 == (5 : Int) then
        bif (decide ((0 : Int) ≤ a7)) && (decide (a7 < (x1.2.1.length : Int))) then
          bif Nat.blt a7.toNat x1.2.1.length then
            some (Sum.inr (x1.1, (x1.2.1.set a7.toNat a15), x10, x1.2.2.2))
          else none
        else none
      else
        bif a6 == (6 : Int) then
          bif decide (a15 < a3) then
            some (Sum.inl ((2 : Int), x1.1, x1.2.1, x10, x1.2.2.2))
          else some (Sum.inr (x1.1, x1.2.1, x10, a15, x1.2.2.2.2.1, a16))
        else
          bif a6 == (7 : Int) then
            some (Sum.inr (x1.1, x1.2.1, x10, x1.2.2.2.1, a15, x1.2.2.2.2.2))
          else some (Sum.inr (x1.1, x1.2.1, x10, x1.2.2.2))
noncomputable def F_ref21_one (m : Fu) (p : Int × (List Int) × (List (Int × (List Int) × (List Int) × Int × Int × Int)) × Int × Int × Bool × Int × Int × (List Int) × (List Int) × Int × Int × Int × (List Int) × Int × Int × Bool) : Option (Int × (List Int) × (List (Int × (List Int) × (List Int) × Int × Int × Int)) × Int × Int × Bool × Int) :=
  let a0 := p.1
  let a1 := p.2.1
  let a2 := p.2.2.1
  let a3 := p.2.2.2.1
  let a4 := p.2.2.2.2.1
  let a5 := p.2.2.2.2.2.1
  let a6 := p.2.2.2.2.2.2.1
  let a7 := p.2.2.2.2.2.2.2.1
  let a8 := p.2.2.2.2.2.2.2.2.1
  let a9 := p.2.2.2.2.2.2.2.2.2.1
  let a10 := p.2.2.2.2.2.2.2.2.2.2.1
  let a11 := p.2.2.2.2.2.2.2.2.2.2.2.1
  let a12 := p.2.2.2.2.2.2.2.2.2.2.2.2.1
  let a13 := p.2.2.2.2.2.2.2.2.2.2.2.2.2.1
  let a14 := p.2.2.2.2.2.2.2.2.2.2.2.2.2.2.1
  let a15 := p.2.2.2.2.2.2.2.2.2.2.2.2.2.2.2.1
  let a16 := p.2.2.2.2.2.2.2.2.2.2.2.2.2.2.2.2
  (F_ref21_Twin m (a0, a1, a2, a3, a4, a5)).bind fun x1 =>
  (F_ref21_one.s14 m a1 a6 a7 x1).bind fun x7 =>
  match x7 with
  | .inl x8 =>
    some (x8.2.1, x8.2.2.1, x8.2.2.2.1, x8.2.2.2.2.1, x8.2.2.2.2.2.1, x8.2.2.2.2.2.2, x8.1)
  | .inr _ =>
    (F_ref21_left m (a2, a6, a7, a8, a9, a10, a11, a12, a13, a14, a15, a16)).bind fun x10 =>
    (F_ref21_one.s62 m a0 a3 a6 a7 a8 a9 a10 a11 a12 a15 a16 x1 x10).bind fun x28 =>
    match x28 with
    | .inl x29 =>
      some (x29.2.1, x29.2.2.1, x29.2.2.2.1, x29.2.2.2.2.1, x29.2.2.2.2.2.1, x29.2.2.2.2.2.2, x29.1)
    | .inr x30 =>
      some (x30.1, x30.2.1, x30.2.2.1, x30.2.2.2.1, x30.2.2.2.2.1, x30.2.2.2.2.2, (0 : Int))
def F_ref21_one.ann : List (Nat × Ann) := [(14, .jnt [(.ret, ⟨[(5, false, [.dat (.int .i64)])], [(64, [.dat (.int .i64), .own (.int .i64) 160 .wr, .own (.pr (.int .i64) (.pr .str (.pr .str (.pr (.int .u32) (.pr (.int .i64) (.int .u64)))))) 161 .wr, .dat (.int .i64), .dat (.int .i64), .dat .bool])], [], [112, 113], 162⟩), (.normal, ⟨[], [], [], [], 160⟩)]),
  (62, .jnt [(.ret, ⟨[(5, false, [.dat (.int .i64)])], [(64, [.dat (.int .i64), .own (.int .i64) 256 .wr, .own (.pr (.int .i64) (.pr .str (.pr .str (.pr (.int .u32) (.pr (.int .i64) (.int .u64)))))) 257 .wr, .dat (.int .i64), .dat (.int .i64), .dat .bool])], [], [112, 128, 208], 258⟩), (.normal, ⟨[], [(128, [.dat (.int .i64), .own (.int .i64) 256 .wr, .own (.pr (.int .i64) (.pr .str (.pr .str (.pr (.int .u32) (.pr (.int .i64) (.int .u64)))))) 257 .wr, .dat (.int .i64), .dat (.int .i64), .dat .bool])], [], [112, 208], 258⟩)]),
  (4010, .jnt [(.normal, ⟨[], [(128, [.dat (.int .i64), .own (.int .i64) 384 .wr, .own (.pr (.int .i64) (.pr .str (.pr .str (.pr (.int .u32) (.pr (.int .i64) (.int .u64)))))) 385 .wr, .dat (.int .i64), .dat (.int .i64), .dat .bool])], [], [112, 208], 386⟩)])]
def F_ref21_one.sig : Sig := ⟨[.val true [.int .i64, .sl (.int .i64), .sl (.pr (.int .i64) (.pr .str (.pr .str (.pr (.int .u32) (.pr (.int .i64) (.int .u64)))))), .int .i64, .int .i64, .bool], .val true [.int .u8, .int .i64, .str, .str, .int .u32, .int .i64, .int .u64, .str, .int .u8, .int .i64, .bool]], [(true, [.dat (.int .i64), .own (.int .i64) 0 .wr, .own (.pr (.int .i64) (.pr .str (.pr .str (.pr (.int .u32) (.pr (.int .i64) (.int .u64)))))) 0 .wr, .dat (.int .i64), .dat (.int .i64), .dat .bool]), (false, [.dat (.int .i64)])]⟩
noncomputable def F_ref21_one.S : Summ := ⟨39, F_ref21_one.sig, F_ref21_one⟩
noncomputable def F_ref21_one.G : List Summ := [F_ref21_Twin.S, F_ref21_left.S, F_ref21_Size.S, F_ref20_Due.S]
theorem F_ref21_one.eq : absF Tryz.prog F_ref21_one.G F_ref21_one.ann F_ref21_one.sig Tryz.f39 = F_ref21_one := by kernel_rfl
theorem F_ref21_one.sound : Sound Tryz.prog F_ref21_one.S := absF_sound (fn := Tryz.f39) (Γ := F_ref21_one.G) (all_cons F_ref21_Twin.sound (all_cons F_ref21_left.sound (all_cons F_ref21_Size.sound (all_cons F_ref20_Due.sound all_nil)))) mix (by kernel_rfl) (by kernel_rfl) (fun m p => congrFun (congrFun F_ref21_one.eq m) p)
/-! ### cloakroom/cloakroomref21.Apply -/
noncomputable def F_ref21_Apply.s14 (m : Fu) (a6 : List (Int × Int × ((List Int) × (List Int) × Int × Int × Int) × (List Int) × Int × Int × Bool)) (x1 : Int) : Option (Int) :=
  bif x1 == (0 : Int) then
    (F_ref01_Changes m a6).bind fun x3 =>
    some x3.2
  else some x1
noncomputable def F_ref21_Apply.l506 (m : Fu) (a6 : List (Int × Int × ((List Int) × (List Int) × Int × Int × Int) × (List Int) × Int × Int × Bool)) (x7 : Int × Int × (List Int) × (List (Int × (List Int) × (List Int) × Int × Int × Int)) × Int × Int × Bool) : Option (Step (Int × Int × (List Int) × (List (Int × (List Int) × (List Int) × Int × Int × Int)) × Int × Int × Bool) ((Int × Int × Int × Int × Bool) ⊕ (Int × (List Int) × (List (Int × (List Int) × (List Int) × Int × Int × Int)) × Int × Int × Bool))) :=
  bif decide (x7.1 < (a6.length : Int)) then
    bif (decide ((0 : Int) ≤ x7.1)) && (decide (x7.1 < (a6.length : Int))) then
      let x10 := a6.getD x7.1.toNat (0, (0, (([], ([], (0, (0, 0)))), ([], (0, (0, false))))))
      (F_ref21_one m (x7.2.1, x7.2.2.1, x7.2.2.2.1, x7.2.2.2.2.1, x7.2.2.2.2.2.1, x7.2.2.2.2.2.2, x10.1, x10.2.1, x10.2.2.1.1, x10.2.2.1.2.1, x10.2.2.1.2.2.1, x10.2.2.1.2.2.2.1, x10.2.2.1.2.2.2.2, x10.2.2.2)).bind fun x11 =>
      bif x11.2.2.2.2.2.2 != (0 : Int) then
        some (.fin (Sum.inl (x11.2.2.2.2.2.2, (0 : Int), (0 : Int), (0 : Int), false)))
      else some (.next ((IntKind.i64.wrap (x7.1 + (1 : Int))), x11.1, x11.2.1, x11.2.2.1, x11.2.2.2.1, x11.2.2.2.2.1, x11.2.2.2.2.2.1))
    else none
  else some (.fin (Sum.inr x7.2))
noncomputable def F_ref21_Apply (m : Fu) (p : Int × (List Int) × (List (Int × (List Int) × (List Int) × Int × Int × Int)) × Int × Int × Bool × (List (Int × Int × ((List Int) × (List Int) × Int × Int × Int) × (List Int) × Int × Int × Bool))) : Option (Int × (List Int) × (List (Int × (List Int) × (List Int) × Int × Int × Int)) × Int × Int × Bool × Int) :=
  let a0 := p.1
  let a1 := p.2.1
  let a2 := p.2.2.1
  let a3 := p.2.2.2.1
  let a4 := p.2.2.2.2.1
  let a5 := p.2.2.2.2.2.1
  let a6 := p.2.2.2.2.2.2
  (F_ref21_Check m (a0, a1, a2, a3, a4, a5)).bind fun x1 =>
  (F_ref21_Apply.s14 m a6 x1).bind fun x4 =>
  bif x4 != (0 : Int) then some ((0 : Int), ([] : List Int), ([] : List (Int × (List Int) × (List Int) × Int × Int × Int)), (0 : Int), (0 : Int), false, x4) else
  (F_ref21_Twin m (a0, a1, a2, a3, a4, a5)).bind fun x6 =>
  (iter m (F_ref21_Apply.l506 m a6) ((0 : Int), x6)).bind fun x14 =>
  match x14 with
  | .inl x15 =>
    some (x15.2.1, ([] : List Int), ([] : List (Int × (List Int) × (List Int) × Int × Int × Int)), x15.2.2.1, x15.2.2.2.1, x15.2.2.2.2, x15.1)
  | .inr x16 =>
    some (x16.1, x16.2.1, x16.2.2.1, x16.2.2.2.1, x16.2.2.2.2.1, x16.2.2.2.2.2, (0 : Int))
def F_ref21_Apply.ann : List (Nat × Ann) := [(14, .jnt [(.normal, ⟨[(6, false, [.dat (.int .i64)])], [], [], [], 128⟩)]),
  (506, .loop ⟨[(8, false, [.dat (.int .i64)])], [(192, [.dat (.int .i64), .own (.int .i64) 240 .wr, .own (.pr (.int .i64) (.pr .str (.pr .str (.pr (.int .u32) (.pr (.int .i64) (.int .u64)))))) 241 .wr, .dat (.int .i64), .dat (.int .i64), .dat .bool])], [], [176, 177], 242⟩ [(.ret, ⟨[(5, false, [.dat (.int .i64)])], [(48, [.dat (.int .i64), .cst .nils, .cst .nils, .dat (.int .i64), .dat (.int .i64), .dat .bool])], [], [176, 177, 192], 240⟩), (.exit 0, ⟨[], [(192, [.dat (.int .i64), .own (.int .i64) 240 .wr, .own (.pr (.int .i64) (.pr .str (.pr .str (.pr (.int .u32) (.pr (.int .i64) (.int .u64)))))) 241 .wr, .dat (.int .i64), .dat (.int .i64), .dat .bool])], [], [176, 177], 242⟩)])]
def F_ref21_Apply.sig : Sig := ⟨[.val true [.int .i64, .sl (.int .i64), .sl (.pr (.int .i64) (.pr .str (.pr .str (.pr (.int .u32) (.pr (.int .i64) (.int .u64)))))), .int .i64, .int .i64, .bool], .val false [.sl (.pr (.int .u8) (.pr (.int .i64) (.pr (.pr .str (.pr .str (.pr (.int .u32) (.pr (.int .i64) (.int .u64))))) (.pr .str (.pr (.int .u8) (.pr (.int .i64) .bool))))))]], [(true, [.dat (.int .i64), .own (.int .i64) 0 .wr, .own (.pr (.int .i64) (.pr .str (.pr .str (.pr (.int .u32) (.pr (.int .i64) (.int .u64)))))) 0 .wr, .dat (.int .i64), .dat (.int .i64), .dat .bool]), (false, [.dat (.int .i64)])]⟩
noncomputable def F_ref21_Apply.S : Summ := ⟨29, F_ref21_Apply.sig, F_ref21_Apply⟩
noncomputable def F_ref21_Apply.G : List Summ := [F_ref21_Check.S, F_ref01_Changes.S, F_ref21_Twin.S, F_ref21_one.S]
theorem F_ref21_Apply.eq : absF Tryz.prog F_ref21_Apply.G F_ref21_Apply.ann F_ref21_Apply.sig Tryz.f29 = F_ref21_Apply := by kernel_rfl
theorem F_ref21_Apply.sound : Sound Tryz.prog F_ref21_Apply.S := absF_sound (fn := Tryz.f29) (Γ := F_ref21_Apply.G) (all_cons F_ref21_Check.sound (all_cons F_ref01_Changes.sound (all_cons F_ref21_Twin.sound (all_cons F_ref21_one.sound all_nil)))) mix (by kernel_rfl) (by kernel_rfl) (fun m p => congrFun (congrFun F_ref21_Apply.eq m) p)
/-! ### cloakroom/cloakroomref24.in -/
noncomputable def F_ref24_in (_ : Fu) (p : Int) : Option (Bool) :=
  let a0 := p
  bif decide ((0 : Int) ≤ a0) then
    some (decide (a0 ≤ (2147483647 : Int)))
  else some false
def F_ref24_in.ann : List (Nat × Ann) := []
def F_ref24_in.sig : Sig := ⟨[.val false [.int .i64]], [(false, [.dat .bool])]⟩
noncomputable def F_ref24_in.S : Summ := ⟨40, F_ref24_in.sig, F_ref24_in⟩
noncomputable def F_ref24_in.G : List Summ := []
theorem F_ref24_in.eq : absF Tryz.prog F_ref24_in.G F_ref24_in.ann F_ref24_in.sig Tryz.f40 = F_ref24_in := by kernel_rfl
theorem F_ref24_in.sound : Sound Tryz.prog F_ref24_in.S := absF_sound (fn := Tryz.f40) (Γ := F_ref24_in.G) all_nil mix (by kernel_rfl) (by kernel_rfl) (fun m p => congrFun (congrFun F_ref24_in.eq m) p)
/-! ### cloakroom/cloakroomref24.New -/
noncomputable def F_ref24_New (m : Fu) (p : Int × Int) : Option (Int × Int × Int × (List (List Int)) × Int) :=
  let a0 := p.1
  let a1 := p.2
  (F_ref24_in m a0).bind fun x1 =>
  bif !x1 then some ((0 : Int), (0 : Int), (0 : Int), ([] : List (List Int)), (2 : Int)) else
  (F_ref24_in m a1).bind fun x3 =>
  bif !x3 then
    some ((0 : Int), (0 : Int), (0 : Int), ([] : List (List Int)), (2 : Int))
  else some (a0, a1, (0 : Int), ([] : List (List Int)), (0 : Int))
def F_ref24_New.ann : List (Nat × Ann) := []
def F_ref24_New.sig : Sig := ⟨[.val false [.int .i64], .val false [.int .i64]], [(true, [.dat (.int .i64), .dat (.int .i64), .dat (.int .i64), .dat (.sl (.sl (.int .u8)))]), (false, [.dat (.int .i64)])]⟩
noncomputable def F_ref24_New.S : Summ := ⟨30, F_ref24_New.sig, F_ref24_New⟩
noncomputable def F_ref24_New.G : List Summ := [F_ref24_in.S]
theorem F_ref24_New.eq : absF Tryz.prog F_ref24_New.G F_ref24_New.ann F_ref24_New.sig Tryz.f30 = F_ref24_New := by kernel_rfl
theorem F_ref24_New.sound : Sound Tryz.prog F_ref24_New.S := absF_sound (fn := Tryz.f30) (Γ := F_ref24_New.G) (all_cons F_ref24_in.sound all_nil) mix (by kernel_rfl) (by kernel_rfl) (fun m p => congrFun (congrFun F_ref24_New.eq m) p)
/-! ### cloakroom/cloakroomref26.Up -/
noncomputable def F_ref26_Up (m : Fu) (p : Int × Int × Int × (List Int) × (List (Int × (List Int) × (List Int) × Int × Int × Int)) × Int × Int × Bool × Int) : Option (Int × Int × Int × (List (List Int)) × Int × (List Int) × (List (Int × (List Int) × (List Int) × Int × Int × Int)) × Int × Int × Bool × (List (Int × Int × ((List Int) × (List Int) × Int × Int × Int) × (List Int) × Int × Int × Bool)) × Int) :=
  let a0 := p.1
  let a1 := p.2.1
  let a2 := p.2.2.1
  let a3 := p.2.2.2.1
  let a4 := p.2.2.2.2.1
  let a5 := p.2.2.2.2.2.1
  let a6 := p.2.2.2.2.2.2.1
  let a7 := p.2.2.2.2.2.2.2.1
  let a8 := p.2.2.2.2.2.2.2.2
  (F_ref25_Check m (a0, a1, a2, a3, a4, a5, a6, a7)).bind fun x1 =>
  bif x1 != (0 : Int) then some ((0 : Int), (0 : Int), (0 : Int), ([] : List (List Int)), (0 : Int), ([] : List Int), ([] : List (Int × (List Int) × (List Int) × Int × Int × Int)), (0 : Int), (0 : Int), false, ([] : List (Int × Int × ((List Int) × (List Int) × Int × Int × Int) × (List Int) × Int × Int × Bool)), x1) else
  (F_ref26_Next m (a0, a8)).bind fun x3 =>
  bif x3.2 != (0 : Int) then some ((0 : Int), (0 : Int), (0 : Int), ([] : List (List Int)), (0 : Int), ([] : List Int), ([] : List (Int × (List Int) × (List Int) × Int × Int × Int)), (0 : Int), (0 : Int), false, ([] : List (Int × Int × ((List Int) × (List Int) × Int × Int × Int) × (List Int) × Int × Int × Bool)), x3.2) else
  (F_ref26_term m (x3.1, true)).bind fun x5 =>
  (F_ref21_Apply m (a2, a3, a4, a5, a6, a7, x5)).bind fun x6 =>
  (F_ref24_New m (x3.1, a1)).bind fun x7 =>
  some (x7.1, x7.2.1, x7.2.2.1, x7.2.2.2.1, x6.1, x6.2.1, x6.2.2.1, x6.2.2.2.1, x6.2.2.2.2.1, x6.2.2.2.2.2.1, x5, (0 : Int))
def F_ref26_Up.ann : List (Nat × Ann) := []
def F_ref26_Up.sig : Sig := ⟨[.val true [.int .i64, .int .i64, .int .i64, .sl (.int .i64), .sl (.pr (.int .i64) (.pr .str (.pr .str (.pr (.int .u32) (.pr (.int .i64) (.int .u64)))))), .int .i64, .int .i64, .bool], .val false [.int .i64]], [(true, [.dat (.int .i64), .dat (.int .i64), .dat (.int .i64), .dat (.sl (.sl (.int .u8)))]), (true, [.dat (.int .i64), .own (.int .i64) 0 .wr, .own (.pr (.int .i64) (.pr .str (.pr .str (.pr (.int .u32) (.pr (.int .i64) (.int .u64)))))) 0 .wr, .dat (.int .i64), .dat (.int .i64), .dat .bool]), (false, [.own (.pr (.int .u8) (.pr (.int .i64) (.pr (.pr .str (.pr .str (.pr (.int .u32) (.pr (.int .i64) (.int .u64))))) (.pr .str (.pr (.int .u8) (.pr (.int .i64) .bool)))))) 0 .wr]), (false, [.dat (.int .i64)])]⟩
noncomputable def F_ref26_Up.S : Summ := ⟨14, F_ref26_Up.sig, F_ref26_Up⟩
noncomputable def F_ref26_Up.G : List Summ := [F_ref25_Check.S, F_ref26_Next.S, F_ref26_term.S, F_ref21_Apply.S, F_ref24_New.S]
theorem F_ref26_Up.eq : absF Tryz.prog F_ref26_Up.G F_ref26_Up.ann F_ref26_Up.sig Tryz.f14 = F_ref26_Up := by kernel_rfl
theorem F_ref26_Up.sound : Sound Tryz.prog F_ref26_Up.S := absF_sound (fn := Tryz.f14) (Γ := F_ref26_Up.G) (all_cons F_ref25_Check.sound (all_cons F_ref26_Next.sound (all_cons F_ref26_term.sound (all_cons F_ref21_Apply.sound (all_cons F_ref24_New.sound all_nil))))) mix (by kernel_rfl) (by kernel_rfl) (fun m p => congrFun (congrFun F_ref26_Up.eq m) p)
/-! ### cloakroom/code.Read -/
noncomputable def F_code_Read.s7474 (_ : Fu) (x2 : Int × Int) (x4 : Int) : Option (Unit ⊕ Unit) :=
  bif x2.2 == (9 : Int) then
    bif decide ((1 : Int) < x4) then
      some (Sum.inl ())
    else some (Sum.inr ())
  else some (Sum.inr ())
noncomputable def F_code_Read.l58 (m : Fu) (a0 : List Int) (x1 : Int) (x2 : Int × Int) : Option (Step (Int × Int) (Unit ⊕ (Int × Int × Int))) :=
  bif decide (x2.2 < x1) then
    bif (decide ((0 : Int) ≤ x2.2)) && (decide (x2.2 < (a0.length : Int))) then
      let x4 := a0.getD x2.2.toNat 0
      (F_code_Read.s7474 m x2 x4).bind fun x7 =>
      match x7 with
      | .inl _ =>
        some (.fin (Sum.inl ()))
      | .inr _ =>
        let x12 := IntKind.i64.wrap ((7 : Int) * x2.2)
        bif decide (x12 < (0 : Int)) then none else
        let x14 := bitsOp .or .u64 x2.1 (shlOp .u64 (IntKind.u64.wrap (bitsOp .and .u8 x4 (127 : Int))) x12)
        bif decide (x4 < (128 : Int)) then
          bif x4 == (0 : Int) then
            bif decide ((0 : Int) < x2.2) then
              some (.fin (Sum.inl ()))
            else some (.fin (Sum.inr (x14, (IntKind.i64.wrap (x2.2 + (1 : Int))), (0 : Int))))
          else some (.fin (Sum.inr (x14, (IntKind.i64.wrap (x2.2 + (1 : Int))), (0 : Int))))
        else some (.next (x14, (IntKind.i64.wrap (x2.2 + (1 : Int)))))
    else none
  else some (.fin (Sum.inl ()))
noncomputable def F_code_Read (m : Fu) (p : List Int) : Option (Int × Int × Int) :=
  let a0 := p
  (iter m (F_code_Read.l58 m a0 (a0.length : Int)) ((0 : Int), (0 : Int))).bind fun x21 =>
  match x21 with
  | .inl _ =>
    some ((0 : Int), (0 : Int), (8 : Int))
  | .inr x23 =>
    some x23
def F_code_Read.ann : List (Nat × Ann) := [(58, .loop ⟨[(5, false, [.dat (.int .u64)]), (10, false, [.dat (.int .i64)])], [], [], [], 128⟩ [(.exit 0, ⟨[], [], [], [], 128⟩), (.ret, ⟨[(2, false, [.dat (.int .u64)]), (3, false, [.dat (.int .i64)]), (4, false, [.dat (.int .i64)])], [], [], [], 128⟩)]),
  (7474, .jnt [(.exit 0, ⟨[], [], [], [], 224⟩), (.normal, ⟨[], [], [], [], 224⟩)])]
def F_code_Read.sig : Sig := ⟨[.val false [.sl (.int .u8)]], [(false, [.dat (.int .u64)]), (false, [.dat (.int .i64)]), (false, [.dat (.int .i64)])]⟩
noncomputable def F_code_Read.S : Summ := ⟨102, F_code_Read.sig, F_code_Read⟩
noncomputable def F_code_Read.G : List Summ := []
theorem F_code_Read.eq : absF Tryz.prog F_code_Read.G F_code_Read.ann F_code_Read.sig Tryz.f102 = F_code_Read := by kernel_rfl
theorem F_code_Read.sound : Sound Tryz.prog F_code_Read.S := absF_sound (fn := Tryz.f102) (Γ := F_code_Read.G) all_nil mix (by kernel_rfl) (by kernel_rfl) (fun m p => congrFun (congrFun F_code_Read.eq m) p)
/-! ### (*cloakroom/code.reader).wide -/
noncomputable def F_code_reader_wide.s14 (_ : Fu) (a0 : List Int) (a1 : Bool) (x1 : Int × Int × Int) : Option (((List Int) × Bool)) :=
  bif a1 then
    some (a0, true)
  else some (a0, (x1.2.2 != (0 : Int)))
noncomputable def F_code_reader_wide (m : Fu) (p : (List Int) × Bool) : Option (Int × (List Int) × Bool) :=
  let a0 := p.1
  let a1 := p.2
  (F_code_Read m a0).bind fun x1 =>
  (F_code_reader_wide.s14 m a0 a1 x1).bind fun x3 =>
  bif (((decide ((0 : Int) ≤ x1.2.1)) && (decide (x1.2.1 ≤ (x3.1.length : Int)))) && (decide ((x3.1.length : Int) ≤ (x3.1.length : Int)))) && (decide ((x3.1.length : Int) ≤ (x3.1.length : Int))) then
    some (x1.1, ((x3.1.take ((x3.1.length : Int).toNat)).drop x1.2.1.toNat), x3.2)
  else none
def F_code_reader_wide.ann : List (Nat × Ann) := [(14, .jnt [(.normal, ⟨[], [(0, [.dat (.sl (.int .u8)), .dat .bool])], [], [], 224⟩)])]
def F_code_reader_wide.sig : Sig := ⟨[.box [.sl (.int .u8), .bool]], [(false, [.dat (.int .u64)])]⟩
noncomputable def F_code_reader_wide.S : Summ := ⟨98, F_code_reader_wide.sig, F_code_reader_wide⟩
noncomputable def F_code_reader_wide.G : List Summ := [F_code_Read.S]
theorem F_code_reader_wide.eq : absF Tryz.prog F_code_reader_wide.G F_code_reader_wide.ann F_code_reader_wide.sig Tryz.f98 = F_code_reader_wide := by kernel_rfl
theorem F_code_reader_wide.sound : Sound Tryz.prog F_code_reader_wide.S := absF_sound (fn := Tryz.f98) (Γ := F_code_reader_wide.G) (all_cons F_code_Read.sound all_nil) mix (by kernel_rfl) (by kernel_rfl) (fun m p => congrFun (congrFun F_code_reader_wide.eq m) p)
/-! ### (*cloakroom/code.reader).num -/
noncomputable def F_code_reader_num (m : Fu) (p : (List Int) × Bool × Int) : Option (Int × (List Int) × Bool) :=
  let a0 := p.1
  let a1 := p.2.1
  let a2 := p.2.2
  (F_code_reader_wide m (a0, a1)).bind fun x1 =>
  bif decide ((IntKind.u64.wrap a2) < x1.1) then
    some ((0 : Int), x1.2.1, true)
  else some ((IntKind.i64.wrap x1.1), x1.2)
def F_code_reader_num.ann : List (Nat × Ann) := []
def F_code_reader_num.sig : Sig := ⟨[.box [.sl (.int .u8), .bool], .val false [.int .i64]], [(false, [.dat (.int .i64)])]⟩
noncomputable def F_code_reader_num.S : Summ := ⟨85, F_code_reader_num.sig, F_code_reader_num⟩
noncomputable def F_code_reader_num.G : List Summ := [F_code_reader_wide.S]
theorem F_code_reader_num.eq : absF Tryz.prog F_code_reader_num.G F_code_reader_num.ann F_code_reader_num.sig Tryz.f85 = F_code_reader_num := by kernel_rfl
theorem F_code_reader_num.sound : Sound Tryz.prog F_code_reader_num.S := absF_sound (fn := Tryz.f85) (Γ := F_code_reader_num.G) (all_cons F_code_reader_wide.sound all_nil) mix (by kernel_rfl) (by kernel_rfl) (fun m p => congrFun (congrFun F_code_reader_num.eq m) p)
/-! ### (*cloakroom/code.reader).byte -/
noncomputable def F_code_reader_byte (_ : Fu) (p : (List Int) × Bool) : Option (Int × (List Int) × Bool) :=
  let a0 := p.1
  let a1 := p.2
  bif (a0.length : Int) == (0 : Int) then some ((0 : Int), a0, true) else
  bif decide ((0 : Int) < (a0.length : Int)) then
    bif ((decide ((1 : Int) ≤ (a0.length : Int))) && (decide ((a0.length : Int) ≤ (a0.length : Int)))) && (decide ((a0.length : Int) ≤ (a0.length : Int))) then
      some ((a0.getD 0 0), ((a0.take ((a0.length : Int).toNat)).drop 1), a1)
    else none
  else none
def F_code_reader_byte.ann : List (Nat × Ann) := []
def F_code_reader_byte.sig : Sig := ⟨[.box [.sl (.int .u8), .bool]], [(false, [.dat (.int .u8)])]⟩
noncomputable def F_code_reader_byte.S : Summ := ⟨99, F_code_reader_byte.sig, F_code_reader_byte⟩
noncomputable def F_code_reader_byte.G : List Summ := []
theorem F_code_reader_byte.eq : absF Tryz.prog F_code_reader_byte.G F_code_reader_byte.ann F_code_reader_byte.sig Tryz.f99 = F_code_reader_byte := by kernel_rfl
theorem F_code_reader_byte.sound : Sound Tryz.prog F_code_reader_byte.S := absF_sound (fn := Tryz.f99) (Γ := F_code_reader_byte.G) all_nil mix (by kernel_rfl) (by kernel_rfl) (fun m p => congrFun (congrFun F_code_reader_byte.eq m) p)
/-! ### cloakroom/code.cut -/
noncomputable def F_code_cut (m : Fu) (p : List Int) : Option ((List Int) × (List Int) × Int) :=
  let a0 := p
  (F_code_Read m a0).bind fun x1 =>
  bif x1.2.2 != (0 : Int) then some (([] : List Int), ([] : List Int), (8 : Int)) else
  bif decide ((IntKind.u64.wrap (IntKind.i64.wrap ((a0.length : Int) - x1.2.1))) < x1.1) then some (([] : List Int), ([] : List Int), (8 : Int)) else
  bif (((decide ((0 : Int) ≤ x1.2.1)) && (decide (x1.2.1 ≤ (a0.length : Int)))) && (decide ((a0.length : Int) ≤ (a0.length : Int)))) && (decide ((a0.length : Int) ≤ (a0.length : Int))) then
    let x7 := (a0.take ((a0.length : Int).toNat)).drop x1.2.1.toNat
    bif ((decide ((0 : Int) ≤ x1.1)) && (decide (x1.1 ≤ (x7.length : Int)))) && (decide ((x7.length : Int) ≤ (x7.length : Int))) then
      let x10 := IntKind.i64.wrap (x1.2.1 + (IntKind.i64.wrap x1.1))
      bif (((decide ((0 : Int) ≤ x10)) && (decide (x10 ≤ (a0.length : Int)))) && (decide ((a0.length : Int) ≤ (a0.length : Int)))) && (decide ((a0.length : Int) ≤ (a0.length : Int))) then
        some (((x7.take x1.1.toNat).drop 0), ((a0.take ((a0.length : Int).toNat)).drop x10.toNat), (0 : Int))
      else none
    else none
  else none
def F_code_cut.ann : List (Nat × Ann) := []
def F_code_cut.sig : Sig := ⟨[.val false [.sl (.int .u8)]], [(false, [.dat (.sl (.int .u8))]), (false, [.dat (.sl (.int .u8))]), (false, [.dat (.int .i64)])]⟩
noncomputable def F_code_cut.S : Summ := ⟨103, F_code_cut.sig, F_code_cut⟩
noncomputable def F_code_cut.G : List Summ := [F_code_Read.S]
theorem F_code_cut.eq : absF Tryz.prog F_code_cut.G F_code_cut.ann F_code_cut.sig Tryz.f103 = F_code_cut := by kernel_rfl
theorem F_code_cut.sound : Sound Tryz.prog F_code_cut.S := absF_sound (fn := Tryz.f103) (Γ := F_code_cut.G) (all_cons F_code_Read.sound all_nil) mix (by kernel_rfl) (by kernel_rfl) (fun m p => congrFun (congrFun F_code_cut.eq m) p)
/-! ### (*cloakroom/code.reader).text -/
noncomputable def F_code_reader_text (m : Fu) (p : (List Int) × Bool) : Option ((List Int) × (List Int) × Bool) :=
  let a0 := p.1
  let a1 := p.2
  (F_code_cut m a0).bind fun x1 =>
  bif x1.2.2 != (0 : Int) then
    some (([] : List Int), a0, true)
  else some (x1.1, x1.2.1, a1)
def F_code_reader_text.ann : List (Nat × Ann) := []
def F_code_reader_text.sig : Sig := ⟨[.box [.sl (.int .u8), .bool]], [(false, [.dat .str])]⟩
noncomputable def F_code_reader_text.S : Summ := ⟨100, F_code_reader_text.sig, F_code_reader_text⟩
noncomputable def F_code_reader_text.G : List Summ := [F_code_cut.S]
theorem F_code_reader_text.eq : absF Tryz.prog F_code_reader_text.G F_code_reader_text.ann F_code_reader_text.sig Tryz.f100 = F_code_reader_text := by kernel_rfl
theorem F_code_reader_text.sound : Sound Tryz.prog F_code_reader_text.S := absF_sound (fn := Tryz.f100) (Γ := F_code_reader_text.G) (all_cons F_code_cut.sound all_nil) mix (by kernel_rfl) (by kernel_rfl) (fun m p => congrFun (congrFun F_code_reader_text.eq m) p)
/-! ### (*cloakroom/code.reader).change -/
noncomputable def F_code_reader_change.s116 (_ : Fu) (x1 : Int × (List Int) × Bool) : Option (Bool) :=
  let x2 := x1.1 == (1 : Int)
  bif x2 then some x2 else
  let x3 := x1.1 == (2 : Int)
  bif x3 then some x3 else
  let x4 := x1.1 == (3 : Int)
  bif x4 then
    some x4
  else some (x1.1 == (5 : Int))
noncomputable def F_code_reader_change.s14 (m : Fu) (x1 : Int × (List Int) × Bool) : Option (((List Int) × Bool × Int × Int × (List Int) × (List Int) × Int × Int × Int × (List Int) × Int × Int × Bool)) :=
  (F_code_reader_change.s116 m x1).bind fun x6 =>
  bif x6 then
    (F_code_reader_num m (x1.2.1, x1.2.2, (4 : Int))).bind fun x7 =>
    some (x7.2.1, x7.2.2, x1.1, x7.1, ([] : List Int), ([] : List Int), (0 : Int), (0 : Int), (0 : Int), ([] : List Int), (0 : Int), (0 : Int), false)
  else some (x1.2.1, x1.2.2, x1.1, (0 : Int), ([] : List Int), ([] : List Int), (0 : Int), (0 : Int), (0 : Int), ([] : List Int), (0 : Int), (0 : Int), false)
noncomputable def F_code_reader_change.s3934 (_ : Fu) (x8 : ((List Int) × Bool × Int × Int × (List Int) × (List Int) × Int × Int × Int × (List Int) × Int × Int × Bool)) : Option (Bool) :=
  let x19 := x8.2.2.1 == (4 : Int)
  bif x19 then some x19 else
  let x20 := x8.2.2.1 == (5 : Int)
  bif x20 then some x20 else
  let x21 := x8.2.2.1 == (6 : Int)
  bif x21 then
    some x21
  else some (x8.2.2.1 == (7 : Int))
noncomputable def F_code_reader_change.s30 (m : Fu) (x8 : ((List Int) × Bool × Int × Int × (List Int) × (List Int) × Int × Int × Int × (List Int) × Int × Int × Bool)) : Option (((List Int) × Bool × Int × Int × (List Int) × (List Int) × Int × Int × Int × (List Int) × Int × Int × Bool)) :=
  bif x8.2.2.1 == (1 : Int) then
    (F_code_reader_text m (x8.1, x8.2.1)).bind fun x10 =>
    (F_code_reader_text m x10.2).bind fun x11 =>
    (F_code_reader_num m (x11.2.1, x11.2.2, (4294967295 : Int))).bind fun x12 =>
    (F_code_reader_num m (x12.2.1, x12.2.2, (1099511627776 : Int))).bind fun x14 =>
    (F_code_reader_wide m x14.2).bind fun x15 =>
    some (x15.2.1, x15.2.2, x8.2.2.1, x8.2.2.2.1, x10.1, x11.1, (IntKind.u32.wrap x12.1), x14.1, x15.1, x8.2.2.2.2.2.2.2.2.2)
  else
    bif x8.2.2.1 == (2 : Int) then
      (F_code_reader_text m (x8.1, x8.2.1)).bind fun x17 =>
      (F_code_reader_byte m x17.2).bind fun x18 =>
      some (x18.2.1, x18.2.2, x8.2.2.1, x8.2.2.2.1, x8.2.2.2.2.1, x8.2.2.2.2.2.1, x8.2.2.2.2.2.2.1, x8.2.2.2.2.2.2.2.1, x8.2.2.2.2.2.2.2.2.1, x17.1, x18.1, x8.2.2.2.2.2.2.2.2.2.2.2)
    else
      (F_code_reader_change.s3934 m x8).bind fun x23 =>
      bif x23 then
        (F_code_reader_num m (x8.1, x8.2.1, (1099511627776 : Int))).bind fun x24 =>
        some (x24.2.1, x24.2.2, x8.2.2.1, x8.2.2.2.1, x8.2.2.2.2.1, x8.2.2.2.2.2.1, x8.2.2.2.2.2.2.1, x8.2.2.2.2.2.2.2.1, x8.2.2.2.2.2.2.2.2.1, x8.2.2.2.2.2.2.2.2.2.1, x8.2.2.2.2.2.2.2.2.2.2.1, x24.1, x8.2.2.2.2.2.2.2.2.2.2.2.2)
      else some x8
noncomputable def F_code_reader_change.s62 (m : Fu) (x25 : ((List Int) × Bool × Int × Int × (List Int) × (List Int) × Int × Int × Int × (List Int) × Int × Int × Bool)) : Option (((List Int) × Bool × Int × Int × (List Int) × (List Int) × Int × Int × Int × (List Int) × Int × Int × Bool)) :=
  bif x25.2.2.1 == (6 : Int) then
    (F_code_reader_byte m (x25.1, x25.2.1)).bind fun x27 =>
    some (x27.2.1, x27.2.2, x25.2.2.1, x25.2.2.2.1, x25.2.2.2.2.1, x25.2.2.2.2.2.1, x25.2.2.2.2.2.2.1, x25.2.2.2.2.2.2.2.1, x25.2.2.2.2.2.2.2.2.1, x25.2.2.2.2.2.2.2.2.2.1, x25.2.2.2.2.2.2.2.2.2.2.1, x25.2.2.2.2.2.2.2.2.2.2.2.1, (x27.1 == (1 : Int)))
  else some x25
noncomputable def F_code_reader_change (m : Fu) (p : (List Int) × Bool) : Option (Int × Int × (List Int) × (List Int) × Int × Int × Int × (List Int) × Int × Int × Bool × (List Int) × Bool) :=
  let a0 := p.1
  let a1 := p.2
  (F_code_reader_byte m (a0, a1)).bind fun x1 =>
  (F_code_reader_change.s14 m x1).bind fun x8 =>
  (F_code_reader_change.s30 m x8).bind fun x25 =>
  (F_code_reader_change.s62 m x25).bind fun x29 =>
  some (x29.2.2.1, x29.2.2.2.1, x29.2.2.2.2.1, x29.2.2.2.2.2.1, x29.2.2.2.2.2.2.1, x29.2.2.2.2.2.2.2.1, x29.2.2.2.2.2.2.2.2.1, x29.2.2.2.2.2.2.2.2.2.1, x29.2.2.2.2.2.2.2.2.2.2.1, x29.2.2.2.2.2.2.2.2.2.2.2.1, x29.2.2.2.2.2.2.2.2.2.2.2.2, x29.1, x29.2.1)
def F_code_reader_change.ann : List (Nat × Ann) := [(14, .jnt [(.normal, ⟨[], [(0, [.dat (.sl (.int .u8)), .dat .bool]), (80, [.dat (.int .u8), .dat (.int .i64), .dat .str, .dat .str, .dat (.int .u32), .dat (.int .i64), .dat (.int .u64), .dat .str, .dat (.int .u8), .dat (.int .i64), .dat .bool])], [], [], 112⟩)]),
  (30, .jnt [(.normal, ⟨[], [(0, [.dat (.sl (.int .u8)), .dat .bool]), (80, [.dat (.int .u8), .dat (.int .i64), .dat .str, .dat .str, .dat (.int .u32), .dat (.int .i64), .dat (.int .u64), .dat .str, .dat (.int .u8), .dat (.int .i64), .dat .bool])], [], [], 112⟩)]),
  (62, .jnt [(.normal, ⟨[], [(0, [.dat (.sl (.int .u8)), .dat .bool]), (80, [.dat (.int .u8), .dat (.int .i64), .dat .str, .dat .str, .dat (.int .u32), .dat (.int .i64), .dat (.int .u64), .dat .str, .dat (.int .u8), .dat (.int .i64), .dat .bool])], [], [], 112⟩)]),
  (116, .jnt [(.normal, ⟨[(9, false, [.dat .bool])], [], [], [], 144⟩)]),
  (3934, .jnt [(.normal, ⟨[(42, false, [.dat .bool])], [], [], [], 208⟩)])]
def F_code_reader_change.sig : Sig := ⟨[.box [.sl (.int .u8), .bool]], [(true, [.dat (.int .u8), .dat (.int .i64), .dat .str, .dat .str, .dat (.int .u32), .dat (.int .i64), .dat (.int .u64), .dat .str, .dat (.int .u8), .dat (.int .i64), .dat .bool])]⟩
noncomputable def F_code_reader_change.S : Summ := ⟨86, F_code_reader_change.sig, F_code_reader_change⟩
noncomputable def F_code_reader_change.G : List Summ := [F_code_reader_byte.S, F_code_reader_num.S, F_code_reader_text.S, F_code_reader_wide.S]
theorem F_code_reader_change.eq : absF Tryz.prog F_code_reader_change.G F_code_reader_change.ann F_code_reader_change.sig Tryz.f86 = F_code_reader_change := by kernel_rfl
theorem F_code_reader_change.sound : Sound Tryz.prog F_code_reader_change.S := absF_sound (fn := Tryz.f86) (Γ := F_code_reader_change.G) (all_cons F_code_reader_byte.sound (all_cons F_code_reader_num.sound (all_cons F_code_reader_text.sound (all_cons F_code_reader_wide.sound all_nil)))) mix (by kernel_rfl) (by kernel_rfl) (fun m p => congrFun (congrFun F_code_reader_change.eq m) p)
/-! ### bytes.Equal -/
noncomputable def F_bytes_Equal (_ : Fu) (p : (List Int) × (List Int)) : Option (Bool) :=
  let a0 := p.1
  let a1 := p.2
  some (a0 == a1)
def F_bytes_Equal.ann : List (Nat × Ann) := []
def F_bytes_Equal.sig : Sig := ⟨[.val false [.sl (.int .u8)], .val false [.sl (.int .u8)]], [(false, [.dat .bool])]⟩
noncomputable def F_bytes_Equal.S : Summ := ⟨87, F_bytes_Equal.sig, F_bytes_Equal⟩
noncomputable def F_bytes_Equal.G : List Summ := []
theorem F_bytes_Equal.eq : absF Tryz.prog F_bytes_Equal.G F_bytes_Equal.ann F_bytes_Equal.sig Tryz.f87 = F_bytes_Equal := by kernel_rfl
theorem F_bytes_Equal.sound : Sound Tryz.prog F_bytes_Equal.S := absF_sound (fn := Tryz.f87) (Γ := F_bytes_Equal.G) all_nil mix (by kernel_rfl) (by kernel_rfl) (fun m p => congrFun (congrFun F_bytes_Equal.eq m) p)
/-! ### cloakroom/code.OfChanges -/
noncomputable def F_code_OfChanges.l250 (m : Fu) (x3 : Int × (List Int) × Bool) (x4 : (List (Int × Int × ((List Int) × (List Int) × Int × Int × Int) × (List Int) × Int × Int × Bool)) × Int × (List Int) × Bool) : Option (Step ((List (Int × Int × ((List Int) × (List Int) × Int × Int × Int) × (List Int) × Int × Int × Bool)) × Int × (List Int) × Bool) (Int ⊕ ((List (Int × Int × ((List Int) × (List Int) × Int × Int × Int) × (List Int) × Int × Int × Bool)) × (List Int) × Bool))) :=
  bif decide (x4.2.1 < x3.1) then
    (F_code_reader_change m x4.2.2).bind fun x6 =>
    let x7 := [(x6.1, (x6.2.1, ((x6.2.2.1, (x6.2.2.2.1, (x6.2.2.2.2.1, (x6.2.2.2.2.2.1, x6.2.2.2.2.2.2.1)))), (x6.2.2.2.2.2.2.2.1, (x6.2.2.2.2.2.2.2.2.1, (x6.2.2.2.2.2.2.2.2.2.1, x6.2.2.2.2.2.2.2.2.2.2.1))))))]
    bif Nat.ble (x4.1.length + x7.length) 4294967296 then
      bif x6.2.2.2.2.2.2.2.2.2.2.2.2 then
        some (.fin (Sum.inl (8 : Int)))
      else some (.next ((x4.1 ++ x7), (IntKind.i64.wrap (x4.2.1 + (1 : Int))), x6.2.2.2.2.2.2.2.2.2.2.2))
    else none
  else some (.fin (Sum.inr (x4.1, x4.2.2)))
noncomputable def F_code_OfChanges (m : Fu) (p : List Int) : Option ((List (Int × Int × ((List Int) × (List Int) × Int × Int × Int) × (List Int) × Int × Int × Bool)) × Int) :=
  let a0 := p
  bif decide ((65536 : Int) < (a0.length : Int)) then some (([] : List (Int × Int × ((List Int) × (List Int) × Int × Int × Int) × (List Int) × Int × Int × Bool)), (3 : Int)) else
  (F_code_reader_num m (a0, false, (4096 : Int))).bind fun x3 =>
  (iter m (F_code_OfChanges.l250 m x3) (([] : List (Int × Int × ((List Int) × (List Int) × Int × Int × Int) × (List Int) × Int × Int × Bool)), (0 : Int), x3.2)).bind fun x10 =>
  match x10 with
  | .inl x11 =>
    some (([] : List (Int × Int × ((List Int) × (List Int) × Int × Int × Int) × (List Int) × Int × Int × Bool)), x11)
  | .inr x12 =>
    (F_code_Changes m x12.1).bind fun x13 =>
    bif x12.2.2 then some (([] : List (Int × Int × ((List Int) × (List Int) × Int × Int × Int) × (List Int) × Int × Int × Bool)), (8 : Int)) else
    bif x13.2 != (0 : Int) then some (([] : List (Int × Int × ((List Int) × (List Int) × Int × Int × Int) × (List Int) × Int × Int × Bool)), (8 : Int)) else
    (F_bytes_Equal m (x13.1, a0)).bind fun x15 =>
    bif !x15 then
      some (([] : List (Int × Int × ((List Int) × (List Int) × Int × Int × Int) × (List Int) × Int × Int × Bool)), (8 : Int))
    else some (x12.1, (0 : Int))
def F_code_OfChanges.ann : List (Nat × Ann) := [(250, .loop ⟨[(5, false, [.own (.pr (.int .u8) (.pr (.int .i64) (.pr (.pr .str (.pr .str (.pr (.int .u32) (.pr (.int .i64) (.int .u64))))) (.pr .str (.pr (.int .u8) (.pr (.int .i64) .bool)))))) 224 .wr]), (16, false, [.dat (.int .i64)])], [(128, [.dat (.sl (.int .u8)), .dat .bool])], [], [], 225⟩ [(.ret, ⟨[(2, false, [.cst .nils]), (3, false, [.dat (.int .i64)])], [], [], [128], 224⟩), (.exit 0, ⟨[(5, false, [.own (.pr (.int .u8) (.pr (.int .i64) (.pr (.pr .str (.pr .str (.pr (.int .u32) (.pr (.int .i64) (.int .u64))))) (.pr .str (.pr (.int .u8) (.pr (.int .i64) .bool)))))) 224 .wr])], [(128, [.dat (.sl (.int .u8)), .dat .bool])], [], [], 225⟩)])]
def F_code_OfChanges.sig : Sig := ⟨[.val false [.sl (.int .u8)]], [(false, [.own (.pr (.int .u8) (.pr (.int .i64) (.pr (.pr .str (.pr .str (.pr (.int .u32) (.pr (.int .i64) (.int .u64))))) (.pr .str (.pr (.int .u8) (.pr (.int .i64) .bool)))))) 0 .fr]), (false, [.dat (.int .i64)])]⟩
noncomputable def F_code_OfChanges.S : Summ := ⟨63, F_code_OfChanges.sig, F_code_OfChanges⟩
noncomputable def F_code_OfChanges.G : List Summ := [F_code_reader_num.S, F_code_reader_change.S, F_code_Changes.S, F_bytes_Equal.S]
theorem F_code_OfChanges.eq : absF Tryz.prog F_code_OfChanges.G F_code_OfChanges.ann F_code_OfChanges.sig Tryz.f63 = F_code_OfChanges := by kernel_rfl
theorem F_code_OfChanges.sound : Sound Tryz.prog F_code_OfChanges.S := absF_sound (fn := Tryz.f63) (Γ := F_code_OfChanges.G) (all_cons F_code_reader_num.sound (all_cons F_code_reader_change.sound (all_cons F_code_Changes.sound (all_cons F_bytes_Equal.sound all_nil)))) mix (by kernel_rfl) (by kernel_rfl) (fun m p => congrFun (congrFun F_code_OfChanges.eq m) p)
/-! ### cloakroom/numbers.changes -/
noncomputable def F_numbers_changes (m : Fu) (p : List Int) : Option (Bool) :=
  let a0 := p
  (F_code_OfChanges m a0).bind fun x1 =>
  some (x1.2 == (0 : Int))
def F_numbers_changes.ann : List (Nat × Ann) := []
def F_numbers_changes.sig : Sig := ⟨[.val false [.sl (.int .u8)]], [(false, [.dat .bool])]⟩
noncomputable def F_numbers_changes.S : Summ := ⟨43, F_numbers_changes.sig, F_numbers_changes⟩
noncomputable def F_numbers_changes.G : List Summ := [F_code_OfChanges.S]
theorem F_numbers_changes.eq : absF Tryz.prog F_numbers_changes.G F_numbers_changes.ann F_numbers_changes.sig Tryz.f43 = F_numbers_changes := by kernel_rfl
theorem F_numbers_changes.sound : Sound Tryz.prog F_numbers_changes.S := absF_sound (fn := Tryz.f43) (Γ := F_numbers_changes.G) (all_cons F_code_OfChanges.sound all_nil) mix (by kernel_rfl) (by kernel_rfl) (fun m p => congrFun (congrFun F_numbers_changes.eq m) p)
/-! ### cloakroom/numbers.Check$1 -/
noncomputable def F_numbers_Check_c1 (m : Fu) (p : List Int) : Option (Bool) :=
  let a0 := p
  (F_numbers_changes m a0).bind fun x1 =>
  some (!x1)
def F_numbers_Check_c1.ann : List (Nat × Ann) := []
def F_numbers_Check_c1.sig : Sig := ⟨[.val false [.sl (.int .u8)]], [(false, [.dat .bool])]⟩
noncomputable def F_numbers_Check_c1.S : Summ := ⟨42, F_numbers_Check_c1.sig, F_numbers_Check_c1⟩
noncomputable def F_numbers_Check_c1.G : List Summ := [F_numbers_changes.S]
theorem F_numbers_Check_c1.eq : absF Tryz.prog F_numbers_Check_c1.G F_numbers_Check_c1.ann F_numbers_Check_c1.sig Tryz.f42 = F_numbers_Check_c1 := by kernel_rfl
theorem F_numbers_Check_c1.sound : Sound Tryz.prog F_numbers_Check_c1.S := absF_sound (fn := Tryz.f42) (Γ := F_numbers_Check_c1.G) (all_cons F_numbers_changes.sound all_nil) mix (by kernel_rfl) (by kernel_rfl) (fun m p => congrFun (congrFun F_numbers_Check_c1.eq m) p)
/-! ### slices.IndexFunc[[][]byte,[]byte] -/
noncomputable def F_slices_IndexFunc_byte.l26 (m : Fu) (a0 : List (List Int)) (x1 : Int) (x2 : Int) : Option (Step Int (Int ⊕ Unit)) :=
  bif decide (x2 < x1) then
    bif (decide ((0 : Int) ≤ x2)) && (decide (x2 < (a0.length : Int))) then
      (F_numbers_Check_c1 m (a0.getD x2.toNat [])).bind fun x5 =>
      bif x5 then
        some (.fin (Sum.inl x2))
      else some (.next (IntKind.i64.wrap (x2 + (1 : Int))))
    else none
  else some (.fin (Sum.inr ()))
noncomputable def F_slices_IndexFunc_byte (m : Fu) (p : List (List Int)) : Option (Int) :=
  let a0 := p
  (iter m (F_slices_IndexFunc_byte.l26 m a0 (a0.length : Int)) (0 : Int)).bind fun x7 =>
  match x7 with
  | .inl x8 =>
    some x8
  | .inr _ =>
    some (-1 : Int)
def F_slices_IndexFunc_byte.ann : List (Nat × Ann) := [(26, .loop ⟨[(8, false, [.dat (.int .i64)])], [], [], [], 96⟩ [(.ret, ⟨[(4, false, [.dat (.int .i64)])], [], [], [], 96⟩), (.exit 0, ⟨[], [], [], [], 96⟩)])]
def F_slices_IndexFunc_byte.sig : Sig := ⟨[.val false [.sl (.sl (.int .u8))], .fn 42 []], [(false, [.dat (.int .i64)])]⟩
noncomputable def F_slices_IndexFunc_byte.S : Summ := ⟨62, F_slices_IndexFunc_byte.sig, F_slices_IndexFunc_byte⟩
noncomputable def F_slices_IndexFunc_byte.G : List Summ := [F_numbers_Check_c1.S]
theorem F_slices_IndexFunc_byte.eq : absF Tryz.prog F_slices_IndexFunc_byte.G F_slices_IndexFunc_byte.ann F_slices_IndexFunc_byte.sig Tryz.f62 = F_slices_IndexFunc_byte := by kernel_rfl
theorem F_slices_IndexFunc_byte.sound : Sound Tryz.prog F_slices_IndexFunc_byte.S := absF_sound (fn := Tryz.f62) (Γ := F_slices_IndexFunc_byte.G) (all_cons F_numbers_Check_c1.sound all_nil) mix (by kernel_rfl) (by kernel_rfl) (fun m p => congrFun (congrFun F_slices_IndexFunc_byte.eq m) p)
/-! ### slices.ContainsFunc[[][]byte,[]byte] -/
noncomputable def F_slices_ContainsFunc_byte (m : Fu) (p : List (List Int)) : Option (Bool) :=
  let a0 := p
  (F_slices_IndexFunc_byte m a0).bind fun x1 =>
  some (decide ((0 : Int) ≤ x1))
def F_slices_ContainsFunc_byte.ann : List (Nat × Ann) := []
def F_slices_ContainsFunc_byte.sig : Sig := ⟨[.val false [.sl (.sl (.int .u8))], .fn 42 []], [(false, [.dat .bool])]⟩
noncomputable def F_slices_ContainsFunc_byte.S : Summ := ⟨41, F_slices_ContainsFunc_byte.sig, F_slices_ContainsFunc_byte⟩
noncomputable def F_slices_ContainsFunc_byte.G : List Summ := [F_slices_IndexFunc_byte.S]
theorem F_slices_ContainsFunc_byte.eq : absF Tryz.prog F_slices_ContainsFunc_byte.G F_slices_ContainsFunc_byte.ann F_slices_ContainsFunc_byte.sig Tryz.f41 = F_slices_ContainsFunc_byte := by kernel_rfl
theorem F_slices_ContainsFunc_byte.sound : Sound Tryz.prog F_slices_ContainsFunc_byte.S := absF_sound (fn := Tryz.f41) (Γ := F_slices_ContainsFunc_byte.G) (all_cons F_slices_IndexFunc_byte.sound all_nil) mix (by kernel_rfl) (by kernel_rfl) (fun m p => congrFun (congrFun F_slices_ContainsFunc_byte.eq m) p)
/-! ### cloakroom/numbers.Check -/
noncomputable def F_numbers_Check (m : Fu) (p : Int × Int × Int × (List (List Int))) : Option (Int) :=
  let a0 := p.1
  let a1 := p.2.1
  let a2 := p.2.2.1
  let a3 := p.2.2.2
  (F_numbers_in m a0).bind fun x1 =>
  bif !x1 then some (8 : Int) else
  (F_numbers_in m a1).bind fun x3 =>
  bif !x3 then some (8 : Int) else
  bif decide (a2 < (0 : Int)) then some (8 : Int) else
  bif decide (a1 < a2) then some (8 : Int) else
  bif decide ((mnI (32 : Int) a1) < (a3.length : Int)) then some (8 : Int) else
  (F_slices_ContainsFunc_byte m a3).bind fun x10 =>
  bif x10 then
    some (8 : Int)
  else some (0 : Int)
def F_numbers_Check.ann : List (Nat × Ann) := []
def F_numbers_Check.sig : Sig := ⟨[.val true [.int .i64, .int .i64, .int .i64, .sl (.sl (.int .u8))]], [(false, [.dat (.int .i64)])]⟩
noncomputable def F_numbers_Check.S : Summ := ⟨31, F_numbers_Check.sig, F_numbers_Check⟩
noncomputable def F_numbers_Check.G : List Summ := [F_numbers_in.S, F_slices_ContainsFunc_byte.S]
theorem F_numbers_Check.eq : absF Tryz.prog F_numbers_Check.G F_numbers_Check.ann F_numbers_Check.sig Tryz.f31 = F_numbers_Check := by kernel_rfl
theorem F_numbers_Check.sound : Sound Tryz.prog F_numbers_Check.S := absF_sound (fn := Tryz.f31) (Γ := F_numbers_Check.G) (all_cons F_numbers_in.sound (all_cons F_slices_ContainsFunc_byte.sound all_nil)) mix (by kernel_rfl) (by kernel_rfl) (fun m p => congrFun (congrFun F_numbers_Check.eq m) p)
/-! ### cloakroom/promote.Down -/
noncomputable def F_promote_Down (m : Fu) (p : Int × Int × Int × (List (List Int)) × Int × (List Int) × (List (Int × (List Int) × (List Int) × Int × Int × Int)) × Int × Int × Bool × Int) : Option (Int × Int × Int × (List Int) × (List (Int × (List Int) × (List Int) × Int × Int × Int)) × Int × Int × Bool × (List (Int × Int × ((List Int) × (List Int) × Int × Int × Int) × (List Int) × Int × Int × Bool)) × Int) :=
  let a0 := p.1
  let a1 := p.2.1
  let a2 := p.2.2.1
  let a3 := p.2.2.2.1
  let a4 := p.2.2.2.2.1
  let a5 := p.2.2.2.2.2.1
  let a6 := p.2.2.2.2.2.2.1
  let a7 := p.2.2.2.2.2.2.2.1
  let a8 := p.2.2.2.2.2.2.2.2.1
  let a9 := p.2.2.2.2.2.2.2.2.2.1
  let a10 := p.2.2.2.2.2.2.2.2.2.2
  (F_numbers_Check m (a0, a1, a2, a3)).bind fun x1 =>
  bif x1 != (0 : Int) then some ((0 : Int), (0 : Int), (0 : Int), ([] : List Int), ([] : List (Int × (List Int) × (List Int) × Int × Int × Int)), (0 : Int), (0 : Int), false, ([] : List (Int × Int × ((List Int) × (List Int) × Int × Int × Int) × (List Int) × Int × Int × Bool)), x1) else
  (F_image_Check m (a4, a5, a6, a7, a8, a9)).bind fun x3 =>
  bif x3 != (0 : Int) then some ((0 : Int), (0 : Int), (0 : Int), ([] : List Int), ([] : List (Int × (List Int) × (List Int) × Int × Int × Int)), (0 : Int), (0 : Int), false, ([] : List (Int × Int × ((List Int) × (List Int) × Int × Int × Int) × (List Int) × Int × Int × Bool)), x3) else
  bif a7 != a0 then some ((0 : Int), (0 : Int), (0 : Int), ([] : List Int), ([] : List (Int × (List Int) × (List Int) × Int × Int × Int)), (0 : Int), (0 : Int), false, ([] : List (Int × Int × ((List Int) × (List Int) × Int × Int × Int) × (List Int) × Int × Int × Bool)), (260 : Int)) else
  bif a8 != a1 then some ((0 : Int), (0 : Int), (0 : Int), ([] : List Int), ([] : List (Int × (List Int) × (List Int) × Int × Int × Int)), (0 : Int), (0 : Int), false, ([] : List (Int × Int × ((List Int) × (List Int) × Int × Int × Int) × (List Int) × Int × Int × Bool)), (260 : Int)) else
  bif !a9 then some ((0 : Int), (0 : Int), (0 : Int), ([] : List Int), ([] : List (Int × (List Int) × (List Int) × Int × Int × Int)), (0 : Int), (0 : Int), false, ([] : List (Int × Int × ((List Int) × (List Int) × Int × Int × Int) × (List Int) × Int × Int × Bool)), (260 : Int)) else
  bif decide (a10 < (0 : Int)) then some ((0 : Int), (0 : Int), (0 : Int), ([] : List Int), ([] : List (Int × (List Int) × (List Int) × Int × Int × Int)), (0 : Int), (0 : Int), false, ([] : List (Int × Int × ((List Int) × (List Int) × Int × Int × Int) × (List Int) × Int × Int × Bool)), (2 : Int)) else
  bif decide ((2147483647 : Int) < a10) then some ((0 : Int), (0 : Int), (0 : Int), ([] : List Int), ([] : List (Int × (List Int) × (List Int) × Int × Int × Int)), (0 : Int), (0 : Int), false, ([] : List (Int × Int × ((List Int) × (List Int) × Int × Int × Int) × (List Int) × Int × Int × Bool)), (2 : Int)) else
  bif decide (a10 ≤ a0) then some ((0 : Int), (0 : Int), (0 : Int), ([] : List Int), ([] : List (Int × (List Int) × (List Int) × Int × Int × Int)), (0 : Int), (0 : Int), false, ([] : List (Int × Int × ((List Int) × (List Int) × Int × Int × Int) × (List Int) × Int × Int × Bool)), (250 : Int)) else
  (F_promote_turn m (a4, a5, a6, a7, a8, a9, a0, false)).bind fun x11 =>
  some (a0, a1, x11)
def F_promote_Down.ann : List (Nat × Ann) := []
def F_promote_Down.sig : Sig := ⟨[.val true [.int .i64, .int .i64, .int .i64, .sl (.sl (.int .u8))], .val true [.int .i64, .sl (.int .i64), .sl (.pr (.int .i64) (.pr .str (.pr .str (.pr (.int .u32) (.pr (.int .i64) (.int .u64)))))), .int .i64, .int .i64, .bool], .val false [.int .i64]], [(true, [.dat (.int .i64), .dat (.int .i64), .dat (.int .i64), .own (.int .i64) 0 .wr, .own (.pr (.int .i64) (.pr .str (.pr .str (.pr (.int .u32) (.pr (.int .i64) (.int .u64)))))) 0 .wr, .dat (.int .i64), .dat (.int .i64), .dat .bool]), (false, [.own (.pr (.int .u8) (.pr (.int .i64) (.pr (.pr .str (.pr .str (.pr (.int .u32) (.pr (.int .i64) (.int .u64))))) (.pr .str (.pr (.int .u8) (.pr (.int .i64) .bool)))))) 0 .wr]), (false, [.dat (.int .i64)])]⟩
noncomputable def F_promote_Down.S : Summ := ⟨15, F_promote_Down.sig, F_promote_Down⟩
noncomputable def F_promote_Down.G : List Summ := [F_numbers_Check.S, F_image_Check.S, F_promote_turn.S]
theorem F_promote_Down.eq : absF Tryz.prog F_promote_Down.G F_promote_Down.ann F_promote_Down.sig Tryz.f15 = F_promote_Down := by kernel_rfl
theorem F_promote_Down.sound : Sound Tryz.prog F_promote_Down.S := absF_sound (fn := Tryz.f15) (Γ := F_promote_Down.G) (all_cons F_numbers_Check.sound (all_cons F_image_Check.sound (all_cons F_promote_turn.sound all_nil))) mix (by kernel_rfl) (by kernel_rfl) (fun m p => congrFun (congrFun F_promote_Down.eq m) p)
/-! ### cloakroom/cloakroomref01.Read -/
noncomputable def F_ref01_Read.s112 (_ : Fu) (a0 : List Int) (x1 : Int) : Option (Unit ⊕ Unit) :=
  bif decide (x1 < (a0.length : Int)) then
    bif decide (x1 < (10 : Int)) then
      bif (decide ((0 : Int) ≤ x1)) && (decide (x1 < (a0.length : Int))) then
        bif decide ((128 : Int) ≤ (a0.getD x1.toNat 0)) then
          some (Sum.inl ())
        else some (Sum.inr ())
      else none
    else some (Sum.inr ())
  else some (Sum.inr ())
noncomputable def F_ref01_Read.l28 (m : Fu) (a0 : List Int) (x1 : Int) : Option (Step Int Int) :=
  (F_ref01_Read.s112 m a0 x1).bind fun x7 =>
  match x7 with
  | .inl _ =>
    some (.next (IntKind.i64.wrap (x1 + (1 : Int))))
  | .inr _ =>
    some (.fin x1)
noncomputable def F_ref01_Read.s30 (_ : Fu) (a0 : List Int) (x11 : Int) : Option ((Int × Int × Int) ⊕ Unit) :=
  bif decide ((a0.length : Int) ≤ x11) then some (Sum.inl ((0 : Int), (0 : Int), (8 : Int))) else
  bif decide ((10 : Int) ≤ x11) then some (Sum.inl ((0 : Int), (0 : Int), (8 : Int))) else
  bif x11 == (9 : Int) then
    bif decide ((9 : Int) < (a0.length : Int)) then
      bif decide ((1 : Int) < (a0.getD 9 0)) then some (Sum.inl ((0 : Int), (0 : Int), (8 : Int))) else
      bif decide ((0 : Int) < x11) then
        bif (decide ((0 : Int) ≤ x11)) && (decide (x11 < (a0.length : Int))) then
          bif (a0.getD x11.toNat 0) == (0 : Int) then
            some (Sum.inl ((0 : Int), (0 : Int), (8 : Int)))
          else some (Sum.inr ())
        else none
      else some (Sum.inr ())
    else none
  else
    bif decide ((0 : Int) < x11) then
      bif (decide ((0 : Int) ≤ x11)) && (decide (x11 < (a0.length : Int))) then
        bif (a0.getD x11.toNat 0) == (0 : Int) then
          some (Sum.inl ((0 : Int), (0 : Int), (8 : Int)))
        else some (Sum.inr ())
      else none
    else some (Sum.inr ())
noncomputable def F_ref01_Read.l506 (_ : Fu) (a0 : List Int) (x27 : Int × Int) : Option (Step (Int × Int) Int) :=
  bif decide ((0 : Int) ≤ x27.2) then
    bif (decide ((0 : Int) ≤ x27.2)) && (decide (x27.2 < (a0.length : Int))) then
      some (.next ((IntKind.u64.wrap ((IntKind.u64.wrap (x27.1 * (128 : Int))) + (IntKind.u64.wrap ((a0.getD x27.2.toNat 0).tmod (128 : Int))))), (IntKind.i64.wrap (x27.2 - (1 : Int)))))
    else none
  else some (.fin x27.1)
noncomputable def F_ref01_Read (m : Fu) (p : List Int) : Option (Int × Int × Int) :=
  let a0 := p
  (iter m (F_ref01_Read.l28 m a0) (0 : Int)).bind fun x11 =>
  (F_ref01_Read.s30 m a0 x11).bind fun x24 =>
  match x24 with
  | .inl x25 =>
    some x25
  | .inr _ =>
    (iter m (F_ref01_Read.l506 m a0) ((0 : Int), x11)).bind fun x35 =>
    some (x35, (IntKind.i64.wrap (x11 + (1 : Int))), (0 : Int))
def F_ref01_Read.ann : List (Nat × Ann) := [(28, .loop ⟨[(5, false, [.dat (.int .i64)])], [], [], [], 80⟩ [(.exit 0, ⟨[(5, false, [.dat (.int .i64)])], [], [], [], 80⟩)]),
  (30, .jnt [(.ret, ⟨[(2, false, [.dat (.int .u64)]), (3, false, [.dat (.int .i64)]), (4, false, [.dat (.int .i64)])], [], [], [], 80⟩), (.normal, ⟨[], [], [], [], 80⟩)]),
  (112, .jnt [(.normal, ⟨[], [], [], [], 80⟩), (.exit 0, ⟨[], [], [], [], 80⟩)]),
  (506, .loop ⟨[(6, false, [.dat (.int .u64)]), (7, false, [.dat (.int .i64)])], [], [], [], 128⟩ [(.exit 2, ⟨[(6, false, [.dat (.int .u64)])], [], [], [], 128⟩)])]
def F_ref01_Read.sig : Sig := ⟨[.val false [.sl (.int .u8)]], [(false, [.dat (.int .u64)]), (false, [.dat (.int .i64)]), (false, [.dat (.int .i64)])]⟩
noncomputable def F_ref01_Read.S : Summ := ⟨89, F_ref01_Read.sig, F_ref01_Read⟩
noncomputable def F_ref01_Read.G : List Summ := []
theorem F_ref01_Read.eq : absF Tryz.prog F_ref01_Read.G F_ref01_Read.ann F_ref01_Read.sig Tryz.f89 = F_ref01_Read := by kernel_rfl
theorem F_ref01_Read.sound : Sound Tryz.prog F_ref01_Read.S := absF_sound (fn := Tryz.f89) (Γ := F_ref01_Read.G) all_nil mix (by kernel_rfl) (by kernel_rfl) (fun m p => congrFun (congrFun F_ref01_Read.eq m) p)
/-! ### (*cloakroom/cloakroomref01.Reader).Number -/
noncomputable def F_ref01_Reader_Number.s28 (_ : Fu) (a2 : Int) (x1 : Int × Int × Int) : Option (Bool) :=
  bif x1.2.2 != (0 : Int) then
    some true
  else some (decide (a2 < x1.1))
noncomputable def F_ref01_Reader_Number (m : Fu) (p : (List Int) × Bool × Int) : Option (Int × (List Int) × Bool) :=
  let a0 := p.1
  let a1 := p.2.1
  let a2 := p.2.2
  (F_ref01_Read m a0).bind fun x1 =>
  (F_ref01_Reader_Number.s28 m a2 x1).bind fun x4 =>
  bif x4 then some ((0 : Int), a0, true) else
  bif (((decide ((0 : Int) ≤ x1.2.1)) && (decide (x1.2.1 ≤ (a0.length : Int)))) && (decide ((a0.length : Int) ≤ (a0.length : Int)))) && (decide ((a0.length : Int) ≤ (a0.length : Int))) then
    some (x1.1, ((a0.take ((a0.length : Int).toNat)).drop x1.2.1.toNat), a1)
  else none
def F_ref01_Reader_Number.ann : List (Nat × Ann) := [(28, .jnt [(.normal, ⟨[(23, false, [.dat .bool])], [], [], [], 240⟩)])]
def F_ref01_Reader_Number.sig : Sig := ⟨[.box [.sl (.int .u8), .bool], .val false [.int .u64]], [(false, [.dat (.int .u64)])]⟩
noncomputable def F_ref01_Reader_Number.S : Summ := ⟨67, F_ref01_Reader_Number.sig, F_ref01_Reader_Number⟩
noncomputable def F_ref01_Reader_Number.G : List Summ := [F_ref01_Read.S]
theorem F_ref01_Reader_Number.eq : absF Tryz.prog F_ref01_Reader_Number.G F_ref01_Reader_Number.ann F_ref01_Reader_Number.sig Tryz.f67 = F_ref01_Reader_Number := by kernel_rfl
theorem F_ref01_Reader_Number.sound : Sound Tryz.prog F_ref01_Reader_Number.S := absF_sound (fn := Tryz.f67) (Γ := F_ref01_Reader_Number.G) (all_cons F_ref01_Read.sound all_nil) mix (by kernel_rfl) (by kernel_rfl) (fun m p => congrFun (congrFun F_ref01_Reader_Number.eq m) p)
/-! ### (*cloakroom/cloakroomref01.Reader).Byte -/
noncomputable def F_ref01_Reader_Byte (_ : Fu) (p : (List Int) × Bool) : Option (Int × (List Int) × Bool) :=
  let a0 := p.1
  let a1 := p.2
  bif (a0.length : Int) == (0 : Int) then some ((0 : Int), a0, true) else
  bif decide ((0 : Int) < (a0.length : Int)) then
    bif ((decide ((1 : Int) ≤ (a0.length : Int))) && (decide ((a0.length : Int) ≤ (a0.length : Int)))) && (decide ((a0.length : Int) ≤ (a0.length : Int))) then
      some ((a0.getD 0 0), ((a0.take ((a0.length : Int).toNat)).drop 1), a1)
    else none
  else none
def F_ref01_Reader_Byte.ann : List (Nat × Ann) := []
def F_ref01_Reader_Byte.sig : Sig := ⟨[.box [.sl (.int .u8), .bool]], [(false, [.dat (.int .u8)])]⟩
noncomputable def F_ref01_Reader_Byte.S : Summ := ⟨90, F_ref01_Reader_Byte.sig, F_ref01_Reader_Byte⟩
noncomputable def F_ref01_Reader_Byte.G : List Summ := []
theorem F_ref01_Reader_Byte.eq : absF Tryz.prog F_ref01_Reader_Byte.G F_ref01_Reader_Byte.ann F_ref01_Reader_Byte.sig Tryz.f90 = F_ref01_Reader_Byte := by kernel_rfl
theorem F_ref01_Reader_Byte.sound : Sound Tryz.prog F_ref01_Reader_Byte.S := absF_sound (fn := Tryz.f90) (Γ := F_ref01_Reader_Byte.G) all_nil mix (by kernel_rfl) (by kernel_rfl) (fun m p => congrFun (congrFun F_ref01_Reader_Byte.eq m) p)
/-! ### (*cloakroom/cloakroomref01.Reader).Text -/
noncomputable def F_ref01_Reader_Text.s28 (_ : Fu) (a0 : List Int) (x1 : Int × Int × Int) : Option (Bool) :=
  bif x1.2.2 != (0 : Int) then
    some true
  else some (decide ((IntKind.u64.wrap (IntKind.i64.wrap ((a0.length : Int) - x1.2.1))) < x1.1))
noncomputable def F_ref01_Reader_Text (m : Fu) (p : (List Int) × Bool) : Option ((List Int) × (List Int) × Bool) :=
  let a0 := p.1
  let a1 := p.2
  (F_ref01_Read m a0).bind fun x1 =>
  (F_ref01_Reader_Text.s28 m a0 x1).bind fun x7 =>
  bif x7 then some (([] : List Int), a0, true) else
  let x9 := IntKind.i64.wrap (x1.2.1 + (IntKind.i64.wrap x1.1))
  bif (((decide ((0 : Int) ≤ x1.2.1)) && (decide (x1.2.1 ≤ x9))) && (decide (x9 ≤ (a0.length : Int)))) && (decide ((a0.length : Int) ≤ (a0.length : Int))) then
    let x12 := IntKind.i64.wrap (x1.2.1 + (IntKind.i64.wrap x1.1))
    bif (((decide ((0 : Int) ≤ x12)) && (decide (x12 ≤ (a0.length : Int)))) && (decide ((a0.length : Int) ≤ (a0.length : Int)))) && (decide ((a0.length : Int) ≤ (a0.length : Int))) then
      some (((a0.take x9.toNat).drop x1.2.1.toNat), ((a0.take ((a0.length : Int).toNat)).drop x12.toNat), a1)
    else none
  else none
def F_ref01_Reader_Text.ann : List (Nat × Ann) := [(28, .jnt [(.normal, ⟨[(29, false, [.dat .bool])], [], [], [], 224⟩)])]
def F_ref01_Reader_Text.sig : Sig := ⟨[.box [.sl (.int .u8), .bool]], [(false, [.dat .str])]⟩
noncomputable def F_ref01_Reader_Text.S : Summ := ⟨92, F_ref01_Reader_Text.sig, F_ref01_Reader_Text⟩
noncomputable def F_ref01_Reader_Text.G : List Summ := [F_ref01_Read.S]
theorem F_ref01_Reader_Text.eq : absF Tryz.prog F_ref01_Reader_Text.G F_ref01_Reader_Text.ann F_ref01_Reader_Text.sig Tryz.f92 = F_ref01_Reader_Text := by kernel_rfl
theorem F_ref01_Reader_Text.sound : Sound Tryz.prog F_ref01_Reader_Text.S := absF_sound (fn := Tryz.f92) (Γ := F_ref01_Reader_Text.G) (all_cons F_ref01_Read.sound all_nil) mix (by kernel_rfl) (by kernel_rfl) (fun m p => congrFun (congrFun F_ref01_Reader_Text.eq m) p)
/-! ### (*cloakroom/cloakroomref01.Reader).Item -/
noncomputable def F_ref01_Reader_Item (m : Fu) (p : (List Int) × Bool) : Option ((List Int) × (List Int) × Int × Int × Int × (List Int) × Bool) :=
  let a0 := p.1
  let a1 := p.2
  (F_ref01_Reader_Text m (a0, a1)).bind fun x1 =>
  (F_ref01_Reader_Text m x1.2).bind fun x2 =>
  (F_ref01_Reader_Number m (x2.2.1, x2.2.2, (4294967295 : Int))).bind fun x3 =>
  (F_ref01_Reader_Number m (x3.2.1, x3.2.2, (1099511627776 : Int))).bind fun x5 =>
  (F_ref01_Reader_Number m (x5.2.1, x5.2.2, (18446744073709551615 : Int))).bind fun x7 =>
  some (x1.1, x2.1, (IntKind.u32.wrap x3.1), (IntKind.i64.wrap x5.1), x7)
def F_ref01_Reader_Item.ann : List (Nat × Ann) := []
def F_ref01_Reader_Item.sig : Sig := ⟨[.box [.sl (.int .u8), .bool]], [(true, [.dat .str, .dat .str, .dat (.int .u32), .dat (.int .i64), .dat (.int .u64)])]⟩
noncomputable def F_ref01_Reader_Item.S : Summ := ⟨91, F_ref01_Reader_Item.sig, F_ref01_Reader_Item⟩
noncomputable def F_ref01_Reader_Item.G : List Summ := [F_ref01_Reader_Text.S, F_ref01_Reader_Number.S]
theorem F_ref01_Reader_Item.eq : absF Tryz.prog F_ref01_Reader_Item.G F_ref01_Reader_Item.ann F_ref01_Reader_Item.sig Tryz.f91 = F_ref01_Reader_Item := by kernel_rfl
theorem F_ref01_Reader_Item.sound : Sound Tryz.prog F_ref01_Reader_Item.S := absF_sound (fn := Tryz.f91) (Γ := F_ref01_Reader_Item.G) (all_cons F_ref01_Reader_Text.sound (all_cons F_ref01_Reader_Number.sound all_nil)) mix (by kernel_rfl) (by kernel_rfl) (fun m p => congrFun (congrFun F_ref01_Reader_Item.eq m) p)
/-! ### (*cloakroom/cloakroomref01.Reader).change -/
noncomputable def F_ref01_Reader_change.s14 (m : Fu) (x1 : Int × (List Int) × Bool) : Option (((List Int) × Bool × Int × Int × (List Int) × (List Int) × Int × Int × Int × (List Int) × Int × Int × Bool)) :=
  bif x1.1 == (1 : Int) then
    (F_ref01_Reader_Number m (x1.2.1, x1.2.2, (4 : Int))).bind fun x3 =>
    (F_ref01_Reader_Item m x3.2).bind fun x5 =>
    some (x5.2.2.2.2.2.1, x5.2.2.2.2.2.2, x1.1, (IntKind.i64.wrap x3.1), x5.1, x5.2.1, x5.2.2.1, x5.2.2.2.1, x5.2.2.2.2.1, ([] : List Int), (0 : Int), (0 : Int), false)
  else
    bif x1.1 == (2 : Int) then
      (F_ref01_Reader_Number m (x1.2.1, x1.2.2, (4 : Int))).bind fun x7 =>
      (F_ref01_Reader_Text m x7.2).bind fun x9 =>
      (F_ref01_Reader_Byte m x9.2).bind fun x10 =>
      some (x10.2.1, x10.2.2, x1.1, (IntKind.i64.wrap x7.1), ([] : List Int), ([] : List Int), (0 : Int), (0 : Int), (0 : Int), x9.1, x10.1, (0 : Int), false)
    else
      bif x1.1 == (3 : Int) then
        (F_ref01_Reader_Number m (x1.2.1, x1.2.2, (4 : Int))).bind fun x12 =>
        some (x12.2.1, x12.2.2, x1.1, (IntKind.i64.wrap x12.1), ([] : List Int), ([] : List Int), (0 : Int), (0 : Int), (0 : Int), ([] : List Int), (0 : Int), (0 : Int), false)
      else
        bif x1.1 == (4 : Int) then
          (F_ref01_Reader_Number m (x1.2.1, x1.2.2, (1099511627776 : Int))).bind fun x15 =>
          some (x15.2.1, x15.2.2, x1.1, (0 : Int), ([] : List Int), ([] : List Int), (0 : Int), (0 : Int), (0 : Int), ([] : List Int), (0 : Int), (IntKind.i64.wrap x15.1), false)
        else
          bif x1.1 == (5 : Int) then
            (F_ref01_Reader_Number m (x1.2.1, x1.2.2, (4 : Int))).bind fun x18 =>
            (F_ref01_Reader_Number m (x18.2.1, x18.2.2, (16 : Int))).bind fun x20 =>
            some (x20.2.1, x20.2.2, x1.1, (IntKind.i64.wrap x18.1), ([] : List Int), ([] : List Int), (0 : Int), (0 : Int), (0 : Int), ([] : List Int), (0 : Int), (IntKind.i64.wrap x20.1), false)
          else
            bif x1.1 == (6 : Int) then
              (F_ref01_Reader_Number m (x1.2.1, x1.2.2, (2147483647 : Int))).bind fun x23 =>
              (F_ref01_Reader_Byte m x23.2).bind fun x25 =>
              some (x25.2.1, x25.2.2, x1.1, (0 : Int), ([] : List Int), ([] : List Int), (0 : Int), (0 : Int), (0 : Int), ([] : List Int), (0 : Int), (IntKind.i64.wrap x23.1), (x25.1 == (1 : Int)))
            else
              bif x1.1 == (7 : Int) then
                (F_ref01_Reader_Number m (x1.2.1, x1.2.2, (2147483647 : Int))).bind fun x28 =>
                some (x28.2.1, x28.2.2, x1.1, (0 : Int), ([] : List Int), ([] : List Int), (0 : Int), (0 : Int), (0 : Int), ([] : List Int), (0 : Int), (IntKind.i64.wrap x28.1), false)
              else some (x1.2.1, true, x1.1, (0 : Int), ([] : List Int), ([] : List Int), (0 : Int), (0 : Int), (0 : Int), ([] : List Int), (0 : Int), (0 : Int), false)
noncomputable def F_ref01_Reader_change (m : Fu) (p : (List Int) × Bool) : Option (Int × Int × (List Int) × (List Int) × Int × Int × Int × (List Int) × Int × Int × Bool × (List Int) × Bool) :=
  let a0 := p.1
  let a1 := p.2
  (F_ref01_Reader_Byte m (a0, a1)).bind fun x1 =>
  (F_ref01_Reader_change.s14 m x1).bind fun x30 =>
  some (x30.2.2.1, x30.2.2.2.1, x30.2.2.2.2.1, x30.2.2.2.2.2.1, x30.2.2.2.2.2.2.1, x30.2.2.2.2.2.2.2.1, x30.2.2.2.2.2.2.2.2.1, x30.2.2.2.2.2.2.2.2.2.1, x30.2.2.2.2.2.2.2.2.2.2.1, x30.2.2.2.2.2.2.2.2.2.2.2.1, x30.2.2.2.2.2.2.2.2.2.2.2.2, x30.1, x30.2.1)
def F_ref01_Reader_change.ann : List (Nat × Ann) := [(14, .jnt [(.normal, ⟨[], [(0, [.dat (.sl (.int .u8)), .dat .bool]), (80, [.dat (.int .u8), .dat (.int .i64), .dat .str, .dat .str, .dat (.int .u32), .dat (.int .i64), .dat (.int .u64), .dat .str, .dat (.int .u8), .dat (.int .i64), .dat .bool])], [], [], 112⟩)])]
def F_ref01_Reader_change.sig : Sig := ⟨[.box [.sl (.int .u8), .bool]], [(true, [.dat (.int .u8), .dat (.int .i64), .dat .str, .dat .str, .dat (.int .u32), .dat (.int .i64), .dat (.int .u64), .dat .str, .dat (.int .u8), .dat (.int .i64), .dat .bool])]⟩
noncomputable def F_ref01_Reader_change.S : Summ := ⟨68, F_ref01_Reader_change.sig, F_ref01_Reader_change⟩
noncomputable def F_ref01_Reader_change.G : List Summ := [F_ref01_Reader_Byte.S, F_ref01_Reader_Number.S, F_ref01_Reader_Item.S, F_ref01_Reader_Text.S]
theorem F_ref01_Reader_change.eq : absF Tryz.prog F_ref01_Reader_change.G F_ref01_Reader_change.ann F_ref01_Reader_change.sig Tryz.f68 = F_ref01_Reader_change := by kernel_rfl
theorem F_ref01_Reader_change.sound : Sound Tryz.prog F_ref01_Reader_change.S := absF_sound (fn := Tryz.f68) (Γ := F_ref01_Reader_change.G) (all_cons F_ref01_Reader_Byte.sound (all_cons F_ref01_Reader_Number.sound (all_cons F_ref01_Reader_Item.sound (all_cons F_ref01_Reader_Text.sound all_nil)))) mix (by kernel_rfl) (by kernel_rfl) (fun m p => congrFun (congrFun F_ref01_Reader_change.eq m) p)
/-! ### cloakroom/cloakroomref01.OfChanges -/
noncomputable def F_ref01_OfChanges.s2024 (_ : Fu) (x3 : Int × (List Int) × Bool) (x4 : (List (Int × Int × ((List Int) × (List Int) × Int × Int × Int) × (List Int) × Int × Int × Bool)) × Int × (List Int) × Bool) : Option (Unit ⊕ Unit) :=
  bif decide (x4.2.1 < x3.1) then
    bif !x4.2.2.2 then
      some (Sum.inl ())
    else some (Sum.inr ())
  else some (Sum.inr ())
noncomputable def F_ref01_OfChanges.l506 (m : Fu) (x3 : Int × (List Int) × Bool) (x4 : (List (Int × Int × ((List Int) × (List Int) × Int × Int × Int) × (List Int) × Int × Int × Bool)) × Int × (List Int) × Bool) : Option (Step ((List (Int × Int × ((List Int) × (List Int) × Int × Int × Int) × (List Int) × Int × Int × Bool)) × Int × (List Int) × Bool) (((List (Int × Int × ((List Int) × (List Int) × Int × Int × Int) × (List Int) × Int × Int × Bool)) × (List Int) × Bool))) :=
  (F_ref01_OfChanges.s2024 m x3 x4).bind fun x7 =>
  match x7 with
  | .inl _ =>
    (F_ref01_Reader_change m x4.2.2).bind fun x9 =>
    let x10 := [(x9.1, (x9.2.1, ((x9.2.2.1, (x9.2.2.2.1, (x9.2.2.2.2.1, (x9.2.2.2.2.2.1, x9.2.2.2.2.2.2.1)))), (x9.2.2.2.2.2.2.2.1, (x9.2.2.2.2.2.2.2.2.1, (x9.2.2.2.2.2.2.2.2.2.1, x9.2.2.2.2.2.2.2.2.2.2.1))))))]
    bif Nat.ble (x4.1.length + x10.length) 4294967296 then
      some (.next ((x4.1 ++ x10), (IntKind.u64.wrap (x4.2.1 + (1 : Int))), x9.2.2.2.2.2.2.2.2.2.2.2))
    else none
  | .inr _ =>
    some (.fin (x4.1, x4.2.2))
noncomputable def F_ref01_OfChanges (m : Fu) (p : List Int) : Option ((List (Int × Int × ((List Int) × (List Int) × Int × Int × Int) × (List Int) × Int × Int × Bool)) × Int) :=
  let a0 := p
  bif decide ((65536 : Int) < (a0.length : Int)) then some (([] : List (Int × Int × ((List Int) × (List Int) × Int × Int × Int) × (List Int) × Int × Int × Bool)), (3 : Int)) else
  (F_ref01_Reader_Number m (a0, false, (4096 : Int))).bind fun x3 =>
  (iter m (F_ref01_OfChanges.l506 m x3) (([] : List (Int × Int × ((List Int) × (List Int) × Int × Int × Int) × (List Int) × Int × Int × Bool)), (0 : Int), x3.2)).bind fun x14 =>
  bif x14.2.2 then some (([] : List (Int × Int × ((List Int) × (List Int) × Int × Int × Int) × (List Int) × Int × Int × Bool)), (8 : Int)) else
  (F_ref01_Changes m x14.1).bind fun x15 =>
  bif x15.2 != (0 : Int) then some (([] : List (Int × Int × ((List Int) × (List Int) × Int × Int × Int) × (List Int) × Int × Int × Bool)), (8 : Int)) else
  bif !(x15.1 == a0) then
    some (([] : List (Int × Int × ((List Int) × (List Int) × Int × Int × Int) × (List Int) × Int × Int × Bool)), (8 : Int))
  else some (x14.1, (0 : Int))
def F_ref01_OfChanges.ann : List (Nat × Ann) := [(506, .loop ⟨[(6, false, [.own (.pr (.int .u8) (.pr (.int .i64) (.pr (.pr .str (.pr .str (.pr (.int .u32) (.pr (.int .i64) (.int .u64))))) (.pr .str (.pr (.int .u8) (.pr (.int .i64) .bool)))))) 240 .wr]), (7, false, [.dat (.int .u64)])], [(128, [.dat (.sl (.int .u8)), .dat .bool])], [], [], 241⟩ [(.exit 0, ⟨[(6, false, [.own (.pr (.int .u8) (.pr (.int .i64) (.pr (.pr .str (.pr .str (.pr (.int .u32) (.pr (.int .i64) (.int .u64))))) (.pr .str (.pr (.int .u8) (.pr (.int .i64) .bool)))))) 240 .wr])], [(128, [.dat (.sl (.int .u8)), .dat .bool])], [], [], 241⟩)]),
  (2024, .jnt [(.normal, ⟨[], [], [], [], 241⟩), (.exit 0, ⟨[], [], [], [], 241⟩)])]
def F_ref01_OfChanges.sig : Sig := ⟨[.val false [.sl (.int .u8)]], [(false, [.own (.pr (.int .u8) (.pr (.int .i64) (.pr (.pr .str (.pr .str (.pr (.int .u32) (.pr (.int .i64) (.int .u64))))) (.pr .str (.pr (.int .u8) (.pr (.int .i64) .bool)))))) 0 .wr]), (false, [.dat (.int .i64)])]⟩
noncomputable def F_ref01_OfChanges.S : Summ := ⟨49, F_ref01_OfChanges.sig, F_ref01_OfChanges⟩
noncomputable def F_ref01_OfChanges.G : List Summ := [F_ref01_Reader_Number.S, F_ref01_Reader_change.S, F_ref01_Changes.S]
theorem F_ref01_OfChanges.eq : absF Tryz.prog F_ref01_OfChanges.G F_ref01_OfChanges.ann F_ref01_OfChanges.sig Tryz.f49 = F_ref01_OfChanges := by kernel_rfl
theorem F_ref01_OfChanges.sound : Sound Tryz.prog F_ref01_OfChanges.S := absF_sound (fn := Tryz.f49) (Γ := F_ref01_OfChanges.G) (all_cons F_ref01_Reader_Number.sound (all_cons F_ref01_Reader_change.sound (all_cons F_ref01_Changes.sound all_nil))) mix (by kernel_rfl) (by kernel_rfl) (fun m p => congrFun (congrFun F_ref01_OfChanges.eq m) p)
/-! ### cloakroom/cloakroomref24.Check -/
noncomputable def F_ref24_Check.l58 (m : Fu) (a3 : List (List Int)) (x11 : Int) : Option (Step Int (Int ⊕ Unit)) :=
  bif decide (x11 < (a3.length : Int)) then
    bif (decide ((0 : Int) ≤ x11)) && (decide (x11 < (a3.length : Int))) then
      (F_ref01_OfChanges m (a3.getD x11.toNat [])).bind fun x15 =>
      bif x15.2 != (0 : Int) then
        some (.fin (Sum.inl (8 : Int)))
      else some (.next (IntKind.i64.wrap (x11 + (1 : Int))))
    else none
  else some (.fin (Sum.inr ()))
noncomputable def F_ref24_Check (m : Fu) (p : Int × Int × Int × (List (List Int))) : Option (Int) :=
  let a0 := p.1
  let a1 := p.2.1
  let a2 := p.2.2.1
  let a3 := p.2.2.2
  (F_ref24_in m a0).bind fun x1 =>
  bif !x1 then some (8 : Int) else
  (F_ref24_in m a1).bind fun x3 =>
  bif !x3 then some (8 : Int) else
  bif decide (a2 < (0 : Int)) then some (8 : Int) else
  bif decide (a1 < a2) then some (8 : Int) else
  bif decide ((32 : Int) < (a3.length : Int)) then some (8 : Int) else
  bif decide (a1 < (a3.length : Int)) then some (8 : Int) else
  (iter m (F_ref24_Check.l58 m a3) (0 : Int)).bind fun x18 =>
  match x18 with
  | .inl x19 =>
    some x19
  | .inr _ =>
    some (0 : Int)
def F_ref24_Check.ann : List (Nat × Ann) := [(58, .loop ⟨[(3, false, [.dat (.int .i64)])], [], [], [], 640⟩ [(.ret, ⟨[(2, false, [.dat (.int .i64)])], [], [], [], 640⟩), (.exit 0, ⟨[], [], [], [], 640⟩)])]
def F_ref24_Check.sig : Sig := ⟨[.val true [.int .i64, .int .i64, .int .i64, .sl (.sl (.int .u8))]], [(false, [.dat (.int .i64)])]⟩
noncomputable def F_ref24_Check.S : Summ := ⟨33, F_ref24_Check.sig, F_ref24_Check⟩
noncomputable def F_ref24_Check.G : List Summ := [F_ref24_in.S, F_ref01_OfChanges.S]
theorem F_ref24_Check.eq : absF Tryz.prog F_ref24_Check.G F_ref24_Check.ann F_ref24_Check.sig Tryz.f33 = F_ref24_Check := by kernel_rfl
theorem F_ref24_Check.sound : Sound Tryz.prog F_ref24_Check.S := absF_sound (fn := Tryz.f33) (Γ := F_ref24_Check.G) (all_cons F_ref24_in.sound (all_cons F_ref01_OfChanges.sound all_nil)) mix (by kernel_rfl) (by kernel_rfl) (fun m p => congrFun (congrFun F_ref24_Check.eq m) p)
/-! ### cloakroom/cloakroomref26.Down -/
noncomputable def F_ref26_Down.s14 (m : Fu) (a4 : Int) (a5 : List Int) (a6 : List (Int × (List Int) × (List Int) × Int × Int × Int)) (a7 : Int) (a8 : Int) (a9 : Bool) (x1 : Int) : Option (Int) :=
  bif x1 == (0 : Int) then
    (F_ref21_Check m (a4, a5, a6, a7, a8, a9)).bind fun x3 =>
    some x3
  else some x1
noncomputable def F_ref26_Down (m : Fu) (p : Int × Int × Int × (List (List Int)) × Int × (List Int) × (List (Int × (List Int) × (List Int) × Int × Int × Int)) × Int × Int × Bool × Int) : Option (Int × Int × Int × (List Int) × (List (Int × (List Int) × (List Int) × Int × Int × Int)) × Int × Int × Bool × (List (Int × Int × ((List Int) × (List Int) × Int × Int × Int) × (List Int) × Int × Int × Bool)) × Int) :=
  let a0 := p.1
  let a1 := p.2.1
  let a2 := p.2.2.1
  let a3 := p.2.2.2.1
  let a4 := p.2.2.2.2.1
  let a5 := p.2.2.2.2.2.1
  let a6 := p.2.2.2.2.2.2.1
  let a7 := p.2.2.2.2.2.2.2.1
  let a8 := p.2.2.2.2.2.2.2.2.1
  let a9 := p.2.2.2.2.2.2.2.2.2.1
  let a10 := p.2.2.2.2.2.2.2.2.2.2
  (F_ref24_Check m (a0, a1, a2, a3)).bind fun x1 =>
  (F_ref26_Down.s14 m a4 a5 a6 a7 a8 a9 x1).bind fun x4 =>
  bif x4 != (0 : Int) then some ((0 : Int), (0 : Int), (0 : Int), ([] : List Int), ([] : List (Int × (List Int) × (List Int) × Int × Int × Int)), (0 : Int), (0 : Int), false, ([] : List (Int × Int × ((List Int) × (List Int) × Int × Int × Int) × (List Int) × Int × Int × Bool)), x4) else
  bif a7 != a0 then some ((0 : Int), (0 : Int), (0 : Int), ([] : List Int), ([] : List (Int × (List Int) × (List Int) × Int × Int × Int)), (0 : Int), (0 : Int), false, ([] : List (Int × Int × ((List Int) × (List Int) × Int × Int × Int) × (List Int) × Int × Int × Bool)), (260 : Int)) else
  bif a8 != a1 then some ((0 : Int), (0 : Int), (0 : Int), ([] : List Int), ([] : List (Int × (List Int) × (List Int) × Int × Int × Int)), (0 : Int), (0 : Int), false, ([] : List (Int × Int × ((List Int) × (List Int) × Int × Int × Int) × (List Int) × Int × Int × Bool)), (260 : Int)) else
  bif !a9 then some ((0 : Int), (0 : Int), (0 : Int), ([] : List Int), ([] : List (Int × (List Int) × (List Int) × Int × Int × Int)), (0 : Int), (0 : Int), false, ([] : List (Int × Int × ((List Int) × (List Int) × Int × Int × Int) × (List Int) × Int × Int × Bool)), (260 : Int)) else
  (F_ref26_in m a10).bind fun x9 =>
  bif !x9 then some ((0 : Int), (0 : Int), (0 : Int), ([] : List Int), ([] : List (Int × (List Int) × (List Int) × Int × Int × Int)), (0 : Int), (0 : Int), false, ([] : List (Int × Int × ((List Int) × (List Int) × Int × Int × Int) × (List Int) × Int × Int × Bool)), (2 : Int)) else
  bif decide (a10 ≤ a0) then some ((0 : Int), (0 : Int), (0 : Int), ([] : List Int), ([] : List (Int × (List Int) × (List Int) × Int × Int × Int)), (0 : Int), (0 : Int), false, ([] : List (Int × Int × ((List Int) × (List Int) × Int × Int × Int) × (List Int) × Int × Int × Bool)), (250 : Int)) else
  (F_ref26_term m (a0, false)).bind fun x12 =>
  (F_ref21_Apply m (a4, a5, a6, a7, a8, a9, x12)).bind fun x13 =>
  some (a0, a1, x13.1, x13.2.1, x13.2.2.1, x13.2.2.2.1, x13.2.2.2.2.1, x13.2.2.2.2.2.1, x12, (0 : Int))
def F_ref26_Down.ann : List (Nat × Ann) := [(14, .jnt [(.normal, ⟨[(9, false, [.dat (.int .i64)])], [], [], [], 176⟩)])]
def F_ref26_Down.sig : Sig := ⟨[.val true [.int .i64, .int .i64, .int .i64, .sl (.sl (.int .u8))], .val true [.int .i64, .sl (.int .i64), .sl (.pr (.int .i64) (.pr .str (.pr .str (.pr (.int .u32) (.pr (.int .i64) (.int .u64)))))), .int .i64, .int .i64, .bool], .val false [.int .i64]], [(true, [.dat (.int .i64), .dat (.int .i64), .dat (.int .i64), .own (.int .i64) 0 .wr, .own (.pr (.int .i64) (.pr .str (.pr .str (.pr (.int .u32) (.pr (.int .i64) (.int .u64)))))) 0 .wr, .dat (.int .i64), .dat (.int .i64), .dat .bool]), (false, [.own (.pr (.int .u8) (.pr (.int .i64) (.pr (.pr .str (.pr .str (.pr (.int .u32) (.pr (.int .i64) (.int .u64))))) (.pr .str (.pr (.int .u8) (.pr (.int .i64) .bool)))))) 0 .wr]), (false, [.dat (.int .i64)])]⟩
noncomputable def F_ref26_Down.S : Summ := ⟨16, F_ref26_Down.sig, F_ref26_Down⟩
noncomputable def F_ref26_Down.G : List Summ := [F_ref24_Check.S, F_ref21_Check.S, F_ref26_in.S, F_ref26_term.S, F_ref21_Apply.S]
theorem F_ref26_Down.eq : absF Tryz.prog F_ref26_Down.G F_ref26_Down.ann F_ref26_Down.sig Tryz.f16 = F_ref26_Down := by kernel_rfl
theorem F_ref26_Down.sound : Sound Tryz.prog F_ref26_Down.S := absF_sound (fn := Tryz.f16) (Γ := F_ref26_Down.G) (all_cons F_ref24_Check.sound (all_cons F_ref21_Check.sound (all_cons F_ref26_in.sound (all_cons F_ref26_term.sound (all_cons F_ref21_Apply.sound all_nil))))) mix (by kernel_rfl) (by kernel_rfl) (fun m p => congrFun (congrFun F_ref26_Down.eq m) p)
/-! ### cloakroom/promote.Sure -/
noncomputable def F_promote_Sure (m : Fu) (p : Int × Int × Int × (List (List Int)) × Int × Bool) : Option (Bool × Int) :=
  let a0 := p.1
  let a1 := p.2.1
  let a2 := p.2.2.1
  let a3 := p.2.2.2.1
  let a4 := p.2.2.2.2.1
  let a5 := p.2.2.2.2.2
  (F_numbers_Check m (a0, a1, a2, a3)).bind fun x1 =>
  bif x1 != (0 : Int) then some (false, x1) else
  bif decide (a4 < (0 : Int)) then some (false, (2 : Int)) else
  bif decide (a1 < a4) then some (false, (2 : Int)) else
  bif !a5 then
    some (true, (0 : Int))
  else some ((decide (a4 ≤ a2)), (0 : Int))
def F_promote_Sure.ann : List (Nat × Ann) := []
def F_promote_Sure.sig : Sig := ⟨[.val true [.int .i64, .int .i64, .int .i64, .sl (.sl (.int .u8))], .val false [.int .i64], .val false [.bool]], [(false, [.dat .bool]), (false, [.dat (.int .i64)])]⟩
noncomputable def F_promote_Sure.S : Summ := ⟨17, F_promote_Sure.sig, F_promote_Sure⟩
noncomputable def F_promote_Sure.G : List Summ := [F_numbers_Check.S]
theorem F_promote_Sure.eq : absF Tryz.prog F_promote_Sure.G F_promote_Sure.ann F_promote_Sure.sig Tryz.f17 = F_promote_Sure := by kernel_rfl
theorem F_promote_Sure.sound : Sound Tryz.prog F_promote_Sure.S := absF_sound (fn := Tryz.f17) (Γ := F_promote_Sure.G) (all_cons F_numbers_Check.sound all_nil) mix (by kernel_rfl) (by kernel_rfl) (fun m p => congrFun (congrFun F_promote_Sure.eq m) p)
/-! ### cloakroom/cloakroomref26.Sure -/
noncomputable def F_ref26_Sure (m : Fu) (p : Int × Int × Int × (List (List Int)) × Int × Bool) : Option (Bool × Int) :=
  let a0 := p.1
  let a1 := p.2.1
  let a2 := p.2.2.1
  let a3 := p.2.2.2.1
  let a4 := p.2.2.2.2.1
  let a5 := p.2.2.2.2.2
  (F_ref24_Check m (a0, a1, a2, a3)).bind fun x1 =>
  bif x1 != (0 : Int) then some (false, x1) else
  bif decide (a4 < (0 : Int)) then some (false, (2 : Int)) else
  bif decide (a1 < a4) then some (false, (2 : Int)) else
  bif !a5 then
    some (true, (0 : Int))
  else some ((decide (a4 ≤ a2)), (0 : Int))
def F_ref26_Sure.ann : List (Nat × Ann) := []
def F_ref26_Sure.sig : Sig := ⟨[.val true [.int .i64, .int .i64, .int .i64, .sl (.sl (.int .u8))], .val false [.int .i64], .val false [.bool]], [(false, [.dat .bool]), (false, [.dat (.int .i64)])]⟩
noncomputable def F_ref26_Sure.S : Summ := ⟨18, F_ref26_Sure.sig, F_ref26_Sure⟩
noncomputable def F_ref26_Sure.G : List Summ := [F_ref24_Check.S]
theorem F_ref26_Sure.eq : absF Tryz.prog F_ref26_Sure.G F_ref26_Sure.ann F_ref26_Sure.sig Tryz.f18 = F_ref26_Sure := by kernel_rfl
theorem F_ref26_Sure.sound : Sound Tryz.prog F_ref26_Sure.S := absF_sound (fn := Tryz.f18) (Γ := F_ref26_Sure.G) (all_cons F_ref24_Check.sound all_nil) mix (by kernel_rfl) (by kernel_rfl) (fun m p => congrFun (congrFun F_ref26_Sure.eq m) p)
/-! ### cloakroom/cloakroomref24.SameSender -/
noncomputable def F_ref24_SameSender.l58 (_ : Fu) (a3 : List (List Int)) (a7 : List (List Int)) (x7 : Int) : Option (Step Int (Bool ⊕ Unit)) :=
  bif decide (x7 < (a3.length : Int)) then
    bif (decide ((0 : Int) ≤ x7)) && (decide (x7 < (a3.length : Int))) then
      bif (decide ((0 : Int) ≤ x7)) && (decide (x7 < (a7.length : Int))) then
        bif !((a3.getD x7.toNat []) == (a7.getD x7.toNat [])) then
          some (.fin (Sum.inl false))
        else some (.next (IntKind.i64.wrap (x7 + (1 : Int))))
      else none
    else none
  else some (.fin (Sum.inr ()))
noncomputable def F_ref24_SameSender (m : Fu) (p : Int × Int × Int × (List (List Int)) × Int × Int × Int × (List (List Int))) : Option (Bool) :=
  let a0 := p.1
  let a1 := p.2.1
  let a2 := p.2.2.1
  let a3 := p.2.2.2.1
  let a4 := p.2.2.2.2.1
  let a5 := p.2.2.2.2.2.1
  let a6 := p.2.2.2.2.2.2.1
  let a7 := p.2.2.2.2.2.2.2
  bif a0 != a4 then some false else
  bif a1 != a5 then some false else
  bif a2 != a6 then some false else
  bif (a3.length : Int) != (a7.length : Int) then some false else
  (iter m (F_ref24_SameSender.l58 m a3 a7) (0 : Int)).bind fun x14 =>
  match x14 with
  | .inl x15 =>
    some x15
  | .inr _ =>
    some true
def F_ref24_SameSender.ann : List (Nat × Ann) := [(58, .loop ⟨[(5, false, [.dat (.int .i64)])], [], [], [], 544⟩ [(.ret, ⟨[(4, false, [.dat .bool])], [], [], [], 544⟩), (.exit 0, ⟨[], [], [], [], 544⟩)])]
def F_ref24_SameSender.sig : Sig := ⟨[.val true [.int .i64, .int .i64, .int .i64, .sl (.sl (.int .u8))], .val true [.int .i64, .int .i64, .int .i64, .sl (.sl (.int .u8))]], [(false, [.dat .bool])]⟩
noncomputable def F_ref24_SameSender.S : Summ := ⟨19, F_ref24_SameSender.sig, F_ref24_SameSender⟩
noncomputable def F_ref24_SameSender.G : List Summ := []
theorem F_ref24_SameSender.eq : absF Tryz.prog F_ref24_SameSender.G F_ref24_SameSender.ann F_ref24_SameSender.sig Tryz.f19 = F_ref24_SameSender := by kernel_rfl
theorem F_ref24_SameSender.sound : Sound Tryz.prog F_ref24_SameSender.S := absF_sound (fn := Tryz.f19) (Γ := F_ref24_SameSender.G) all_nil mix (by kernel_rfl) (by kernel_rfl) (fun m p => congrFun (congrFun F_ref24_SameSender.eq m) p)
/-! ### cloakroom/cloakroomref21.Same -/
noncomputable def F_ref21_Same.l58 (_ : Fu) (a1 : List Int) (a7 : List Int) (x11 : Int) : Option (Step Int (Bool ⊕ Unit)) :=
  bif decide (x11 < (a1.length : Int)) then
    bif (decide ((0 : Int) ≤ x11)) && (decide (x11 < (a1.length : Int))) then
      bif (decide ((0 : Int) ≤ x11)) && (decide (x11 < (a7.length : Int))) then
        bif (a1.getD x11.toNat 0) != (a7.getD x11.toNat 0) then
          some (.fin (Sum.inl false))
        else some (.next (IntKind.i64.wrap (x11 + (1 : Int))))
      else none
    else none
  else some (.fin (Sum.inr ()))
noncomputable def F_ref21_Same.l122 (_ : Fu) (a2 : List (Int × (List Int) × (List Int) × Int × Int × Int)) (a8 : List (Int × (List Int) × (List Int) × Int × Int × Int)) (x21 : Int) : Option (Step Int (Bool ⊕ Unit)) :=
  bif decide (x21 < (a2.length : Int)) then
    bif (decide ((0 : Int) ≤ x21)) && (decide (x21 < (a2.length : Int))) then
      let x24 := a2.getD x21.toNat (0, ([], ([], (0, (0, 0)))))
      bif (decide ((0 : Int) ≤ x21)) && (decide (x21 < (a8.length : Int))) then
        let x25 := a8.getD x21.toNat (0, ([], ([], (0, (0, 0)))))
        bif !((x24.1 == x25.1) && (((x24.2.1 == x25.2.1) && ((x24.2.2.1 == x25.2.2.1) && ((x24.2.2.2.1 == x25.2.2.2.1) && ((x24.2.2.2.2.1 == x25.2.2.2.2.1) && ((x24.2.2.2.2.2 == x25.2.2.2.2.2) && true))))) && true)) then
          some (.fin (Sum.inl false))
        else some (.next (IntKind.i64.wrap (x21 + (1 : Int))))
      else none
    else none
  else some (.fin (Sum.inr ()))
noncomputable def F_ref21_Same (m : Fu) (p : Int × (List Int) × (List (Int × (List Int) × (List Int) × Int × Int × Int)) × Int × Int × Bool × Int × (List Int) × (List (Int × (List Int) × (List Int) × Int × Int × Int)) × Int × Int × Bool) : Option (Bool) :=
  let a0 := p.1
  let a1 := p.2.1
  let a2 := p.2.2.1
  let a3 := p.2.2.2.1
  let a4 := p.2.2.2.2.1
  let a5 := p.2.2.2.2.2.1
  let a6 := p.2.2.2.2.2.2.1
  let a7 := p.2.2.2.2.2.2.2.1
  let a8 := p.2.2.2.2.2.2.2.2.1
  let a9 := p.2.2.2.2.2.2.2.2.2.1
  let a10 := p.2.2.2.2.2.2.2.2.2.2.1
  let a11 := p.2.2.2.2.2.2.2.2.2.2.2
  bif a0 != a6 then some false else
  bif a3 != a9 then some false else
  bif a4 != a10 then some false else
  bif !(a5 == a11) then some false else
  bif (a1.length : Int) != (a7.length : Int) then some false else
  bif (a2.length : Int) != (a8.length : Int) then some false else
  (iter m (F_ref21_Same.l58 m a1 a7) (0 : Int)).bind fun x18 =>
  match x18 with
  | .inl x19 =>
    some x19
  | .inr _ =>
    (iter m (F_ref21_Same.l122 m a2 a8) (0 : Int)).bind fun x28 =>
    match x28 with
    | .inl x29 =>
      some x29
    | .inr _ =>
      some true
def F_ref21_Same.ann : List (Nat × Ann) := [(58, .loop ⟨[(5, false, [.dat (.int .i64)])], [], [], [], 800⟩ [(.ret, ⟨[(4, false, [.dat .bool])], [], [], [], 800⟩), (.exit 0, ⟨[], [], [], [], 800⟩)]),
  (122, .loop ⟨[(6, false, [.dat (.int .i64)])], [], [], [], 816⟩ [(.ret, ⟨[(4, false, [.dat .bool])], [], [], [], 816⟩), (.exit 2, ⟨[], [], [], [], 816⟩)])]
def F_ref21_Same.sig : Sig := ⟨[.val true [.int .i64, .sl (.int .i64), .sl (.pr (.int .i64) (.pr .str (.pr .str (.pr (.int .u32) (.pr (.int .i64) (.int .u64)))))), .int .i64, .int .i64, .bool], .val true [.int .i64, .sl (.int .i64), .sl (.pr (.int .i64) (.pr .str (.pr .str (.pr (.int .u32) (.pr (.int .i64) (.int .u64)))))), .int .i64, .int .i64, .bool]], [(false, [.dat .bool])]⟩
noncomputable def F_ref21_Same.S : Summ := ⟨20, F_ref21_Same.sig, F_ref21_Same⟩
noncomputable def F_ref21_Same.G : List Summ := []
theorem F_ref21_Same.eq : absF Tryz.prog F_ref21_Same.G F_ref21_Same.ann F_ref21_Same.sig Tryz.f20 = F_ref21_Same := by kernel_rfl
theorem F_ref21_Same.sound : Sound Tryz.prog F_ref21_Same.S := absF_sound (fn := Tryz.f20) (Γ := F_ref21_Same.G) all_nil mix (by kernel_rfl) (by kernel_rfl) (fun m p => congrFun (congrFun F_ref21_Same.eq m) p)
/-! ### cloakroom/cloakroomref01.SameChanges -/
noncomputable def F_ref01_SameChanges.l58 (_ : Fu) (a0 : List (Int × Int × ((List Int) × (List Int) × Int × Int × Int) × (List Int) × Int × Int × Bool)) (a1 : List (Int × Int × ((List Int) × (List Int) × Int × Int × Int) × (List Int) × Int × Int × Bool)) (x4 : Int) : Option (Step Int (Bool ⊕ Unit)) :=
  bif decide (x4 < (a0.length : Int)) then
    bif (decide ((0 : Int) ≤ x4)) && (decide (x4 < (a0.length : Int))) then
      let x7 := a0.getD x4.toNat (0, (0, (([], ([], (0, (0, 0)))), ([], (0, (0, false))))))
      bif (decide ((0 : Int) ≤ x4)) && (decide (x4 < (a1.length : Int))) then
        let x8 := a1.getD x4.toNat (0, (0, (([], ([], (0, (0, 0)))), ([], (0, (0, false))))))
        bif !((x7.1 == x8.1) && ((x7.2.1 == x8.2.1) && (((x7.2.2.1.1 == x8.2.2.1.1) && ((x7.2.2.1.2.1 == x8.2.2.1.2.1) && ((x7.2.2.1.2.2.1 == x8.2.2.1.2.2.1) && ((x7.2.2.1.2.2.2.1 == x8.2.2.1.2.2.2.1) && ((x7.2.2.1.2.2.2.2 == x8.2.2.1.2.2.2.2) && true))))) && ((x7.2.2.2.1 == x8.2.2.2.1) && ((x7.2.2.2.2.1 == x8.2.2.2.2.1) && ((x7.2.2.2.2.2.1 == x8.2.2.2.2.2.1) && ((x7.2.2.2.2.2.2 == x8.2.2.2.2.2.2) && true))))))) then
          some (.fin (Sum.inl false))
        else some (.next (IntKind.i64.wrap (x4 + (1 : Int))))
      else none
    else none
  else some (.fin (Sum.inr ()))
noncomputable def F_ref01_SameChanges (m : Fu) (p : (List (Int × Int × ((List Int) × (List Int) × Int × Int × Int) × (List Int) × Int × Int × Bool)) × (List (Int × Int × ((List Int) × (List Int) × Int × Int × Int) × (List Int) × Int × Int × Bool))) : Option (Bool) :=
  let a0 := p.1
  let a1 := p.2
  bif (a0.length : Int) != (a1.length : Int) then some false else
  (iter m (F_ref01_SameChanges.l58 m a0 a1) (0 : Int)).bind fun x11 =>
  match x11 with
  | .inl x12 =>
    some x12
  | .inr _ =>
    some true
def F_ref01_SameChanges.ann : List (Nat × Ann) := [(58, .loop ⟨[(5, false, [.dat (.int .i64)])], [], [], [], 144⟩ [(.ret, ⟨[(4, false, [.dat .bool])], [], [], [], 144⟩), (.exit 0, ⟨[], [], [], [], 144⟩)])]
def F_ref01_SameChanges.sig : Sig := ⟨[.val false [.sl (.pr (.int .u8) (.pr (.int .i64) (.pr (.pr .str (.pr .str (.pr (.int .u32) (.pr (.int .i64) (.int .u64))))) (.pr .str (.pr (.int .u8) (.pr (.int .i64) .bool))))))], .val false [.sl (.pr (.int .u8) (.pr (.int .i64) (.pr (.pr .str (.pr .str (.pr (.int .u32) (.pr (.int .i64) (.int .u64))))) (.pr .str (.pr (.int .u8) (.pr (.int .i64) .bool))))))]], [(false, [.dat .bool])]⟩
noncomputable def F_ref01_SameChanges.S : Summ := ⟨21, F_ref01_SameChanges.sig, F_ref01_SameChanges⟩
noncomputable def F_ref01_SameChanges.G : List Summ := []
theorem F_ref01_SameChanges.eq : absF Tryz.prog F_ref01_SameChanges.G F_ref01_SameChanges.ann F_ref01_SameChanges.sig Tryz.f21 = F_ref01_SameChanges := by kernel_rfl
theorem F_ref01_SameChanges.sound : Sound Tryz.prog F_ref01_SameChanges.S := absF_sound (fn := Tryz.f21) (Γ := F_ref01_SameChanges.G) all_nil mix (by kernel_rfl) (by kernel_rfl) (fun m p => congrFun (congrFun F_ref01_SameChanges.eq m) p)
/-! ### cloakroom/cloakroomref25.Same -/
noncomputable def F_ref25_Same (m : Fu) (p : Int × Int × Int × (List Int) × (List (Int × (List Int) × (List Int) × Int × Int × Int)) × Int × Int × Bool × Int × Int × Int × (List Int) × (List (Int × (List Int) × (List Int) × Int × Int × Int)) × Int × Int × Bool) : Option (Bool) :=
  let a0 := p.1
  let a1 := p.2.1
  let a2 := p.2.2.1
  let a3 := p.2.2.2.1
  let a4 := p.2.2.2.2.1
  let a5 := p.2.2.2.2.2.1
  let a6 := p.2.2.2.2.2.2.1
  let a7 := p.2.2.2.2.2.2.2.1
  let a8 := p.2.2.2.2.2.2.2.2.1
  let a9 := p.2.2.2.2.2.2.2.2.2.1
  let a10 := p.2.2.2.2.2.2.2.2.2.2.1
  let a11 := p.2.2.2.2.2.2.2.2.2.2.2.1
  let a12 := p.2.2.2.2.2.2.2.2.2.2.2.2.1
  let a13 := p.2.2.2.2.2.2.2.2.2.2.2.2.2.1
  let a14 := p.2.2.2.2.2.2.2.2.2.2.2.2.2.2.1
  let a15 := p.2.2.2.2.2.2.2.2.2.2.2.2.2.2.2
  bif a0 == a8 then
    bif a1 == a9 then
      (F_ref21_Same m (a2, a3, a4, a5, a6, a7, a10, a11, a12, a13, a14, a15)).bind fun x3 =>
      some x3
    else some false
  else some false
def F_ref25_Same.ann : List (Nat × Ann) := []
def F_ref25_Same.sig : Sig := ⟨[.val true [.int .i64, .int .i64, .int .i64, .sl (.int .i64), .sl (.pr (.int .i64) (.pr .str (.pr .str (.pr (.int .u32) (.pr (.int .i64) (.int .u64)))))), .int .i64, .int .i64, .bool], .val true [.int .i64, .int .i64, .int .i64, .sl (.int .i64), .sl (.pr (.int .i64) (.pr .str (.pr .str (.pr (.int .u32) (.pr (.int .i64) (.int .u64)))))), .int .i64, .int .i64, .bool]], [(false, [.dat .bool])]⟩
noncomputable def F_ref25_Same.S : Summ := ⟨22, F_ref25_Same.sig, F_ref25_Same⟩
noncomputable def F_ref25_Same.G : List Summ := [F_ref21_Same.S]
theorem F_ref25_Same.eq : absF Tryz.prog F_ref25_Same.G F_ref25_Same.ann F_ref25_Same.sig Tryz.f22 = F_ref25_Same := by kernel_rfl
theorem F_ref25_Same.sound : Sound Tryz.prog F_ref25_Same.S := absF_sound (fn := Tryz.f22) (Γ := F_ref25_Same.G) (all_cons F_ref21_Same.sound all_nil) mix (by kernel_rfl) (by kernel_rfl) (fun m p => congrFun (congrFun F_ref25_Same.eq m) p)
/-! ### cloakroom/cloakroomlaw26.PromoteTurns -/
noncomputable def F_law26_PromoteTurns.l262138 (_ : Fu) (x35 : Int × (List (Int × (List Int) × (List Int) × Int × Int × Int))) : Option (Step (Int × (List (Int × (List Int) × (List Int) × Int × Int × Int))) Unit) :=
  bif decide (x35.1 < (x35.2.length : Int)) then
    bif (decide ((0 : Int) ≤ x35.1)) && (decide (x35.1 < (x35.2.length : Int))) then
      bif Nat.blt x35.1.toNat x35.2.length then
        some (.next ((IntKind.i64.wrap (x35.1 + (1 : Int))), (x35.2.set x35.1.toNat ((77 : Int), ((x35.2.getD x35.1.toNat (0, ([], ([], (0, (0, 0)))))).2)))))
      else none
    else none
  else some (.fin ())
noncomputable def F_law26_PromoteTurns.l524282 (_ : Fu) (x41 : Int × (List (Int × (List Int) × (List Int) × Int × Int × Int))) : Option (Step (Int × (List (Int × (List Int) × (List Int) × Int × Int × Int))) Unit) :=
  bif decide (x41.1 < (x41.2.length : Int)) then
    bif (decide ((0 : Int) ≤ x41.1)) && (decide (x41.1 < (x41.2.length : Int))) then
      bif Nat.blt x41.1.toNat x41.2.length then
        some (.next ((IntKind.i64.wrap (x41.1 + (1 : Int))), (x41.2.set x41.1.toNat ((77 : Int), ((x41.2.getD x41.1.toNat (0, ([], ([], (0, (0, 0)))))).2)))))
      else none
    else none
  else some (.fin ())
noncomputable def F_law26_PromoteTurns (m : Fu) (p : Int × Int × Int × (List Int) × (List (Int × (List Int) × (List Int) × Int × Int × Int)) × Int × Int × Bool × Int × Int × Int × (List (List Int)) × Int × (List Int) × (List (Int × (List Int) × (List Int) × Int × Int × Int)) × Int × Int × Bool × Int × Int × Int × Bool) : Option (Bool) :=
  let a0 := p.1
  let a1 := p.2.1
  let a2 := p.2.2.1
  let a3 := p.2.2.2.1
  let a4 := p.2.2.2.2.1
  let a5 := p.2.2.2.2.2.1
  let a6 := p.2.2.2.2.2.2.1
  let a7 := p.2.2.2.2.2.2.2.1
  let a8 := p.2.2.2.2.2.2.2.2.1
  let a9 := p.2.2.2.2.2.2.2.2.2.1
  let a10 := p.2.2.2.2.2.2.2.2.2.2.1
  let a11 := p.2.2.2.2.2.2.2.2.2.2.2.1
  let a12 := p.2.2.2.2.2.2.2.2.2.2.2.2.1
  let a13 := p.2.2.2.2.2.2.2.2.2.2.2.2.2.1
  let a14 := p.2.2.2.2.2.2.2.2.2.2.2.2.2.2.1
  let a15 := p.2.2.2.2.2.2.2.2.2.2.2.2.2.2.2.1
  let a16 := p.2.2.2.2.2.2.2.2.2.2.2.2.2.2.2.2.1
  let a17 := p.2.2.2.2.2.2.2.2.2.2.2.2.2.2.2.2.2.1
  let a18 := p.2.2.2.2.2.2.2.2.2.2.2.2.2.2.2.2.2.2.1
  let a19 := p.2.2.2.2.2.2.2.2.2.2.2.2.2.2.2.2.2.2.2.1
  let a20 := p.2.2.2.2.2.2.2.2.2.2.2.2.2.2.2.2.2.2.2.2.1
  let a21 := p.2.2.2.2.2.2.2.2.2.2.2.2.2.2.2.2.2.2.2.2.2
  (F_ref21_Great m (a2, a3, a4, a5, a6, a7)).bind fun x1 =>
  bif x1 then some true else
  (F_ref24_Great m (a8, a9, a10, a11)).bind fun x2 =>
  bif x2 then some true else
  (F_ref21_Great m (a12, a13, a14, a15, a16, a17)).bind fun x3 =>
  bif x3 then some true else
  (F_ref25_Twin m (a0, a1, a2, a3, a4, a5, a6, a7)).bind fun x4 =>
  (F_ref24_Twin m (a8, a9, a10, a11)).bind fun x5 =>
  (F_ref21_Twin m (a12, a13, a14, a15, a16, a17)).bind fun x6 =>
  (F_promote_Next m (a18, a19)).bind fun x7 =>
  (F_ref26_Next m (a18, a19)).bind fun x8 =>
  (F_promote_Whose m a18).bind fun x9 =>
  (F_ref26_Whose m a18).bind fun x10 =>
  (F_promote_Up m (x4.1, x4.2.1, x4.2.2.1, x4.2.2.2.1, x4.2.2.2.2.1, x4.2.2.2.2.2.1, x4.2.2.2.2.2.2.1, x4.2.2.2.2.2.2.2, a19)).bind fun x11 =>
  (F_ref26_Up m (a0, a1, a2, a3, a4, a5, a6, a7, a19)).bind fun x12 =>
  (F_promote_Down m (x5.1, x5.2.1, x5.2.2.1, x5.2.2.2, x6.1, x6.2.1, x6.2.2.1, x6.2.2.2.1, x6.2.2.2.2.1, x6.2.2.2.2.2, a18)).bind fun x13 =>
  (F_ref26_Down m (a8, a9, a10, a11, a12, a13, a14, a15, a16, a17, a18)).bind fun x14 =>
  (F_promote_Sure m (x5.1, x5.2.1, x5.2.2.1, x5.2.2.2, a20, a21)).bind fun x15 =>
  (F_ref26_Sure m (a8, a9, a10, a11, a20, a21)).bind fun x16 =>
  bif x7.1 != x8.1 then some false else
  bif x7.2 != x8.2 then some false else
  bif x9.1 != x10.1 then some false else
  bif x9.2 != x10.2 then some false else
  (F_ref24_SameSender m (x11.1, x11.2.1, x11.2.2.1, x11.2.2.2.1, x12.1, x12.2.1, x12.2.2.1, x12.2.2.2.1)).bind fun x21 =>
  bif !x21 then some false else
  (F_ref21_Same m (x11.2.2.2.2.1, x11.2.2.2.2.2.1, x11.2.2.2.2.2.2.1, x11.2.2.2.2.2.2.2.1, x11.2.2.2.2.2.2.2.2.1, x11.2.2.2.2.2.2.2.2.2.1, x12.2.2.2.2.1, x12.2.2.2.2.2.1, x12.2.2.2.2.2.2.1, x12.2.2.2.2.2.2.2.1, x12.2.2.2.2.2.2.2.2.1, x12.2.2.2.2.2.2.2.2.2.1)).bind fun x23 =>
  bif !x23 then some false else
  (F_ref01_SameChanges m (x11.2.2.2.2.2.2.2.2.2.2.1, x12.2.2.2.2.2.2.2.2.2.2.1)).bind fun x25 =>
  bif !x25 then some false else
  bif x11.2.2.2.2.2.2.2.2.2.2.2 != x12.2.2.2.2.2.2.2.2.2.2.2 then some false else
  (F_ref25_Same m (x13.1, x13.2.1, x13.2.2.1, x13.2.2.2.1, x13.2.2.2.2.1, x13.2.2.2.2.2.1, x13.2.2.2.2.2.2.1, x13.2.2.2.2.2.2.2.1, x14.1, x14.2.1, x14.2.2.1, x14.2.2.2.1, x14.2.2.2.2.1, x14.2.2.2.2.2.1, x14.2.2.2.2.2.2.1, x14.2.2.2.2.2.2.2.1)).bind fun x28 =>
  bif !x28 then some false else
  (F_ref01_SameChanges m (x13.2.2.2.2.2.2.2.2.1, x14.2.2.2.2.2.2.2.2.1)).bind fun x30 =>
  bif !x30 then some false else
  bif x13.2.2.2.2.2.2.2.2.2 != x14.2.2.2.2.2.2.2.2.2 then some false else
  bif !(x15.1 == x16.1) then some false else
  bif x15.2 != x16.2 then some false else
  (iter m (F_law26_PromoteTurns.l262138 m) ((0 : Int), x11.2.2.2.2.2.2.1)).bind fun _ =>
  (iter m (F_law26_PromoteTurns.l524282 m) ((0 : Int), x13.2.2.2.2.1)).bind fun _ =>
  (F_ref25_Same m (x4.1, x4.2.1, x4.2.2.1, x4.2.2.2.1, x4.2.2.2.2.1, x4.2.2.2.2.2.1, x4.2.2.2.2.2.2.1, x4.2.2.2.2.2.2.2, a0, a1, a2, a3, a4, a5, a6, a7)).bind fun x47 =>
  bif x47 then
    (F_ref24_SameSender m (x5.1, x5.2.1, x5.2.2.1, x5.2.2.2, a8, a9, a10, a11)).bind fun x48 =>
    bif x48 then
      (F_ref21_Same m (x6.1, x6.2.1, x6.2.2.1, x6.2.2.2.1, x6.2.2.2.2.1, x6.2.2.2.2.2, a12, a13, a14, a15, a16, a17)).bind fun x49 =>
      some x49
    else some false
  else some false
def F_law26_PromoteTurns.ann : List (Nat × Ann) := [(262138, .loop ⟨[(44, false, [.dat (.int .i64)])], [], [(1057, .pr (.int .i64) (.pr .str (.pr .str (.pr (.int .u32) (.pr (.int .i64) (.int .u64))))), .wr)], [], 3248⟩ [(.exit 0, ⟨[], [], [], [1057], 3248⟩)]),
  (524282, .loop ⟨[(45, false, [.dat (.int .i64)])], [], [(1521, .pr (.int .i64) (.pr .str (.pr .str (.pr (.int .u32) (.pr (.int .i64) (.int .u64))))), .wr)], [], 3264⟩ [(.exit 2, ⟨[], [], [], [1521], 3264⟩)])]
def F_law26_PromoteTurns.sig : Sig := ⟨[.val true [.int .i64, .int .i64, .int .i64, .sl (.int .i64), .sl (.pr (.int .i64) (.pr .str (.pr .str (.pr (.int .u32) (.pr (.int .i64) (.int .u64)))))), .int .i64, .int .i64, .bool], .val true [.int .i64, .int .i64, .int .i64, .sl (.sl (.int .u8))], .val true [.int .i64, .sl (.int .i64), .sl (.pr (.int .i64) (.pr .str (.pr .str (.pr (.int .u32) (.pr (.int .i64) (.int .u64)))))), .int .i64, .int .i64, .bool], .val false [.int .i64], .val false [.int .i64], .val false [.int .i64], .val false [.bool]], [(false, [.dat .bool])]⟩
noncomputable def F_law26_PromoteTurns.S : Summ := ⟨3, F_law26_PromoteTurns.sig, F_law26_PromoteTurns⟩
noncomputable def F_law26_PromoteTurns.G : List Summ := [F_ref21_Great.S, F_ref24_Great.S, F_ref25_Twin.S, F_ref24_Twin.S, F_ref21_Twin.S, F_promote_Next.S, F_ref26_Next.S, F_promote_Whose.S, F_ref26_Whose.S, F_promote_Up.S, F_ref26_Up.S, F_promote_Down.S, F_ref26_Down.S, F_promote_Sure.S, F_ref26_Sure.S, F_ref24_SameSender.S, F_ref21_Same.S, F_ref01_SameChanges.S, F_ref25_Same.S]
theorem F_law26_PromoteTurns.eq : absF Tryz.prog F_law26_PromoteTurns.G F_law26_PromoteTurns.ann F_law26_PromoteTurns.sig Tryz.f3 = F_law26_PromoteTurns := by kernel_rfl
theorem F_law26_PromoteTurns.sound : Sound Tryz.prog F_law26_PromoteTurns.S := absF_sound (fn := Tryz.f3) (Γ := F_law26_PromoteTurns.G) (all_cons F_ref21_Great.sound (all_cons F_ref24_Great.sound (all_cons F_ref25_Twin.sound (all_cons F_ref24_Twin.sound (all_cons F_ref21_Twin.sound (all_cons F_promote_Next.sound (all_cons F_ref26_Next.sound (all_cons F_promote_Whose.sound (all_cons F_ref26_Whose.sound (all_cons F_promote_Up.sound (all_cons F_ref26_Up.sound (all_cons F_promote_Down.sound (all_cons F_ref26_Down.sound (all_cons F_promote_Sure.sound (all_cons F_ref26_Sure.sound (all_cons F_ref24_SameSender.sound (all_cons F_ref21_Same.sound (all_cons F_ref01_SameChanges.sound (all_cons F_ref25_Same.sound all_nil))))))))))))))))))) mix (by kernel_rfl) (by kernel_rfl) (fun m p => congrFun (congrFun F_law26_PromoteTurns.eq m) p)
end Go.Proofs.YtajlmgpcfbhgjaaGreat
