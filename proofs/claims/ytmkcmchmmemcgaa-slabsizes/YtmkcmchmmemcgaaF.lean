/- The pure functions that the program's functions compute, and that they compute them. Printed by a program of this session (gen.py). -/
import Derived.Test.YtmkcmchmmemcgaaProg
import Derived.Test.YtmkcmchmmemcgaaA2
namespace Go.Proofs.Ytmkcmchmmemcgaa
open Go.Abs
set_option maxRecDepth 100000
theorem mix : Try.prog.follows .mixedOrders = true := by kernel_rfl
/-! ### math/bits.Len64 -/
noncomputable def F_mathbits_Len64.s6 (m : Fu) (a0 : Int) : Option ((Int × Int)) :=
  bif decide ((4294967296 : Int) ≤ a0) then
    some ((shrOp .u64 a0 (32 : Int)), (32 : Int))
  else some (a0, (0 : Int))
noncomputable def F_mathbits_Len64.s14 (m : Fu) (x3 : (Int × Int)) : Option ((Int × Int)) :=
  bif decide ((65536 : Int) ≤ x3.1) then
    some ((shrOp .u64 x3.1 (16 : Int)), (IntKind.i64.wrap (x3.2 + (16 : Int))))
  else some (x3.1, x3.2)
noncomputable def F_mathbits_Len64.s30 (m : Fu) (x7 : (Int × Int)) : Option ((Int × Int)) :=
  bif decide ((256 : Int) ≤ x7.1) then
    some ((shrOp .u64 x7.1 (8 : Int)), (IntKind.i64.wrap (x7.2 + (8 : Int))))
  else some (x7.1, x7.2)
noncomputable def F_mathbits_Len64 (m : Fu) (p : Int) : Option (Int) :=
  let a0 := p
  (F_mathbits_Len64.s6 m a0).bind fun x3 =>
  (F_mathbits_Len64.s14 m x3).bind fun x7 =>
  (F_mathbits_Len64.s30 m x7).bind fun x11 =>
  let x12 := IntKind.u8.wrap x11.1
  bif (decide ((0 : Int) ≤ x12)) && (decide (x12 < (256 : Int))) then
    some (IntKind.i64.wrap (x11.2 + (IntKind.i64.wrap (([0, 1, 2, 2, 3, 3, 3, 3, 4, 4, 4, 4, 4, 4, 4, 4, 5, 5, 5, 5, 5, 5, 5, 5, 5, 5, 5, 5, 5, 5, 5, 5, 6, 6, 6, 6, 6, 6, 6, 6, 6, 6, 6, 6, 6, 6, 6, 6, 6, 6, 6, 6, 6, 6, 6, 6, 6, 6, 6, 6, 6, 6, 6, 6, 7, 7, 7, 7, 7, 7, 7, 7, 7, 7, 7, 7, 7, 7, 7, 7, 7, 7, 7, 7, 7, 7, 7, 7, 7, 7, 7, 7, 7, 7, 7, 7, 7, 7, 7, 7, 7, 7, 7, 7, 7, 7, 7, 7, 7, 7, 7, 7, 7, 7, 7, 7, 7, 7, 7, 7, 7, 7, 7, 7, 7, 7, 7, 7, 8, 8, 8, 8, 8, 8, 8, 8, 8, 8, 8, 8, 8, 8, 8, 8, 8, 8, 8, 8, 8, 8, 8, 8, 8, 8, 8, 8, 8, 8, 8, 8, 8, 8, 8, 8, 8, 8, 8, 8, 8, 8, 8, 8, 8, 8, 8, 8, 8, 8, 8, 8, 8, 8, 8, 8, 8, 8, 8, 8, 8, 8, 8, 8, 8, 8, 8, 8, 8, 8, 8, 8, 8, 8, 8, 8, 8, 8, 8, 8, 8, 8, 8, 8, 8, 8, 8, 8, 8, 8, 8, 8, 8, 8, 8, 8, 8, 8, 8, 8, 8, 8, 8, 8, 8, 8, 8, 8, 8, 8, 8, 8, 8, 8, 8, 8, 8, 8, 8, 8, 8, 8, 8, 8, 8, 8, 8, 8] : List Int).getD x12.toNat 0))))
  else none
def F_mathbits_Len64.ann : List (Nat × Ann) := [(6, .jnt [(.normal, ⟨[(0, false, [.dat (.int .u64)]), (2, false, [.dat (.int .i64)])], [], [], [], 32⟩)]),
  (14, .jnt [(.normal, ⟨[(0, false, [.dat (.int .u64)]), (2, false, [.dat (.int .i64)])], [], [], [], 32⟩)]),
  (30, .jnt [(.normal, ⟨[(0, false, [.dat (.int .u64)]), (2, false, [.dat (.int .i64)])], [], [], [], 32⟩)])]
def F_mathbits_Len64.sig : Sig := ⟨[.val false [.int .u64]], [(false, [.dat (.int .i64)])]⟩
noncomputable def F_mathbits_Len64.S : Summ := ⟨16, F_mathbits_Len64.sig, F_mathbits_Len64⟩
noncomputable def F_mathbits_Len64.G : List Summ := []
theorem F_mathbits_Len64.eq : absF Try.prog F_mathbits_Len64.G F_mathbits_Len64.ann F_mathbits_Len64.sig Try.f16 = F_mathbits_Len64 := by kernel_rfl
theorem F_mathbits_Len64.sound : Sound Try.prog F_mathbits_Len64.S := absF_sound (fn := Try.f16) (Γ := F_mathbits_Len64.G) all_nil mix (by kernel_rfl) (by kernel_rfl) (fun m p => congrFun (congrFun F_mathbits_Len64.eq m) p)
/-! ### math/bits.Len -/
noncomputable def F_mathbits_Len (m : Fu) (p : Int) : Option (Int) :=
  let a0 := p
  (F_mathbits_Len64 m a0).bind fun x1 =>
  some x1
def F_mathbits_Len.ann : List (Nat × Ann) := []
def F_mathbits_Len.sig : Sig := ⟨[.val false [.int .u64]], [(false, [.dat (.int .i64)])]⟩
noncomputable def F_mathbits_Len.S : Summ := ⟨11, F_mathbits_Len.sig, F_mathbits_Len⟩
noncomputable def F_mathbits_Len.G : List Summ := [F_mathbits_Len64.S]
theorem F_mathbits_Len.eq : absF Try.prog F_mathbits_Len.G F_mathbits_Len.ann F_mathbits_Len.sig Try.f11 = F_mathbits_Len := by kernel_rfl
theorem F_mathbits_Len.sound : Sound Try.prog F_mathbits_Len.S := absF_sound (fn := Try.f11) (Γ := F_mathbits_Len.G) (all_cons F_mathbits_Len64.sound all_nil) mix (by kernel_rfl) (by kernel_rfl) (fun m p => congrFun (congrFun F_mathbits_Len.eq m) p)
/-! ### cloakroom/slab.Class -/
noncomputable def F_slab_Class (m : Fu) (p : Int) : Option (Int × Int) :=
  let a0 := p
  bif decide (a0 < (1 : Int)) then some ((0 : Int), (2 : Int)) else
  bif decide ((256 : Int) < a0) then some ((0 : Int), (2 : Int)) else
  (F_mathbits_Len m (IntKind.u64.wrap ((IntKind.u64.wrap (IntKind.i64.wrap (a0 - (1 : Int)))).tdiv (16 : Int)))).bind fun x6 =>
  some (x6, (0 : Int))
def F_slab_Class.ann : List (Nat × Ann) := []
def F_slab_Class.sig : Sig := ⟨[.val false [.int .i64]], [(false, [.dat (.int .i64)]), (false, [.dat (.int .i64)])]⟩
noncomputable def F_slab_Class.S : Summ := ⟨4, F_slab_Class.sig, F_slab_Class⟩
noncomputable def F_slab_Class.G : List Summ := [F_mathbits_Len.S]
theorem F_slab_Class.eq : absF Try.prog F_slab_Class.G F_slab_Class.ann F_slab_Class.sig Try.f4 = F_slab_Class := by kernel_rfl
theorem F_slab_Class.sound : Sound Try.prog F_slab_Class.S := absF_sound (fn := Try.f4) (Γ := F_slab_Class.G) (all_cons F_mathbits_Len.sound all_nil) mix (by kernel_rfl) (by kernel_rfl) (fun m p => congrFun (congrFun F_slab_Class.eq m) p)
/-! ### cloakroom/cloakroomref05.Size -/
noncomputable def F_ref05_Size (m : Fu) (p : Int) : Option (Int) :=
  let a0 := p
  let x1 := IntKind.u64.wrap a0
  bif decide (x1 < (0 : Int)) then
    none
  else some (IntKind.i64.wrap ((16 : Int) * (shlOp .i64 (1 : Int) x1)))
def F_ref05_Size.ann : List (Nat × Ann) := []
def F_ref05_Size.sig : Sig := ⟨[.val false [.int .i64]], [(false, [.dat (.int .i64)])]⟩
noncomputable def F_ref05_Size.S : Summ := ⟨9, F_ref05_Size.sig, F_ref05_Size⟩
noncomputable def F_ref05_Size.G : List Summ := []
theorem F_ref05_Size.eq : absF Try.prog F_ref05_Size.G F_ref05_Size.ann F_ref05_Size.sig Try.f9 = F_ref05_Size := by kernel_rfl
theorem F_ref05_Size.sound : Sound Try.prog F_ref05_Size.S := absF_sound (fn := Try.f9) (Γ := F_ref05_Size.G) all_nil mix (by kernel_rfl) (by kernel_rfl) (fun m p => congrFun (congrFun F_ref05_Size.eq m) p)
/-! ### cloakroom/cloakroomref05.Class -/
noncomputable def F_ref05_Class.l60 (m : Fu) (a0 : Int) (x3 : Int) : Option (Step Int Int) :=
  (F_ref05_Size m x3).bind fun x4 =>
  bif decide (x4 < a0) then
    some (.next (IntKind.i64.wrap (x3 + (1 : Int))))
  else some (.fin x3)
noncomputable def F_ref05_Class (m : Fu) (p : Int) : Option (Int × Int) :=
  let a0 := p
  bif decide (a0 < (1 : Int)) then some ((0 : Int), (2 : Int)) else
  bif decide ((256 : Int) < a0) then some ((0 : Int), (2 : Int)) else
  (iter m (F_ref05_Class.l60 m a0) (0 : Int)).bind fun x7 =>
  some (x7, (0 : Int))
def F_ref05_Class.ann : List (Nat × Ann) := [(60, .loop ⟨[(4, false, [.dat (.int .i64)])], [], [], [], 160⟩ [(.exit 0, ⟨[(4, false, [.dat (.int .i64)])], [], [], [], 160⟩)])]
def F_ref05_Class.sig : Sig := ⟨[.val false [.int .i64]], [(false, [.dat (.int .i64)]), (false, [.dat (.int .i64)])]⟩
noncomputable def F_ref05_Class.S : Summ := ⟨5, F_ref05_Class.sig, F_ref05_Class⟩
noncomputable def F_ref05_Class.G : List Summ := [F_ref05_Size.S]
theorem F_ref05_Class.eq : absF Try.prog F_ref05_Class.G F_ref05_Class.ann F_ref05_Class.sig Try.f5 = F_ref05_Class := by kernel_rfl
theorem F_ref05_Class.sound : Sound Try.prog F_ref05_Class.S := absF_sound (fn := Try.f5) (Γ := F_ref05_Class.G) (all_cons F_ref05_Size.sound all_nil) mix (by kernel_rfl) (by kernel_rfl) (fun m p => congrFun (congrFun F_ref05_Class.eq m) p)
/-! ### cloakroom/slab.classed -/
noncomputable def F_slab_classed (m : Fu) (p : Int) : Option (Bool) :=
  let a0 := p
  bif decide ((0 : Int) ≤ a0) then
    some (decide (a0 < (5 : Int)))
  else some false
def F_slab_classed.ann : List (Nat × Ann) := []
def F_slab_classed.sig : Sig := ⟨[.val false [.int .i64]], [(false, [.dat .bool])]⟩
noncomputable def F_slab_classed.S : Summ := ⟨12, F_slab_classed.sig, F_slab_classed⟩
noncomputable def F_slab_classed.G : List Summ := []
theorem F_slab_classed.eq : absF Try.prog F_slab_classed.G F_slab_classed.ann F_slab_classed.sig Try.f12 = F_slab_classed := by kernel_rfl
theorem F_slab_classed.sound : Sound Try.prog F_slab_classed.S := absF_sound (fn := Try.f12) (Γ := F_slab_classed.G) all_nil mix (by kernel_rfl) (by kernel_rfl) (fun m p => congrFun (congrFun F_slab_classed.eq m) p)
/-! ### cloakroom/slab.size -/
noncomputable def F_slab_size (m : Fu) (p : Int) : Option (Int) :=
  let a0 := p
  bif decide (a0 < (0 : Int)) then
    none
  else some (shlOp .i64 (16 : Int) a0)
def F_slab_size.ann : List (Nat × Ann) := []
def F_slab_size.sig : Sig := ⟨[.val false [.int .i64]], [(false, [.dat (.int .i64)])]⟩
noncomputable def F_slab_size.S : Summ := ⟨13, F_slab_size.sig, F_slab_size⟩
noncomputable def F_slab_size.G : List Summ := []
theorem F_slab_size.eq : absF Try.prog F_slab_size.G F_slab_size.ann F_slab_size.sig Try.f13 = F_slab_size := by kernel_rfl
theorem F_slab_size.sound : Sound Try.prog F_slab_size.S := absF_sound (fn := Try.f13) (Γ := F_slab_size.G) all_nil mix (by kernel_rfl) (by kernel_rfl) (fun m p => congrFun (congrFun F_slab_size.eq m) p)
/-! ### cloakroom/slab.Size -/
noncomputable def F_slab_Size (m : Fu) (p : Int) : Option (Int × Int) :=
  let a0 := p
  (F_slab_classed m a0).bind fun x1 =>
  bif !x1 then some ((0 : Int), (2 : Int)) else
  (F_slab_size m a0).bind fun x3 =>
  some (x3, (0 : Int))
def F_slab_Size.ann : List (Nat × Ann) := []
def F_slab_Size.sig : Sig := ⟨[.val false [.int .i64]], [(false, [.dat (.int .i64)]), (false, [.dat (.int .i64)])]⟩
noncomputable def F_slab_Size.S : Summ := ⟨6, F_slab_Size.sig, F_slab_Size⟩
noncomputable def F_slab_Size.G : List Summ := [F_slab_classed.S, F_slab_size.S]
theorem F_slab_Size.eq : absF Try.prog F_slab_Size.G F_slab_Size.ann F_slab_Size.sig Try.f6 = F_slab_Size := by kernel_rfl
theorem F_slab_Size.sound : Sound Try.prog F_slab_Size.S := absF_sound (fn := Try.f6) (Γ := F_slab_Size.G) (all_cons F_slab_classed.sound (all_cons F_slab_size.sound all_nil)) mix (by kernel_rfl) (by kernel_rfl) (fun m p => congrFun (congrFun F_slab_Size.eq m) p)
/-! ### cloakroom/slab.chunks -/
noncomputable def F_slab_chunks (m : Fu) (p : Int) : Option (Int) :=
  let a0 := p
  (F_slab_size m a0).bind fun x1 =>
  bif x1 == 0 then
    none
  else some (IntKind.i64.wrap ((256 : Int).tdiv x1))
def F_slab_chunks.ann : List (Nat × Ann) := []
def F_slab_chunks.sig : Sig := ⟨[.val false [.int .i64]], [(false, [.dat (.int .i64)])]⟩
noncomputable def F_slab_chunks.S : Summ := ⟨14, F_slab_chunks.sig, F_slab_chunks⟩
noncomputable def F_slab_chunks.G : List Summ := [F_slab_size.S]
theorem F_slab_chunks.eq : absF Try.prog F_slab_chunks.G F_slab_chunks.ann F_slab_chunks.sig Try.f14 = F_slab_chunks := by kernel_rfl
theorem F_slab_chunks.sound : Sound Try.prog F_slab_chunks.S := absF_sound (fn := Try.f14) (Γ := F_slab_chunks.G) (all_cons F_slab_size.sound all_nil) mix (by kernel_rfl) (by kernel_rfl) (fun m p => congrFun (congrFun F_slab_chunks.eq m) p)
/-! ### cloakroom/slab.Chunks -/
noncomputable def F_slab_Chunks (m : Fu) (p : Int) : Option (Int × Int) :=
  let a0 := p
  (F_slab_classed m a0).bind fun x1 =>
  bif !x1 then some ((0 : Int), (2 : Int)) else
  (F_slab_chunks m a0).bind fun x3 =>
  some (x3, (0 : Int))
def F_slab_Chunks.ann : List (Nat × Ann) := []
def F_slab_Chunks.sig : Sig := ⟨[.val false [.int .i64]], [(false, [.dat (.int .i64)]), (false, [.dat (.int .i64)])]⟩
noncomputable def F_slab_Chunks.S : Summ := ⟨7, F_slab_Chunks.sig, F_slab_Chunks⟩
noncomputable def F_slab_Chunks.G : List Summ := [F_slab_classed.S, F_slab_chunks.S]
theorem F_slab_Chunks.eq : absF Try.prog F_slab_Chunks.G F_slab_Chunks.ann F_slab_Chunks.sig Try.f7 = F_slab_Chunks := by kernel_rfl
theorem F_slab_Chunks.sound : Sound Try.prog F_slab_Chunks.S := absF_sound (fn := Try.f7) (Γ := F_slab_Chunks.G) (all_cons F_slab_classed.sound (all_cons F_slab_chunks.sound all_nil)) mix (by kernel_rfl) (by kernel_rfl) (fun m p => congrFun (congrFun F_slab_Chunks.eq m) p)
/-! ### cloakroom/cloakroomref05.IsClass -/
noncomputable def F_ref05_IsClass (m : Fu) (p : Int) : Option (Bool) :=
  let a0 := p
  bif decide ((0 : Int) ≤ a0) then
    some (decide (a0 < (5 : Int)))
  else some false
def F_ref05_IsClass.ann : List (Nat × Ann) := []
def F_ref05_IsClass.sig : Sig := ⟨[.val false [.int .i64]], [(false, [.dat .bool])]⟩
noncomputable def F_ref05_IsClass.S : Summ := ⟨8, F_ref05_IsClass.sig, F_ref05_IsClass⟩
noncomputable def F_ref05_IsClass.G : List Summ := []
theorem F_ref05_IsClass.eq : absF Try.prog F_ref05_IsClass.G F_ref05_IsClass.ann F_ref05_IsClass.sig Try.f8 = F_ref05_IsClass := by kernel_rfl
theorem F_ref05_IsClass.sound : Sound Try.prog F_ref05_IsClass.S := absF_sound (fn := Try.f8) (Γ := F_ref05_IsClass.G) all_nil mix (by kernel_rfl) (by kernel_rfl) (fun m p => congrFun (congrFun F_ref05_IsClass.eq m) p)
/-! ### cloakroom/cloakroomref05.Chunks -/
noncomputable def F_ref05_Chunks (m : Fu) (p : Int) : Option (Int) :=
  let a0 := p
  (F_ref05_Size m a0).bind fun x1 =>
  bif x1 == 0 then
    none
  else some (IntKind.i64.wrap ((256 : Int).tdiv x1))
def F_ref05_Chunks.ann : List (Nat × Ann) := []
def F_ref05_Chunks.sig : Sig := ⟨[.val false [.int .i64]], [(false, [.dat (.int .i64)])]⟩
noncomputable def F_ref05_Chunks.S : Summ := ⟨10, F_ref05_Chunks.sig, F_ref05_Chunks⟩
noncomputable def F_ref05_Chunks.G : List Summ := [F_ref05_Size.S]
theorem F_ref05_Chunks.eq : absF Try.prog F_ref05_Chunks.G F_ref05_Chunks.ann F_ref05_Chunks.sig Try.f10 = F_ref05_Chunks := by kernel_rfl
theorem F_ref05_Chunks.sound : Sound Try.prog F_ref05_Chunks.S := absF_sound (fn := Try.f10) (Γ := F_ref05_Chunks.G) (all_cons F_ref05_Size.sound all_nil) mix (by kernel_rfl) (by kernel_rfl) (fun m p => congrFun (congrFun F_ref05_Chunks.eq m) p)
/-! ### cloakroom/cloakroomlaw05.SlabSizes -/
noncomputable def F_law05_SlabSizes (m : Fu) (p : Int × Int) : Option (Bool) :=
  let a0 := p.1
  let a1 := p.2
  (F_slab_Class m a0).bind fun x1 =>
  (F_ref05_Class m a0).bind fun x2 =>
  (F_slab_Size m a1).bind fun x3 =>
  (F_slab_Chunks m a1).bind fun x4 =>
  bif x1.1 != x2.1 then some false else
  bif x1.2 != x2.2 then some false else
  bif x3.2 != x4.2 then some false else
  (F_ref05_IsClass m a1).bind fun x8 =>
  bif !x8 then
    bif x3.2 == (2 : Int) then
      bif x3.1 == (0 : Int) then
        some (x4.1 == (0 : Int))
      else some false
    else some false
  else
    bif x3.2 == (0 : Int) then
      (F_ref05_Size m a1).bind fun x14 =>
      bif x3.1 == x14 then
        (F_ref05_Chunks m a1).bind fun x16 =>
        some (x4.1 == x16)
      else some false
    else some false
def F_law05_SlabSizes.ann : List (Nat × Ann) := []
def F_law05_SlabSizes.sig : Sig := ⟨[.val false [.int .i64], .val false [.int .i64]], [(false, [.dat .bool])]⟩
noncomputable def F_law05_SlabSizes.S : Summ := ⟨3, F_law05_SlabSizes.sig, F_law05_SlabSizes⟩
noncomputable def F_law05_SlabSizes.G : List Summ := [F_slab_Class.S, F_ref05_Class.S, F_slab_Size.S, F_slab_Chunks.S, F_ref05_IsClass.S, F_ref05_Size.S, F_ref05_Chunks.S]
theorem F_law05_SlabSizes.eq : absF Try.prog F_law05_SlabSizes.G F_law05_SlabSizes.ann F_law05_SlabSizes.sig Try.f3 = F_law05_SlabSizes := by kernel_rfl
theorem F_law05_SlabSizes.sound : Sound Try.prog F_law05_SlabSizes.S := absF_sound (fn := Try.f3) (Γ := F_law05_SlabSizes.G) (all_cons F_slab_Class.sound (all_cons F_ref05_Class.sound (all_cons F_slab_Size.sound (all_cons F_slab_Chunks.sound (all_cons F_ref05_IsClass.sound (all_cons F_ref05_Size.sound (all_cons F_ref05_Chunks.sound all_nil))))))) mix (by kernel_rfl) (by kernel_rfl) (fun m p => congrFun (congrFun F_law05_SlabSizes.eq m) p)
end Go.Proofs.Ytmkcmchmmemcgaa
