/- The pure functions that the program's functions compute, and that they compute them. Printed by a program of this session (gen.py). -/
import Derived.Test.YtneknjhofegolaaProg
import Derived.Test.YtneknjhofegolaaA3
import Derived.WalkKit
import Derived.Tactics
import Derived.Tactics2
import Derived.StillTactics
import Derived.Laws.Pointers
import Derived.RegionTactic
import Derived.LoopTactic
import Derived.ChangeAlike
import Derived.Laws.Bits64b
namespace Go.Proofs.Ytneknjhofegolaa
open Go.Abs Go.RowKit
set_option maxRecDepth 100000
theorem mix : Try.prog.follows .mixedOrders = true := by kernel_rfl
/-! ### cloakroom/disk.New -/
noncomputable def F_disk_New (_ : Fu) (p : Int) : Option ((List Int) × Int) :=
  let a0 := p
  bif decide (a0 < (1 : Int)) then some (([] : List Int), (20 : Int)) else
  bif decide ((4096 : Int) < a0) then some (([] : List Int), (20 : Int)) else
  let x3 := IntKind.i64.wrap (a0 * (64 : Int))
  bif ((decide ((0 : Int) ≤ x3)) && (decide (x3 ≤ x3))) && (decide (x3 ≤ (4294967296 : Int))) then
    some ((List.replicate x3.toNat 0), (0 : Int))
  else none
def F_disk_New.ann : List (Nat × Ann) := []
def F_disk_New.sig : Sig := ⟨[.val false [.int .i64]], [(true, [.own (.int .u8) 0 .wr]), (false, [.dat (.int .i64)])]⟩
noncomputable def F_disk_New.S : Summ := ⟨13, F_disk_New.sig, F_disk_New⟩
noncomputable def F_disk_New.G : List Summ := []
theorem F_disk_New.eq : absF Try.prog F_disk_New.G F_disk_New.ann F_disk_New.sig Try.f13 = F_disk_New := by kernel_rfl
theorem F_disk_New.sound : Sound Try.prog F_disk_New.S := absF_sound (fn := Try.f13) (Γ := F_disk_New.G) all_nil mix (by kernel_rfl) (by kernel_rfl) (fun m p => congrFun (congrFun F_disk_New.eq m) p)
/-! ### cloakroom/disk.Check -/
noncomputable def F_disk_Check (_ : Fu) (p : List Int) : Option (Int) :=
  let a0 := p
  let x1 := (a0.length : Int)
  bif decide (x1 < (64 : Int)) then some (20 : Int) else
  bif decide ((262144 : Int) < x1) then some (20 : Int) else
  bif (x1.tmod (64 : Int)) != (0 : Int) then
    some (20 : Int)
  else some (0 : Int)
def F_disk_Check.ann : List (Nat × Ann) := []
def F_disk_Check.sig : Sig := ⟨[.val true [.sl (.int .u8)]], [(false, [.dat (.int .i64)])]⟩
noncomputable def F_disk_Check.S : Summ := ⟨20, F_disk_Check.sig, F_disk_Check⟩
noncomputable def F_disk_Check.G : List Summ := []
theorem F_disk_Check.eq : absF Try.prog F_disk_Check.G F_disk_Check.ann F_disk_Check.sig Try.f20 = F_disk_Check := by kernel_rfl
theorem F_disk_Check.sound : Sound Try.prog F_disk_Check.S := absF_sound (fn := Try.f20) (Γ := F_disk_Check.G) all_nil mix (by kernel_rfl) (by kernel_rfl) (fun m p => congrFun (congrFun F_disk_Check.eq m) p)
/-! ### cloakroom/disk.Many -/
noncomputable def F_disk_Many (m : Fu) (p : List Int) : Option (Int × Int) :=
  let a0 := p
  (F_disk_Check m a0).bind fun x1 =>
  bif x1 != (0 : Int) then
    some ((0 : Int), x1)
  else some ((IntKind.i64.wrap ((a0.length : Int).tdiv (64 : Int))), (0 : Int))
def F_disk_Many.ann : List (Nat × Ann) := []
def F_disk_Many.sig : Sig := ⟨[.val true [.sl (.int .u8)]], [(false, [.dat (.int .i64)]), (false, [.dat (.int .i64)])]⟩
noncomputable def F_disk_Many.S : Summ := ⟨14, F_disk_Many.sig, F_disk_Many⟩
noncomputable def F_disk_Many.G : List Summ := [F_disk_Check.S]
theorem F_disk_Many.eq : absF Try.prog F_disk_Many.G F_disk_Many.ann F_disk_Many.sig Try.f14 = F_disk_Many := by kernel_rfl
theorem F_disk_Many.sound : Sound Try.prog F_disk_Many.S := absF_sound (fn := Try.f14) (Γ := F_disk_Many.G) (all_cons F_disk_Check.sound all_nil) mix (by kernel_rfl) (by kernel_rfl) (fun m p => congrFun (congrFun F_disk_Many.eq m) p)
/-! ### cloakroom/cloakroomlaw02.all -/
noncomputable def F_law02_all.l58 (_ : Fu) (a0 : Int) (x2 : Int × (List Int)) : Option (Step (Int × (List Int)) ((List Int))) :=
  bif decide (x2.1 < (64 : Int)) then
    bif (decide ((0 : Int) ≤ x2.1)) && (decide (x2.1 < (x2.2.length : Int))) then
      bif Nat.blt x2.1.toNat x2.2.length then
        some (.next ((IntKind.i64.wrap (x2.1 + (1 : Int))), (x2.2.set x2.1.toNat a0)))
      else none
    else none
  else some (.fin x2.2)
noncomputable def F_law02_all (m : Fu) (p : Int) : Option (List Int) :=
  let a0 := p
  (iter m (F_law02_all.l58 m a0) ((0 : Int), (List.replicate 64 0))).bind fun x6 =>
  some x6
def F_law02_all.ann : List (Nat × Ann) := [(58, .loop ⟨[(4, false, [.dat (.int .i64)])], [], [(32, .int .u8, .wr)], [], 80⟩ [(.exit 0, ⟨[], [], [(32, .int .u8, .wr)], [], 80⟩)])]
def F_law02_all.sig : Sig := ⟨[.val false [.int .u8]], [(false, [.own (.int .u8) 0 .wr])]⟩
noncomputable def F_law02_all.S : Summ := ⟨16, F_law02_all.sig, F_law02_all⟩
noncomputable def F_law02_all.G : List Summ := []
theorem F_law02_all.eq : absF Try.prog F_law02_all.G F_law02_all.ann F_law02_all.sig Try.f16 = F_law02_all := by kernel_rfl
theorem F_law02_all.sound : Sound Try.prog F_law02_all.S := absF_sound (fn := Try.f16) (Γ := F_law02_all.G) all_nil mix (by kernel_rfl) (by kernel_rfl) (fun m p => congrFun (congrFun F_law02_all.eq m) p)
/-! ### cloakroom/disk.asked -/
noncomputable def F_disk_asked (m : Fu) (p : (List Int) × Int) : Option (Int) :=
  let a0 := p.1
  let a1 := p.2
  (F_disk_Many m a0).bind fun x1 =>
  bif x1.2 == (0 : Int) then
    bif decide (a1 < (0 : Int)) then some (2 : Int) else
    bif decide (x1.1 ≤ a1) then
      some (2 : Int)
    else some x1.2
  else some x1.2
def F_disk_asked.ann : List (Nat × Ann) := []
def F_disk_asked.sig : Sig := ⟨[.val true [.sl (.int .u8)], .val false [.int .i64]], [(false, [.dat (.int .i64)])]⟩
noncomputable def F_disk_asked.S : Summ := ⟨30, F_disk_asked.sig, F_disk_asked⟩
noncomputable def F_disk_asked.G : List Summ := [F_disk_Many.S]
theorem F_disk_asked.eq : absF Try.prog F_disk_asked.G F_disk_asked.ann F_disk_asked.sig Try.f30 = F_disk_asked := by kernel_rfl
theorem F_disk_asked.sound : Sound Try.prog F_disk_asked.S := absF_sound (fn := Try.f30) (Γ := F_disk_asked.G) (all_cons F_disk_Many.sound all_nil) mix (by kernel_rfl) (by kernel_rfl) (fun m p => congrFun (congrFun F_disk_asked.eq m) p)
/-! ### bytes.Clone -/
noncomputable def F_bytes_Clone (_ : Fu) (p : List Int) : Option (List Int) :=
  let a0 := p
  match a0 with
  | [] => same2
   (
    some ([] : List Int))
   (
    bif Nat.ble (0 + a0.length) 140737488351232 then
      some (([] : List Int) ++ a0)
    else none)
  | _ :: _ =>
    bif Nat.ble (0 + a0.length) 140737488351232 then
      some (([] : List Int) ++ a0)
    else none
def F_bytes_Clone.ann : List (Nat × Ann) := []
def F_bytes_Clone.sig : Sig := ⟨[.val false [.sl (.int .u8)]], [(false, [.own (.int .u8) 0 .wr])]⟩
noncomputable def F_bytes_Clone.S : Summ := ⟨31, F_bytes_Clone.sig, F_bytes_Clone⟩
noncomputable def F_bytes_Clone.G : List Summ := []
theorem F_bytes_Clone.eq : absF Try.prog F_bytes_Clone.G F_bytes_Clone.ann F_bytes_Clone.sig Try.f31 = F_bytes_Clone := by kernel_rfl
theorem F_bytes_Clone.sound : Sound Try.prog F_bytes_Clone.S := absF_sound (fn := Try.f31) (Γ := F_bytes_Clone.G) all_nil mix (by kernel_rfl) (by kernel_rfl) (fun m p => congrFun (congrFun F_bytes_Clone.eq m) p)
noncomputable def C_bytes_Clone (m : Fu) (p : List Int) : Option (List Int) := bif Nat.ble p.length 140737488351232 then some p else none
theorem C_bytes_Clone.is : F_bytes_Clone = C_bytes_Clone := by
  funext m p
  have h0 : Nat.ble 0 140737488351232 = true := rfl
  cases p <;> simp [F_bytes_Clone, C_bytes_Clone, same2_self, h0]
noncomputable def C_bytes_Clone.S : Summ := ⟨31, F_bytes_Clone.sig, C_bytes_Clone⟩
theorem C_bytes_Clone.sound : Sound Try.prog C_bytes_Clone.S := by
  have h := F_bytes_Clone.sound
  unfold F_bytes_Clone.S at h
  rw [C_bytes_Clone.is] at h
  exact h
/-! ### cloakroom/disk.at -/
noncomputable def F_disk_at_w (_ : Fu) (p : List Int × Int) : Option (Int × Int) :=
  let x1 := IntKind.i64.wrap (p.2 * (64 : Int))
  let x2 := IntKind.i64.wrap (IntKind.i64.wrap (p.2 + (1 : Int)) * (64 : Int))
  bif decide ((0 : Int) ≤ x1) && decide (x1 < x2) && decide (x2 ≤ (p.1.length : Int)) then some (x1, x2 - x1) else none
def F_disk_at_w.sig : Sig := ⟨[.own (.int .u8), .val false [.int .i64]], [(true, [.cst (.ptr 0 0), .dat (.int .i64), .dat (.int .i64)])]⟩
noncomputable def F_disk_at_w.S : Summ := ⟨32, F_disk_at_w.sig, F_disk_at_w⟩
theorem F_disk_at_w.core (n lo hi : Int) (len cap b o : Nat) (w : World) (hlo : wrap64 (n * 64) = lo) (hhi : wrap64 (wrap64 (n + 1) * 64) = hi) (h0 : 0 ≤ lo) (h1 : lo < hi) (h2 : hi ≤ (len : Int)) (hc : len ≤ cap) :
    Calls Try.prog 32 #[.agg #[.slice (some ⟨b, o, none⟩) len cap], .int .i64 n] w fun e w' => ∃ v, e = .returned v ∧ (∃ c', v = .slice (some ⟨b, o + lo.toNat, none⟩) (hi - lo).toNat c') ∧ Grows w w' := by
  have e1 : max hi 0 = hi := by omega
  have e2 : hi ≤ (cap : Int) := by omega
  have e3 : ¬ hi.toNat = lo.toNat := by omega
  have e4 : hi.toNat - lo.toNat = (hi - lo).toNat := by omega
  go_enter Try.func32, Try.ntmps32
  go_wp2_with (simp only [hlo, hhi, e1])
  go_ret
  refine ⟨_, rfl, ⟨_, rfl⟩, ?_⟩
  exact ⟨by rw [size_alloc]; omega, fun b hb => heap_alloc_lt _ _ hb, rfl, rfl, rfl⟩
theorem F_disk_at_w.sound : Sound Try.prog F_disk_at_w.S := by
  show WinSound Try.prog 32 (.int .u8) F_disk_at_w
  intro m xs n q hq
  change List Int at xs
  unfold F_disk_at_w at hq
  dsimp only at hq
  rw [show IntKind.i64.wrap (n * (64 : Int)) = wrap64 (n * 64) from by rw [IntKind.wrap_i64, wrap64], show IntKind.i64.wrap (IntKind.i64.wrap (n + (1 : Int)) * (64 : Int)) = wrap64 (wrap64 (n + 1) * 64) from by rw [IntKind.wrap_i64, IntKind.wrap_i64, wrap64, wrap64]] at hq
  generalize hlo : wrap64 (n * 64) = lo at hq
  generalize hhi : wrap64 (wrap64 (n + 1) * 64) = hi at hq
  cases hc : decide ((0 : Int) ≤ lo) && decide (lo < hi) && decide (hi ≤ (xs.length : Int)) with
  | false => rw [hc] at hq; cases hq
  | true =>
    rw [hc] at hq
    cases hq
    simp only [Bool.and_eq_true, decide_eq_true_eq] at hc
    obtain ⟨⟨c1, c2⟩, c3⟩ := hc
    refine ⟨by show 0 < xs.length; omega, fun w b o cap h1 h2 hn => ?_⟩
    have hcore := F_disk_at_w.core n lo hi xs.length cap b o w hlo hhi c1 c2 c3 h1
    have hrun : (callFunc 32 #[.agg #[.slice (some ⟨b, o, none⟩) xs.length cap], .int .i64 n]).run Try.prog w = .ok (.enter 32 #[.agg #[.slice (some ⟨b, o, none⟩) xs.length cap], .int .i64 n]) w := by
      have hb : Try.f32.body.isSome = true := by kernel_rfl
      have hn : (Try.f32.name == "runtime.NumGoroutine") = false := by kernel_rfl
      obtain ⟨c, hbody⟩ := Option.isSome_iff_exists.1 hb
      have hn' : ¬ Try.f32.name = "runtime.NumGoroutine" := by simpa using hn
      simp [callFunc, Try.func32, hn', hbody]
    unfold Go.Abs.Ends
    rw [show (callFunc 32 #[.agg #[.slice (some ⟨b, o, none⟩) (List.length xs) cap], .int .i64 n]).run Try.prog w = _ from hrun]
    have e1 : (lo.toNat) * (Ty.int IntKind.u8).sz = lo.toNat := Nat.mul_one _
    refine Calls.mono hcore ?_
    rintro e w' ⟨v, he, hv, hg⟩
    exact ⟨v, he, by rw [e1]; exact hv, hg⟩
/-! ### cloakroom/disk.Do -/
noncomputable def F_disk_Do.l58 (m : Fu) (a0 : List Int) (a1 : List (Int × (List Int))) (x3 : Int) (x4 : Int) : Option (Step Int (Int ⊕ Unit)) :=
  bif decide (x4 < x3) then
    bif (decide ((0 : Int) ≤ x4)) && (decide (x4 < (a1.length : Int))) then
      let x6 := a1.getD x4.toNat (0, [])
      (F_disk_asked m (a0, x6.1)).bind fun x7 =>
      bif x7 != (0 : Int) then some (.fin (Sum.inl x7)) else
      bif (x6.2.length : Int) != (64 : Int) then
        some (.fin (Sum.inl (3 : Int)))
      else some (.next (IntKind.i64.wrap (x4 + (1 : Int))))
    else none
  else some (.fin (Sum.inr ()))
noncomputable def F_disk_Do.l506 (m : Fu) (x19 : List (Int × (List Int))) (x20 : Int) (x21 : Int × (List Int)) : Option (Step (Int × (List Int)) ((List Int))) :=
  bif decide (x21.1 < x20) then
    bif (decide ((0 : Int) ≤ x21.1)) && (decide (x21.1 < (x19.length : Int))) then
      let x23 := x19.getD x21.1.toNat (0, [])
      (F_disk_at_w m (x21.2, x23.1)).bind fun x24 =>
      bif Nat.ble (x24.1.toNat + x24.2.toNat) x21.2.length && (Nat.beq x23.2.length x24.2.toNat && Nat.ble x24.2.toNat 4294967296) then
        some (.next ((IntKind.i64.wrap (x21.1 + (1 : Int))), (x21.2.take x24.1.toNat ++ x23.2 ++ x21.2.drop (x24.1.toNat + x24.2.toNat))))
      else none
    else none
  else some (.fin x21.2)
noncomputable def F_disk_Do (m : Fu) (p : (List Int) × (List (Int × (List Int))) × Int) : Option ((List Int) × Int) :=
  let a0 := p.1
  let a1 := p.2.1
  let a2 := p.2.2
  (F_disk_Check m a0).bind fun x1 =>
  bif x1 != (0 : Int) then some (([] : List Int), x1) else
  (iter m (F_disk_Do.l58 m a0 a1 (a1.length : Int)) (0 : Int)).bind fun x12 =>
  match x12 with
  | .inl x13 =>
    some (([] : List Int), x13)
  | .inr _ =>
    bif decide (a2 < (0 : Int)) then some (([] : List Int), (2 : Int)) else
    bif decide ((a1.length : Int) < a2) then some (([] : List Int), (2 : Int)) else
    (C_bytes_Clone m a0).bind fun x18 =>
    bif ((decide ((0 : Int) ≤ a2)) && (decide (a2 ≤ a2))) && (decide (a2 ≤ (a1.length : Int))) then
      let x19 := (a1.take a2.toNat).drop 0
      (iter m (F_disk_Do.l506 m x19 (x19.length : Int)) ((0 : Int), x18)).bind fun x27 =>
      some (x27, (0 : Int))
    else none
def F_disk_Do.ann : List (Nat × Ann) := [(58, .loop ⟨[(23, false, [.dat (.int .i64)])], [], [], [], 224⟩ [(.ret, ⟨[(7, false, [.dat (.int .i64)])], [(64, [.cst .nils])], [], [], 224⟩), (.exit 0, ⟨[], [], [], [], 224⟩)]),
  (506, .loop ⟨[(59, false, [.dat (.int .i64)])], [], [(384, .int .u8, .wr)], [], 544⟩ [(.exit 2, ⟨[], [], [(384, .int .u8, .wr)], [], 544⟩)])]
def F_disk_Do.sig : Sig := ⟨[.val true [.sl (.int .u8)], .val false [.sl (.pr (.int .i64) (.sl (.int .u8)))], .val false [.int .i64]], [(true, [.own (.int .u8) 0 .wr]), (false, [.dat (.int .i64)])]⟩
noncomputable def F_disk_Do.S : Summ := ⟨10, F_disk_Do.sig, F_disk_Do⟩
noncomputable def F_disk_Do.G : List Summ := [F_disk_Check.S, F_disk_asked.S, C_bytes_Clone.S, F_disk_at_w.S]
theorem F_disk_Do.eq : absF Try.prog F_disk_Do.G F_disk_Do.ann F_disk_Do.sig Try.f10 = F_disk_Do := by kernel_rfl
theorem F_disk_Do.sound : Sound Try.prog F_disk_Do.S := absF_sound (fn := Try.f10) (Γ := F_disk_Do.G) (all_cons F_disk_Check.sound (all_cons F_disk_asked.sound (all_cons C_bytes_Clone.sound (all_cons F_disk_at_w.sound all_nil)))) mix (by kernel_rfl) (by kernel_rfl) (fun m p => congrFun (congrFun F_disk_Do.eq m) p)
/-! ### cloakroom/disk.Write -/
noncomputable def F_disk_Write (m : Fu) (p : (List Int) × Int × (List Int)) : Option ((List Int) × Int) :=
  let a0 := p.1
  let a1 := p.2.1
  let a2 := p.2.2
  (F_disk_Do m (a0, ([(a1, a2)]), (1 : Int))).bind fun x2 =>
  some x2
def F_disk_Write.ann : List (Nat × Ann) := []
def F_disk_Write.sig : Sig := ⟨[.val true [.sl (.int .u8)], .val false [.int .i64], .val false [.sl (.int .u8)]], [(true, [.own (.int .u8) 0 .wr]), (false, [.dat (.int .i64)])]⟩
noncomputable def F_disk_Write.S : Summ := ⟨15, F_disk_Write.sig, F_disk_Write⟩
noncomputable def F_disk_Write.G : List Summ := [F_disk_Do.S]
theorem F_disk_Write.eq : absF Try.prog F_disk_Write.G F_disk_Write.ann F_disk_Write.sig Try.f15 = F_disk_Write := by kernel_rfl
theorem F_disk_Write.sound : Sound Try.prog F_disk_Write.S := absF_sound (fn := Try.f15) (Γ := F_disk_Write.G) (all_cons F_disk_Do.sound all_nil) mix (by kernel_rfl) (by kernel_rfl) (fun m p => congrFun (congrFun F_disk_Write.eq m) p)
/-! ### cloakroom/disk.at -/
noncomputable def F_disk_at (_ : Fu) (p : (List Int) × Int) : Option (List Int) :=
  let a0 := p.1
  let a1 := p.2
  let x1 := IntKind.i64.wrap (a1 * (64 : Int))
  let x3 := IntKind.i64.wrap ((IntKind.i64.wrap (a1 + (1 : Int))) * (64 : Int))
  bif (((decide ((0 : Int) ≤ x1)) && (decide (x1 ≤ x3))) && (decide (x3 ≤ x3))) && (decide (x3 ≤ (a0.length : Int))) then
    some ((a0.take x3.toNat).drop x1.toNat)
  else none
def F_disk_at.ann : List (Nat × Ann) := []
def F_disk_at.sig : Sig := ⟨[.val true [.sl (.int .u8)], .val false [.int .i64]], [(false, [.dat (.sl (.int .u8))])]⟩
noncomputable def F_disk_at.S : Summ := ⟨32, F_disk_at.sig, F_disk_at⟩
noncomputable def F_disk_at.G : List Summ := []
theorem F_disk_at.eq : absF Try.prog F_disk_at.G F_disk_at.ann F_disk_at.sig Try.f32 = F_disk_at := by kernel_rfl
theorem F_disk_at.sound : Sound Try.prog F_disk_at.S := absF_sound (fn := Try.f32) (Γ := F_disk_at.G) all_nil mix (by kernel_rfl) (by kernel_rfl) (fun m p => congrFun (congrFun F_disk_at.eq m) p)
/-! ### cloakroom/disk.Read -/
noncomputable def F_disk_Read (m : Fu) (p : (List Int) × Int) : Option ((List Int) × Int) :=
  let a0 := p.1
  let a1 := p.2
  (F_disk_asked m (a0, a1)).bind fun x1 =>
  bif x1 != (0 : Int) then some (([] : List Int), x1) else
  (F_disk_at m (a0, a1)).bind fun x3 =>
  (C_bytes_Clone m x3).bind fun x4 =>
  some (x4, (0 : Int))
def F_disk_Read.ann : List (Nat × Ann) := []
def F_disk_Read.sig : Sig := ⟨[.val true [.sl (.int .u8)], .val false [.int .i64]], [(false, [.own (.int .u8) 0 .wr]), (false, [.dat (.int .i64)])]⟩
noncomputable def F_disk_Read.S : Summ := ⟨17, F_disk_Read.sig, F_disk_Read⟩
noncomputable def F_disk_Read.G : List Summ := [F_disk_asked.S, F_disk_at.S, C_bytes_Clone.S]
theorem F_disk_Read.eq : absF Try.prog F_disk_Read.G F_disk_Read.ann F_disk_Read.sig Try.f17 = F_disk_Read := by kernel_rfl
theorem F_disk_Read.sound : Sound Try.prog F_disk_Read.S := absF_sound (fn := Try.f17) (Γ := F_disk_Read.G) (all_cons F_disk_asked.sound (all_cons F_disk_at.sound (all_cons C_bytes_Clone.sound all_nil))) mix (by kernel_rfl) (by kernel_rfl) (fun m p => congrFun (congrFun F_disk_Read.eq m) p)
/-! ### cloakroom/cloakroomlaw02.three -/
noncomputable def F_law02_three (m : Fu) (_ : Unit) : Option (List (Int × (List Int))) :=
  (F_law02_all m (1 : Int)).bind fun x1 =>
  (F_law02_all m (2 : Int)).bind fun x2 =>
  (F_law02_all m (1 : Int)).bind fun x3 =>
  some ([((0 : Int), x1), ((0 : Int), x2), ((1 : Int), x3)])
def F_law02_three.ann : List (Nat × Ann) := []
def F_law02_three.sig : Sig := ⟨[], [(false, [.own (.pr (.int .i64) (.sl (.int .u8))) 0 .wr])]⟩
noncomputable def F_law02_three.S : Summ := ⟨18, F_law02_three.sig, F_law02_three⟩
noncomputable def F_law02_three.G : List Summ := [F_law02_all.S]
theorem F_law02_three.eq : absF Try.prog F_law02_three.G F_law02_three.ann F_law02_three.sig Try.f18 = F_law02_three := by kernel_rfl
theorem F_law02_three.sound : Sound Try.prog F_law02_three.S := absF_sound (fn := Try.f18) (Γ := F_law02_three.G) (all_cons F_law02_all.sound all_nil) mix (by kernel_rfl) (by kernel_rfl) (fun m p => congrFun (congrFun F_law02_three.eq m) p)
/-! ### cloakroom/disk.Left -/
noncomputable def F_disk_Left.l122 (m : Fu) (x4 : List (Int × (List Int))) (x5 : Int) (x6 : (List (Int × (List Int))) × Int) : Option (Step ((List (Int × (List Int))) × Int) ((List (Int × (List Int))))) :=
  bif decide (x6.2 < x5) then
    bif (decide ((0 : Int) ≤ x6.2)) && (decide (x6.2 < (x4.length : Int))) then
      let x8 := x4.getD x6.2.toNat (0, [])
      (C_bytes_Clone m x8.2).bind fun x9 =>
      let x10 := [(x8.1, x9)]
      bif Nat.ble (x6.1.length + x10.length) 4294967296 then
        some (.next ((x6.1 ++ x10), (IntKind.i64.wrap (x6.2 + (1 : Int)))))
      else none
    else none
  else some (.fin x6.1)
noncomputable def F_disk_Left (m : Fu) (p : (List (Int × (List Int))) × Int) : Option ((List (Int × (List Int))) × Int) :=
  let a0 := p.1
  let a1 := p.2
  bif decide (a1 < (0 : Int)) then some (([] : List (Int × (List Int))), (2 : Int)) else
  bif decide ((a0.length : Int) < a1) then some (([] : List (Int × (List Int))), (2 : Int)) else
  bif (((decide ((0 : Int) ≤ a1)) && (decide (a1 ≤ (a0.length : Int)))) && (decide ((a0.length : Int) ≤ (a0.length : Int)))) && (decide ((a0.length : Int) ≤ (a0.length : Int))) then
    let x4 := (a0.take ((a0.length : Int).toNat)).drop a1.toNat
    (iter m (F_disk_Left.l122 m x4 (x4.length : Int)) (([] : List (Int × (List Int))), (0 : Int))).bind fun x13 =>
    some (x13, (0 : Int))
  else none
def F_disk_Left.ann : List (Nat × Ann) := [(122, .loop ⟨[(6, false, [.own (.pr (.int .i64) (.sl (.int .u8))) 288 .wr]), (21, false, [.dat (.int .i64)])], [], [], [], 289⟩ [(.exit 0, ⟨[(6, false, [.own (.pr (.int .i64) (.sl (.int .u8))) 288 .wr])], [], [], [], 289⟩)])]
def F_disk_Left.sig : Sig := ⟨[.val false [.sl (.pr (.int .i64) (.sl (.int .u8)))], .val false [.int .i64]], [(false, [.own (.pr (.int .i64) (.sl (.int .u8))) 0 .wr]), (false, [.dat (.int .i64)])]⟩
noncomputable def F_disk_Left.S : Summ := ⟨11, F_disk_Left.sig, F_disk_Left⟩
noncomputable def F_disk_Left.G : List Summ := [C_bytes_Clone.S]
theorem F_disk_Left.eq : absF Try.prog F_disk_Left.G F_disk_Left.ann F_disk_Left.sig Try.f11 = F_disk_Left := by kernel_rfl
theorem F_disk_Left.sound : Sound Try.prog F_disk_Left.S := absF_sound (fn := Try.f11) (Γ := F_disk_Left.G) (all_cons C_bytes_Clone.sound all_nil) mix (by kernel_rfl) (by kernel_rfl) (fun m p => congrFun (congrFun F_disk_Left.eq m) p)
/-! ### cloakroom/cloakroomlaw02.alive -/
noncomputable def F_law02_alive (m : Fu) (_ : Unit) : Option (Bool) :=
  (F_disk_New m (2 : Int)).bind fun x1 =>
  (F_law02_three m ()).bind fun x2 =>
  (F_disk_Do m (x1.1, x2, (2 : Int))).bind fun x3 =>
  (F_disk_Read m (x3.1, (0 : Int))).bind fun x4 =>
  (F_disk_Read m (x3.1, (1 : Int))).bind fun x5 =>
  bif x1.2 == (0 : Int) then
    bif x3.2 == (0 : Int) then
      bif x4.2 == (0 : Int) then
        bif x5.2 == (0 : Int) then
          (F_law02_all m (2 : Int)).bind fun x10 =>
          bif x4.1 == x10 then
            (F_law02_all m (0 : Int)).bind fun x12 =>
            some (x5.1 == x12)
          else some false
        else some false
      else some false
    else some false
  else some false
def F_law02_alive.ann : List (Nat × Ann) := []
def F_law02_alive.sig : Sig := ⟨[], [(false, [.dat .bool])]⟩
noncomputable def F_law02_alive.S : Summ := ⟨7, F_law02_alive.sig, F_law02_alive⟩
noncomputable def F_law02_alive.G : List Summ := [F_disk_New.S, F_law02_three.S, F_disk_Do.S, F_disk_Read.S, F_law02_all.S]
theorem F_law02_alive.eq : absF Try.prog F_law02_alive.G F_law02_alive.ann F_law02_alive.sig Try.f7 = F_law02_alive := by kernel_rfl
theorem F_law02_alive.sound : Sound Try.prog F_law02_alive.S := absF_sound (fn := Try.f7) (Γ := F_law02_alive.G) (all_cons F_disk_New.sound (all_cons F_law02_three.sound (all_cons F_disk_Do.sound (all_cons F_disk_Read.sound (all_cons F_law02_all.sound all_nil))))) mix (by kernel_rfl) (by kernel_rfl) (fun m p => congrFun (congrFun F_law02_alive.eq m) p)
/-! ### cloakroom/cloakroomref02.SamePuts -/
noncomputable def F_ref02_SamePuts.l58 (_ : Fu) (a0 : List (Int × (List Int))) (a1 : List (Int × (List Int))) (x4 : Int) : Option (Step Int (Bool ⊕ Unit)) :=
  bif decide (x4 < (a0.length : Int)) then
    bif (decide ((0 : Int) ≤ x4)) && (decide (x4 < (a0.length : Int))) then
      bif (decide ((0 : Int) ≤ x4)) && (decide (x4 < (a1.length : Int))) then
        bif ((a0.getD x4.toNat (0, [])).1) != ((a1.getD x4.toNat (0, [])).1) then some (.fin (Sum.inl false)) else
        bif (decide ((0 : Int) ≤ x4)) && (decide (x4 < (a0.length : Int))) then
          bif (decide ((0 : Int) ≤ x4)) && (decide (x4 < (a1.length : Int))) then
            bif !(((a0.getD x4.toNat (0, [])).2) == ((a1.getD x4.toNat (0, [])).2)) then
              some (.fin (Sum.inl false))
            else some (.next (IntKind.i64.wrap (x4 + (1 : Int))))
          else none
        else none
      else none
    else none
  else some (.fin (Sum.inr ()))
noncomputable def F_ref02_SamePuts (m : Fu) (p : (List (Int × (List Int))) × (List (Int × (List Int)))) : Option (Bool) :=
  let a0 := p.1
  let a1 := p.2
  bif (a0.length : Int) != (a1.length : Int) then some false else
  (iter m (F_ref02_SamePuts.l58 m a0 a1) (0 : Int)).bind fun x14 =>
  match x14 with
  | .inl x15 =>
    some x15
  | .inr _ =>
    some true
def F_ref02_SamePuts.ann : List (Nat × Ann) := [(58, .loop ⟨[(5, false, [.dat (.int .i64)])], [], [], [], 144⟩ [(.ret, ⟨[(4, false, [.dat .bool])], [], [], [], 144⟩), (.exit 0, ⟨[], [], [], [], 144⟩)])]
def F_ref02_SamePuts.sig : Sig := ⟨[.val false [.sl (.pr (.int .i64) (.sl (.int .u8)))], .val false [.sl (.pr (.int .i64) (.sl (.int .u8)))]], [(false, [.dat .bool])]⟩
noncomputable def F_ref02_SamePuts.S : Summ := ⟨19, F_ref02_SamePuts.sig, F_ref02_SamePuts⟩
noncomputable def F_ref02_SamePuts.G : List Summ := []
theorem F_ref02_SamePuts.eq : absF Try.prog F_ref02_SamePuts.G F_ref02_SamePuts.ann F_ref02_SamePuts.sig Try.f19 = F_ref02_SamePuts := by kernel_rfl
theorem F_ref02_SamePuts.sound : Sound Try.prog F_ref02_SamePuts.S := absF_sound (fn := Try.f19) (Γ := F_ref02_SamePuts.G) all_nil mix (by kernel_rfl) (by kernel_rfl) (fun m p => congrFun (congrFun F_ref02_SamePuts.eq m) p)
/-! ### bytes.Equal -/
noncomputable def F_bytes_Equal (_ : Fu) (p : (List Int) × (List Int)) : Option (Bool) :=
  let a0 := p.1
  let a1 := p.2
  some (a0 == a1)
def F_bytes_Equal.ann : List (Nat × Ann) := []
def F_bytes_Equal.sig : Sig := ⟨[.val false [.sl (.int .u8)], .val false [.sl (.int .u8)]], [(false, [.dat .bool])]⟩
noncomputable def F_bytes_Equal.S : Summ := ⟨33, F_bytes_Equal.sig, F_bytes_Equal⟩
noncomputable def F_bytes_Equal.G : List Summ := []
theorem F_bytes_Equal.eq : absF Try.prog F_bytes_Equal.G F_bytes_Equal.ann F_bytes_Equal.sig Try.f33 = F_bytes_Equal := by kernel_rfl
theorem F_bytes_Equal.sound : Sound Try.prog F_bytes_Equal.S := absF_sound (fn := Try.f33) (Γ := F_bytes_Equal.G) all_nil mix (by kernel_rfl) (by kernel_rfl) (fun m p => congrFun (congrFun F_bytes_Equal.eq m) p)
/-! ### cloakroom/disk.Same -/
noncomputable def F_disk_Same (m : Fu) (p : (List Int) × (List Int)) : Option (Bool) :=
  let a0 := p.1
  let a1 := p.2
  (F_bytes_Equal m (a0, a1)).bind fun x1 =>
  some x1
def F_disk_Same.ann : List (Nat × Ann) := []
def F_disk_Same.sig : Sig := ⟨[.val true [.sl (.int .u8)], .val true [.sl (.int .u8)]], [(false, [.dat .bool])]⟩
noncomputable def F_disk_Same.S : Summ := ⟨12, F_disk_Same.sig, F_disk_Same⟩
noncomputable def F_disk_Same.G : List Summ := [F_bytes_Equal.S]
theorem F_disk_Same.eq : absF Try.prog F_disk_Same.G F_disk_Same.ann F_disk_Same.sig Try.f12 = F_disk_Same := by kernel_rfl
theorem F_disk_Same.sound : Sound Try.prog F_disk_Same.S := absF_sound (fn := Try.f12) (Γ := F_disk_Same.G) (all_cons F_bytes_Equal.sound all_nil) mix (by kernel_rfl) (by kernel_rfl) (fun m p => congrFun (congrFun F_disk_Same.eq m) p)
/-! ### cloakroom/cloakroomlaw02.DiskNames -/
noncomputable def F_law02_DiskNames (m : Fu) (_ : Unit) : Option (Bool) :=
  (F_disk_New m (2 : Int)).bind fun x1 =>
  (F_disk_Many m x1.1).bind fun x2 =>
  (F_law02_all m (1 : Int)).bind fun x3 =>
  (F_disk_Write m (x1.1, (1 : Int), x3)).bind fun x4 =>
  (F_disk_Read m (x4.1, (1 : Int))).bind fun x5 =>
  (F_law02_three m ()).bind fun x6 =>
  (F_disk_Left m (x6, (2 : Int))).bind fun x7 =>
  (F_disk_New m (0 : Int)).bind fun x8 =>
  (F_disk_New m (4097 : Int)).bind fun x9 =>
  (F_disk_Read m (x1.1, (2 : Int))).bind fun x10 =>
  (F_law02_all m (1 : Int)).bind fun x11 =>
  bif (decide ((63 : Int) ≤ (x11.length : Int))) && (decide ((x11.length : Int) ≤ (x11.length : Int))) then
    (F_disk_Write m (x1.1, (0 : Int), ((x11.take 63).drop 0))).bind fun x13 =>
    (F_disk_Do m (x1.1, ([] : List (Int × (List Int))), (1 : Int))).bind fun x14 =>
    (F_law02_alive m ()).bind fun x15 =>
    bif x15 then
      bif x2.1 == (2 : Int) then
        bif x2.2 == (0 : Int) then
          bif x4.2 == (0 : Int) then
            bif x5.2 == (0 : Int) then
              (F_law02_all m (1 : Int)).bind fun x20 =>
              bif x5.1 == x20 then
                bif x7.2 == (0 : Int) then
                  (F_law02_three m ()).bind fun x23 =>
                  bif ((decide ((2 : Int) ≤ (x23.length : Int))) && (decide ((x23.length : Int) ≤ (x23.length : Int)))) && (decide ((x23.length : Int) ≤ (x23.length : Int))) then
                    (F_ref02_SamePuts m (x7.1, ((x23.take ((x23.length : Int).toNat)).drop 2))).bind fun x25 =>
                    bif x25 then
                      bif x8.2 == (20 : Int) then
                        bif x9.2 == (20 : Int) then
                          bif x10.2 == (2 : Int) then
                            bif x13.2 == (3 : Int) then
                              bif x14.2 == (2 : Int) then
                                (F_disk_Check m ([] : List Int)).bind fun x31 =>
                                bif x31 == (20 : Int) then
                                  (F_disk_Same m (x1.1, x4.1)).bind fun x33 =>
                                  bif !x33 then
                                    (F_disk_Same m (x1.1, x1.1)).bind fun x35 =>
                                    some x35
                                  else some false
                                else some false
                              else some false
                            else some false
                          else some false
                        else some false
                      else some false
                    else some false
                  else none
                else some false
              else some false
            else some false
          else some false
        else some false
      else some false
    else some false
  else none
def F_law02_DiskNames.ann : List (Nat × Ann) := []
def F_law02_DiskNames.sig : Sig := ⟨[], [(false, [.dat .bool])]⟩
noncomputable def F_law02_DiskNames.S : Summ := ⟨5, F_law02_DiskNames.sig, F_law02_DiskNames⟩
noncomputable def F_law02_DiskNames.G : List Summ := [F_disk_New.S, F_disk_Many.S, F_law02_all.S, F_disk_Write.S, F_disk_Read.S, F_law02_three.S, F_disk_Left.S, F_disk_Do.S, F_law02_alive.S, F_ref02_SamePuts.S, F_disk_Check.S, F_disk_Same.S]
theorem F_law02_DiskNames.eq : absF Try.prog F_law02_DiskNames.G F_law02_DiskNames.ann F_law02_DiskNames.sig Try.f5 = F_law02_DiskNames := by kernel_rfl
theorem F_law02_DiskNames.sound : Sound Try.prog F_law02_DiskNames.S := absF_sound (fn := Try.f5) (Γ := F_law02_DiskNames.G) (all_cons F_disk_New.sound (all_cons F_disk_Many.sound (all_cons F_law02_all.sound (all_cons F_disk_Write.sound (all_cons F_disk_Read.sound (all_cons F_law02_three.sound (all_cons F_disk_Left.sound (all_cons F_disk_Do.sound (all_cons F_law02_alive.sound (all_cons F_ref02_SamePuts.sound (all_cons F_disk_Check.sound (all_cons F_disk_Same.sound all_nil)))))))))))) mix (by kernel_rfl) (by kernel_rfl) (fun m p => congrFun (congrFun F_law02_DiskNames.eq m) p)
/-! ### cloakroom/cloakroomlaw02.large -/
noncomputable def F_law02_large (_ : Fu) (p : List Int) : Option (Bool) :=
  let a0 := p
  some (decide ((300000 : Int) < (a0.length : Int)))
def F_law02_large.ann : List (Nat × Ann) := []
def F_law02_large.sig : Sig := ⟨[.val true [.sl (.int .u8)]], [(false, [.dat .bool])]⟩
noncomputable def F_law02_large.S : Summ := ⟨8, F_law02_large.sig, F_law02_large⟩
noncomputable def F_law02_large.G : List Summ := []
theorem F_law02_large.eq : absF Try.prog F_law02_large.G F_law02_large.ann F_law02_large.sig Try.f8 = F_law02_large := by kernel_rfl
theorem F_law02_large.sound : Sound Try.prog F_law02_large.S := absF_sound (fn := Try.f8) (Γ := F_law02_large.G) all_nil mix (by kernel_rfl) (by kernel_rfl) (fun m p => congrFun (congrFun F_law02_large.eq m) p)
/-! ### cloakroom/cloakroomref02.Heavy -/
noncomputable def F_ref02_Heavy.s232 (_ : Fu) (a0 : List (Int × (List Int))) (x1 : Int × Int) : Option (Unit ⊕ Unit) :=
  bif decide (x1.2 < (a0.length : Int)) then
    bif decide (x1.2 < (10000 : Int)) then
      some (Sum.inl ())
    else some (Sum.inr ())
  else some (Sum.inr ())
noncomputable def F_ref02_Heavy.l58 (m : Fu) (a0 : List (Int × (List Int))) (x1 : Int × Int) : Option (Step (Int × Int) Int) :=
  (F_ref02_Heavy.s232 m a0 x1).bind fun x5 =>
  match x5 with
  | .inl _ =>
    bif (decide ((0 : Int) ≤ x1.2)) && (decide (x1.2 < (a0.length : Int))) then
      some (.next ((IntKind.i64.wrap (x1.1 + (mnI (((a0.getD x1.2.toNat (0, [])).2).length : Int) (100000 : Int)))), (IntKind.i64.wrap (x1.2 + (1 : Int)))))
    else none
  | .inr _ =>
    some (.fin x1.1)
noncomputable def F_ref02_Heavy (m : Fu) (p : List (Int × (List Int))) : Option (Bool) :=
  let a0 := p
  (iter m (F_ref02_Heavy.l58 m a0) ((0 : Int), (0 : Int))).bind fun x13 =>
  bif decide ((5000 : Int) < (a0.length : Int)) then
    some true
  else some (decide ((400000 : Int) < x13))
def F_ref02_Heavy.ann : List (Nat × Ann) := [(58, .loop ⟨[(3, false, [.dat (.int .i64)]), (4, false, [.dat (.int .i64)])], [], [], [], 64⟩ [(.exit 0, ⟨[(3, false, [.dat (.int .i64)])], [], [], [], 64⟩)]),
  (232, .jnt [(.normal, ⟨[], [], [], [], 64⟩), (.exit 0, ⟨[], [], [], [], 64⟩)])]
def F_ref02_Heavy.sig : Sig := ⟨[.val false [.sl (.pr (.int .i64) (.sl (.int .u8)))]], [(false, [.dat .bool])]⟩
noncomputable def F_ref02_Heavy.S : Summ := ⟨9, F_ref02_Heavy.sig, F_ref02_Heavy⟩
noncomputable def F_ref02_Heavy.G : List Summ := []
theorem F_ref02_Heavy.eq : absF Try.prog F_ref02_Heavy.G F_ref02_Heavy.ann F_ref02_Heavy.sig Try.f9 = F_ref02_Heavy := by kernel_rfl
theorem F_ref02_Heavy.sound : Sound Try.prog F_ref02_Heavy.S := absF_sound (fn := Try.f9) (Γ := F_ref02_Heavy.G) all_nil mix (by kernel_rfl) (by kernel_rfl) (fun m p => congrFun (congrFun F_ref02_Heavy.eq m) p)
/-! ### cloakroom/cloakroomlaw02.DiskLast -/
noncomputable def F_law02_DiskLast.l522826 (_ : Fu) (a1 : List (Int × (List Int))) (a2 : Int) (x17 : Int × (List Int)) (x25 : (List Int) × Int) : Option (Step ((List Int) × Int) ((List Int))) :=
  bif decide (x25.2 < a2) then
    bif (decide ((0 : Int) ≤ x25.2)) && (decide (x25.2 < (a1.length : Int))) then
      bif ((a1.getD x25.2.toNat (0, [])).1) == x17.1 then
        bif (decide ((0 : Int) ≤ x25.2)) && (decide (x25.2 < (a1.length : Int))) then
          some (.next (((a1.getD x25.2.toNat (0, [])).2), (IntKind.i64.wrap (x25.2 + (1 : Int)))))
        else none
      else some (.next (x25.1, (IntKind.i64.wrap (x25.2 + (1 : Int)))))
    else none
  else some (.fin x25.1)
noncomputable def F_law02_DiskLast.l2042 (m : Fu) (a0 : List Int) (a1 : List (Int × (List Int))) (a2 : Int) (x17 : Int × (List Int)) : Option (Step (Int × (List Int)) (Bool ⊕ Unit)) :=
  bif decide (x17.1 < (IntKind.i64.wrap ((a0.length : Int).tdiv (64 : Int)))) then
    let x21 := IntKind.i64.wrap ((64 : Int) * x17.1)
    let x23 := IntKind.i64.wrap ((IntKind.i64.wrap ((64 : Int) * x17.1)) + (64 : Int))
    bif (((decide ((0 : Int) ≤ x21)) && (decide (x21 ≤ x23))) && (decide (x23 ≤ (a0.length : Int)))) && (decide ((a0.length : Int) ≤ (a0.length : Int))) then
      (iter m (F_law02_DiskLast.l522826 m a1 a2 x17) (((a0.take x23.toNat).drop x21.toNat), (0 : Int))).bind fun x32 =>
      let x33 := IntKind.i64.wrap ((64 : Int) * x17.1)
      let x35 := IntKind.i64.wrap ((IntKind.i64.wrap ((64 : Int) * x17.1)) + (64 : Int))
      bif (((decide ((0 : Int) ≤ x33)) && (decide (x33 ≤ x35))) && (decide (x35 ≤ (x17.2.length : Int)))) && (decide ((x17.2.length : Int) ≤ (x17.2.length : Int))) then
        bif !(((x17.2.take x35.toNat).drop x33.toNat) == x32) then
          some (.fin (Sum.inl false))
        else some (.next ((IntKind.i64.wrap (x17.1 + (1 : Int))), x17.2))
      else none
    else none
  else some (.fin (Sum.inr ()))
noncomputable def F_law02_DiskLast (m : Fu) (p : (List Int) × (List (Int × (List Int))) × Int) : Option (Bool) :=
  let a0 := p.1
  let a1 := p.2.1
  let a2 := p.2.2
  (F_law02_alive m ()).bind fun x1 =>
  bif !x1 then some false else
  (F_law02_large m a0).bind fun x3 =>
  bif x3 then some x1 else
  bif decide ((200 : Int) < (a1.length : Int)) then some x1 else
  (F_ref02_Heavy m a1).bind fun x6 =>
  bif x6 then some x1 else
  (F_disk_Do m (a0, a1, a2)).bind fun x7 =>
  bif x7.2 != (0 : Int) then
    bif x1 then
      some ((x7.1.length : Int) == (0 : Int))
    else some false
  else
    bif (x7.1.length : Int) != (a0.length : Int) then some false else
    bif decide (a2 < (0 : Int)) then some false else
    bif decide ((a1.length : Int) < a2) then some false else
    (iter m (F_law02_DiskLast.l2042 m a0 a1 a2) ((0 : Int), x7.1)).bind fun x39 =>
    match x39 with
    | .inl x40 =>
      some x40
    | .inr _ =>
      some x1
def F_law02_DiskLast.ann : List (Nat × Ann) := [(2042, .loop ⟨[(10, false, [.dat (.int .i64)])], [], [(368, .int .u8, .fr)], [], 800⟩ [(.ret, ⟨[(6, false, [.dat .bool])], [], [], [368], 800⟩), (.exit 0, ⟨[], [], [], [368], 800⟩)]),
  (522826, .loop ⟨[(11, false, [.dat .str]), (12, false, [.dat (.int .i64)])], [], [], [], 1072⟩ [(.exit 2, ⟨[(11, false, [.dat .str])], [], [], [], 1072⟩)])]
def F_law02_DiskLast.sig : Sig := ⟨[.val true [.sl (.int .u8)], .val false [.sl (.pr (.int .i64) (.sl (.int .u8)))], .val false [.int .i64]], [(false, [.dat .bool])]⟩
noncomputable def F_law02_DiskLast.S : Summ := ⟨3, F_law02_DiskLast.sig, F_law02_DiskLast⟩
noncomputable def F_law02_DiskLast.G : List Summ := [F_law02_alive.S, F_law02_large.S, F_ref02_Heavy.S, F_disk_Do.S]
theorem F_law02_DiskLast.eq : absF Try.prog F_law02_DiskLast.G F_law02_DiskLast.ann F_law02_DiskLast.sig Try.f3 = F_law02_DiskLast := by kernel_rfl
theorem F_law02_DiskLast.sound : Sound Try.prog F_law02_DiskLast.S := absF_sound (fn := Try.f3) (Γ := F_law02_DiskLast.G) (all_cons F_law02_alive.sound (all_cons F_law02_large.sound (all_cons F_ref02_Heavy.sound (all_cons F_disk_Do.sound all_nil)))) mix (by kernel_rfl) (by kernel_rfl) (fun m p => congrFun (congrFun F_law02_DiskLast.eq m) p)
/-! ### cloakroom/cloakroomlaw02.DiskParts -/
noncomputable def F_law02_DiskParts.s1020 (_ : Fu) (x6 : (List Int) × Int) (x7 : (List Int) × Int) : Option (Bool) :=
  bif x6.2 != (0 : Int) then
    some true
  else some (x7.2 != (0 : Int))
noncomputable def F_law02_DiskParts (m : Fu) (p : (List Int) × (List (Int × (List Int))) × Int) : Option (Bool) :=
  let a0 := p.1
  let a1 := p.2.1
  let a2 := p.2.2
  (F_law02_alive m ()).bind fun x1 =>
  bif !x1 then some false else
  (F_law02_large m a0).bind fun x3 =>
  bif x3 then some x1 else
  (F_ref02_Heavy m a1).bind fun x4 =>
  bif x4 then some x1 else
  (F_disk_Do m (a0, a1, (a1.length : Int))).bind fun x6 =>
  (F_disk_Do m (a0, a1, a2)).bind fun x7 =>
  (F_disk_Left m (a1, a2)).bind fun x8 =>
  (F_law02_DiskParts.s1020 m x6 x7).bind fun x11 =>
  bif x11 then
    bif x1 then
      bif x6.2 == x7.2 then some true else
      bif x6.2 == (0 : Int) then
        bif x7.2 == (2 : Int) then
          some (x8.2 == (2 : Int))
        else some false
      else some false
    else some false
  else
    (F_disk_Do m (x7.1, x8.1, (x8.1.length : Int))).bind fun x17 =>
    bif x1 then
      bif x8.2 == (0 : Int) then
        bif x17.2 == (0 : Int) then
          (F_disk_Same m (x6.1, x17.1)).bind fun x20 =>
          bif x20 then
            some ((x8.1.length : Int) == (IntKind.i64.wrap ((a1.length : Int) - a2)))
          else some false
        else some false
      else some false
    else some false
def F_law02_DiskParts.ann : List (Nat × Ann) := [(1020, .jnt [(.normal, ⟨[(52, false, [.dat .bool])], [], [], [], 704⟩)])]
def F_law02_DiskParts.sig : Sig := ⟨[.val true [.sl (.int .u8)], .val false [.sl (.pr (.int .i64) (.sl (.int .u8)))], .val false [.int .i64]], [(false, [.dat .bool])]⟩
noncomputable def F_law02_DiskParts.S : Summ := ⟨4, F_law02_DiskParts.sig, F_law02_DiskParts⟩
noncomputable def F_law02_DiskParts.G : List Summ := [F_law02_alive.S, F_law02_large.S, F_ref02_Heavy.S, F_disk_Do.S, F_disk_Left.S, F_disk_Same.S]
theorem F_law02_DiskParts.eq : absF Try.prog F_law02_DiskParts.G F_law02_DiskParts.ann F_law02_DiskParts.sig Try.f4 = F_law02_DiskParts := by kernel_rfl
theorem F_law02_DiskParts.sound : Sound Try.prog F_law02_DiskParts.S := absF_sound (fn := Try.f4) (Γ := F_law02_DiskParts.G) (all_cons F_law02_alive.sound (all_cons F_law02_large.sound (all_cons F_ref02_Heavy.sound (all_cons F_disk_Do.sound (all_cons F_disk_Left.sound (all_cons F_disk_Same.sound all_nil)))))) mix (by kernel_rfl) (by kernel_rfl) (fun m p => congrFun (congrFun F_law02_DiskParts.eq m) p)
end Go.Proofs.Ytneknjhofegolaa
