/- Part 4 of the proof. -/
import Derived.Test.YtpfjjbpoikgocaaGreatP3
import Derived.Test.YtpfjjbpoikgocaaGreatProg
import Derived.Tactics2
import Derived.StillTactics
import Derived.Laws.Pointers
import Derived.RegionTactic
import Derived.LoopTactic
import Derived.ChangeAlike
import Derived.Laws.Bits64b
noncomputable section
namespace Go.Proofs.YtpfjjbpoikgocaaGreat
open Go.Abs Go.RowKit
set_option maxRecDepth 100000
structure SK (P : Program) where
 S : Summ
 h : Qal P S
@[reducible] def kS {P : Program} : List (SK P) → List Summ
 | [] => []
 | a :: r => a.S :: kS r
theorem kA {P : Program} : ∀ (l : List (SK P)), ∀ S ∈ kS l, Qal P S
 | [], S, h => by cases h
 | a :: r, S, h => by
  rcases List.mem_cons.1 h with e | h
  ·rw [e]; exact a.h
  ·exact kA r S h
def mkK {P : Program} (hm : P.follows .mixedOrders = true) (l : List (SK P)) (ann : List (Nat × Ann)) (f : FuncId) (fn : Func) (sig : Sig) (g : Fu → sig.ins.den → Option sig.outs.den) (e : absF P (kS l) ann sig fn = g)
 (hf : P.funcs[f]? = some fn) (hn : (fn.name == "runtime.NumGoroutine") = false) : SK P := ⟨⟨f, sig, g⟩, Qmn (kA l) hm hf hn (fun m p => congrFun (congrFun e m) p)⟩
def mK {P : Program} : SK P := ⟨QpS, Ql5⟩
abbrev T1 : Type := Int × (List Int) × (List Int) × Int × Int × Int
abbrev T2 : Type := List Int
abbrev T3 : Type := Int × Int × (T2 × T2 × Int × Int × Int) × T2 × Int × Int × Bool
abbrev T4 : Type := Int × T2
abbrev T5 : Type := Step (Int × T2 × Int × Int × Int × Int × Int × Int × Int × Int × Int × Bool) ((T2 × Int × Int × Int × Int × Int × Int × Int × Int × Int × Bool))
abbrev T6 : Type := Int × T2 × (List T1) × Int × Int × Bool × (List Bool) × (List (T4 × Int)) × Int
abbrev T7 : Type := T2 × Bool × Int × Int × T2 × T2 × Int × Int × Int × T2 × Int × Int × Bool
abbrev T8 : Type := List T1
abbrev T9 : Type := (Bool × T2 × Int × Int × Int × (List T2) × Int × Int × Int × Int × T2 × T8 × Int × Int × Bool) ⊕ (T2 × Int × Int × Int × (List T2) × Int × Int × Int × Int × T2 × T8 × Int × Int × Bool)
abbrev T10 : Type := List (T4 × Int)
abbrev T11 : Type := List T2
abbrev T12 : Type := Bool × Int × Int × T2 × T2 × Int × Int × Int × T2 × Int × Int × Bool
abbrev T13 : Type := Int ⊕ Unit
abbrev T14 : Type := T2 × T2 × Int × Int × Int
abbrev T15 : Type := Int × Int × T2 × T8 × Int × Int × Bool × (List Bool) × T10 × Int
abbrev T16 : Type := Step (T2 × Int) (T2)
abbrev Y17 : Ty := .pr (.int .i64) (.pr .str (.pr .str (.pr (.int .u32) (.pr (.int .i64) (.int .u64)))))
abbrev Y18 : Ty := .int .i64
abbrev Y19 : Ty := .pr (.int .u8) (.pr Y18 (.pr (.pr .str (.pr .str (.pr (.int .u32) (.pr Y18 (.int .u64))))) (.pr .str (.pr (.int .u8) (.pr Y18 .bool)))))
abbrev Y20 : Ty := .int .u8
abbrev Y21 : Ty := .int .u32
abbrev Y22 : Ty := .sl Y20
abbrev Y23 : Ty := .pr (.pr Y18 .str) Y18
abbrev Y24 : Ty := .int .u64
abbrev k25 : CK := .dat Y18
abbrev k26 : CK := .dat .bool
abbrev k27 : CK := .dat Y21
abbrev k28 : CK := .dat .str
theorem mix : Tryz.prog.follows .mixedOrders = true := by kernel_rfl
def Zh.a (_ : Fu) (a2 : List T1) (x1 : Int × Int) : Option (Unit ⊕ Unit) := bif decide (x1.2 < (a2.length : Int)) then bif decide (x1.2 < (3000 : Int)) then some (Sum.inl ()) else some (Sum.inr ()) else some (Sum.inr ())
def Zh.b (m : Fu) (a2 : List T1) (x1 : Int × Int) : Option (Step (Int × Int) Int) := (Zh.a m a2 x1).bind fun x5 => match x5 with | .inl _ => bif (decide ((0 : Int) ≤ x1.2)) && (decide (x1.2 < (a2.length : Int))) then bif (decide ((0 : Int) ≤ x1.2)) && (decide (x1.2 < (a2.length : Int))) then some (.next ((IntKind.i64.wrap ((IntKind.i64.wrap (x1.1 + (mnI ((((a2.getD x1.2.toNat (0, ([], ([], (0, (0, 0)))))).2).1).length : Int) (100000 : Int)))) + (mnI (((((a2.getD x1.2.toNat (0, ([], ([], (0, (0, 0)))))).2).2).1).length : Int) (100000 : Int)))), (IntKind.i64.wrap (x1.2 + (1 : Int))))) else none else none | .inr _ => some (.fin x1.1)
def Zh (m : Fu) (p : Int × T2 × T8 × Int × Int × Bool) : Option (Bool) := let a1 := p.2.1; let a2 := p.2.2.1; (iter m (Zh.b m a2) ((0 : Int), (0 : Int))).bind fun x17 => bif decide ((40 : Int) < (a1.length : Int)) then some true else bif decide ((1100 : Int) < (a2.length : Int)) then some true else some (decide ((400000 : Int) < x17))
def Zh.K : SK Tryz.prog := mkK mix [] [(58, .loop ⟨[(3, false, [k25]), (4, false, [k25])], [], [], [], 80⟩ [(.exit 0, ⟨[(3, false, [k25])], [], [], [], 80⟩)]),
 (232, .jnt [(.normal, ⟨[], [], [], [], 80⟩), (.exit 0, ⟨[], [], [], [], 80⟩)])] 21 Tryz.f21 ⟨[.val true [.int .i64, .sl Y18, .sl Y17, .int .i64, .int .i64, .bool]], [(false, [k26])]⟩ Zh (by kernel_rfl) (by kernel_rfl) (by kernel_rfl)
def Zs.a (_ : Fu) (a0 : List T3) (x1 : Int × Int) : Option (Unit ⊕ Unit) := bif decide (x1.2 < (a0.length : Int)) then bif decide (x1.2 < (10000 : Int)) then some (Sum.inl ()) else some (Sum.inr ()) else some (Sum.inr ())
def Zs.b (m : Fu) (a0 : List T3) (x1 : Int × Int) : Option (Step (Int × Int) Int) := (Zs.a m a0 x1).bind fun x5 => match x5 with | .inl _ => bif (decide ((0 : Int) ≤ x1.2)) && (decide (x1.2 < (a0.length : Int))) then bif (decide ((0 : Int) ≤ x1.2)) && (decide (x1.2 < (a0.length : Int))) then bif (decide ((0 : Int) ≤ x1.2)) && (decide (x1.2 < (a0.length : Int))) then some (.next ((IntKind.i64.wrap ((IntKind.i64.wrap ((IntKind.i64.wrap (x1.1 + (mnI ((((((a0.getD x1.2.toNat (0, (0, (([], ([], (0, (0, 0)))), ([], (0, (0, false))))))).2).2).1).1).length : Int) (100000 : Int)))) + (mnI (((((((a0.getD x1.2.toNat (0, (0, (([], ([], (0, (0, 0)))), ([], (0, (0, false))))))).2).2).1).2).1).length : Int) (100000 : Int)))) + (mnI ((((((a0.getD x1.2.toNat (0, (0, (([], ([], (0, (0, 0)))), ([], (0, (0, false))))))).2).2).2).1).length : Int) (100000 : Int)))), (IntKind.i64.wrap (x1.2 + (1 : Int))))) else none else none else none | .inr _ => some (.fin x1.1)
def Zs (m : Fu) (p : List T3) : Option (Bool) := let a0 := p; (iter m (Zs.b m a0) ((0 : Int), (0 : Int))).bind fun x21 => bif decide ((5000 : Int) < (a0.length : Int)) then some true else some (decide ((200000 : Int) < x21))
def Zs.K : SK Tryz.prog := mkK mix [] [(58, .loop ⟨[(3, false, [k25]), (4, false, [k25])], [], [], [], 64⟩ [(.exit 0, ⟨[(3, false, [k25])], [], [], [], 64⟩)]),
 (232, .jnt [(.normal, ⟨[], [], [], [], 64⟩), (.exit 0, ⟨[], [], [], [], 64⟩)])] 22 Tryz.f22 ⟨[.val false [.sl Y19]], [(false, [k26])]⟩ Zs (by kernel_rfl) (by kernel_rfl) (by kernel_rfl)
def Qab (m : Fu) (p : T2 × Int × T2 × T8 × Int × Int × Bool × (List T3)) : Option (Bool) := let a0 := p.1; let a1 := p.2.1; let a2 := p.2.2.1; let a3 := p.2.2.2.1; let a4 := p.2.2.2.2.1; let a5 := p.2.2.2.2.2.1; let a6 := p.2.2.2.2.2.2.1; let a7 := p.2.2.2.2.2.2.2; bif decide ((40000 : Int) < (a0.length : Int)) then some true else (Zh m (a1, a2, a3, a4, a5, a6)).bind fun x3 => bif x3 then some true else bif decide ((200 : Int) < (a3.length : Int)) then some true else (Zs m a7).bind fun x6 => bif x6 then some true else some (decide ((300 : Int) < (a7.length : Int)))
def Qab.K : SK Tryz.prog := mkK mix [Zh.K, Zs.K] [] 4 Tryz.f4 ⟨[.val true [.sl Y20], .val true [.int .i64, .sl Y18, .sl Y17, .int .i64, .int .i64, .bool], .val false [.sl Y19]], [(false, [k26])]⟩ Qab (by kernel_rfl) (by kernel_rfl) (by kernel_rfl)
def Vl (_ : Fu) (p : List Int) : Option T2 := let a0 := p; bif Nat.ble a0.length 140737488351232 then some a0 else none
def Vl.K : SK Tryz.prog := mkK mix [] [] 5 Tryz.f5 ⟨[.val true [.sl Y20]], [(true, [.own Y20 0 .wr])]⟩ Vl (by kernel_rfl) (by kernel_rfl) (by kernel_rfl)
def Ja (_ : Fu) (p : Int × T2 × T8 × Int × Int × Bool) : Option (Int × T2 × T8 × Int × Int × Bool) := let a0 := p.1; let a1 := p.2.1; let a2 := p.2.2.1; let a3 := p.2.2.2.1; let a4 := p.2.2.2.2.1; let a5 := p.2.2.2.2.2; bif Nat.ble a1.length 4294967296 then bif Nat.ble a2.length 4294967296 then some (a0, a1, a2, a3, a4, a5) else none else none
def Ja.K : SK Tryz.prog := mkK mix [] [] 6 Tryz.f6 ⟨[.val true [.int .i64, .sl Y18, .sl Y17, .int .i64, .int .i64, .bool]], [(true, [k25, .own Y18 0 .wr, .own Y17 0 .wr, k25, k25, k26])]⟩ Ja (by kernel_rfl) (by kernel_rfl) (by kernel_rfl)
def Qbm (_ : Fu) (p : Int) : Option (T2 × Int) := let a0 := p; bif decide (a0 < (1 : Int)) then some (([] : List Int), (20 : Int)) else bif decide ((4096 : Int) < a0) then some (([] : List Int), (20 : Int)) else let x3 := IntKind.i64.wrap (a0 * (64 : Int)); bif ((decide ((0 : Int) ≤ x3)) && (decide (x3 ≤ x3))) && (decide (x3 ≤ (4294967296 : Int))) then some ((List.replicate x3.toNat 0), (0 : Int)) else none
def Qbm.K : SK Tryz.prog := mkK mix [] [] 23 Tryz.f23 ⟨[.val false [.int .i64]], [(true, [.own Y20 0 .wr]), (false, [k25])]⟩ Qbm (by kernel_rfl) (by kernel_rfl) (by kernel_rfl)
def Zq (_ : Fu) (p : Int) : Option (Int) := let a0 := p; some (IntKind.i64.wrap ((IntKind.i64.wrap (a0 - (1 : Int))).tdiv (2 : Int)))
def Zq.K : SK Tryz.prog := mkK mix [] [] 25 Tryz.f25 ⟨[.val false [.int .i64]], [(false, [k25])]⟩ Zq (by kernel_rfl) (by kernel_rfl) (by kernel_rfl)
def JW (_ : Fu) (p : Int × Int) : Option (Bool) := let a0 := p.1; let a1 := p.2; bif decide ((0 : Int) ≤ a0) then some (decide (a0 ≤ a1)) else some false
def JW.K : SK Tryz.prog := mkK mix [] [] 108 Tryz.f108 ⟨[.val false [.int .i64], .val false [.int .i64]], [(false, [k26])]⟩ JW (by kernel_rfl) (by kernel_rfl) (by kernel_rfl)
def Vg (m : Fu) (p : Int) : Option (Bool) := let a0 := p; (JW m (a0, (16 : Int))).bind fun x1 => some (!x1)
def Vg.K : SK Tryz.prog := mkK mix [JW.K] [] 134 Tryz.f134 ⟨[.val false [.int .i64]], [(false, [k26])]⟩ Vg (by kernel_rfl) (by kernel_rfl) (by kernel_rfl)
def QC.a (m : Fu) (a0 : List Int) (x1 : Int) (x2 : Int) : Option (Step Int T13) := bif decide (x2 < x1) then bif (decide ((0 : Int) ≤ x2)) && (decide (x2 < (a0.length : Int))) then (Vg m (a0.getD x2.toNat 0)).bind fun x5 => bif x5 then some (.fin (Sum.inl x2)) else some (.next (IntKind.i64.wrap (x2 + (1 : Int)))) else none else some (.fin (Sum.inr ()))
def QC (m : Fu) (p : List Int) : Option (Int) := let a0 := p; (iter m (QC.a m a0 (a0.length : Int)) (0 : Int)).bind fun x7 => match x7 with | .inl x8 => some x8 | .inr _ => some (-1 : Int)
def QC.K : SK Tryz.prog := mkK mix [Vg.K] [(26, .loop ⟨[(8, false, [k25])], [], [], [], 96⟩ [(.ret, ⟨[(4, false, [k25])], [], [], [], 96⟩), (.exit 0, ⟨[], [], [], [], 96⟩)])] 140 Tryz.f140 ⟨[.val false [.sl Y18], .fn 134 []], [(false, [k25])]⟩ QC (by kernel_rfl) (by kernel_rfl) (by kernel_rfl)
def Jg (m : Fu) (p : List Int) : Option (Bool) := let a0 := p; (QC m a0).bind fun x1 => some (decide ((0 : Int) ≤ x1))
def Jg.K : SK Tryz.prog := mkK mix [QC.K] [] 133 Tryz.f133 ⟨[.val false [.sl Y18], .fn 134 []], [(false, [k26])]⟩ Jg (by kernel_rfl) (by kernel_rfl) (by kernel_rfl)
def VN (m : Fu) (p : List Int) : Option (Bool) := let a0 := p; bif decide ((0 : Int) < (a0.length : Int)) then bif decide ((a0.length : Int) ≤ (4 : Int)) then (Jg m a0).bind fun x5 => some (!x5) else some false else some false
def VN.K : SK Tryz.prog := mkK mix [Jg.K] [] 109 Tryz.f109 ⟨[.val false [.sl Y18]], [(false, [k26])]⟩ VN (by kernel_rfl) (by kernel_rfl) (by kernel_rfl)
def Vm (_ : Fu) (p : T2 × T2 × Int × Int × Int) : Option (Int) := let a0 := p.1; let a1 := p.2.1; some (IntKind.i64.wrap ((IntKind.i64.wrap ((8 : Int) + (a0.length : Int))) + (a1.length : Int)))
def Vm.K : SK Tryz.prog := mkK mix [] [] 135 Tryz.f135 ⟨[.val true [.str, .str, .int .u32, .int .i64, .int .u64]], [(false, [k25])]⟩ Vm (by kernel_rfl) (by kernel_rfl) (by kernel_rfl)
def QaS (m : Fu) (p : T2 × T2 × Int × Int × Int) : Option (Bool) := let a0 := p.1; let a1 := p.2.1; let a2 := p.2.2.1; let a3 := p.2.2.2.1; let a4 := p.2.2.2.2; bif !(a0 == ([] : List Int)) then bif decide ((a0.length : Int) ≤ (32 : Int)) then (Vm m (a0, a1, a2, a3, a4)).bind fun x4 => bif decide (x4 ≤ (256 : Int)) then (JW m (a3, (1099511627776 : Int))).bind fun x6 => some x6 else some false else some false else some false
def QaS.K : SK Tryz.prog := mkK mix [Vm.K, JW.K] [] 110 Tryz.f110 ⟨[.val true [.str, .str, .int .u32, .int .i64, .int .u64]], [(false, [k26])]⟩ QaS (by kernel_rfl) (by kernel_rfl) (by kernel_rfl)
def Vd (_ : Fu) (p : T2 × T2 × Int × Int × Int × Int) : Option (Bool) := let a3 := p.2.2.2.1; let a5 := p.2.2.2.2.2; bif a3 != (0 : Int) then some (decide (a3 ≤ a5)) else some false
def Vd.K : SK Tryz.prog := mkK mix [] [] 111 Tryz.f111 ⟨[.val true [.str, .str, .int .u32, .int .i64, .int .u64], .val false [.int .i64]], [(false, [k26])]⟩ Vd (by kernel_rfl) (by kernel_rfl) (by kernel_rfl)
def ZO.a (_ : Fu) (a0 : List T1) (x1 : Int) (x2 : Int × T10) : Option (Step (Int × T10) (T10)) := bif decide (x2.1 < x1) then bif (decide ((0 : Int) ≤ x2.1)) && (decide (x2.1 < (a0.length : Int))) then let x4 := a0.getD x2.1.toNat (0, ([], ([], (0, (0, 0))))); bif Nat.blt x2.2.length 4294967296 then some (.next ((IntKind.i64.wrap (x2.1 + (1 : Int))), (mset (Jx (.pr Y18 .str)) x2.2 (x4.1, x4.2.1) x2.1))) else none else none else some (.fin x2.2)
def ZO (m : Fu) (p : List T1) : Option T10 := let a0 := p; (iter m (ZO.a m a0 (a0.length : Int)) ((0 : Int), ([] : List (T4 × Int)))).bind fun x7 => some x7
def ZO.K : SK Tryz.prog := mkK mix [] [(58, .loop ⟨[(9, false, [k25])], [], [(32, .pr (.pr Y18 .str) Y18, (.mp true false))], [], 112⟩ [(.exit 0, ⟨[], [], [(32, .pr (.pr Y18 .str) Y18, (.mp true false))], [], 112⟩)])] 112 Tryz.f112 ⟨[.val false [.sl Y17]], [(false, [.own Y23 0 (.mp true false)])]⟩ ZO (by kernel_rfl) (by kernel_rfl) (by kernel_rfl)
def ZK.a (m : Fu) (a0 : Int) (a1 : List Int) (a2 : List T1) (x11 : Int) (x12 : Int) : Option (Step Int T13) := bif decide (x12 < x11) then bif (decide ((0 : Int) ≤ x12)) && (decide (x12 < (a2.length : Int))) then let x14 := a2.getD x12.toNat (0, ([], ([], (0, (0, 0))))); (JW m (x14.1, (IntKind.i64.wrap ((a1.length : Int) - (1 : Int))))).bind fun x17 => bif !x17 then some (.fin (Sum.inl (8 : Int))) else (QaS m x14.2).bind fun x19 => bif !x19 then some (.fin (Sum.inl (8 : Int))) else (Vd m (x14.2.1, x14.2.2.1, x14.2.2.2.1, x14.2.2.2.2.1, x14.2.2.2.2.2, a0)).bind fun x21 => bif x21 then some (.fin (Sum.inl (8 : Int))) else some (.next (IntKind.i64.wrap (x12 + (1 : Int)))) else none else some (.fin (Sum.inr ()))
def ZK (m : Fu) (p : Int × T2 × T8 × Int × Int × Bool) : Option (Int) := let a0 := p.1; let a1 := p.2.1; let a2 := p.2.2.1; let a3 := p.2.2.2.1; let a4 := p.2.2.2.2.1; (JW m (a0, (1099511627776 : Int))).bind fun x1 => bif !x1 then some (8 : Int) else (VN m a1).bind fun x3 => bif !x3 then some (8 : Int) else bif decide ((1024 : Int) < (a2.length : Int)) then some (8 : Int) else (JW m (a3, (2147483647 : Int))).bind fun x7 => bif !x7 then some (8 : Int) else (JW m (a4, (2147483647 : Int))).bind fun x9 => bif !x9 then some (8 : Int) else (iter m (ZK.a m a0 a1 a2 (a2.length : Int)) (0 : Int)).bind fun x23 => match x23 with | .inl x24 => some x24 | .inr _ => (ZO m a2).bind fun x26 => bif (x26.length : Int) != (a2.length : Int) then some (8 : Int) else some (0 : Int)
def ZK.K : SK Tryz.prog := mkK mix [JW.K, VN.K, QaS.K, Vd.K, ZO.K] [(58, .loop ⟨[(36, false, [k25])], [], [], [], 560⟩ [(.ret, ⟨[(2, false, [k25])], [], [], [], 560⟩), (.exit 0, ⟨[], [], [], [], 560⟩)])] 76 Tryz.f76 ⟨[.val true [.int .i64, .sl Y18, .sl Y17, .int .i64, .int .i64, .bool]], [(false, [k25])]⟩ ZK (by kernel_rfl) (by kernel_rfl) (by kernel_rfl)
def Q7.a (_ : Fu) (x1 : Int × T2) : Option (Step T4 (T4)) := bif decide ((127 : Int) < x1.1) then let x5 := [(VG .or .u8 (IntKind.u8.wrap x1.1) (128 : Int))]; bif Nat.ble (x1.2.length + x5.length) 140737488351232 then some (.next ((QeE .u64 x1.1 (7 : Int)), (x1.2 ++ x5))) else none else some (.fin x1)
def Q7 (m : Fu) (p : Int) : Option T2 := let a0 := p; (iter m (Q7.a m) (a0, ([] : List Int))).bind fun x8 => let x10 := [(IntKind.u8.wrap x8.1)]; bif Nat.ble (x8.2.length + x10.length) 140737488351232 then some (x8.2 ++ x10) else none
def Q7.K : SK Tryz.prog := mkK mix [] [(28, .loop ⟨[(0, false, [.dat Y24]), (3, false, [.own Y20 48 .wr])], [], [], [], 49⟩ [(.exit 0, ⟨[(0, false, [.dat Y24]), (3, false, [.own Y20 48 .wr])], [], [], [], 49⟩)])] 79 Tryz.f79 ⟨[.val false [.int .u64]], [(false, [.own Y20 0 .wr])]⟩ Q7 (by kernel_rfl) (by kernel_rfl) (by kernel_rfl)
def ZA.a (m : Fu) (a1 : List Int) (x1 : Int) (x2 : T2 × Int) : Option T16 := bif decide (x2.2 < x1) then bif (decide ((0 : Int) ≤ x2.2)) && (decide (x2.2 < (a1.length : Int))) then (Q7 m (IntKind.u64.wrap (a1.getD x2.2.toNat 0))).bind fun x6 => bif Nat.ble (x2.1.length + x6.length) 140737488351232 then some (.next ((x2.1 ++ x6), (IntKind.i64.wrap (x2.2 + (1 : Int))))) else none else none else some (.fin x2.1)
def ZA (m : Fu) (p : T2 × T2) : Option T2 := let a0 := p.1; let a1 := p.2; (iter m (ZA.a m a1 (a1.length : Int)) (a0, (0 : Int))).bind fun x9 => some x9
def ZA.K : SK Tryz.prog := mkK mix [Q7.K] [(26, .loop ⟨[(0, false, [.own Y20 96 .wr]), (9, false, [k25])], [], [], [0], 97⟩ [(.exit 0, ⟨[(0, false, [.own Y20 96 .wr])], [], [], [0], 97⟩)])] 77 Tryz.f77 ⟨[.ow Y20, .val false [.sl Y18]], [(false, [.own Y20 0 .wr])]⟩ ZA (by kernel_rfl) (by kernel_rfl) (by kernel_rfl)
def JL (m : Fu) (p : List Int) : Option T2 := let a0 := p; (Q7 m (IntKind.u64.wrap (a0.length : Int))).bind fun x3 => bif Nat.ble (x3.length + a0.length) 140737488351232 then some (x3 ++ a0) else none
def JL.K : SK Tryz.prog := mkK mix [Q7.K] [] 78 Tryz.f78 ⟨[.val false [.str]], [(false, [.own Y20 0 .wr])]⟩ JL (by kernel_rfl) (by kernel_rfl) (by kernel_rfl)
def Zj.a (_ : Fu) (a5 : Bool) (x8 : List Int) : Option (T2) := bif a5 then bif Nat.ble (x8.length + 1) 140737488351232 then some (x8 ++ ([1] : List Int)) else none else bif Nat.ble (x8.length + 1) 140737488351232 then some (x8 ++ ([0] : List Int)) else none
def Zj.b (m : Fu) (a2 : List T1) (x15 : Int) (x16 : T2 × Int) : Option T16 := bif decide (x16.2 < x15) then bif (decide ((0 : Int) ≤ x16.2)) && (decide (x16.2 < (a2.length : Int))) then let x18 := a2.getD x16.2.toNat (0, ([], ([], (0, (0, 0))))); (ZA m (x16.1, ([x18.1]))).bind fun x20 => (JL m x18.2.1).bind fun x21 => bif Nat.ble (x20.length + x21.length) 140737488351232 then let x22 := x20 ++ x21; (JL m x18.2.2.1).bind fun x23 => bif Nat.ble (x22.length + x23.length) 140737488351232 then (ZA m ((x22 ++ x23), ([(IntKind.i64.wrap x18.2.2.2.1), x18.2.2.2.2.1]))).bind fun x27 => (Q7 m x18.2.2.2.2.2).bind fun x28 => bif Nat.ble (x27.length + x28.length) 140737488351232 then some (.next ((x27 ++ x28), (IntKind.i64.wrap (x16.2 + (1 : Int))))) else none else none else none else none else some (.fin x16.1)
def Zj (m : Fu) (p : Int × T2 × T8 × Int × Int × Bool) : Option (T2 × Int) := let a0 := p.1; let a1 := p.2.1; let a2 := p.2.2.1; let a3 := p.2.2.2.1; let a4 := p.2.2.2.2.1; let a5 := p.2.2.2.2.2; (ZK m (a0, a1, a2, a3, a4, a5)).bind fun x1 => bif x1 != (0 : Int) then some (([] : List Int), x1) else (ZA m (([] : List Int), ([a0, (a1.length : Int)]))).bind fun x5 => (ZA m (x5, a1)).bind fun x6 => (ZA m (x6, ([a3, a4]))).bind fun x8 => (Zj.a m a5 x8).bind fun x11 => (ZA m (x11, ([(a2.length : Int)]))).bind fun x14 => (iter m (Zj.b m a2 (a2.length : Int)) (x14, (0 : Int))).bind fun x31 => bif decide ((65536 : Int) < (x31.length : Int)) then some (([] : List Int), (3 : Int)) else some (x31, (0 : Int))
def Zj.K : SK Tryz.prog := mkK mix [ZK.K, ZA.K, JL.K, Q7.K] [(30, .jnt [(.normal, ⟨[(5, false, [.own Y20 416 .wr])], [], [], [384], 417⟩)]),
 (506, .loop ⟨[(5, false, [.own Y20 593 .wr]), (46, false, [k25])], [], [], [497], 594⟩ [(.exit 0, ⟨[(5, false, [.own Y20 593 .wr])], [], [], [497], 594⟩)])] 44 Tryz.f44 ⟨[.val true [.int .i64, .sl Y18, .sl Y17, .int .i64, .int .i64, .bool]], [(false, [.own Y20 0 .wr]), (false, [k25])]⟩ Zj (by kernel_rfl) (by kernel_rfl) (by kernel_rfl)
def Qc.a (_ : Fu) (x23 : Bool) : Option (Unit ⊕ Unit) := bif x23 then some (Sum.inl ()) else some (Sum.inr ())
def Qc.b (m : Fu) (x21 : Int) (x22 : T2 × Int) : Option T16 := (Qc.a m (decide (x22.2 < (4 : Int)))).bind fun x24 => match x24 with | .inl _ => let x26 := IntKind.i64.wrap ((8 : Int) * x22.2); bif decide (x26 < (0 : Int)) then none else let x29 := [(IntKind.u8.wrap (QeE .u32 x21 x26))]; bif Nat.ble (x22.1.length + x29.length) 64 then some (.next ((x22.1 ++ x29), (IntKind.i64.wrap (x22.2 + (1 : Int))))) else none | .inr _ => some (.fin x22.1)
def Qc.c (m : Fu) (x17 : List Int) (x18 : Int) (x19 : T2 × Int) : Option T16 := bif decide (x19.2 < x18) then bif (decide ((0 : Int) ≤ x19.2)) && (decide (x19.2 < (x17.length : Int))) then bif Nat.blt x19.2.toNat x17.length then (iter m (Qc.b m (x17.getD x19.2.toNat 0)) (x19.1, (0 : Int))).bind fun x33 => some (.next (x33, (IntKind.i64.wrap (x19.2 + (1 : Int))))) else none else none else some (.fin x19.1)
def Qc.d (_ : Fu) (x38 : Bool) : Option (Unit ⊕ Unit) := bif x38 then some (Sum.inl ()) else some (Sum.inr ())
def Qc.e (m : Fu) (x36 : Int) (x37 : T2 × Int) : Option T16 := (Qc.d m (decide (x37.2 < (2 : Int)))).bind fun x39 => match x39 with | .inl _ => let x41 := IntKind.i64.wrap ((8 : Int) * x37.2); bif decide (x41 < (0 : Int)) then none else let x44 := [(IntKind.u8.wrap (QeE .u32 x36 x41))]; bif Nat.ble (x37.1.length + x44.length) 64 then some (.next ((x37.1 ++ x44), (IntKind.i64.wrap (x37.2 + (1 : Int))))) else none | .inr _ => some (.fin x37.1)
def Qc.f (_ : Fu) (x51 : Bool) : Option (Unit ⊕ Unit) := bif x51 then some (Sum.inl ()) else some (Sum.inr ())
def Qc.g (m : Fu) (x49 : Int) (x50 : T2 × Int) : Option T16 := (Qc.f m (decide (x50.2 < (2 : Int)))).bind fun x52 => match x52 with | .inl _ => let x54 := IntKind.i64.wrap ((8 : Int) * x50.2); bif decide (x54 < (0 : Int)) then none else let x57 := [(IntKind.u8.wrap (QeE .u32 x49 x54))]; bif Nat.ble (x50.1.length + x57.length) 64 then some (.next ((x50.1 ++ x57), (IntKind.i64.wrap (x50.2 + (1 : Int))))) else none | .inr _ => some (.fin x50.1)
def Qc.h (m : Fu) (a0 : Int) (a1 : Int) (a2 : Int) (a3 : Int) (x9 : Int) (x10 : T2 × T11 × Int) : Option (Step (T2 × T11 × Int) (T11)) := bif decide (x10.2.2 < x9) then let x13 := mnI (x10.1.length : Int) (43 : Int); bif ((decide ((0 : Int) ≤ x13)) && (decide (x13 ≤ (x10.1.length : Int)))) && (decide ((x10.1.length : Int) ≤ (x10.1.length : Int))) then let x14 := (x10.1.take x13.toNat).drop 0; let x15 := (x14.length : Int); bif (((decide ((0 : Int) ≤ x15)) && (decide (x15 ≤ (x10.1.length : Int)))) && (decide ((x10.1.length : Int) ≤ (x10.1.length : Int)))) && (decide ((x10.1.length : Int) ≤ (x10.1.length : Int))) then let x17 := [a0, a1, a2, a3]; (iter m (Qc.c m x17 (x17.length : Int)) (([] : List Int), (0 : Int))).bind fun x35 => (iter m (Qc.e m (IntKind.u32.wrap x10.2.2)) (x35, (0 : Int))).bind fun x48 => (iter m (Qc.g m (IntKind.u32.wrap x9)) (x48, (0 : Int))).bind fun x61 => let x64 := [(IntKind.u8.wrap (x14.length : Int))]; bif Nat.ble (x61.length + x64.length) 64 then let x65 := x61 ++ x64; bif Nat.ble (x65.length + x14.length) 64 then let x66 := x65 ++ x14; let x68 := [((x66 ++ List.replicate (64 - x66.length) 0).take 64)]; bif Nat.ble (x10.2.1.length + x68.length) 4294967296 then some (.next (((x10.1.take ((x10.1.length : Int).toNat)).drop x15.toNat), (x10.2.1 ++ x68), (IntKind.i64.wrap (x10.2.2 + (1 : Int))))) else none else none else none else none else none else some (.fin x10.2.1)
def Qc (m : Fu) (p : Int × Int × Int × Int × T2) : Option (T11 × Int) := let a0 := p.1; let a1 := p.2.1; let a2 := p.2.2.1; let a3 := p.2.2.2.1; let a4 := p.2.2.2.2; bif a0 == (0 : Int) then some (([] : List T2), (2 : Int)) else bif a1 == (0 : Int) then some (([] : List T2), (2 : Int)) else bif decide ((65536 : Int) < (a4.length : Int)) then some (([] : List T2), (3 : Int)) else let x9 := mxI (1 : Int) (IntKind.i64.wrap ((IntKind.i64.wrap ((IntKind.i64.wrap ((a4.length : Int) + (43 : Int))) - (1 : Int))).tdiv (43 : Int))); bif (decide ((0 : Int) ≤ x9)) && (decide (x9 ≤ (4294967296 : Int))) then (iter m (Qc.h m a0 a1 a2 a3 x9) (a4, ([] : List T2), (0 : Int))).bind fun x71 => some (x71, (0 : Int)) else none
def Qc.K : SK Tryz.prog := mkK mix [mK] [(506, .loop ⟨[(4, false, [.dat Y22]), (13, false, [.own (.pl false) 448 .wr]), (37, false, [k25])], [], [], [384], 449⟩ [(.exit 0, ⟨[(13, false, [.own (.pl false) 448 .wr])], [], [], [384], 449⟩)]),
 (1037118, .inl [(3, [(26, .loop ⟨[(0, false, [.own Y20 914 (.cp 64)]), (9, false, [k25])], [], [], [817], 915⟩ [(.exit 0, ⟨[(0, false, [.own Y20 914 (.cp 64)])], [], [], [817], 915⟩)]), (210, .jnt [(.normal, ⟨[], [], [], [], 931⟩), (.exit 0, ⟨[], [], [], [], 931⟩)])]), (6, [(26, .loop ⟨[(0, false, [.own Y20 1027 (.cp 64)]), (9, false, [k25])], [], [], [914], 1028⟩ [(.exit 0, ⟨[(0, false, [.own Y20 1027 (.cp 64)])], [], [], [914], 1028⟩)]), (210, .jnt [(.normal, ⟨[], [], [], [], 1044⟩), (.exit 0, ⟨[], [], [], [], 1044⟩)])])]),
 (2074234, .loop ⟨[(16, false, [.own Y20 817 (.cp 64)]), (56, false, [k25])], [], [], [673], 818⟩ [(.exit 2, ⟨[(16, false, [.own Y20 817 (.cp 64)])], [], [], [673], 818⟩)]),
 (132751001, .inl [(2, [(26, .loop ⟨[(0, false, [.own Y20 962 (.cp 64)]), (9, false, [k25])], [], [], [817], 963⟩ [(.exit 0, ⟨[(0, false, [.own Y20 962 (.cp 64)])], [], [], [817], 963⟩)]), (210, .jnt [(.normal, ⟨[], [], [], [], 979⟩), (.exit 0, ⟨[], [], [], [], 979⟩)])])])] 80 Tryz.f80 ⟨[.val false [.int .u32], .val false [.int .u32], .val false [.int .u32], .val false [.int .u32], .val false [.sl Y20]], [(false, [.own (.pl false) 0 .wr]), (false, [k25])]⟩ Qc (by kernel_rfl) (by kernel_rfl) (by kernel_rfl)
def JU (m : Fu) (p : T11 × Int × Int × Int × Int × T2) : Option (T11 × Int) := let a0 := p.1; let a2 := p.2.2.1; let a3 := p.2.2.2.1; let a4 := p.2.2.2.2.1; let a5 := p.2.2.2.2.2; let x2 := IntKind.u32.wrap ((mxI a2 a3) + (1 : Int)); bif a4 == (0 : Int) then some (([] : List T2), (2 : Int)) else bif decide ((65536 : Int) < (a5.length : Int)) then some (([] : List T2), (3 : Int)) else bif decide ((1048576 : Int) ≤ (a0.length : Int)) then some (([] : List T2), (4 : Int)) else bif x2 == (0 : Int) then some (([] : List T2), (9 : Int)) else (Qc m (a4, (IntKind.u32.wrap (IntKind.i64.wrap ((a0.length : Int) + (1 : Int)))), x2, a2, a5)).bind fun x12 => some x12
def JU.K : SK Tryz.prog := mkK mix [Qc.K] [] 45 Tryz.f45 ⟨[.val true [.sl Y22, .int .i64, .int .u32, .int .u32], .val false [.int .u32], .val false [.sl Y20]], [(false, [.own (.pl false) 0 .wr]), (false, [k25])]⟩ JU (by kernel_rfl) (by kernel_rfl) (by kernel_rfl)
def JG (m : Fu) (p : Int × T2 × T8 × Int × Int × Bool × Int × Int) : Option (T11 × Int) := let a0 := p.1; let a1 := p.2.1; let a2 := p.2.2.1; let a3 := p.2.2.2.1; let a4 := p.2.2.2.2.1; let a5 := p.2.2.2.2.2.1; let a6 := p.2.2.2.2.2.2.1; let a7 := p.2.2.2.2.2.2.2; (Zj m (a0, a1, a2, a3, a4, a5)).bind fun x1 => bif x1.2 != (0 : Int) then some (([] : List T2), x1.2) else bif a6 == (0 : Int) then some (([] : List T2), (9 : Int)) else (JU m (([] : List T2), (0 : Int), (0 : Int), (0 : Int), a6, x1.1)).bind fun x4 => bif x4.2 == (0 : Int) then bif decide (a7 < (x4.1.length : Int)) then some (([] : List T2), (9 : Int)) else some x4 else some x4
def JG.K : SK Tryz.prog := mkK mix [Zj.K, JU.K] [] 24 Tryz.f24 ⟨[.val true [.int .i64, .sl Y18, .sl Y17, .int .i64, .int .i64, .bool], .val false [.int .u32], .val false [.int .i64]], [(false, [.own (.pl false) 0 .wr]), (false, [k25])]⟩ JG (by kernel_rfl) (by kernel_rfl) (by kernel_rfl)
def Qu.a (_ : Fu) (a0 : Int) (x2 : Int × T2) : Option (Step T4 (T2)) := bif decide (x2.1 < (4 : Int)) then let x4 := IntKind.i64.wrap ((8 : Int) * x2.1); bif decide (x4 < (0 : Int)) then none else bif (decide ((0 : Int) ≤ x2.1)) && (decide (x2.1 < (x2.2.length : Int))) then bif Nat.blt x2.1.toNat x2.2.length then some (.next ((IntKind.i64.wrap (x2.1 + (1 : Int))), (x2.2.set x2.1.toNat (IntKind.u8.wrap (QeE .u32 a0 x4))))) else none else none else some (.fin x2.2)
def Qu (m : Fu) (p : Int × Int) : Option T4 := let a0 := p.1; let a1 := p.2; (iter m (Qu.a m a0) ((0 : Int), (List.replicate 64 0))).bind fun x9 => bif decide ((4 : Int) < (x9.length : Int)) then bif Nat.blt 4 x9.length then some ((0 : Int), (x9.set 4 (IntKind.u8.wrap a1))) else none else none
def Qu.K : SK Tryz.prog := mkK mix [] [(58, .loop ⟨[(8, false, [k25])], [], [(48, .int .u8, .wr)], [], 96⟩ [(.exit 0, ⟨[], [], [(48, .int .u8, .wr)], [], 96⟩)])] 27 Tryz.f27 ⟨[.val false [.int .u32], .val false [.int .i64]], [(true, [k25, .own Y20 0 .wr])]⟩ Qu (by kernel_rfl) (by kernel_rfl) (by kernel_rfl)
def Zy.a (_ : Fu) (a0 : List T2) (a1 : Int) (x1 : Int) (x2 : (List T4) × Int) : Option (Step ((List T4) × Int) ((List T4))) := bif decide (x2.2 < x1) then bif (decide ((0 : Int) ≤ x2.2)) && (decide (x2.2 < (a0.length : Int))) then let x6 := [((IntKind.i64.wrap (a1 + x2.2)), (a0.getD x2.2.toNat []))]; bif Nat.ble (x2.1.length + x6.length) 4294967296 then some (.next ((x2.1 ++ x6), (IntKind.i64.wrap (x2.2 + (1 : Int))))) else none else none else some (.fin x2.1)
def Zy (m : Fu) (p : T11 × Int × (List T4)) : Option (List T4) := let a0 := p.1; let a1 := p.2.1; let a2 := p.2.2; (iter m (Zy.a m a0 a1 (a0.length : Int)) (([] : List T4), (0 : Int))).bind fun x9 => bif Nat.ble (x9.length + a2.length) 4294967296 then some (x9 ++ a2) else none
def Zy.K : SK Tryz.prog := mkK mix [mK] [(58, .loop ⟨[(7, false, [.own (.pr Y18 (.pl false)) 128 .wr]), (12, false, [k25])], [], [], [], 129⟩ [(.exit 0, ⟨[(7, false, [.own (.pr Y18 (.pl false)) 128 .wr])], [], [], [], 129⟩)])] 26 Tryz.f26 ⟨[.val false [.sl (.pl false)], .val false [.int .i64], .val false [.sl (.pr Y18 (.pl false))]], [(false, [.own (.pr Y18 (.pl false)) 0 .wr])]⟩ Zy (by kernel_rfl) (by kernel_rfl) (by kernel_rfl)
def Vo (_ : Fu) (p : List Int) : Option (Int) := let a0 := p; let x1 := (a0.length : Int); bif decide (x1 < (64 : Int)) then some (20 : Int) else bif decide ((262144 : Int) < x1) then some (20 : Int) else bif (x1.tmod (64 : Int)) != (0 : Int) then some (20 : Int) else some (0 : Int)
def Vo.K : SK Tryz.prog := mkK mix [] [] 46 Tryz.f46 ⟨[.val true [.sl Y20]], [(false, [k25])]⟩ Vo (by kernel_rfl) (by kernel_rfl) (by kernel_rfl)
def ZW (m : Fu) (p : List Int) : Option (Int × Int) := let a0 := p; (Vo m a0).bind fun x1 => bif x1 != (0 : Int) then some ((0 : Int), x1) else some ((IntKind.i64.wrap ((a0.length : Int).tdiv (64 : Int))), (0 : Int))
def ZW.K : SK Tryz.prog := mkK mix [Vo.K] [] 56 Tryz.f56 ⟨[.val true [.sl Y20]], [(false, [k25]), (false, [k25])]⟩ ZW (by kernel_rfl) (by kernel_rfl) (by kernel_rfl)
def Vn (m : Fu) (p : T2 × Int) : Option (Int) := let a0 := p.1; let a1 := p.2; (ZW m a0).bind fun x1 => bif x1.2 == (0 : Int) then bif decide (a1 < (0 : Int)) then some (2 : Int) else bif decide (x1.1 ≤ a1) then some (2 : Int) else some x1.2 else some x1.2
def Vn.K : SK Tryz.prog := mkK mix [ZW.K] [] 47 Tryz.f47 ⟨[.val true [.sl Y20], .val false [.int .i64]], [(false, [k25])]⟩ Vn (by kernel_rfl) (by kernel_rfl) (by kernel_rfl)
def ZX (_ : Fu) (p : List Int) : Option T2 := let a0 := p; match a0 with | [] => QhY ( some ([] : List Int)) ( bif Nat.ble (0 + a0.length) 140737488351232 then some (([] : List Int) ++ a0) else none) | _ :: _ => bif Nat.ble (0 + a0.length) 140737488351232 then some (([] : List Int) ++ a0) else none
def ZX.sig : Sig := ⟨[.val false [.sl Y20]], [(false, [.own Y20 0 .wr])]⟩
def ZX.K : SK Tryz.prog := mkK mix [] [] 48 Tryz.f48 ZX.sig ZX (by kernel_rfl) (by kernel_rfl) (by kernel_rfl)
def ZX.S : Summ := ⟨48, ZX.sig, ZX⟩
theorem ZX.sound : Qal Tryz.prog ZX.S := ZX.K.h
def ZC (m : Fu) (p : List Int) : Option T2 := bif Nat.ble p.length 140737488351232 then some p else none
theorem ZC.is : ZX = ZC := by
 funext m p
 have h0 : Nat.ble 0 140737488351232 = true := rfl
 cases p <;> simp [ZX, ZC, QeF, h0]
def ZC.S : Summ := ⟨48, ZX.sig, ZC⟩
theorem ZC.sound : Qal Tryz.prog ZC.S := by
 have h := ZX.sound
 unfold ZX.S at h
 rw [ZC.is] at h
 exact h
def ZC.K : SK Tryz.prog := ⟨ZC.S, ZC.sound⟩
def Jb (_ : Fu) (p : List Int × Int) : Option (Int × Int) := let x1 := IntKind.i64.wrap (p.2 * (64 : Int)); let x2 := IntKind.i64.wrap (IntKind.i64.wrap (p.2 + (1 : Int)) * (64 : Int)); bif decide ((0 : Int) ≤ x1) && decide (x1 < x2) && decide (x2 ≤ (p.1.length : Int)) then some (x1, x2 - x1) else none
def Jb.sig : Sig := ⟨[.own Y20, .val false [.int .i64]], [(true, [.cst (.ptr 0 0), k25, k25])]⟩
def Jb.S : Summ := ⟨49, Jb.sig, Jb⟩
theorem Jb.core (n lo hi : Int) (len cap b o : Nat) (w : World) (hlo : wrap64 (n * 64) = lo) (hhi : wrap64 (wrap64 (n + 1) * 64) = hi) (h0 : 0 ≤ lo) (h1 : lo < hi) (h2 : hi ≤ (len : Int)) (hc : len ≤ cap) :
  Calls Tryz.prog 49 #[.agg #[.slice (some ⟨b, o, none⟩) len cap], .int .i64 n] w fun e w' => ∃ v, e = .returned v ∧ (∃ c', v = .slice (some ⟨b, o + lo.toNat, none⟩) (hi - lo).toNat c') ∧ QkY w w' := by
 have e1 : max hi 0 = hi := by omega
 have e2 : hi ≤ (cap : Int) := by omega
 have e3 : ¬ hi.toNat = lo.toNat := by omega
 have e4 : hi.toNat - lo.toNat = (hi - lo).toNat := by omega
 go_enter Tryz.func49, Tryz.ntmps49
 go_wp2_with (simp only [hlo, hhi, e1])
 go_ret
 refine ⟨_, rfl, ⟨_, rfl⟩, ?_⟩
 exact ⟨by rw [QeD]; omega, fun b hb => Vw _ _ hb, rfl, rfl, rfl⟩
theorem Jb.sound : Qal Tryz.prog Jb.S := by
 show QlS Tryz.prog 49 Y20 Jb
 intro m xs n q hq
 change List Int at xs
 unfold Jb at hq
 dsimp only at hq
 rw [show IntKind.i64.wrap (n * (64 : Int)) = wrap64 (n * 64) from by rw [IntKind.wrap_i64, wrap64], show IntKind.i64.wrap (IntKind.i64.wrap (n + (1 : Int)) * (64 : Int)) = wrap64 (wrap64 (n + 1) * 64) from by rw [IntKind.wrap_i64, IntKind.wrap_i64, wrap64, wrap64]] at hq
 generalize hlo : wrap64 (n * 64) = lo at hq
 generalize hhi : wrap64 (wrap64 (n + 1) * 64) = hi at hq
 cases hc : decide ((0 : Int) ≤ lo) && decide (lo < hi) && decide (hi ≤ (xs.length : Int)) with
 | false => rw [hc] at hq; cases hq
 | true =>
  rw [hc] at hq
  cases hq
  simp only [Bool.and_eq_true, decide_eq_true_eq] at hc
  obtain ⟨⟨c1, c2⟩, c3⟩ := hc
  refine ⟨by show 0 < xs.length; omega, fun w b o cap h1 h2 hn => ?_⟩
  have hcore := Jb.core n lo hi xs.length cap b o w hlo hhi c1 c2 c3 h1
  have hrun : (callFunc 49 #[.agg #[.slice (some ⟨b, o, none⟩) xs.length cap], .int .i64 n]).run Tryz.prog w = .ok (.enter 49 #[.agg #[.slice (some ⟨b, o, none⟩) xs.length cap], .int .i64 n]) w := by
   have hb : Tryz.f49.body.isSome = true := by kernel_rfl
   have hn : (Tryz.f49.name == "runtime.NumGoroutine") = false := by kernel_rfl
   obtain ⟨c, hbody⟩ := Option.isSome_iff_exists.1 hb
   have hn' : ¬ Tryz.f49.name = "runtime.NumGoroutine" := by simpa using hn
   simp [callFunc, Tryz.func49, hn', hbody]
  unfold Go.Abs.Ends
  rw [show (callFunc 49 #[.agg #[.slice (some ⟨b, o, none⟩) (List.length xs) cap], .int .i64 n]).run Tryz.prog w = _ from hrun]
  have e1 : (lo.toNat) * (Ty.int IntKind.u8).sz = lo.toNat := Nat.mul_one _
  refine Calls.mono hcore ?_
  rintro e w' ⟨v, he, hv, hg⟩
  exact ⟨v, he, by rw [e1]; exact hv, hg⟩
def Jb.K : SK Tryz.prog := ⟨Jb.S, Jb.sound⟩
def Z2.a (m : Fu) (a0 : List Int) (a1 : List T4) (x3 : Int) (x4 : Int) : Option (Step Int T13) := bif decide (x4 < x3) then bif (decide ((0 : Int) ≤ x4)) && (decide (x4 < (a1.length : Int))) then let x6 := a1.getD x4.toNat (0, []); (Vn m (a0, x6.1)).bind fun x7 => bif x7 != (0 : Int) then some (.fin (Sum.inl x7)) else bif (x6.2.length : Int) != (64 : Int) then some (.fin (Sum.inl (3 : Int))) else some (.next (IntKind.i64.wrap (x4 + (1 : Int)))) else none else some (.fin (Sum.inr ()))
def Z2.b (m : Fu) (x19 : List T4) (x20 : Int) (x21 : Int × T2) : Option (Step T4 (T2)) := bif decide (x21.1 < x20) then bif (decide ((0 : Int) ≤ x21.1)) && (decide (x21.1 < (x19.length : Int))) then let x23 := x19.getD x21.1.toNat (0, []); (Jb m (x21.2, x23.1)).bind fun x24 => bif Nat.ble (x24.1.toNat + x24.2.toNat) x21.2.length && (Nat.beq x23.2.length x24.2.toNat && Nat.ble x24.2.toNat 4294967296) then some (.next ((IntKind.i64.wrap (x21.1 + (1 : Int))), (x21.2.take x24.1.toNat ++ x23.2 ++ x21.2.drop (x24.1.toNat + x24.2.toNat)))) else none else none else some (.fin x21.2)
def Z2 (m : Fu) (p : T2 × (List T4) × Int) : Option (T2 × Int) := let a0 := p.1; let a1 := p.2.1; let a2 := p.2.2; (Vo m a0).bind fun x1 => bif x1 != (0 : Int) then some (([] : List Int), x1) else (iter m (Z2.a m a0 a1 (a1.length : Int)) (0 : Int)).bind fun x12 => match x12 with | .inl x13 => some (([] : List Int), x13) | .inr _ => bif decide (a2 < (0 : Int)) then some (([] : List Int), (2 : Int)) else bif decide ((a1.length : Int) < a2) then some (([] : List Int), (2 : Int)) else (ZC m a0).bind fun x18 => bif ((decide ((0 : Int) ≤ a2)) && (decide (a2 ≤ a2))) && (decide (a2 ≤ (a1.length : Int))) then let x19 := (a1.take a2.toNat).drop 0; (iter m (Z2.b m x19 (x19.length : Int)) ((0 : Int), x18)).bind fun x27 => some (x27, (0 : Int)) else none
def Z2.K : SK Tryz.prog := mkK mix [Vo.K, Vn.K, ZC.K, Jb.K] [(58, .loop ⟨[(23, false, [k25])], [], [], [], 224⟩ [(.ret, ⟨[(7, false, [k25])], [(64, [.cst .nils])], [], [], 224⟩), (.exit 0, ⟨[], [], [], [], 224⟩)]),
 (506, .loop ⟨[(59, false, [k25])], [], [(384, .int .u8, .wr)], [], 544⟩ [(.exit 2, ⟨[], [], [(384, .int .u8, .wr)], [], 544⟩)])] 28 Tryz.f28 ⟨[.val true [.sl Y20], .val false [.sl (.pr Y18 Y22)], .val false [.int .i64]], [(true, [.own Y20 0 .wr]), (false, [k25])]⟩ Z2 (by kernel_rfl) (by kernel_rfl) (by kernel_rfl)
def Js (m : Fu) (p : Int × Int × T2 × T8 × Int × Int × Bool) : Option (T2 × Int) := let a0 := p.1; let a1 := p.2.1; let a2 := p.2.2.1; let a3 := p.2.2.2.1; let a4 := p.2.2.2.2.1; let a5 := p.2.2.2.2.2.1; let a6 := p.2.2.2.2.2.2; (Qbm m a0).bind fun x1 => bif x1.2 != (0 : Int) then some (([] : List Int), x1.2) else bif decide (a0 < (3 : Int)) then some (([] : List Int), (230 : Int)) else (Zq m a0).bind fun x4 => (JG m (a1, a2, a3, a4, a5, a6, (1 : Int), x4)).bind fun x5 => bif x5.2 != (0 : Int) then some (([] : List Int), x5.2) else (Qu m ((1 : Int), (0 : Int))).bind fun x7 => (Zy m (x5.1, (1 : Int), ([x7]))).bind fun x9 => (Z2 m (x1.1, x9, (x9.length : Int))).bind fun x11 => some x11
def Js.K : SK Tryz.prog := mkK mix [mK, Qbm.K, Zq.K, JG.K, Qu.K, Zy.K, Z2.K] [] 7 Tryz.f7 ⟨[.val false [.int .i64], .val true [.int .i64, .sl Y18, .sl Y17, .int .i64, .int .i64, .bool]], [(true, [.own Y20 0 .wr]), (false, [k25])]⟩ Js (by kernel_rfl) (by kernel_rfl) (by kernel_rfl)
def QbH (_ : Fu) (p : Int) : Option (T2 × Int) := let a0 := p; bif decide (a0 < (1 : Int)) then some (([] : List Int), (20 : Int)) else bif decide ((4096 : Int) < a0) then some (([] : List Int), (20 : Int)) else let x3 := IntKind.i64.wrap (a0 * (64 : Int)); bif ((decide ((0 : Int) ≤ x3)) && (decide (x3 ≤ x3))) && (decide (x3 ≤ (4294967296 : Int))) then some ((List.replicate x3.toNat 0), (0 : Int)) else none
def QbH.K : SK Tryz.prog := mkK mix [] [] 29 Tryz.f29 ⟨[.val false [.int .i64]], [(true, [.own Y20 0 .wr]), (false, [k25])]⟩ QbH (by kernel_rfl) (by kernel_rfl) (by kernel_rfl)
def ZM.a (_ : Fu) (a0 : List Int) (x5 : Int) : Option (Step Int (Bool ⊕ Unit)) := bif decide (x5 < (a0.length : Int)) then bif (decide ((0 : Int) ≤ x5)) && (decide (x5 < (a0.length : Int))) then bif decide ((a0.getD x5.toNat 0) < (0 : Int)) then some (.fin (Sum.inl false)) else bif (decide ((0 : Int) ≤ x5)) && (decide (x5 < (a0.length : Int))) then bif decide ((16 : Int) < (a0.getD x5.toNat 0)) then some (.fin (Sum.inl false)) else some (.next (IntKind.i64.wrap (x5 + (1 : Int)))) else none else none else some (.fin (Sum.inr ()))
def ZM (m : Fu) (p : List Int) : Option (Bool) := let a0 := p; bif decide ((a0.length : Int) < (1 : Int)) then some false else bif decide ((4 : Int) < (a0.length : Int)) then some false else (iter m (ZM.a m a0) (0 : Int)).bind fun x13 => match x13 with | .inl x14 => some x14 | .inr _ => some true
def ZM.K : SK Tryz.prog := mkK mix [] [(58, .loop ⟨[(3, false, [k25])], [], [], [], 176⟩ [(.ret, ⟨[(2, false, [k26])], [], [], [], 176⟩), (.exit 0, ⟨[], [], [], [], 176⟩)])] 81 Tryz.f81 ⟨[.val false [.sl Y18]], [(false, [k26])]⟩ ZM (by kernel_rfl) (by kernel_rfl) (by kernel_rfl)
def VC (_ : Fu) (p : List Int) : Option (Bool) := let a0 := p; bif decide ((1 : Int) ≤ (a0.length : Int)) then some (decide ((a0.length : Int) ≤ (32 : Int))) else some false
def VC.K : SK Tryz.prog := mkK mix [] [] 105 Tryz.f105 ⟨[.val false [.str]], [(false, [k26])]⟩ VC (by kernel_rfl) (by kernel_rfl) (by kernel_rfl)
def Va (m : Fu) (p : T2 × T2 × Int × Int × Int) : Option (Bool) := let a0 := p.1; let a1 := p.2.1; let a3 := p.2.2.2.1; (VC m a0).bind fun x1 => bif x1 then bif decide ((a1.length : Int) ≤ (512 : Int)) then bif decide ((0 : Int) ≤ a3) then some (decide (a3 ≤ (1099511627776 : Int))) else some false else some false else some false
def Va.K : SK Tryz.prog := mkK mix [VC.K] [] 82 Tryz.f82 ⟨[.val true [.str, .str, .int .u32, .int .i64, .int .u64]], [(false, [k26])]⟩ Va (by kernel_rfl) (by kernel_rfl) (by kernel_rfl)
def Vk (_ : Fu) (p : T2 × T2 × Int × Int × Int) : Option (Int) := let a0 := p.1; let a1 := p.2.1; some (IntKind.i64.wrap ((IntKind.i64.wrap ((8 : Int) + (a0.length : Int))) + (a1.length : Int)))
def Vk.K : SK Tryz.prog := mkK mix [] [] 83 Tryz.f83 ⟨[.val true [.str, .str, .int .u32, .int .i64, .int .u64]], [(false, [k25])]⟩ Vk (by kernel_rfl) (by kernel_rfl) (by kernel_rfl)
def Vc (_ : Fu) (p : T2 × T2 × Int × Int × Int × Int) : Option (Bool) := let a3 := p.2.2.2.1; let a5 := p.2.2.2.2.2; bif a3 != (0 : Int) then some (decide (a3 ≤ a5)) else some false
def Vc.K : SK Tryz.prog := mkK mix [] [] 84 Tryz.f84 ⟨[.val true [.str, .str, .int .u32, .int .i64, .int .u64], .val false [.int .i64]], [(false, [k26])]⟩ Vc (by kernel_rfl) (by kernel_rfl) (by kernel_rfl)
def QE.a (_ : Fu) (a2 : List T1) (x11 : Int) (x14 : Int × T2 × T2 × Int × Int × Int) (x23 : Int) : Option (Step Int T13) := bif decide (x23 < x11) then bif (decide ((0 : Int) ≤ x23)) && (decide (x23 < (a2.length : Int))) then bif ((a2.getD x23.toNat (0, ([], ([], (0, (0, 0)))))).1) == x14.1 then bif (decide ((0 : Int) ≤ x23)) && (decide (x23 < (a2.length : Int))) then bif (((a2.getD x23.toNat (0, ([], ([], (0, (0, 0)))))).2).1) == x14.2.1 then some (.fin (Sum.inl (8 : Int))) else some (.next (IntKind.i64.wrap (x23 + (1 : Int)))) else none else some (.next (IntKind.i64.wrap (x23 + (1 : Int)))) else none else some (.fin (Sum.inr ()))
def QE.b (m : Fu) (a0 : Int) (a1 : List Int) (a2 : List T1) (x11 : Int) : Option (Step Int T13) := bif decide (x11 < (a2.length : Int)) then bif (decide ((0 : Int) ≤ x11)) && (decide (x11 < (a2.length : Int))) then let x14 := a2.getD x11.toNat (0, ([], ([], (0, (0, 0))))); bif decide (x14.1 < (0 : Int)) then some (.fin (Sum.inl (8 : Int))) else bif decide ((a1.length : Int) ≤ x14.1) then some (.fin (Sum.inl (8 : Int))) else (Va m x14.2).bind fun x18 => bif !x18 then some (.fin (Sum.inl (8 : Int))) else (Vk m x14.2).bind fun x20 => bif decide ((256 : Int) < x20) then some (.fin (Sum.inl (8 : Int))) else (Vc m (x14.2.1, x14.2.2.1, x14.2.2.2.1, x14.2.2.2.2.1, x14.2.2.2.2.2, a0)).bind fun x22 => bif x22 then some (.fin (Sum.inl (8 : Int))) else (iter m (QE.a m a2 x11 x14) (0 : Int)).bind fun x31 => match x31 with | .inl x32 => some (.fin (Sum.inl x32)) | .inr _ => some (.next (IntKind.i64.wrap (x11 + (1 : Int)))) else none else some (.fin (Sum.inr ()))
def QE (m : Fu) (p : Int × T2 × T8 × Int × Int × Bool) : Option (Int) := let a0 := p.1; let a1 := p.2.1; let a2 := p.2.2.1; let a3 := p.2.2.2.1; let a4 := p.2.2.2.2.1; bif decide (a0 < (0 : Int)) then some (8 : Int) else bif decide ((1099511627776 : Int) < a0) then some (8 : Int) else (ZM m a1).bind fun x3 => bif !x3 then some (8 : Int) else bif decide ((1024 : Int) < (a2.length : Int)) then some (8 : Int) else bif decide (a3 < (0 : Int)) then some (8 : Int) else bif decide ((2147483647 : Int) < a3) then some (8 : Int) else bif decide (a4 < (0 : Int)) then some (8 : Int) else bif decide ((2147483647 : Int) < a4) then some (8 : Int) else (iter m (QE.b m a0 a1 a2) (0 : Int)).bind fun x35 => match x35 with | .inl x36 => some x36 | .inr _ => some (0 : Int)
def QE.K : SK Tryz.prog := mkK mix [ZM.K, Va.K, Vk.K, Vc.K] [(58, .loop ⟨[(3, false, [k25])], [], [], [], 704⟩ [(.ret, ⟨[(2, false, [k25])], [], [], [], 704⟩), (.exit 0, ⟨[], [], [], [], 704⟩)]),
 (14926, .loop ⟨[(5, false, [k25])], [], [], [], 1392⟩ [(.ret, ⟨[(2, false, [k25])], [], [], [], 1392⟩), (.exit 2, ⟨[], [], [], [], 1392⟩)])] 50 Tryz.f50 ⟨[.val true [.int .i64, .sl Y18, .sl Y17, .int .i64, .int .i64, .bool]], [(false, [k25])]⟩ QE (by kernel_rfl) (by kernel_rfl) (by kernel_rfl)
def QU.a (_ : Fu) (x1 : Int × T2) : Option (Step T4 (T4)) := bif decide ((128 : Int) ≤ x1.1) then let x6 := [(IntKind.u8.wrap ((IntKind.u8.wrap (x1.1.tmod (128 : Int))) + (128 : Int)))]; bif Nat.ble (x1.2.length + x6.length) 140737488351232 then some (.next ((IntKind.u64.wrap (x1.1.tdiv (128 : Int))), (x1.2 ++ x6))) else none else some (.fin x1)
def QU (m : Fu) (p : Int) : Option T2 := let a0 := p; (iter m (QU.a m) (a0, ([] : List Int))).bind fun x9 => let x11 := [(IntKind.u8.wrap x9.1)]; bif Nat.ble (x9.2.length + x11.length) 140737488351232 then some (x9.2 ++ x11) else none
def QU.K : SK Tryz.prog := mkK mix [] [(28, .loop ⟨[(0, false, [.dat Y24]), (3, false, [.own Y20 48 .wr])], [], [], [], 49⟩ [(.exit 0, ⟨[(0, false, [.dat Y24]), (3, false, [.own Y20 48 .wr])], [], [], [], 49⟩)])] 85 Tryz.f85 ⟨[.val false [.int .u64]], [(false, [.own Y20 0 .wr])]⟩ QU (by kernel_rfl) (by kernel_rfl) (by kernel_rfl)
def Zr.a (m : Fu) (a0 : List Int) (x1 : T2 × Int) : Option T16 := bif decide (x1.2 < (a0.length : Int)) then bif (decide ((0 : Int) ≤ x1.2)) && (decide (x1.2 < (a0.length : Int))) then (QU m (IntKind.u64.wrap (a0.getD x1.2.toNat 0))).bind fun x6 => bif Nat.ble (x1.1.length + x6.length) 140737488351232 then some (.next ((x1.1 ++ x6), (IntKind.i64.wrap (x1.2 + (1 : Int))))) else none else none else some (.fin x1.1)
def Zr (m : Fu) (p : List Int) : Option T2 := let a0 := p; (iter m (Zr.a m a0) (([] : List Int), (0 : Int))).bind fun x9 => some x9
def Zr.K : SK Tryz.prog := mkK mix [QU.K] [(58, .loop ⟨[(3, false, [.own Y20 64 .wr]), (4, false, [k25])], [], [], [], 65⟩ [(.exit 0, ⟨[(3, false, [.own Y20 64 .wr])], [], [], [], 65⟩)])] 51 Tryz.f51 ⟨[.val false [.sl Y18]], [(false, [.own Y20 0 .wr])]⟩ Zr (by kernel_rfl) (by kernel_rfl) (by kernel_rfl)
def J9 (m : Fu) (p : List Int) : Option T2 := let a0 := p; (QU m (IntKind.u64.wrap (a0.length : Int))).bind fun x3 => bif Nat.ble (x3.length + a0.length) 140737488351232 then some (x3 ++ a0) else none
def J9.K : SK Tryz.prog := mkK mix [QU.K] [] 86 Tryz.f86 ⟨[.val false [.str]], [(false, [.own Y20 0 .wr])]⟩ J9 (by kernel_rfl) (by kernel_rfl) (by kernel_rfl)
def QI.a (m : Fu) (a0 : List Int) (x1 : T2 × Int) : Option T16 := bif decide (x1.2 < (a0.length : Int)) then bif (decide ((0 : Int) ≤ x1.2)) && (decide (x1.2 < (a0.length : Int))) then (QU m (IntKind.u64.wrap (a0.getD x1.2.toNat 0))).bind fun x6 => bif Nat.ble (x1.1.length + x6.length) 140737488351232 then some (.next ((x1.1 ++ x6), (IntKind.i64.wrap (x1.2 + (1 : Int))))) else none else none else some (.fin x1.1)
def QI (m : Fu) (p : List Int) : Option T2 := let a0 := p; (iter m (QI.a m a0) (([] : List Int), (0 : Int))).bind fun x9 => some x9
def QI.K : SK Tryz.prog := mkK mix [QU.K] [(58, .loop ⟨[(3, false, [.own Y20 64 .wr]), (4, false, [k25])], [], [], [], 65⟩ [(.exit 0, ⟨[(3, false, [.own Y20 64 .wr])], [], [], [], 65⟩)])] 69 Tryz.f69 ⟨[.val false [.sl Y18]], [(false, [.own Y20 0 .wr])]⟩ QI (by kernel_rfl) (by kernel_rfl) (by kernel_rfl)
def Jn (m : Fu) (p : T2 × T2 × Int × Int × Int) : Option T2 := let a0 := p.1; let a1 := p.2.1; let a2 := p.2.2.1; let a3 := p.2.2.2.1; let a4 := p.2.2.2.2; (J9 m a0).bind fun x1 => (J9 m a1).bind fun x2 => bif Nat.ble (x1.length + x2.length) 140737488351232 then let x3 := x1 ++ x2; (QU m (IntKind.u64.wrap a2)).bind fun x5 => bif Nat.ble (x3.length + x5.length) 140737488351232 then let x6 := x3 ++ x5; (QI m ([a3])).bind fun x8 => bif Nat.ble (x6.length + x8.length) 140737488351232 then let x9 := x6 ++ x8; (QU m a4).bind fun x10 => bif Nat.ble (x9.length + x10.length) 140737488351232 then some (x9 ++ x10) else none else none else none else none
def Jn.K : SK Tryz.prog := mkK mix [J9.K, QU.K, QI.K] [] 52 Tryz.f52 ⟨[.val true [.str, .str, .int .u32, .int .i64, .int .u64]], [(false, [.own Y20 0 .wr])]⟩ Jn (by kernel_rfl) (by kernel_rfl) (by kernel_rfl)
def QT.a (_ : Fu) (a5 : Bool) (x10 : List Int) : Option (T2) := bif a5 then bif Nat.ble (x10.length + 1) 140737488351232 then some (x10 ++ ([1] : List Int)) else none else bif Nat.ble (x10.length + 1) 140737488351232 then some (x10 ++ ([0] : List Int)) else none
def QT.b (m : Fu) (a2 : List T1) (x18 : T2 × Int) : Option T16 := bif decide (x18.2 < (a2.length : Int)) then bif (decide ((0 : Int) ≤ x18.2)) && (decide (x18.2 < (a2.length : Int))) then (Zr m ([((a2.getD x18.2.toNat (0, ([], ([], (0, (0, 0)))))).1)])).bind fun x23 => bif Nat.ble (x18.1.length + x23.length) 140737488351232 then let x24 := x18.1 ++ x23; bif (decide ((0 : Int) ≤ x18.2)) && (decide (x18.2 < (a2.length : Int))) then (Jn m ((a2.getD x18.2.toNat (0, ([], ([], (0, (0, 0)))))).2)).bind fun x26 => bif Nat.ble (x24.length + x26.length) 140737488351232 then some (.next ((x24 ++ x26), (IntKind.i64.wrap (x18.2 + (1 : Int))))) else none else none else none else none else some (.fin x18.1)
def QT (m : Fu) (p : Int × T2 × T8 × Int × Int × Bool) : Option (T2 × Int) := let a0 := p.1; let a1 := p.2.1; let a2 := p.2.2.1; let a3 := p.2.2.2.1; let a4 := p.2.2.2.2.1; let a5 := p.2.2.2.2.2; (QE m (a0, a1, a2, a3, a4, a5)).bind fun x1 => bif x1 != (0 : Int) then some (([] : List Int), x1) else (Zr m ([a0, (a1.length : Int)])).bind fun x5 => (Zr m a1).bind fun x6 => bif Nat.ble (x5.length + x6.length) 140737488351232 then let x7 := x5 ++ x6; (Zr m ([a3, a4])).bind fun x9 => bif Nat.ble (x7.length + x9.length) 140737488351232 then (QT.a m a5 (x7 ++ x9)).bind fun x13 => (Zr m ([(a2.length : Int)])).bind fun x16 => bif Nat.ble (x13.length + x16.length) 140737488351232 then (iter m (QT.b m a2) ((x13 ++ x16), (0 : Int))).bind fun x29 => bif decide ((65536 : Int) < (x29.length : Int)) then some (([] : List Int), (3 : Int)) else some (x29, (0 : Int)) else none else none else none
def QT.K : SK Tryz.prog := mkK mix [QE.K, Zr.K, Jn.K] [(254, .jnt [(.normal, ⟨[(5, false, [.own Y20 512 .wr])], [], [], [480], 513⟩)]),
 (4090, .loop ⟨[(5, false, [.own Y20 657 .wr]), (6, false, [k25])], [], [], [609], 658⟩ [(.exit 0, ⟨[(5, false, [.own Y20 657 .wr])], [], [], [609], 658⟩)])] 30 Tryz.f30 ⟨[.val true [.int .i64, .sl Y18, .sl Y17, .int .i64, .int .i64, .bool]], [(false, [.own Y20 0 .wr]), (false, [k25])]⟩ QT (by kernel_rfl) (by kernel_rfl) (by kernel_rfl)
def JT (_ : Fu) (p : Int) : Option T2 := let a0 := p; some ([(IntKind.u8.wrap (a0.tmod (256 : Int))), (IntKind.u8.wrap ((IntKind.u32.wrap (a0.tdiv (256 : Int))).tmod (256 : Int))), (IntKind.u8.wrap ((IntKind.u32.wrap (a0.tdiv (65536 : Int))).tmod (256 : Int))), (IntKind.u8.wrap (IntKind.u32.wrap (a0.tdiv (16777216 : Int))))])
def JT.K : SK Tryz.prog := mkK mix [] [] 87 Tryz.f87 ⟨[.val false [.int .u32]], [(false, [.own Y20 0 .wr])]⟩ JT (by kernel_rfl) (by kernel_rfl) (by kernel_rfl)
def Q5.a (_ : Fu) (x40 : List Int) : Option (Step T2 (T2)) := bif decide ((x40.length : Int) < (64 : Int)) then bif Nat.ble (x40.length + 1) 140737488351232 then some (.next (x40 ++ ([0] : List Int))) else none else some (.fin x40)
def Q5.b (m : Fu) (a0 : Int) (a1 : Int) (a2 : Int) (a3 : Int) (a4 : List Int) (x9 : Int) (x10 : T11 × Int) : Option (Step (T11 × Int) (T11)) := bif decide (x10.2 < x9) then let x14 := mnI (a4.length : Int) (IntKind.i64.wrap (x10.2 * (43 : Int))); let x18 := mnI (a4.length : Int) (IntKind.i64.wrap ((IntKind.i64.wrap (x10.2 * (43 : Int))) + (43 : Int))); bif (((decide ((0 : Int) ≤ x14)) && (decide (x14 ≤ x18))) && (decide (x18 ≤ (a4.length : Int)))) && (decide ((a4.length : Int) ≤ (a4.length : Int))) then let x19 := (a4.take x18.toNat).drop x14.toNat; (JT m a0).bind fun x20 => bif Nat.ble x20.length 140737488351232 then (JT m a1).bind fun x21 => bif Nat.ble (x20.length + x21.length) 140737488351232 then let x22 := x20 ++ x21; (JT m a2).bind fun x23 => bif Nat.ble (x22.length + x23.length) 140737488351232 then let x24 := x22 ++ x23; (JT m a3).bind fun x25 => bif Nat.ble (x24.length + x25.length) 140737488351232 then let x26 := x24 ++ x25; let x37 := [(IntKind.u8.wrap (x10.2.tmod (256 : Int))), (IntKind.u8.wrap (IntKind.i64.wrap (x10.2.tdiv (256 : Int)))), (IntKind.u8.wrap (x9.tmod (256 : Int))), (IntKind.u8.wrap (IntKind.i64.wrap (x9.tdiv (256 : Int)))), (IntKind.u8.wrap (x19.length : Int))]; bif Nat.ble (x26.length + x37.length) 140737488351232 then let x38 := x26 ++ x37; bif Nat.ble (x38.length + x19.length) 140737488351232 then (iter m (Q5.a m) (x38 ++ x19)).bind fun x44 => let x45 := [x44]; bif Nat.ble (x10.1.length + x45.length) 4294967296 then some (.next ((x10.1 ++ x45), (IntKind.i64.wrap (x10.2 + (1 : Int))))) else none else none else none else none else none else none else none else none else some (.fin x10.1)
def Q5 (m : Fu) (p : Int × Int × Int × Int × T2) : Option (T11 × Int) := let a0 := p.1; let a1 := p.2.1; let a2 := p.2.2.1; let a3 := p.2.2.2.1; let a4 := p.2.2.2.2; bif a0 == (0 : Int) then some (([] : List T2), (2 : Int)) else bif a1 == (0 : Int) then some (([] : List T2), (2 : Int)) else bif decide ((65536 : Int) < (a4.length : Int)) then some (([] : List T2), (3 : Int)) else (iter m (Q5.b m a0 a1 a2 a3 a4 (mxI (1 : Int) (IntKind.i64.wrap ((IntKind.i64.wrap ((IntKind.i64.wrap ((a4.length : Int) + (43 : Int))) - (1 : Int))).tdiv (43 : Int))))) (([] : List T2), (0 : Int))).bind fun x48 => some (x48, (0 : Int))
def Q5.K : SK Tryz.prog := mkK mix [JT.K] [(506, .loop ⟨[(13, false, [.own Y22 400 .wr]), (14, false, [k25])], [], [], [], 401⟩ [(.exit 0, ⟨[(13, false, [.own Y22 400 .wr])], [], [], [], 401⟩)]),
 (8295420, .loop ⟨[(16, false, [.own Y20 1377 .wr])], [], [], [1345], 1378⟩ [(.exit 2, ⟨[(16, false, [.own Y20 1377 .wr])], [], [], [1345], 1378⟩)])] 53 Tryz.f53 ⟨[.val false [.int .u32], .val false [.int .u32], .val false [.int .u32], .val false [.int .u32], .val false [.sl Y20]], [(false, [.own Y22 0 .wr]), (false, [k25])]⟩ Q5 (by kernel_rfl) (by kernel_rfl) (by kernel_rfl)
def JI (m : Fu) (p : T11 × Int × Int × Int × Int × T2) : Option (T11 × Int) := let a0 := p.1; let a2 := p.2.2.1; let a3 := p.2.2.2.1; let a4 := p.2.2.2.2.1; let a5 := p.2.2.2.2.2; bif a4 == (0 : Int) then some (([] : List T2), (2 : Int)) else bif decide ((65536 : Int) < (a5.length : Int)) then some (([] : List T2), (3 : Int)) else bif decide ((1048576 : Int) ≤ (a0.length : Int)) then some (([] : List T2), (4 : Int)) else let x6 := mxI a2 a3; bif x6 == (4294967295 : Int) then some (([] : List T2), (9 : Int)) else (Q5 m (a4, (IntKind.u32.wrap (IntKind.i64.wrap ((a0.length : Int) + (1 : Int)))), (IntKind.u32.wrap (x6 + (1 : Int))), a2, a5)).bind fun x12 => some x12
def JI.K : SK Tryz.prog := mkK mix [Q5.K] [] 31 Tryz.f31 ⟨[.val true [.sl Y22, .int .i64, .int .u32, .int .u32], .val false [.int .u32], .val false [.sl Y20]], [(false, [.own Y22 0 .wr]), (false, [k25])]⟩ JI (by kernel_rfl) (by kernel_rfl) (by kernel_rfl)
def Vj (_ : Fu) (p : Int) : Option (Int) := let a0 := p; some (IntKind.i64.wrap ((IntKind.i64.wrap (a0 - (1 : Int))).tdiv (2 : Int)))
def Vj.K : SK Tryz.prog := mkK mix [] [] 32 Tryz.f32 ⟨[.val false [.int .i64]], [(false, [k25])]⟩ Vj (by kernel_rfl) (by kernel_rfl) (by kernel_rfl)
def ZS.a (_ : Fu) (a0 : List T2) (a1 : Int) (x1 : (List T4) × Int) : Option (Step ((List T4) × Int) ((List T4))) := bif decide (x1.2 < (a0.length : Int)) then bif (decide ((0 : Int) ≤ x1.2)) && (decide (x1.2 < (a0.length : Int))) then let x6 := [((IntKind.i64.wrap (a1 + x1.2)), (a0.getD x1.2.toNat []))]; bif Nat.ble (x1.1.length + x6.length) 4294967296 then some (.next ((x1.1 ++ x6), (IntKind.i64.wrap (x1.2 + (1 : Int))))) else none else none else some (.fin x1.1)
def ZS (m : Fu) (p : T11 × Int) : Option (List T4) := let a0 := p.1; let a1 := p.2; (iter m (ZS.a m a0 a1) (([] : List T4), (0 : Int))).bind fun x9 => some x9
def ZS.K : SK Tryz.prog := mkK mix [] [(58, .loop ⟨[(5, false, [.own (.pr Y18 Y22) 80 .wr]), (6, false, [k25])], [], [], [], 81⟩ [(.exit 0, ⟨[(5, false, [.own (.pr Y18 Y22) 80 .wr])], [], [], [], 81⟩)])] 33 Tryz.f33 ⟨[.val false [.sl Y22], .val false [.int .i64]], [(false, [.own (.pr Y18 Y22) 0 .wr])]⟩ ZS (by kernel_rfl) (by kernel_rfl) (by kernel_rfl)
def JB (_ : Fu) (p : Int × Int) : Option T2 := let a0 := p.1; let a1 := p.2; let x1 := List.replicate 64 0; bif decide ((0 : Int) < (x1.length : Int)) then bif Nat.blt 0 x1.length then let x12 := x1.set 0 (IntKind.u8.wrap (a0.tmod (256 : Int))); bif decide ((1 : Int) < (x12.length : Int)) then bif Nat.blt 1 x12.length then let x13 := x12.set 1 (IntKind.u8.wrap ((IntKind.u32.wrap (a0.tdiv (256 : Int))).tmod (256 : Int))); bif decide ((2 : Int) < (x13.length : Int)) then bif Nat.blt 2 x13.length then let x14 := x13.set 2 (IntKind.u8.wrap ((IntKind.u32.wrap (a0.tdiv (65536 : Int))).tmod (256 : Int))); bif decide ((3 : Int) < (x14.length : Int)) then bif Nat.blt 3 x14.length then let x15 := x14.set 3 (IntKind.u8.wrap (IntKind.u32.wrap (a0.tdiv (16777216 : Int)))); bif decide ((4 : Int) < (x15.length : Int)) then bif Nat.blt 4 x15.length then some (x15.set 4 (IntKind.u8.wrap a1)) else none else none else none else none else none else none else none else none else none else none
def JB.K : SK Tryz.prog := mkK mix [] [] 34 Tryz.f34 ⟨[.val false [.int .u32], .val false [.int .i64]], [(false, [.own Y20 0 .wr])]⟩ JB (by kernel_rfl) (by kernel_rfl) (by kernel_rfl)
def JC (_ : Fu) (p : List Int) : Option (Int) := let a0 := p; bif decide ((a0.length : Int) < (64 : Int)) then some (20 : Int) else bif decide ((262144 : Int) < (a0.length : Int)) then some (20 : Int) else bif ((a0.length : Int).tmod (64 : Int)) != (0 : Int) then some (20 : Int) else some (0 : Int)
def JC.K : SK Tryz.prog := mkK mix [] [] 54 Tryz.f54 ⟨[.val true [.sl Y20]], [(false, [k25])]⟩ JC (by kernel_rfl) (by kernel_rfl) (by kernel_rfl)
def JJ (_ : Fu) (p : List Int) : Option (Int) := let a0 := p; some (IntKind.i64.wrap ((a0.length : Int).tdiv (64 : Int)))
def JJ.K : SK Tryz.prog := mkK mix [] [] 60 Tryz.f60 ⟨[.val true [.sl Y20]], [(false, [k25])]⟩ JJ (by kernel_rfl) (by kernel_rfl) (by kernel_rfl)
def Qaa (m : Fu) (p : T2 × Int × T2) : Option (Int) := let a0 := p.1; let a1 := p.2.1; let a2 := p.2.2; bif decide (a1 < (0 : Int)) then some (2 : Int) else (JJ m a0).bind fun x2 => bif decide (x2 ≤ a1) then some (2 : Int) else bif (a2.length : Int) != (64 : Int) then some (3 : Int) else some (0 : Int)
def Qaa.K : SK Tryz.prog := mkK mix [JJ.K] [] 55 Tryz.f55 ⟨[.val true [.sl Y20], .val true [.int .i64, .sl Y20]], [(false, [k25])]⟩ Qaa (by kernel_rfl) (by kernel_rfl) (by kernel_rfl)
def QD.a (_ : Fu) (a1 : List T4) (x2 : Int × Int) : Option (Unit ⊕ Unit) := bif decide (x2.2 < (a1.length : Int)) then bif x2.1 == (0 : Int) then some (Sum.inl ()) else some (Sum.inr ()) else some (Sum.inr ())
def QD.b (m : Fu) (a0 : List Int) (a1 : List T4) (x2 : Int × Int) : Option (Step (Int × Int) Int) := (QD.a m a1 x2).bind fun x6 => match x6 with | .inl _ => bif (decide ((0 : Int) ≤ x2.2)) && (decide (x2.2 < (a1.length : Int))) then (Qaa m (a0, (a1.getD x2.2.toNat (0, [])))).bind fun x9 => some (.next (x9, (IntKind.i64.wrap (x2.2 + (1 : Int))))) else none | .inr _ => some (.fin x2.1)
def QD.c (_ : Fu) (a1 : List T4) (x18 : Int × T2) (x20 : Int × T2) : Option (Step T4 (T2)) := bif decide (x20.1 < (64 : Int)) then bif (decide ((0 : Int) ≤ x18.1)) && (decide (x18.1 < (a1.length : Int))) then let x24 := IntKind.i64.wrap ((IntKind.i64.wrap (((a1.getD x18.1.toNat (0, [])).1) * (64 : Int))) + x20.1); bif (decide ((0 : Int) ≤ x18.1)) && (decide (x18.1 < (a1.length : Int))) then let x25 := a1.getD x18.1.toNat (0, []); bif (decide ((0 : Int) ≤ x20.1)) && (decide (x20.1 < (x25.2.length : Int))) then bif (decide ((0 : Int) ≤ x24)) && (decide (x24 < (x20.2.length : Int))) then bif Nat.blt x24.toNat x20.2.length then some (.next ((IntKind.i64.wrap (x20.1 + (1 : Int))), (x20.2.set x24.toNat (x25.2.getD x20.1.toNat 0)))) else none else none else none else none else none else some (.fin x20.2)
def QD.d (m : Fu) (a1 : List T4) (a2 : Int) (x18 : Int × T2) : Option (Step T4 (T2)) := bif decide (x18.1 < a2) then (iter m (QD.c m a1 x18) ((0 : Int), x18.2)).bind fun x29 => some (.next ((IntKind.i64.wrap (x18.1 + (1 : Int))), x29)) else some (.fin x18.2)
def QD (m : Fu) (p : T2 × (List T4) × Int) : Option (T2 × Int) := let a0 := p.1; let a1 := p.2.1; let a2 := p.2.2; (JC m a0).bind fun x1 => (iter m (QD.b m a0 a1) (x1, (0 : Int))).bind fun x12 => bif x12 != (0 : Int) then some (([] : List Int), x12) else bif decide (a2 < (0 : Int)) then some (([] : List Int), (2 : Int)) else bif decide ((a1.length : Int) < a2) then some (([] : List Int), (2 : Int)) else (Vl m a0).bind fun x17 => (iter m (QD.d m a1 a2) ((0 : Int), x17)).bind fun x31 => some (x31, (0 : Int))
def QD.K : SK Tryz.prog := mkK mix [JC.K, Qaa.K, Vl.K] [(58, .loop ⟨[(8, false, [k25]), (9, false, [k25])], [], [], [], 160⟩ [(.exit 0, ⟨[(8, false, [k25])], [], [], [], 160⟩)]),
 (232, .jnt [(.normal, ⟨[], [], [], [], 160⟩), (.exit 0, ⟨[], [], [], [], 160⟩)]),
 (1018, .loop ⟨[(11, false, [k25])], [], [(336, .int .u8, .wr)], [], 400⟩ [(.exit 2, ⟨[], [], [(336, .int .u8, .wr)], [], 400⟩)]),
 (65170, .loop ⟨[(12, false, [k25])], [], [(336, .int .u8, .wr)], [], 464⟩ [(.exit 4, ⟨[], [], [(336, .int .u8, .wr)], [], 464⟩)])] 35 Tryz.f35 ⟨[.val true [.sl Y20], .val false [.sl (.pr Y18 Y22)], .val false [.int .i64]], [(true, [.own Y20 0 .wr]), (false, [k25])]⟩ QD (by kernel_rfl) (by kernel_rfl) (by kernel_rfl)
def JS (m : Fu) (p : Int × Int × T2 × T8 × Int × Int × Bool) : Option (T2 × Int) := let a0 := p.1; let a1 := p.2.1; let a2 := p.2.2.1; let a3 := p.2.2.2.1; let a4 := p.2.2.2.2.1; let a5 := p.2.2.2.2.2.1; let a6 := p.2.2.2.2.2.2; (QbH m a0).bind fun x1 => bif x1.2 != (0 : Int) then some (([] : List Int), x1.2) else bif decide (a0 < (3 : Int)) then some (([] : List Int), (230 : Int)) else (QT m (a1, a2, a3, a4, a5, a6)).bind fun x4 => bif x4.2 != (0 : Int) then some (([] : List Int), x4.2) else (JI m (([] : List T2), (0 : Int), (0 : Int), (0 : Int), (1 : Int), x4.1)).bind fun x6 => (Vj m a0).bind fun x8 => bif decide (x8 < (x6.1.length : Int)) then some (([] : List Int), (9 : Int)) else (ZS m (x6.1, (1 : Int))).bind fun x10 => (JB m ((1 : Int), (0 : Int))).bind fun x11 => let x12 := [((0 : Int), x11)]; bif Nat.ble (x10.length + x12.length) 4294967296 then let x13 := x10 ++ x12; (QD m (x1.1, x13, (x13.length : Int))).bind fun x15 => some (x15.1, (0 : Int)) else none
def JS.K : SK Tryz.prog := mkK mix [QbH.K, QT.K, JI.K, Vj.K, ZS.K, JB.K, QD.K] [] 8 Tryz.f8 ⟨[.val false [.int .i64], .val true [.int .i64, .sl Y18, .sl Y17, .int .i64, .int .i64, .bool]], [(true, [.own Y20 0 .wr]), (false, [k25])]⟩ JS (by kernel_rfl) (by kernel_rfl) (by kernel_rfl)
def Qb9 (_ : Fu) (p : T2 × Int) : Option T2 := let a0 := p.1; let a1 := p.2; let x1 := IntKind.i64.wrap (a1 * (64 : Int)); let x3 := IntKind.i64.wrap ((IntKind.i64.wrap (a1 + (1 : Int))) * (64 : Int)); bif (((decide ((0 : Int) ≤ x1)) && (decide (x1 ≤ x3))) && (decide (x3 ≤ x3))) && (decide (x3 ≤ (a0.length : Int))) then some ((a0.take x3.toNat).drop x1.toNat) else none
def Qb9.K : SK Tryz.prog := mkK mix [] [] 49 Tryz.f49 ⟨[.val true [.sl Y20], .val false [.int .i64]], [(false, [.dat Y22])]⟩ Qb9 (by kernel_rfl) (by kernel_rfl) (by kernel_rfl)
def Z0 (m : Fu) (p : T2 × Int) : Option (T2 × Int) := let a0 := p.1; let a1 := p.2; (Vn m (a0, a1)).bind fun x1 => bif x1 != (0 : Int) then some (([] : List Int), x1) else (Qb9 m (a0, a1)).bind fun x3 => (ZC m x3).bind fun x4 => some (x4, (0 : Int))
def Z0.K : SK Tryz.prog := mkK mix [Vn.K, Qb9.K, ZC.K] [] 57 Tryz.f57 ⟨[.val true [.sl Y20], .val false [.int .i64]], [(false, [.own Y20 0 .wr]), (false, [k25])]⟩ Z0 (by kernel_rfl) (by kernel_rfl) (by kernel_rfl)
def QK (_ : Fu) (p : T2 × T2) : Option (Bool) := let a0 := p.1; let a1 := p.2; some (a0 == a1)
def QK.K : SK Tryz.prog := mkK mix [] [] 58 Tryz.f58 ⟨[.val false [.sl Y20], .val false [.sl Y20]], [(false, [k26])]⟩ QK (by kernel_rfl) (by kernel_rfl) (by kernel_rfl)
def Qh (_ : Fu) (p : Int × Int) : Option Int := some (IntKind.i64.wrap ((1 : Int) + IntKind.i64.wrap (p.2 * p.1)))
def Qh.sig : Sig := ⟨[.val false [.int .i64], .val false [.int .i64]], [(true, [.cst (.ptr 1 3), k25])]⟩
def Qh.S : Summ := ⟨67, Qh.sig, Qh⟩
theorem Qh.sound : Qal Tryz.prog Qh.S := by
 show Qom Tryz.prog 67 3 Qh
 intro m y n z hz
 have hz2 : IntKind.i64.wrap ((1 : Int) + IntKind.i64.wrap (n * y)) = z := by
  unfold Qh at hz
  cases hz
  rfl
 have hw : IntKind.i64.wrap z = z := by rw [← hz2, IntKind.wrap_i64, IntKind.wrap_i64]; omega
 refine ⟨hw, fun w B hc hy hn => ?_⟩
 have hz3 : wrap64 (1 + wrap64 (n * y)) = z := by rw [← hz2, IntKind.wrap_i64, IntKind.wrap_i64, wrap64, wrap64]
 have hcore : Calls Tryz.prog 67 #[.pointer (some ⟨B, 0, none⟩), .int .i64 n] w fun e w' => ∃ v, e = .returned v ∧ v = .int .i64 z ∧ QkY w w' := by
  go_enter Tryz.func67, Tryz.ntmps67
  go_wp2_with (simp only [hc, hz3])
  go_ret
  exact ⟨_, rfl, rfl, Nat.le_refl _, fun b hb => rfl, rfl, rfl, rfl⟩
 have hrun : (callFunc 67 #[.pointer (some ⟨B, 0, none⟩), .int .i64 n]).run Tryz.prog w = .ok (.enter 67 #[.pointer (some ⟨B, 0, none⟩), .int .i64 n]) w := by
  have hb : Tryz.f67.body.isSome = true := by kernel_rfl
  have hn : (Tryz.f67.name == "runtime.NumGoroutine") = false := by kernel_rfl
  obtain ⟨c, hbody⟩ := Option.isSome_iff_exists.1 hb
  have hn' : ¬ Tryz.f67.name = "runtime.NumGoroutine" := by simpa using hn
  simp [callFunc, Tryz.func67, hn', hbody]
 unfold Go.Abs.Ends
 rw [hrun]
 exact hcore
def Qh.K : SK Tryz.prog := ⟨Qh.S, Qh.sound⟩
def ZN.a (m : Fu) (a0 : List Int) (a1 : Int) (a2 : Int) (x8 : T11 × Int) : Option (Step (T11 × Int) (Int ⊕ T11)) := bif decide (x8.2 < a2) then (Z0 m (a0, (IntKind.i64.wrap (a1 + x8.2)))).bind fun x11 => bif x11.2 != (0 : Int) then some (.fin (Sum.inl x11.2)) else let x13 := [x11.1]; bif Nat.ble (x8.1.length + x13.length) 4294967296 then some (.next ((x8.1 ++ x13), (IntKind.i64.wrap (x8.2 + (1 : Int))))) else none else some (.fin (Sum.inr x8.1))
def ZN (m : Fu) (p : T2 × Int × Int) : Option (T11 × Int) := let a0 := p.1; let a1 := p.2.1; let a2 := p.2.2; (ZW m a0).bind fun x1 => bif x1.2 != (0 : Int) then some (([] : List T2), x1.2) else bif decide (a1 < (0 : Int)) then some (([] : List T2), (2 : Int)) else bif decide (a2 < (0 : Int)) then some (([] : List T2), (2 : Int)) else bif decide (x1.1 < a1) then some (([] : List T2), (2 : Int)) else bif decide ((IntKind.i64.wrap (x1.1 - a1)) < a2) then some (([] : List T2), (2 : Int)) else (iter m (ZN.a m a0 a1 a2) (([] : List T2), (0 : Int))).bind fun x16 => match x16 with | .inl x17 => some (([] : List T2), x17) | .inr x18 => some (x18, (0 : Int))
def ZN.K : SK Tryz.prog := mkK mix [ZW.K, Z0.K] [(506, .loop ⟨[(10, false, [.own Y22 576 .wr]), (41, false, [k25])], [], [], [], 577⟩ [(.ret, ⟨[(6, false, [.cst .nils]), (7, false, [k25])], [], [], [], 576⟩), (.exit 0, ⟨[(10, false, [.own Y22 576 .wr])], [], [], [], 577⟩)])] 106 Tryz.f106 ⟨[.val true [.sl Y20], .val false [.int .i64], .val false [.int .i64]], [(false, [.own Y22 0 .wr]), (false, [k25])]⟩ ZN (by kernel_rfl) (by kernel_rfl) (by kernel_rfl)
def QJ.a (_ : Fu) (a0 : List Int) (x1 : Int) (x2 : Int × Int) : Option (Step (Int × Int) Int) := bif decide (x2.2 < x1) then bif (decide ((0 : Int) ≤ x2.2)) && (decide (x2.2 < (a0.length : Int))) then let x6 := IntKind.i64.wrap ((8 : Int) * x2.2); bif decide (x6 < (0 : Int)) then none else some (.next ((VG .or .u32 x2.1 (Qdz .u32 (IntKind.u32.wrap (a0.getD x2.2.toNat 0)) x6)), (IntKind.i64.wrap (x2.2 + (1 : Int))))) else none else some (.fin x2.1)
def QJ (m : Fu) (p : List Int) : Option (Int) := let a0 := p; (iter m (QJ.a m a0 (a0.length : Int)) ((0 : Int), (0 : Int))).bind fun x10 => some x10
def QJ.K : SK Tryz.prog := mkK mix [] [(26, .loop ⟨[(2, false, [k27]), (7, false, [k25])], [], [], [], 80⟩ [(.exit 0, ⟨[(2, false, [k27])], [], [], [], 80⟩)])] 107 Tryz.f107 ⟨[.val false [.sl Y20]], [(false, [k27])]⟩ QJ (by kernel_rfl) (by kernel_rfl) (by kernel_rfl)
def Qy.a (_ : Fu) (x13 : List T2) (x14 : Int) (x15 : T2 × Int × Int × Int) : Option (Step (T2 × Int × Int × Int) ((Int × Int × Bool) ⊕ (T2 × Int × Int))) := bif decide (x15.2.2.2 < x14) then bif (decide ((0 : Int) ≤ x15.2.2.2)) && (decide (x15.2.2.2 < (x13.length : Int))) then let x17 := x13.getD x15.2.2.2.toNat []; bif decide ((20 : Int) < (x17.length : Int)) then let x19 := IntKind.i64.wrap (x17.getD 20 0); bif decide ((43 : Int) < x19) then some (.fin (Sum.inl ((0 : Int), (0 : Int), false))) else bif ((decide ((21 : Int) ≤ (x17.length : Int))) && (decide ((x17.length : Int) ≤ (x17.length : Int)))) && (decide ((x17.length : Int) ≤ (x17.length : Int))) then let x21 := (x17.take ((x17.length : Int).toNat)).drop 21; bif ((decide ((0 : Int) ≤ x19)) && (decide (x19 ≤ (x21.length : Int)))) && (decide ((x21.length : Int) ≤ (x21.length : Int))) then let x22 := (x21.take x19.toNat).drop 0; bif Nat.ble (x15.1.length + x22.length) 140737488351232 then some (.next ((x15.1 ++ x22), x15.2.1, x15.2.2.1, (IntKind.i64.wrap (x15.2.2.2 + (1 : Int))))) else none else none else none else none else none else some (.fin (Sum.inr (x15.1, x15.2.1, x15.2.2.1)))
def Qy.b (m : Fu) (a3 : List T2) (x28 : T11 × Int) (x32 : Int) (x33 : T2 × Int × Int × Int) : Option (Step (T2 × Int × Int × Int) ((Int × Int × Bool) ⊕ (T2 × Int × Int))) := bif decide (x33.2.2.2 < x32) then bif (decide ((0 : Int) ≤ x33.2.2.2)) && (decide (x33.2.2.2 < (x28.1.length : Int))) then bif Nat.blt x33.2.2.2.toNat x28.1.length then bif (decide ((0 : Int) ≤ x33.2.2.2)) && (decide (x33.2.2.2 < (a3.length : Int))) then (QK m ((x28.1.getD x33.2.2.2.toNat []), (a3.getD x33.2.2.2.toNat []))).bind fun x37 => bif !x37 then some (.fin (Sum.inl ((0 : Int), (0 : Int), false))) else some (.next (x33.1, x33.2.1, x33.2.2.1, (IntKind.i64.wrap (x33.2.2.2 + (1 : Int))))) else none else none else none else some (.fin (Sum.inr (x33.1, x33.2.1, x33.2.2.1)))
def Qy (m : Fu) (p : Int × Int × Int × T11) : Option (T2 × Int × Int × Bool) := let a0 := p.1; let a1 := p.2.1; let a2 := p.2.2.1; let a3 := p.2.2.2; bif (a3.length : Int) == (0 : Int) then some (([] : List Int), (0 : Int), (0 : Int), false) else bif decide ((0 : Int) < (a3.length : Int)) then let x3 := a3.getD 0 []; bif (decide ((12 : Int) ≤ (x3.length : Int))) && (decide ((x3.length : Int) ≤ (x3.length : Int))) then (QJ m ((x3.take 12).drop 8)).bind fun x5 => bif decide ((0 : Int) < (a3.length : Int)) then let x6 := a3.getD 0 []; bif (decide ((20 : Int) ≤ (x6.length : Int))) && (decide ((x6.length : Int) ≤ (x6.length : Int))) then (QJ m ((x6.take 20).drop 18)).bind fun x8 => let x9 := IntKind.i64.wrap x8; bif decide (x9 < (1 : Int)) then some (([] : List Int), (0 : Int), (0 : Int), false) else bif decide ((a3.length : Int) < x9) then some (([] : List Int), (0 : Int), (0 : Int), false) else bif ((decide ((0 : Int) ≤ x9)) && (decide (x9 ≤ (a3.length : Int)))) && (decide ((a3.length : Int) ≤ (a3.length : Int))) then let x13 := (a3.take x9.toNat).drop 0; (iter m (Qy.a m x13 (x13.length : Int)) (([] : List Int), x5, x9, (0 : Int))).bind fun x25 => match x25 with | .inl x26 => some (([] : List Int), x26) | .inr x27 => (Qc m (a0, a1, x27.2.1, a2, x27.1)).bind fun x28 => bif x28.2 != (0 : Int) then some (([] : List Int), (0 : Int), (0 : Int), false) else bif (x28.1.length : Int) != x27.2.2 then some (([] : List Int), (0 : Int), (0 : Int), false) else (iter m (Qy.b m a3 x28 (x28.1.length : Int)) (x27.1, x27.2.1, x27.2.2, (0 : Int))).bind fun x40 => match x40 with | .inl x41 => some (([] : List Int), x41) | .inr x42 => some (x42.1, x42.2.1, x42.2.2, true) else none else none else none else none else none
def Qy.K : SK Tryz.prog := mkK mix [QJ.K, Qc.K, QK.K] [(250, .loop ⟨[(8, false, [.own Y20 592 .wr]), (9, false, [k27]), (10, false, [k25]), (44, false, [k25])], [], [], [], 593⟩ [(.ret, ⟨[(8, false, [.cst .nils]), (9, false, [k27]), (10, false, [k25]), (11, false, [k26])], [], [], [], 592⟩), (.exit 0, ⟨[(8, false, [.own Y20 592 .wr]), (9, false, [k27]), (10, false, [k25])], [], [], [], 593⟩)]),
 (2042, .loop ⟨[(8, false, [.own Y20 945 .wr]), (9, false, [k27]), (10, false, [k25]), (80, false, [k25])], [], [], [592], 946⟩ [(.ret, ⟨[(8, false, [.cst .nils]), (9, false, [k27]), (10, false, [k25]), (11, false, [k26])], [], [], [592], 945⟩), (.exit 2, ⟨[(8, false, [.own Y20 945 .wr]), (9, false, [k27]), (10, false, [k25])], [], [], [592], 946⟩)])] 114 Tryz.f114 ⟨[.val false [.int .u32], .val false [.int .u32], .val false [.int .u32], .val false [.sl Y22]], [(false, [.own Y20 0 .wr]), (false, [k27]), (false, [k25]), (false, [k26])]⟩ Qy (by kernel_rfl) (by kernel_rfl) (by kernel_rfl)
def Qz.a (m : Fu) (a1 : Int) (x4 : T11 × T11 × Int × Int × Int) : Option (Step (T11 × T11 × Int × Int × Int) ((T11 × T11 × Int × Int × Int))) := (Qy m (a1, (IntKind.u32.wrap (IntKind.i64.wrap ((x4.2.1.length : Int) + (1 : Int)))), x4.2.2.2.1, x4.1)).bind fun x8 => bif !x8.2.2.2 then some (.fin x4) else let x10 := [x8.1]; bif Nat.ble (x4.2.1.length + x10.length) 4294967296 then bif (((decide ((0 : Int) ≤ x8.2.2.1)) && (decide (x8.2.2.1 ≤ (x4.1.length : Int)))) && (decide ((x4.1.length : Int) ≤ (x4.1.length : Int)))) && (decide ((x4.1.length : Int) ≤ (x4.1.length : Int))) then some (.next (((x4.1.take ((x4.1.length : Int).toNat)).drop x8.2.2.1.toNat), (x4.2.1 ++ x10), (IntKind.i64.wrap (x4.2.2.1 + x8.2.2.1)), x8.2.1, x4.2.2.2.2)) else none else none
def Qz.b (m : Fu) (a1 : Int) (x14 : (T11 × T11 × Int × Int × Int)) (x15 : Int) (x16 : Int × T11 × Int × Int × Int) : Option (Step (Int × T11 × Int × Int × Int) ((T11 × Int × Int × Int))) := bif decide (x16.1 < x15) then bif (decide ((0 : Int) ≤ x16.1)) && (decide (x16.1 < (x14.1.length : Int))) then let x18 := x14.1.getD x16.1.toNat []; bif (decide ((4 : Int) ≤ (x18.length : Int))) && (decide ((x18.length : Int) ≤ (x18.length : Int))) then (QJ m ((x18.take 4).drop 0)).bind fun x20 => bif x20 == a1 then bif (decide ((12 : Int) ≤ (x18.length : Int))) && (decide ((x18.length : Int) ≤ (x18.length : Int))) then (QJ m ((x18.take 12).drop 8)).bind fun x23 => bif (decide ((16 : Int) ≤ (x18.length : Int))) && (decide ((x18.length : Int) ≤ (x18.length : Int))) then (QJ m ((x18.take 16).drop 12)).bind fun x25 => some (.next ((IntKind.i64.wrap (x16.1 + (1 : Int))), x16.2.1, x16.2.2.1, x16.2.2.2.1, (mxI (mxI x16.2.2.2.2 x23) x25))) else none else none else some (.next ((IntKind.i64.wrap (x16.1 + (1 : Int))), x16.2)) else none else none else some (.fin x16.2)
def Qz (m : Fu) (p : T2 × Int × Int × Int) : Option (T11 × Int × Int × Int × Int) := let a0 := p.1; let a1 := p.2.1; let a2 := p.2.2.1; let a3 := p.2.2.2; (ZN m (a0, a2, a3)).bind fun x1 => bif x1.2 != (0 : Int) then some (([] : List T2), (0 : Int), (0 : Int), (0 : Int), x1.2) else bif a1 == (0 : Int) then some (([] : List T2), (0 : Int), (0 : Int), (0 : Int), (2 : Int)) else (iter m (Qz.a m a1) (x1.1, ([] : List T2), (0 : Int), (0 : Int), (0 : Int))).bind fun x14 => (iter m (Qz.b m a1 x14 (x14.1.length : Int)) ((0 : Int), x14.2)).bind fun x29 => some (x29.1, x29.2.1, x29.2.2.1, x29.2.2.2, (0 : Int))
def Qz.K : SK Tryz.prog := mkK mix [ZN.K, Qy.K, QJ.K] [(252, .loop ⟨[(10, false, [.dat (.sl Y22)])], [(320, [.own Y22 336 .wr, k25, k27, k27])], [], [160], 337⟩ [(.exit 0, ⟨[(10, false, [.dat (.sl Y22)])], [(320, [.own Y22 336 .wr, k25, k27, k27])], [], [160], 337⟩)]),
 (1018, .loop ⟨[(68, false, [k25])], [(320, [.own Y22 385 .wr, k25, k27, k27])], [], [336], 386⟩ [(.exit 2, ⟨[], [(320, [.own Y22 385 .wr, k25, k27, k27])], [], [336], 386⟩)])] 88 Tryz.f88 ⟨[.val true [.sl Y20], .val false [.int .u32], .val false [.int .i64], .val false [.int .i64]], [(true, [.own Y22 0 .wr, k25, k27, k27]), (false, [k25])]⟩ Qz (by kernel_rfl) (by kernel_rfl) (by kernel_rfl)
def Q1.a (_ : Fu) (x2 : Int × Int) (x4 : Int) : Option (Unit ⊕ Unit) := bif x2.2 == (9 : Int) then bif decide ((1 : Int) < x4) then some (Sum.inl ()) else some (Sum.inr ()) else some (Sum.inr ())
def Q1.b (m : Fu) (a0 : List Int) (x1 : Int) (x2 : Int × Int) : Option (Step (Int × Int) (Unit ⊕ (Int × Int × Int))) := bif decide (x2.2 < x1) then bif (decide ((0 : Int) ≤ x2.2)) && (decide (x2.2 < (a0.length : Int))) then let x4 := a0.getD x2.2.toNat 0; (Q1.a m x2 x4).bind fun x7 => match x7 with | .inl _ => some (.fin (Sum.inl ())) | .inr _ => let x12 := IntKind.i64.wrap ((7 : Int) * x2.2); bif decide (x12 < (0 : Int)) then none else let x14 := VG .or .u64 x2.1 (Qdz .u64 (IntKind.u64.wrap (VG .and .u8 x4 (127 : Int))) x12); bif decide (x4 < (128 : Int)) then bif x4 == (0 : Int) then bif decide ((0 : Int) < x2.2) then some (.fin (Sum.inl ())) else some (.fin (Sum.inr (x14, (IntKind.i64.wrap (x2.2 + (1 : Int))), (0 : Int)))) else some (.fin (Sum.inr (x14, (IntKind.i64.wrap (x2.2 + (1 : Int))), (0 : Int)))) else some (.next (x14, (IntKind.i64.wrap (x2.2 + (1 : Int))))) else none else some (.fin (Sum.inl ()))
def Q1 (m : Fu) (p : List Int) : Option (Int × Int × Int) := let a0 := p; (iter m (Q1.b m a0 (a0.length : Int)) ((0 : Int), (0 : Int))).bind fun x21 => match x21 with | .inl _ => some ((0 : Int), (0 : Int), (8 : Int)) | .inr x23 => some x23
def Q1.K : SK Tryz.prog := mkK mix [] [(58, .loop ⟨[(5, false, [.dat Y24]), (10, false, [k25])], [], [], [], 128⟩ [(.exit 0, ⟨[], [], [], [], 128⟩), (.ret, ⟨[(2, false, [.dat Y24]), (3, false, [k25]), (4, false, [k25])], [], [], [], 128⟩)]),
 (7474, .jnt [(.exit 0, ⟨[], [], [], [], 224⟩), (.normal, ⟨[], [], [], [], 224⟩)])] 136 Tryz.f136 ⟨[.val false [.sl Y20]], [(false, [.dat Y24]), (false, [k25]), (false, [k25])]⟩ Q1 (by kernel_rfl) (by kernel_rfl) (by kernel_rfl)
def Q0.a (_ : Fu) (a0 : List Int) (a1 : Bool) (x1 : Int × Int × Int) : Option ((T2 × Bool)) := bif a1 then some (a0, true) else some (a0, (x1.2.2 != (0 : Int)))
def Q0 (m : Fu) (p : T2 × Bool) : Option (Int × T2 × Bool) := let a0 := p.1; let a1 := p.2; (Q1 m a0).bind fun x1 => (Q0.a m a0 a1 x1).bind fun x3 => bif (((decide ((0 : Int) ≤ x1.2.1)) && (decide (x1.2.1 ≤ (x3.1.length : Int)))) && (decide ((x3.1.length : Int) ≤ (x3.1.length : Int)))) && (decide ((x3.1.length : Int) ≤ (x3.1.length : Int))) then some (x1.1, ((x3.1.take ((x3.1.length : Int).toNat)).drop x1.2.1.toNat), x3.2) else none
def Q0.K : SK Tryz.prog := mkK mix [Q1.K] [(14, .jnt [(.normal, ⟨[], [(0, [.dat Y22, k26])], [], [], 224⟩)])] 117 Tryz.f117 ⟨[.box [.sl Y20, .bool]], [(false, [.dat Y24])]⟩ Q0 (by kernel_rfl) (by kernel_rfl) (by kernel_rfl)
def Qt (m : Fu) (p : T2 × Bool × Int) : Option (Int × T2 × Bool) := let a0 := p.1; let a1 := p.2.1; let a2 := p.2.2; (Q0 m (a0, a1)).bind fun x1 => bif decide ((IntKind.u64.wrap a2) < x1.1) then some ((0 : Int), x1.2.1, true) else some ((IntKind.i64.wrap x1.1), x1.2)
def Qt.K : SK Tryz.prog := mkK mix [Q0.K] [] 115 Tryz.f115 ⟨[.box [.sl Y20, .bool], .val false [.int .i64]], [(false, [k25])]⟩ Qt (by kernel_rfl) (by kernel_rfl) (by kernel_rfl)
def ZV (m : Fu) (p : T2 × Bool) : Option (T2 × T2 × Bool) := let a0 := p.1; let a1 := p.2; (Qt m (a0, a1, (a0.length : Int))).bind fun x2 => bif decide ((x2.2.1.length : Int) < x2.1) then some (([] : List Int), x2.2.1, true) else bif ((decide ((0 : Int) ≤ x2.1)) && (decide (x2.1 ≤ (x2.2.1.length : Int)))) && (decide ((x2.2.1.length : Int) ≤ (x2.2.1.length : Int))) then bif (((decide ((0 : Int) ≤ x2.1)) && (decide (x2.1 ≤ (x2.2.1.length : Int)))) && (decide ((x2.2.1.length : Int) ≤ (x2.2.1.length : Int)))) && (decide ((x2.2.1.length : Int) ≤ (x2.2.1.length : Int))) then some (((x2.2.1.take x2.1.toNat).drop 0), ((x2.2.1.take ((x2.2.1.length : Int).toNat)).drop x2.1.toNat), x2.2.2) else none else none
def ZV.K : SK Tryz.prog := mkK mix [Qt.K] [] 116 Tryz.f116 ⟨[.box [.sl Y20, .bool]], [(false, [k28])]⟩ ZV (by kernel_rfl) (by kernel_rfl) (by kernel_rfl)
def Qv.a (m : Fu) (x4 : Int × T2 × Bool) (x5 : Int × T2 × Bool × Int × T2 × Int × Int × Bool) : Option (Step (Int × T2 × Bool × Int × T2 × Int × Int × Bool) ((T2 × Bool × Int × T2 × Int × Int × Bool))) := bif decide (x5.1 < x4.1) then (Qt m (x5.2.1, x5.2.2.1, (16 : Int))).bind fun x7 => let x8 := [x7.1]; bif Nat.ble (x5.2.2.2.2.1.length + x8.length) 4294967296 then some (.next ((IntKind.i64.wrap (x5.1 + (1 : Int))), x7.2.1, x7.2.2, x5.2.2.2.1, (x5.2.2.2.2.1 ++ x8), x5.2.2.2.2.2)) else none else some (.fin x5.2)
def Qv.b (m : Fu) (x16 : Int × T2 × Bool) (x17 : Int × T2 × Bool × Int × T2 × T8 × Int × Int × Bool) : Option (Step (Int × T2 × Bool × Int × T2 × T8 × Int × Int × Bool) ((Int × Int × Int × Int × Bool) ⊕ (T2 × Bool × Int × T2 × T8 × Int × Int × Bool))) := bif decide (x17.1 < x16.1) then (Qt m (x17.2.1, x17.2.2.1, (4 : Int))).bind fun x19 => (ZV m x19.2).bind fun x20 => (ZV m x20.2).bind fun x21 => (Qt m (x21.2.1, x21.2.2, (4294967295 : Int))).bind fun x22 => (Qt m (x22.2.1, x22.2.2, (1099511627776 : Int))).bind fun x24 => (Q0 m x24.2).bind fun x25 => let x26 := [(x19.1, (x20.1, (x21.1, ((IntKind.u32.wrap x22.1), (x24.1, x25.1)))))]; bif Nat.ble (x17.2.2.2.2.2.1.length + x26.length) 4294967296 then bif x25.2.2 then some (.fin (Sum.inl ((8 : Int), (0 : Int), (0 : Int), (0 : Int), false))) else some (.next ((IntKind.i64.wrap (x17.1 + (1 : Int))), x25.2.1, x25.2.2, x17.2.2.2.1, x17.2.2.2.2.1, (x17.2.2.2.2.2.1 ++ x26), x17.2.2.2.2.2.2)) else none else some (.fin (Sum.inr x17.2))
def Qv (m : Fu) (p : List Int) : Option (Int × T2 × T8 × Int × Int × Bool × Int) := let a0 := p; bif decide ((65536 : Int) < (a0.length : Int)) then some ((0 : Int), ([] : List Int), ([] : List T1), (0 : Int), (0 : Int), false, (3 : Int)) else (Qt m (a0, false, (1099511627776 : Int))).bind fun x3 => (Qt m (x3.2.1, x3.2.2, (4 : Int))).bind fun x4 => (iter m (Qv.a m x4) ((0 : Int), x4.2.1, x4.2.2, x3.1, ([] : List Int), (0 : Int), (0 : Int), false)).bind fun x11 => (Qt m (x11.1, x11.2.1, (2147483647 : Int))).bind fun x12 => (Qt m (x12.2.1, x12.2.2, (2147483647 : Int))).bind fun x13 => (Qt m (x13.2.1, x13.2.2, (255 : Int))).bind fun x14 => (Qt m (x14.2.1, x14.2.2, (1024 : Int))).bind fun x16 => (iter m (Qv.b m x16) ((0 : Int), x16.2.1, x16.2.2, x11.2.2.1, x11.2.2.2.1, ([] : List T1), x12.1, x13.1, (x14.1 == (1 : Int)))).bind fun x29 => match x29 with | .inl x30 => some (x30.2.1, ([] : List Int), ([] : List T1), x30.2.2.1, x30.2.2.2.1, x30.2.2.2.2, x30.1) | .inr x31 => (Zj m x31.2.2).bind fun x32 => bif x31.2.1 then some ((0 : Int), ([] : List Int), ([] : List T1), (0 : Int), (0 : Int), false, (8 : Int)) else bif x32.2 != (0 : Int) then some ((0 : Int), ([] : List Int), ([] : List T1), (0 : Int), (0 : Int), false, (8 : Int)) else (QK m (x32.1, a0)).bind fun x34 => bif !x34 then some ((0 : Int), ([] : List Int), ([] : List T1), (0 : Int), (0 : Int), false, (8 : Int)) else some (x31.2.2.1, x31.2.2.2.1, x31.2.2.2.2.1, x31.2.2.2.2.2.1, x31.2.2.2.2.2.2.1, x31.2.2.2.2.2.2.2, (0 : Int))
def Qv.K : SK Tryz.prog := mkK mix [Qt.K, ZV.K, Q0.K, Zj.K, QK.K] [(250, .loop ⟨[(21, false, [k25])], [(128, [.dat Y22, k26]), (208, [k25, .own Y18 288 .wr, .cst .nils, k25, k25, k26])], [], [], 289⟩ [(.exit 0, ⟨[], [(128, [.dat Y22, k26]), (208, [k25, .own Y18 288 .wr, .cst .nils, k25, k25, k26])], [], [], 289⟩)]),
 (2042, .loop ⟨[(43, false, [k25])], [(128, [.dat Y22, k26]), (208, [k25, .own Y18 545 .wr, .own Y17 546 .wr, k25, k25, k26])], [], [288], 547⟩ [(.ret, ⟨[(3, false, [k25])], [(16, [k25, .cst .nils, .cst .nils, k25, k25, k26])], [], [128, 208, 288], 545⟩), (.exit 2, ⟨[], [(128, [.dat Y22, k26]), (208, [k25, .own Y18 545 .wr, .own Y17 546 .wr, k25, k25, k26])], [], [288], 547⟩)])] 89 Tryz.f89 ⟨[.val false [.sl Y20]], [(true, [k25, .own Y18 0 .wr, .own Y17 0 .wr, k25, k25, k26]), (false, [k25])]⟩ Qv (by kernel_rfl) (by kernel_rfl) (by kernel_rfl)
def Za.a (_ : Fu) (a0 : List Int) (a1 : Bool) (x1 : Int × Int × Int) : Option ((T2 × Bool)) := bif a1 then some (a0, true) else some (a0, (x1.2.2 != (0 : Int)))
def Za (m : Fu) (p : T2 × Bool) : Option (Int × T2 × Bool) := let a0 := p.1; let a1 := p.2; (Q1 m a0).bind fun x1 => (Za.a m a0 a1 x1).bind fun x3 => bif (((decide ((0 : Int) ≤ x1.2.1)) && (decide (x1.2.1 ≤ (x3.1.length : Int)))) && (decide ((x3.1.length : Int) ≤ (x3.1.length : Int)))) && (decide ((x3.1.length : Int) ≤ (x3.1.length : Int))) then some (x1.1, ((x3.1.take ((x3.1.length : Int).toNat)).drop x1.2.1.toNat), x3.2) else none
def Za.K : SK Tryz.prog := mkK mix [Q1.K] [(14, .jnt [(.normal, ⟨[], [(0, [.dat Y22, k26])], [], [], 224⟩)])] 137 Tryz.f137 ⟨[.box [.sl Y20, .bool]], [(false, [.dat Y24])]⟩ Za (by kernel_rfl) (by kernel_rfl) (by kernel_rfl)
def Zm (m : Fu) (p : T2 × Bool × Int) : Option (Int × T2 × Bool) := let a0 := p.1; let a1 := p.2.1; let a2 := p.2.2; (Za m (a0, a1)).bind fun x1 => bif decide ((IntKind.u64.wrap a2) < x1.1) then some ((0 : Int), x1.2.1, true) else some ((IntKind.i64.wrap x1.1), x1.2)
def Zm.K : SK Tryz.prog := mkK mix [Za.K] [] 118 Tryz.f118 ⟨[.box [.sl Y20, .bool], .val false [.int .i64]], [(false, [k25])]⟩ Zm (by kernel_rfl) (by kernel_rfl) (by kernel_rfl)
def ZP (_ : Fu) (p : T2 × Bool) : Option (Int × T2 × Bool) := let a0 := p.1; let a1 := p.2; bif (a0.length : Int) == (0 : Int) then some ((0 : Int), a0, true) else bif decide ((0 : Int) < (a0.length : Int)) then bif ((decide ((1 : Int) ≤ (a0.length : Int))) && (decide ((a0.length : Int) ≤ (a0.length : Int)))) && (decide ((a0.length : Int) ≤ (a0.length : Int))) then some ((a0.getD 0 0), ((a0.take ((a0.length : Int).toNat)).drop 1), a1) else none else none
def ZP.K : SK Tryz.prog := mkK mix [] [] 138 Tryz.f138 ⟨[.box [.sl Y20, .bool]], [(false, [.dat Y20])]⟩ ZP (by kernel_rfl) (by kernel_rfl) (by kernel_rfl)
def Qbn (m : Fu) (p : List Int) : Option (T2 × T2 × Int) := let a0 := p; (Q1 m a0).bind fun x1 => bif x1.2.2 != (0 : Int) then some (([] : List Int), ([] : List Int), (8 : Int)) else bif decide ((IntKind.u64.wrap (IntKind.i64.wrap ((a0.length : Int) - x1.2.1))) < x1.1) then some (([] : List Int), ([] : List Int), (8 : Int)) else bif (((decide ((0 : Int) ≤ x1.2.1)) && (decide (x1.2.1 ≤ (a0.length : Int)))) && (decide ((a0.length : Int) ≤ (a0.length : Int)))) && (decide ((a0.length : Int) ≤ (a0.length : Int))) then let x7 := (a0.take ((a0.length : Int).toNat)).drop x1.2.1.toNat; bif ((decide ((0 : Int) ≤ x1.1)) && (decide (x1.1 ≤ (x7.length : Int)))) && (decide ((x7.length : Int) ≤ (x7.length : Int))) then let x10 := IntKind.i64.wrap (x1.2.1 + (IntKind.i64.wrap x1.1)); bif (((decide ((0 : Int) ≤ x10)) && (decide (x10 ≤ (a0.length : Int)))) && (decide ((a0.length : Int) ≤ (a0.length : Int)))) && (decide ((a0.length : Int) ≤ (a0.length : Int))) then some (((x7.take x1.1.toNat).drop 0), ((a0.take ((a0.length : Int).toNat)).drop x10.toNat), (0 : Int)) else none else none else none
def Qbn.K : SK Tryz.prog := mkK mix [Q1.K] [] 141 Tryz.f141 ⟨[.val false [.sl Y20]], [(false, [.dat Y22]), (false, [.dat Y22]), (false, [k25])]⟩ Qbn (by kernel_rfl) (by kernel_rfl) (by kernel_rfl)
def ZB (m : Fu) (p : T2 × Bool) : Option (T2 × T2 × Bool) := let a0 := p.1; let a1 := p.2; (Qbn m a0).bind fun x1 => bif x1.2.2 != (0 : Int) then some (([] : List Int), a0, true) else some (x1.1, x1.2.1, a1)
def ZB.K : SK Tryz.prog := mkK mix [Qbn.K] [] 139 Tryz.f139 ⟨[.box [.sl Y20, .bool]], [(false, [k28])]⟩ ZB (by kernel_rfl) (by kernel_rfl) (by kernel_rfl)
def Qb.a (_ : Fu) (x1 : Int × T2 × Bool) : Option (Bool) := let x2 := x1.1 == (1 : Int); bif x2 then some x2 else let x3 := x1.1 == (2 : Int); bif x3 then some x3 else let x4 := x1.1 == (3 : Int); bif x4 then some x4 else some (x1.1 == (5 : Int))
def Qb.b (m : Fu) (x1 : Int × T2 × Bool) : Option (T7) := (Qb.a m x1).bind fun x6 => bif x6 then (Zm m (x1.2.1, x1.2.2, (4 : Int))).bind fun x7 => some (x7.2.1, x7.2.2, x1.1, x7.1, ([] : List Int), ([] : List Int), (0 : Int), (0 : Int), (0 : Int), ([] : List Int), (0 : Int), (0 : Int), false) else some (x1.2.1, x1.2.2, x1.1, (0 : Int), ([] : List Int), ([] : List Int), (0 : Int), (0 : Int), (0 : Int), ([] : List Int), (0 : Int), (0 : Int), false)
def Qb.c (_ : Fu) (x8 : T7) : Option (Bool) := let x19 := x8.2.2.1 == (4 : Int); bif x19 then some x19 else let x20 := x8.2.2.1 == (5 : Int); bif x20 then some x20 else let x21 := x8.2.2.1 == (6 : Int); bif x21 then some x21 else some (x8.2.2.1 == (7 : Int))
def Qb.d (m : Fu) (x8 : T7) : Option (T7) := bif x8.2.2.1 == (1 : Int) then (ZB m (x8.1, x8.2.1)).bind fun x10 => (ZB m x10.2).bind fun x11 => (Zm m (x11.2.1, x11.2.2, (4294967295 : Int))).bind fun x12 => (Zm m (x12.2.1, x12.2.2, (1099511627776 : Int))).bind fun x14 => (Za m x14.2).bind fun x15 => some (x15.2.1, x15.2.2, x8.2.2.1, x8.2.2.2.1, x10.1, x11.1, (IntKind.u32.wrap x12.1), x14.1, x15.1, x8.2.2.2.2.2.2.2.2.2) else bif x8.2.2.1 == (2 : Int) then (ZB m (x8.1, x8.2.1)).bind fun x17 => (ZP m x17.2).bind fun x18 => some (x18.2.1, x18.2.2, x8.2.2.1, x8.2.2.2.1, x8.2.2.2.2.1, x8.2.2.2.2.2.1, x8.2.2.2.2.2.2.1, x8.2.2.2.2.2.2.2.1, x8.2.2.2.2.2.2.2.2.1, x17.1, x18.1, x8.2.2.2.2.2.2.2.2.2.2.2) else (Qb.c m x8).bind fun x23 => bif x23 then (Zm m (x8.1, x8.2.1, (1099511627776 : Int))).bind fun x24 => some (x24.2.1, x24.2.2, x8.2.2.1, x8.2.2.2.1, x8.2.2.2.2.1, x8.2.2.2.2.2.1, x8.2.2.2.2.2.2.1, x8.2.2.2.2.2.2.2.1, x8.2.2.2.2.2.2.2.2.1, x8.2.2.2.2.2.2.2.2.2.1, x8.2.2.2.2.2.2.2.2.2.2.1, x24.1, x8.2.2.2.2.2.2.2.2.2.2.2.2) else some x8
def Qb.e (m : Fu) (x25 : T7) : Option (T7) := bif x25.2.2.1 == (6 : Int) then (ZP m (x25.1, x25.2.1)).bind fun x27 => some (x27.2.1, x27.2.2, x25.2.2.1, x25.2.2.2.1, x25.2.2.2.2.1, x25.2.2.2.2.2.1, x25.2.2.2.2.2.2.1, x25.2.2.2.2.2.2.2.1, x25.2.2.2.2.2.2.2.2.1, x25.2.2.2.2.2.2.2.2.2.1, x25.2.2.2.2.2.2.2.2.2.2.1, x25.2.2.2.2.2.2.2.2.2.2.2.1, (x27.1 == (1 : Int))) else some x25
def Qb (m : Fu) (p : T2 × Bool) : Option (Int × Int × T2 × T2 × Int × Int × Int × T2 × Int × Int × Bool × T2 × Bool) := let a0 := p.1; let a1 := p.2; (ZP m (a0, a1)).bind fun x1 => (Qb.b m x1).bind fun x8 => (Qb.d m x8).bind fun x25 => (Qb.e m x25).bind fun x29 => some (x29.2.2.1, x29.2.2.2.1, x29.2.2.2.2.1, x29.2.2.2.2.2.1, x29.2.2.2.2.2.2.1, x29.2.2.2.2.2.2.2.1, x29.2.2.2.2.2.2.2.2.1, x29.2.2.2.2.2.2.2.2.2.1, x29.2.2.2.2.2.2.2.2.2.2.1, x29.2.2.2.2.2.2.2.2.2.2.2.1, x29.2.2.2.2.2.2.2.2.2.2.2.2, x29.1, x29.2.1)
def Qb.K : SK Tryz.prog := mkK mix [ZP.K, Zm.K, ZB.K, Za.K] [(14, .jnt [(.normal, ⟨[], [(0, [.dat Y22, k26]), (80, [.dat Y20, k25, k28, k28, k27, k25, .dat Y24, k28, .dat Y20, k25, k26])], [], [], 112⟩)]),
 (30, .jnt [(.normal, ⟨[], [(0, [.dat Y22, k26]), (80, [.dat Y20, k25, k28, k28, k27, k25, .dat Y24, k28, .dat Y20, k25, k26])], [], [], 112⟩)]),
 (62, .jnt [(.normal, ⟨[], [(0, [.dat Y22, k26]), (80, [.dat Y20, k25, k28, k28, k27, k25, .dat Y24, k28, .dat Y20, k25, k26])], [], [], 112⟩)]),
 (116, .jnt [(.normal, ⟨[(9, false, [k26])], [], [], [], 144⟩)]),
 (3934, .jnt [(.normal, ⟨[(42, false, [k26])], [], [], [], 208⟩)])] 119 Tryz.f119 ⟨[.box [.sl Y20, .bool]], [(true, [.dat Y20, k25, k28, k28, k27, k25, .dat Y24, k28, .dat Y20, k25, k26])]⟩ Qb (by kernel_rfl) (by kernel_rfl) (by kernel_rfl)
def Qav (_ : Fu) (p : List Int) : Option (Bool) := let a0 := p; bif !(a0 == ([] : List Int)) then some (decide ((a0.length : Int) ≤ (32 : Int))) else some false
def Qav.K : SK Tryz.prog := mkK mix [] [] 129 Tryz.f129 ⟨[.val false [.str]], [(false, [k26])]⟩ Qav (by kernel_rfl) (by kernel_rfl) (by kernel_rfl)
def Qam (_ : Fu) (p : Int × Int) : Option (Bool) := let a0 := p.1; let a1 := p.2; bif decide ((0 : Int) ≤ a0) then some (decide (a0 ≤ a1)) else some false
def Qam.K : SK Tryz.prog := mkK mix [] [] 130 Tryz.f130 ⟨[.val false [.int .i64], .val false [.int .i64]], [(false, [k26])]⟩ Qam (by kernel_rfl) (by kernel_rfl) (by kernel_rfl)
def Vh (_ : Fu) (p : Int) : Option (Bool) := let a0 := p; bif decide ((0 : Int) ≤ a0) then some (decide (a0 < (4 : Int))) else some false
def Vh.K : SK Tryz.prog := mkK mix [] [] 131 Tryz.f131 ⟨[.val false [.int .i64]], [(false, [k26])]⟩ Vh (by kernel_rfl) (by kernel_rfl) (by kernel_rfl)
def Zn.a (m : Fu) (a0 : Int) (a1 : Int) (a2 : List Int) (a3 : List Int) (a4 : Int) (a5 : Int) (a6 : Int) (a7 : List Int) (a8 : Int) (a9 : Int) (a10 : Bool) : Option (T12) := bif a0 == (1 : Int) then (Qav m a2).bind fun x2 => bif x2 then bif decide ((a3.length : Int) ≤ (512 : Int)) then (Qam m (a5, (1099511627776 : Int))).bind fun x5 => some (x5, a0, a1, a2, a3, a4, a5, a6, ([] : List Int), (0 : Int), (0 : Int), false) else some (false, a0, a1, a2, a3, a4, a5, a6, ([] : List Int), (0 : Int), (0 : Int), false) else some (false, a0, a1, a2, a3, a4, a5, a6, ([] : List Int), (0 : Int), (0 : Int), false) else bif a0 == (2 : Int) then (Qav m a7).bind fun x7 => bif x7 then bif a8 == (1 : Int) then some (true, a0, a1, ([] : List Int), ([] : List Int), (0 : Int), (0 : Int), (0 : Int), a7, a8, (0 : Int), false) else some ((a8 == (2 : Int)), a0, a1, ([] : List Int), ([] : List Int), (0 : Int), (0 : Int), (0 : Int), a7, a8, (0 : Int), false) else some (false, a0, a1, ([] : List Int), ([] : List Int), (0 : Int), (0 : Int), (0 : Int), a7, a8, (0 : Int), false) else bif a0 == (3 : Int) then some (true, a0, a1, ([] : List Int), ([] : List Int), (0 : Int), (0 : Int), (0 : Int), ([] : List Int), (0 : Int), (0 : Int), false) else bif a0 == (4 : Int) then (Qam m (a9, (1099511627776 : Int))).bind fun x12 => some (x12, a0, (0 : Int), ([] : List Int), ([] : List Int), (0 : Int), (0 : Int), (0 : Int), ([] : List Int), (0 : Int), a9, false) else bif a0 == (5 : Int) then (Qam m (a9, (16 : Int))).bind fun x14 => some (x14, a0, a1, ([] : List Int), ([] : List Int), (0 : Int), (0 : Int), (0 : Int), ([] : List Int), (0 : Int), a9, false) else bif a0 == (6 : Int) then (Qam m (a9, (2147483647 : Int))).bind fun x16 => some (x16, a0, (0 : Int), ([] : List Int), ([] : List Int), (0 : Int), (0 : Int), (0 : Int), ([] : List Int), (0 : Int), a9, a10) else bif a0 == (7 : Int) then (Qam m (a9, (2147483647 : Int))).bind fun x18 => some (x18, a0, (0 : Int), ([] : List Int), ([] : List Int), (0 : Int), (0 : Int), (0 : Int), ([] : List Int), (0 : Int), a9, false) else some (false, a0, (0 : Int), ([] : List Int), ([] : List Int), (0 : Int), (0 : Int), (0 : Int), ([] : List Int), (0 : Int), (0 : Int), false)
def Zn (m : Fu) (p : Int × Int × T2 × T2 × Int × Int × Int × T2 × Int × Int × Bool) : Option (Bool) := let a0 := p.1; let a1 := p.2.1; let a2 := p.2.2.1; let a3 := p.2.2.2.1; let a4 := p.2.2.2.2.1; let a5 := p.2.2.2.2.2.1; let a6 := p.2.2.2.2.2.2.1; let a7 := p.2.2.2.2.2.2.2.1; let a8 := p.2.2.2.2.2.2.2.2.1; let a9 := p.2.2.2.2.2.2.2.2.2.1; let a10 := p.2.2.2.2.2.2.2.2.2.2; (Zn.a m a0 a1 a2 a3 a4 a5 a6 a7 a8 a9 a10).bind fun x19 => bif x19.1 then (Vh m a1).bind fun x20 => bif x20 then some ((x19.2.1 == a0) && ((x19.2.2.1 == a1) && (((x19.2.2.2.1 == a2) && ((x19.2.2.2.2.1 == a3) && ((x19.2.2.2.2.2.1 == a4) && ((x19.2.2.2.2.2.2.1 == a5) && ((x19.2.2.2.2.2.2.2.1 == a6) && true))))) && ((x19.2.2.2.2.2.2.2.2.1 == a7) && ((x19.2.2.2.2.2.2.2.2.2.1 == a8) && ((x19.2.2.2.2.2.2.2.2.2.2.1 == a9) && ((x19.2.2.2.2.2.2.2.2.2.2.2 == a10) && true))))))) else some false else some false
def Zn.K : SK Tryz.prog := mkK mix [Qav.K, Qam.K, Vh.K] [(30, .jnt [(.normal, ⟨[(4, false, [k26])], [(96, [.dat Y20, k25, k28, k28, k27, k25, .dat Y24, k28, .dat Y20, k25, k26])], [], [], 144⟩)])] 99 Tryz.f99 ⟨[.val true [.int .u8, .int .i64, .str, .str, .int .u32, .int .i64, .int .u64, .str, .int .u8, .int .i64, .bool]], [(false, [k26])]⟩ Zn (by kernel_rfl) (by kernel_rfl) (by kernel_rfl)
def Z1.a (m : Fu) (a1 : List Int) (x1 : Int) (x2 : T2 × Int) : Option T16 := bif decide (x2.2 < x1) then bif (decide ((0 : Int) ≤ x2.2)) && (decide (x2.2 < (a1.length : Int))) then (Q7 m (IntKind.u64.wrap (a1.getD x2.2.toNat 0))).bind fun x6 => bif Nat.ble (x2.1.length + x6.length) 140737488351232 then some (.next ((x2.1 ++ x6), (IntKind.i64.wrap (x2.2 + (1 : Int))))) else none else none else some (.fin x2.1)
def Z1 (m : Fu) (p : T2 × T2) : Option T2 := let a0 := p.1; let a1 := p.2; (iter m (Z1.a m a1 (a1.length : Int)) (a0, (0 : Int))).bind fun x9 => some x9
def Z1.K : SK Tryz.prog := mkK mix [Q7.K] [(26, .loop ⟨[(0, false, [.own Y20 96 .wr]), (9, false, [k25])], [], [], [0], 97⟩ [(.exit 0, ⟨[(0, false, [.own Y20 96 .wr])], [], [], [0], 97⟩)])] 100 Tryz.f100 ⟨[.ow Y20, .val false [.sl Y18]], [(false, [.own Y20 0 .wr])]⟩ Z1 (by kernel_rfl) (by kernel_rfl) (by kernel_rfl)
def ZH.a (m : Fu) (a1 : List T2) (x1 : Int) (x2 : T2 × Int) : Option T16 := bif decide (x2.2 < x1) then bif (decide ((0 : Int) ≤ x2.2)) && (decide (x2.2 < (a1.length : Int))) then (JL m (a1.getD x2.2.toNat [])).bind fun x5 => bif Nat.ble (x2.1.length + x5.length) 140737488351232 then some (.next ((x2.1 ++ x5), (IntKind.i64.wrap (x2.2 + (1 : Int))))) else none else none else some (.fin x2.1)
def ZH (m : Fu) (p : T2 × T11) : Option T2 := let a0 := p.1; let a1 := p.2; (iter m (ZH.a m a1 (a1.length : Int)) (a0, (0 : Int))).bind fun x8 => some x8
def ZH.K : SK Tryz.prog := mkK mix [JL.K] [(26, .loop ⟨[(0, false, [.own Y20 96 .wr]), (9, false, [k25])], [], [], [0], 97⟩ [(.exit 0, ⟨[(0, false, [.own Y20 96 .wr])], [], [], [0], 97⟩)])] 132 Tryz.f132 ⟨[.ow Y20, .val false [.sl .str]], [(false, [.own Y20 0 .wr])]⟩ ZH (by kernel_rfl) (by kernel_rfl) (by kernel_rfl)
def Qq.a (_ : Fu) (a1 : Int) : Option (Bool) := let x3 := a1 == (1 : Int); bif x3 then some x3 else let x4 := a1 == (2 : Int); bif x4 then some x4 else let x5 := a1 == (3 : Int); bif x5 then some x5 else some (a1 == (5 : Int))
def Qq.b (m : Fu) (a1 : Int) (a2 : Int) (x2 : List Int) : Option (T2) := (Qq.a m a1).bind fun x7 => bif x7 then (Z1 m (x2, ([a2]))).bind fun x9 => some x9 else some x2
def Qq.c (_ : Fu) (a1 : Int) : Option (Bool) := let x24 := a1 == (4 : Int); bif x24 then some x24 else let x25 := a1 == (5 : Int); bif x25 then some x25 else let x26 := a1 == (6 : Int); bif x26 then some x26 else some (a1 == (7 : Int))
def Qq.d (m : Fu) (a1 : Int) (a3 : List Int) (a4 : List Int) (a5 : Int) (a6 : Int) (a7 : Int) (a8 : List Int) (a9 : Int) (a10 : Int) (x10 : T2) : Option (T2 ⊕ T2) := bif a1 == (1 : Int) then (ZH m (x10, ([a3, a4]))).bind fun x13 => (Z1 m (x13, ([(IntKind.i64.wrap a5), a6]))).bind fun x16 => (Q7 m a7).bind fun x17 => bif Nat.ble (x16.length + x17.length) 140737488351232 then some (Sum.inl (x16 ++ x17)) else none else bif a1 == (2 : Int) then (ZH m (x10, ([a8]))).bind fun x21 => let x22 := [a9]; bif Nat.ble (x21.length + x22.length) 140737488351232 then some (Sum.inl (x21 ++ x22)) else none else (Qq.c m a1).bind fun x28 => bif x28 then (Z1 m (x10, ([a10]))).bind fun x30 => some (Sum.inr x30) else some (Sum.inr x10)
def Qq (m : Fu) (p : T2 × Int × Int × T2 × T2 × Int × Int × Int × T2 × Int × Int × Bool) : Option T2 := let a0 := p.1; let a1 := p.2.1; let a2 := p.2.2.1; let a3 := p.2.2.2.1; let a4 := p.2.2.2.2.1; let a5 := p.2.2.2.2.2.1; let a6 := p.2.2.2.2.2.2.1; let a7 := p.2.2.2.2.2.2.2.1; let a8 := p.2.2.2.2.2.2.2.2.1; let a9 := p.2.2.2.2.2.2.2.2.2.1; let a10 := p.2.2.2.2.2.2.2.2.2.2.1; let a11 := p.2.2.2.2.2.2.2.2.2.2.2; let x1 := [a1]; bif Nat.ble (a0.length + x1.length) 140737488351232 then (Qq.b m a1 a2 (a0 ++ x1)).bind fun x10 => (Qq.d m a1 a3 a4 a5 a6 a7 a8 a9 a10 x10).bind fun x31 => match x31 with | .inl x32 => some x32 | .inr x33 => bif a1 == (6 : Int) then bif a11 then bif Nat.ble (x33.length + 1) 140737488351232 then some (x33 ++ ([1] : List Int)) else none else bif Nat.ble (x33.length + 1) 140737488351232 then some (x33 ++ ([0] : List Int)) else none else some x33 else none
def Qq.K : SK Tryz.prog := mkK mix [Z1.K, ZH.K, Q7.K] [(14, .jnt [(.normal, ⟨[(0, false, [.own Y20 160 .wr])], [], [], [128], 161⟩)]),
 (30, .jnt [(.ret, ⟨[(4, false, [.own Y20 161 .wr])], [], [], [160], 162⟩), (.normal, ⟨[(0, false, [.own Y20 161 .wr])], [], [], [160], 162⟩)]),
 (116, .jnt [(.normal, ⟨[(12, false, [k26])], [], [], [], 192⟩)]),
 (3934, .jnt [(.normal, ⟨[(61, false, [k26])], [], [], [], 257⟩)])] 101 Tryz.f101 ⟨[.ow Y20, .val true [.int .u8, .int .i64, .str, .str, .int .u32, .int .i64, .int .u64, .str, .int .u8, .int .i64, .bool]], [(false, [.own Y20 0 .wr])]⟩ Qq (by kernel_rfl) (by kernel_rfl) (by kernel_rfl)
def Qw.a (m : Fu) (a0 : List T3) (x3 : Int) (x4 : Int) : Option (Step Int T13) := bif decide (x4 < x3) then bif (decide ((0 : Int) ≤ x4)) && (decide (x4 < (a0.length : Int))) then let x6 := a0.getD x4.toNat (0, (0, (([], ([], (0, (0, 0)))), ([], (0, (0, false)))))); (Zn m (x6.1, x6.2.1, x6.2.2.1.1, x6.2.2.1.2.1, x6.2.2.1.2.2.1, x6.2.2.1.2.2.2.1, x6.2.2.1.2.2.2.2, x6.2.2.2)).bind fun x7 => bif !x7 then some (.fin (Sum.inl (8 : Int))) else some (.next (IntKind.i64.wrap (x4 + (1 : Int)))) else none else some (.fin (Sum.inr ()))
def Qw.b (m : Fu) (a0 : List T3) (x16 : Int) (x17 : T2 × Int) : Option (Step (T2 × Int) (Int ⊕ T2)) := bif decide (x17.2 < x16) then bif (decide ((0 : Int) ≤ x17.2)) && (decide (x17.2 < (a0.length : Int))) then let x19 := a0.getD x17.2.toNat (0, (0, (([], ([], (0, (0, 0)))), ([], (0, (0, false)))))); (Qq m (x17.1, x19.1, x19.2.1, x19.2.2.1.1, x19.2.2.1.2.1, x19.2.2.1.2.2.1, x19.2.2.1.2.2.2.1, x19.2.2.1.2.2.2.2, x19.2.2.2)).bind fun x20 => bif decide ((65536 : Int) < (x20.length : Int)) then some (.fin (Sum.inl (3 : Int))) else some (.next (x20, (IntKind.i64.wrap (x17.2 + (1 : Int))))) else none else some (.fin (Sum.inr x17.1))
def Qw (m : Fu) (p : List T3) : Option (T2 × Int) := let a0 := p; bif decide ((4096 : Int) < (a0.length : Int)) then some (([] : List Int), (4 : Int)) else (iter m (Qw.a m a0 (a0.length : Int)) (0 : Int)).bind fun x10 => match x10 with | .inl x11 => some (([] : List Int), x11) | .inr _ => (Z1 m (([] : List Int), ([(a0.length : Int)]))).bind fun x15 => (iter m (Qw.b m a0 (a0.length : Int)) (x15, (0 : Int))).bind fun x24 => match x24 with | .inl x25 => some (([] : List Int), x25) | .inr x26 => some (x26, (0 : Int))
def Qw.K : SK Tryz.prog := mkK mix [Zn.K, Z1.K, Qq.K] [(58, .loop ⟨[(14, false, [k25])], [], [], [], 144⟩ [(.ret, ⟨[(2, false, [.cst .nils]), (3, false, [k25])], [], [], [], 144⟩), (.exit 0, ⟨[], [], [], [], 144⟩)]),
 (250, .loop ⟨[(6, false, [.own Y20 272 .wr]), (28, false, [k25])], [], [], [192], 273⟩ [(.ret, ⟨[(2, false, [.cst .nils]), (3, false, [k25])], [], [], [192], 272⟩), (.exit 2, ⟨[(6, false, [.own Y20 272 .wr])], [], [], [192], 273⟩)])] 66 Tryz.f66 ⟨[.val false [.sl Y19]], [(false, [.own Y20 0 .wr]), (false, [k25])]⟩ Qw (by kernel_rfl) (by kernel_rfl) (by kernel_rfl)
def Qx.a (m : Fu) (x3 : Int × T2 × Bool) (x4 : (List T3) × Int × T2 × Bool) : Option (Step ((List T3) × Int × T2 × Bool) (Int ⊕ ((List T3) × T2 × Bool))) := bif decide (x4.2.1 < x3.1) then (Qb m x4.2.2).bind fun x6 => let x7 := [(x6.1, (x6.2.1, ((x6.2.2.1, (x6.2.2.2.1, (x6.2.2.2.2.1, (x6.2.2.2.2.2.1, x6.2.2.2.2.2.2.1)))), (x6.2.2.2.2.2.2.2.1, (x6.2.2.2.2.2.2.2.2.1, (x6.2.2.2.2.2.2.2.2.2.1, x6.2.2.2.2.2.2.2.2.2.2.1))))))]; bif Nat.ble (x4.1.length + x7.length) 4294967296 then bif x6.2.2.2.2.2.2.2.2.2.2.2.2 then some (.fin (Sum.inl (8 : Int))) else some (.next ((x4.1 ++ x7), (IntKind.i64.wrap (x4.2.1 + (1 : Int))), x6.2.2.2.2.2.2.2.2.2.2.2)) else none else some (.fin (Sum.inr (x4.1, x4.2.2)))
def Qx (m : Fu) (p : List Int) : Option ((List T3) × Int) := let a0 := p; bif decide ((65536 : Int) < (a0.length : Int)) then some (([] : List T3), (3 : Int)) else (Zm m (a0, false, (4096 : Int))).bind fun x3 => (iter m (Qx.a m x3) (([] : List T3), (0 : Int), x3.2)).bind fun x10 => match x10 with | .inl x11 => some (([] : List T3), x11) | .inr x12 => (Qw m x12.1).bind fun x13 => bif x12.2.2 then some (([] : List T3), (8 : Int)) else bif x13.2 != (0 : Int) then some (([] : List T3), (8 : Int)) else (QK m (x13.1, a0)).bind fun x15 => bif !x15 then some (([] : List T3), (8 : Int)) else some (x12.1, (0 : Int))
def Qx.K : SK Tryz.prog := mkK mix [Zm.K, Qb.K, Qw.K, QK.K] [(250, .loop ⟨[(5, false, [.own Y19 224 .wr]), (16, false, [k25])], [(128, [.dat Y22, k26])], [], [], 225⟩ [(.ret, ⟨[(2, false, [.cst .nils]), (3, false, [k25])], [], [], [128], 224⟩), (.exit 0, ⟨[(5, false, [.own Y19 224 .wr])], [(128, [.dat Y22, k26])], [], [], 225⟩)])] 90 Tryz.f90 ⟨[.val false [.sl Y20]], [(false, [.own Y19 0 .wr]), (false, [k25])]⟩ Qx (by kernel_rfl) (by kernel_rfl) (by kernel_rfl)
def QO (_ : Fu) (p : List Int) : Option T2 := let a0 := p; match a0 with | [] => QhY ( some ([] : List Int)) ( bif Nat.ble (0 + a0.length) 4294967296 then some (([] : List Int) ++ a0) else none) | _ :: _ => bif Nat.ble (0 + a0.length) 4294967296 then some (([] : List Int) ++ a0) else none
def QO.sig : Sig := ⟨[.val false [.sl Y18]], [(false, [.own Y18 0 .wr])]⟩
def QO.K : SK Tryz.prog := mkK mix [] [] 122 Tryz.f122 QO.sig QO (by kernel_rfl) (by kernel_rfl) (by kernel_rfl)
def QO.S : Summ := ⟨122, QO.sig, QO⟩
theorem QO.sound : Qal Tryz.prog QO.S := QO.K.h
def QY (m : Fu) (p : List Int) : Option T2 := bif Nat.ble p.length 4294967296 then some p else none
theorem QY.is : QO = QY := by
 funext m p
 have h0 : Nat.ble 0 4294967296 = true := rfl
 cases p <;> simp [QO, QY, QeF, h0]
def QY.S : Summ := ⟨122, QO.sig, QY⟩
theorem QY.sound : Qal Tryz.prog QY.S := by
 have h := QO.sound
 unfold QO.S at h
 rw [QY.is] at h
 exact h
def QY.K : SK Tryz.prog := ⟨QY.S, QY.sound⟩
def QF (_ : Fu) (p : List T1) : Option T8 := let a0 := p; match a0 with | [] => QhY ( some ([] : List T1)) ( bif Nat.ble (0 + a0.length) 4294967296 then some (([] : List T1) ++ a0) else none) | _ :: _ => bif Nat.ble (0 + a0.length) 4294967296 then some (([] : List T1) ++ a0) else none
def QF.sig : Sig := ⟨[.val false [.sl Y17]], [(false, [.own Y17 0 .wr])]⟩
def QF.K : SK Tryz.prog := mkK mix [] [] 123 Tryz.f123 QF.sig QF (by kernel_rfl) (by kernel_rfl) (by kernel_rfl)
def QF.S : Summ := ⟨123, QF.sig, QF⟩
theorem QF.sound : Qal Tryz.prog QF.S := QF.K.h
def QQ (m : Fu) (p : List T1) : Option T8 := bif Nat.ble p.length 4294967296 then some p else none
theorem QQ.is : QF = QQ := by
 funext m p
 have h0 : Nat.ble 0 4294967296 = true := rfl
 cases p <;> simp [QF, QQ, QeF, h0]
def QQ.S : Summ := ⟨123, QF.sig, QQ⟩
theorem QQ.sound : Qal Tryz.prog QQ.S := by
 have h := QF.sound
 unfold QF.S at h
 rw [QQ.is] at h
 exact h
def QQ.K : SK Tryz.prog := ⟨QQ.S, QQ.sound⟩
def J1 (m : Fu) (p : Int × T2 × T2 × Int × Int × Int × Int × Int × T2 × T2 × Int × Int × Int × T2 × Int × Int × Bool) : Option T12 := let a1 := p.2.1; let a2 := p.2.2.1; let a3 := p.2.2.2.1; let a4 := p.2.2.2.2.1; let a5 := p.2.2.2.2.2.1; let a6 := p.2.2.2.2.2.2.1; let a7 := p.2.2.2.2.2.2.2.1; let a8 := p.2.2.2.2.2.2.2.2.1; let a9 := p.2.2.2.2.2.2.2.2.2.1; let a10 := p.2.2.2.2.2.2.2.2.2.2.1; let a11 := p.2.2.2.2.2.2.2.2.2.2.2.1; let a12 := p.2.2.2.2.2.2.2.2.2.2.2.2.1; let a13 := p.2.2.2.2.2.2.2.2.2.2.2.2.2.1; let a14 := p.2.2.2.2.2.2.2.2.2.2.2.2.2.2.1; let a15 := p.2.2.2.2.2.2.2.2.2.2.2.2.2.2.2.1; let a16 := p.2.2.2.2.2.2.2.2.2.2.2.2.2.2.2.2; (Vd m (a1, a2, a3, a4, a5, a15)).bind fun x1 => some (x1, a6, a7, a8, a9, a10, a11, a12, a13, a14, a15, a16)
def J1.K : SK Tryz.prog := mkK mix [Vd.K] [] 125 Tryz.f125 ⟨[.val true [.int .i64, .str, .str, .int .u32, .int .i64, .int .u64], .box [.int .u8, .int .i64, .str, .str, .int .u32, .int .i64, .int .u64, .str, .int .u8, .int .i64, .bool]], [(false, [k26])]⟩ J1 (by kernel_rfl) (by kernel_rfl) (by kernel_rfl)
def J0 (_ : Fu) (p : Int × T2 × T2 × Int × Int × Int × Int × Int × T2 × T2 × Int × Int × Int × T2 × Int × Int × Bool) : Option T12 := let a0 := p.1; let a6 := p.2.2.2.2.2.2.1; let a7 := p.2.2.2.2.2.2.2.1; let a8 := p.2.2.2.2.2.2.2.2.1; let a9 := p.2.2.2.2.2.2.2.2.2.1; let a10 := p.2.2.2.2.2.2.2.2.2.2.1; let a11 := p.2.2.2.2.2.2.2.2.2.2.2.1; let a12 := p.2.2.2.2.2.2.2.2.2.2.2.2.1; let a13 := p.2.2.2.2.2.2.2.2.2.2.2.2.2.1; let a14 := p.2.2.2.2.2.2.2.2.2.2.2.2.2.2.1; let a15 := p.2.2.2.2.2.2.2.2.2.2.2.2.2.2.2.1; let a16 := p.2.2.2.2.2.2.2.2.2.2.2.2.2.2.2.2; some ((a0 == a7), a6, a7, a8, a9, a10, a11, a12, a13, a14, a15, a16)
def J0.K : SK Tryz.prog := mkK mix [] [] 128 Tryz.f128 ⟨[.val true [.int .i64, .str, .str, .int .u32, .int .i64, .int .u64], .box [.int .u8, .int .i64, .str, .str, .int .u32, .int .i64, .int .u64, .str, .int .u8, .int .i64, .bool]], [(false, [k26])]⟩ J0 (by kernel_rfl) (by kernel_rfl) (by kernel_rfl)
def Qa.a (_ : Fu) (x12 : Int × Int × T2 × T8 × Int × Int × Bool × (List Bool) × T10 × Int) (x14 : Int × Int × T14 × T2 × Int × Int × Bool) : Option T13 := bif decide (x14.2.2.2.2.2.1 < x12.2.1) then some (Sum.inl (2 : Int)) else some (Sum.inr ())
def Qa.b (_ : Fu) (x22 : Bool) : Option (Unit ⊕ Unit) := bif x22 then some (Sum.inl ()) else some (Sum.inr ())
def Qa.c (m : Fu) (x21 : Int × Int × T2 × Int × Int × Bool × (List Bool) × T10 × Int × Int × Int × T2 × T2 × Int × Int × Int × T2 × Int × Int × Bool) (x25 : Int × T2 × T2 × Int × Int × Int) : Option (T12) := bif (decide ((0 : Int) ≤ x21.1)) && (decide (x21.1 < (x21.2.2.2.2.2.2.1.length : Int))) then bif Nat.blt x21.1.toNat x21.2.2.2.2.2.2.1.length then bif !(x21.2.2.2.2.2.2.1.getD x21.1.toNat false) then (J1 m (x25.1, x25.2.1, x25.2.2.1, x25.2.2.2.1, x25.2.2.2.2.1, x25.2.2.2.2.2, x21.2.2.2.2.2.2.2.2.2)).bind fun x28 => some x28 else some (false, x21.2.2.2.2.2.2.2.2.2) else none else none
def Qa.d (_ : Fu) (x21 : Int × Int × T2 × Int × Int × Bool × (List Bool) × T10 × Int × Int × Int × T2 × T2 × Int × Int × Int × T2 × Int × Int × Bool) (x25 : Int × T2 × T2 × Int × Int × Int) : Option ((Int × T2 × Int × Int × Bool × (List Bool) × T10 × Int)) := let x30 := mget (Jx (.pr Y18 .str)) x21.2.2.2.2.2.2.2.1 (x25.1, x25.2.1); bif x30.isSome then bif (decide ((0 : Int) ≤ (x30.getD 0))) && (decide ((x30.getD 0) < (x21.2.2.2.2.2.2.1.length : Int))) then bif Nat.blt ((x30.getD 0).toNat) x21.2.2.2.2.2.2.1.length then some (x21.2.1, x21.2.2.1, x21.2.2.2.1, x21.2.2.2.2.1, x21.2.2.2.2.2.1, (x21.2.2.2.2.2.2.1.set ((x30.getD 0).toNat) true), (mdel (Jx (.pr Y18 .str)) x21.2.2.2.2.2.2.2.1 (x25.1, x25.2.1)), (IntKind.i64.wrap (x21.2.2.2.2.2.2.2.2.1 - (1 : Int)))) else none else none else some (x21.2.1, x21.2.2.1, x21.2.2.2.1, x21.2.2.2.2.1, x21.2.2.2.2.2.1, x21.2.2.2.2.2.2.1, x21.2.2.2.2.2.2.2.1, x21.2.2.2.2.2.2.2.2.1)
def Qa.e (m : Fu) (x12 : Int × Int × T2 × T8 × Int × Int × Bool × (List Bool) × T10 × Int) (x20 : Int) (x21 : Int × Int × T2 × Int × Int × Bool × (List Bool) × T10 × Int × Int × Int × T2 × T2 × Int × Int × Int × T2 × Int × Int × Bool) : Option (Step (Int × Int × T2 × Int × Int × Bool × (List Bool) × T10 × Int × Int × Int × T2 × T2 × Int × Int × Int × T2 × Int × Int × Bool) (T6)) := (Qa.b m (decide (x21.1 < x20))).bind fun x23 => match x23 with | .inl _ => bif (decide ((0 : Int) ≤ x21.1)) && (decide (x21.1 < (x12.2.2.2.1.length : Int))) then bif Nat.blt x21.1.toNat x12.2.2.2.1.length then let x25 := x12.2.2.2.1.getD x21.1.toNat (0, ([], ([], (0, (0, 0))))); (Qa.c m x21 x25).bind fun x29 => bif x29.1 then (Qa.d m x21 x25).bind fun x34 => some (.next ((IntKind.i64.wrap (x21.1 + (1 : Int))), x34.1, x34.2.1, x34.2.2.1, x34.2.2.2.1, x34.2.2.2.2.1, x34.2.2.2.2.2.1, x34.2.2.2.2.2.2.1, x34.2.2.2.2.2.2.2, x29.2)) else some (.next ((IntKind.i64.wrap (x21.1 + (1 : Int))), x21.2.1, x21.2.2.1, x21.2.2.2.1, x21.2.2.2.2.1, x21.2.2.2.2.2.1, x21.2.2.2.2.2.2.1, x21.2.2.2.2.2.2.2.1, x21.2.2.2.2.2.2.2.2.1, x29.2)) else none else none | .inr _ => some (.fin (x21.2.1, x21.2.2.1, x12.2.2.2.1, x21.2.2.2.1, x21.2.2.2.2.1, x21.2.2.2.2.2.1, x21.2.2.2.2.2.2.1, x21.2.2.2.2.2.2.2.1, x21.2.2.2.2.2.2.2.2.1))
def Qa.f (_ : Fu) (x12 : Int × Int × T2 × T8 × Int × Int × Bool × (List Bool) × T10 × Int) (x14 : Int × Int × T14 × T2 × Int × Int × Bool) : Option T13 := bif decide (x14.2.2.2.2.2.1 < x12.2.2.2.2.1) then some (Sum.inl (2 : Int)) else some (Sum.inr ())
def Qa.g (m : Fu) (x12 : Int × Int × T2 × T8 × Int × Int × Bool × (List Bool) × T10 × Int) (x14 : Int × Int × T14 × T2 × Int × Int × Bool) : Option (T15 ⊕ Unit) := bif x14.1 == (4 : Int) then (Qa.a m x12 x14).bind fun x17 => match x17 with | .inl x18 => some (Sum.inl (x18, x12.2)) | .inr _ => (iter m (Qa.e m x12 (x12.2.2.2.1.length : Int)) ((0 : Int), x14.2.2.2.2.2.1, x12.2.2.1, x12.2.2.2.2.1, x12.2.2.2.2.2.1, x12.2.2.2.2.2.2.1, x12.2.2.2.2.2.2.2.1, x12.2.2.2.2.2.2.2.2.1, x12.2.2.2.2.2.2.2.2.2, x14.1, x14.2.1, x14.2.2.1.1, x14.2.2.1.2.1, x14.2.2.1.2.2.1, x14.2.2.1.2.2.2.1, x14.2.2.1.2.2.2.2, x14.2.2.2)).bind fun x38 => some (Sum.inl ((0 : Int), x38)) else bif x14.1 == (6 : Int) then (Qa.f m x12 x14).bind fun x41 => match x41 with | .inl x42 => some (Sum.inl (x42, x12.2)) | .inr _ => some (Sum.inl ((0 : Int), x12.2.1, x12.2.2.1, x12.2.2.2.1, x14.2.2.2.2.2.1, x12.2.2.2.2.2.1, x14.2.2.2.2.2.2, x12.2.2.2.2.2.2.2)) else bif x14.1 == (7 : Int) then some (Sum.inl ((0 : Int), x12.2.1, x12.2.2.1, x12.2.2.2.1, x12.2.2.2.2.1, x14.2.2.2.2.2.1, x12.2.2.2.2.2.2)) else some (Sum.inr ())
def Qa.h (_ : Fu) (x12 : Int × Int × T2 × T8 × Int × Int × Bool × (List Bool) × T10 × Int) (x14 : Int × Int × T14 × T2 × Int × Int × Bool) : Option T13 := bif decide ((x12.2.2.1.length : Int) ≤ x14.2.1) then some (Sum.inl (2 : Int)) else some (Sum.inr ())
def Qa.i (m : Fu) (x14 : Int × Int × T14 × T2 × Int × Int × Bool) : Option T13 := (Vm m x14.2.2.1).bind fun x54 => bif decide ((256 : Int) < x54) then some (Sum.inl (2 : Int)) else some (Sum.inr ())
def Qa.j (_ : Fu) (x12 : Int × Int × T2 × T8 × Int × Int × Bool × (List Bool) × T10 × Int) (x14 : Int × Int × T14 × T2 × Int × Int × Bool) : Option (T6) := let x59 := mget (Jx (.pr Y18 .str)) x12.2.2.2.2.2.2.2.2.1 (x14.2.1, x14.2.2.1.1); bif x59.isSome then bif (decide ((0 : Int) ≤ (x59.getD 0))) && (decide ((x59.getD 0) < (x12.2.2.2.2.2.2.2.1.length : Int))) then bif Nat.blt ((x59.getD 0).toNat) x12.2.2.2.2.2.2.2.1.length then some (x12.2.1, x12.2.2.1, x12.2.2.2.1, x12.2.2.2.2.1, x12.2.2.2.2.2.1, x12.2.2.2.2.2.2.1, (x12.2.2.2.2.2.2.2.1.set ((x59.getD 0).toNat) true), (mdel (Jx (.pr Y18 .str)) x12.2.2.2.2.2.2.2.2.1 (x14.2.1, x14.2.2.1.1)), (IntKind.i64.wrap (x12.2.2.2.2.2.2.2.2.2 - (1 : Int)))) else none else none else some x12.2
def Qa.k (m : Fu) (x14 : Int × Int × T14 × T2 × Int × Int × Bool) (x63 : T6) : Option T13 := (Vd m (x14.2.2.1.1, x14.2.2.1.2.1, x14.2.2.1.2.2.1, x14.2.2.1.2.2.2.1, x14.2.2.1.2.2.2.2, x63.1)).bind fun x64 => bif x64 then some (Sum.inl (0 : Int)) else some (Sum.inr ())
def Qa.l (_ : Fu) (x63 : T6) : Option T13 := bif x63.2.2.2.2.2.2.2.2 == (1024 : Int) then some (Sum.inl (9 : Int)) else some (Sum.inr ())
def Qa.m (m : Fu) (x12 : Int × Int × T2 × T8 × Int × Int × Bool × (List Bool) × T10 × Int) (x14 : Int × Int × T14 × T2 × Int × Int × Bool) : Option (T15) := (Qa.i m x14).bind fun x56 => match x56 with | .inl x57 => some (x57, x12.2) | .inr _ => (Qa.j m x12 x14).bind fun x63 => (Qa.k m x14 x63).bind fun x65 => match x65 with | .inl x66 => some (x66, x63) | .inr _ => (Qa.l m x63).bind fun x69 => match x69 with | .inl x70 => some (x70, x63) | .inr _ => bif Nat.blt x63.2.2.2.2.2.2.2.1.length 4294967296 then let x74 := [(x14.2.1, x14.2.2.1)]; bif Nat.ble (x63.2.2.1.length + x74.length) 4294967296 then let x76 := [false]; bif Nat.ble (x63.2.2.2.2.2.2.1.length + x76.length) 140737488351232 then some ((0 : Int), x63.1, x63.2.1, (x63.2.2.1 ++ x74), x63.2.2.2.1, x63.2.2.2.2.1, x63.2.2.2.2.2.1, (x63.2.2.2.2.2.2.1 ++ x76), (mset (Jx (.pr Y18 .str)) x63.2.2.2.2.2.2.2.1 (x14.2.1, x14.2.2.1.1) (x63.2.2.1.length : Int)), (IntKind.i64.wrap (x63.2.2.2.2.2.2.2.2 + (1 : Int)))) else none else none else none
def Qa.n (_ : Fu) (x12 : Int × Int × T2 × T8 × Int × Int × Bool × (List Bool) × T10 × Int) (x14 : Int × Int × T14 × T2 × Int × Int × Bool) : Option (T6) := let x81 := mget (Jx (.pr Y18 .str)) x12.2.2.2.2.2.2.2.2.1 (x14.2.1, x14.2.2.2.1); bif x81.isSome then bif (decide ((0 : Int) ≤ (x81.getD 0))) && (decide ((x81.getD 0) < (x12.2.2.2.2.2.2.2.1.length : Int))) then bif Nat.blt ((x81.getD 0).toNat) x12.2.2.2.2.2.2.2.1.length then some (x12.2.1, x12.2.2.1, x12.2.2.2.1, x12.2.2.2.2.1, x12.2.2.2.2.2.1, x12.2.2.2.2.2.2.1, (x12.2.2.2.2.2.2.2.1.set ((x81.getD 0).toNat) true), (mdel (Jx (.pr Y18 .str)) x12.2.2.2.2.2.2.2.2.1 (x14.2.1, x14.2.2.2.1)), (IntKind.i64.wrap (x12.2.2.2.2.2.2.2.2.2 - (1 : Int)))) else none else none else some x12.2
def Qa.o (_ : Fu) (x89 : Bool) : Option (Unit ⊕ Unit) := bif x89 then some (Sum.inl ()) else some (Sum.inr ())
def Qa.p (m : Fu) (x88 : Int × Int × T2 × Int × Int × Bool × (List Bool) × T10 × Int × Int × Int × T2 × T2 × Int × Int × Int × T2 × Int × Int × Bool) (x92 : Int × T2 × T2 × Int × Int × Int) : Option (T12) := bif (decide ((0 : Int) ≤ x88.1)) && (decide (x88.1 < (x88.2.2.2.2.2.2.1.length : Int))) then bif Nat.blt x88.1.toNat x88.2.2.2.2.2.2.1.length then bif !(x88.2.2.2.2.2.2.1.getD x88.1.toNat false) then (J0 m (x92.1, x92.2.1, x92.2.2.1, x92.2.2.2.1, x92.2.2.2.2.1, x92.2.2.2.2.2, x88.2.2.2.2.2.2.2.2.2)).bind fun x95 => some x95 else some (false, x88.2.2.2.2.2.2.2.2.2) else none else none
def Qa.q (_ : Fu) (x88 : Int × Int × T2 × Int × Int × Bool × (List Bool) × T10 × Int × Int × Int × T2 × T2 × Int × Int × Int × T2 × Int × Int × Bool) (x92 : Int × T2 × T2 × Int × Int × Int) : Option ((Int × T2 × Int × Int × Bool × (List Bool) × T10 × Int)) := let x97 := mget (Jx (.pr Y18 .str)) x88.2.2.2.2.2.2.2.1 (x92.1, x92.2.1); bif x97.isSome then bif (decide ((0 : Int) ≤ (x97.getD 0))) && (decide ((x97.getD 0) < (x88.2.2.2.2.2.2.1.length : Int))) then bif Nat.blt ((x97.getD 0).toNat) x88.2.2.2.2.2.2.1.length then some (x88.2.1, x88.2.2.1, x88.2.2.2.1, x88.2.2.2.2.1, x88.2.2.2.2.2.1, (x88.2.2.2.2.2.2.1.set ((x97.getD 0).toNat) true), (mdel (Jx (.pr Y18 .str)) x88.2.2.2.2.2.2.2.1 (x92.1, x92.2.1)), (IntKind.i64.wrap (x88.2.2.2.2.2.2.2.2.1 - (1 : Int)))) else none else none else some (x88.2.1, x88.2.2.1, x88.2.2.2.1, x88.2.2.2.2.1, x88.2.2.2.2.2.1, x88.2.2.2.2.2.2.1, x88.2.2.2.2.2.2.2.1, x88.2.2.2.2.2.2.2.2.1)
def Qa.r (m : Fu) (x12 : Int × Int × T2 × T8 × Int × Int × Bool × (List Bool) × T10 × Int) (x87 : Int) (x88 : Int × Int × T2 × Int × Int × Bool × (List Bool) × T10 × Int × Int × Int × T2 × T2 × Int × Int × Int × T2 × Int × Int × Bool) : Option (Step (Int × Int × T2 × Int × Int × Bool × (List Bool) × T10 × Int × Int × Int × T2 × T2 × Int × Int × Int × T2 × Int × Int × Bool) (T6)) := (Qa.o m (decide (x88.1 < x87))).bind fun x90 => match x90 with | .inl _ => bif (decide ((0 : Int) ≤ x88.1)) && (decide (x88.1 < (x12.2.2.2.1.length : Int))) then bif Nat.blt x88.1.toNat x12.2.2.2.1.length then let x92 := x12.2.2.2.1.getD x88.1.toNat (0, ([], ([], (0, (0, 0))))); (Qa.p m x88 x92).bind fun x96 => bif x96.1 then (Qa.q m x88 x92).bind fun x101 => some (.next ((IntKind.i64.wrap (x88.1 + (1 : Int))), x101.1, x101.2.1, x101.2.2.1, x101.2.2.2.1, x101.2.2.2.2.1, x101.2.2.2.2.2.1, x101.2.2.2.2.2.2.1, x101.2.2.2.2.2.2.2, x96.2)) else some (.next ((IntKind.i64.wrap (x88.1 + (1 : Int))), x88.2.1, x88.2.2.1, x88.2.2.2.1, x88.2.2.2.2.1, x88.2.2.2.2.2.1, x88.2.2.2.2.2.2.1, x88.2.2.2.2.2.2.2.1, x88.2.2.2.2.2.2.2.2.1, x96.2)) else none else none | .inr _ => some (.fin (x88.2.1, x88.2.2.1, x12.2.2.2.1, x88.2.2.2.1, x88.2.2.2.2.1, x88.2.2.2.2.2.1, x88.2.2.2.2.2.2.1, x88.2.2.2.2.2.2.2.1, x88.2.2.2.2.2.2.2.2.1))
def Qa.s (m : Fu) (x12 : Int × Int × T2 × T8 × Int × Int × Bool × (List Bool) × T10 × Int) (x14 : Int × Int × T14 × T2 × Int × Int × Bool) : Option (T15) := (Qa.g m x12 x14).bind fun x45 => match x45 with | .inl x46 => some x46 | .inr _ => (Qa.h m x12 x14).bind fun x50 => match x50 with | .inl x51 => some (x51, x12.2) | .inr _ => bif x14.1 == (1 : Int) then (Qa.m m x12 x14).bind fun x79 => some x79 else bif x14.1 == (2 : Int) then (Qa.n m x12 x14).bind fun x85 => some ((0 : Int), x85) else bif x14.1 == (3 : Int) then (iter m (Qa.r m x12 (x12.2.2.2.1.length : Int)) ((0 : Int), x12.2.1, x12.2.2.1, x12.2.2.2.2.1, x12.2.2.2.2.2.1, x12.2.2.2.2.2.2.1, x12.2.2.2.2.2.2.2.1, x12.2.2.2.2.2.2.2.2.1, x12.2.2.2.2.2.2.2.2.2, x14.1, x14.2.1, x14.2.2.1.1, x14.2.2.1.2.1, x14.2.2.1.2.2.1, x14.2.2.1.2.2.2.1, x14.2.2.1.2.2.2.2, x14.2.2.2)).bind fun x105 => some ((0 : Int), x105) else bif x14.1 == (5 : Int) then bif (decide ((0 : Int) ≤ x14.2.1)) && (decide (x14.2.1 < (x12.2.2.1.length : Int))) then bif Nat.blt x14.2.1.toNat x12.2.2.1.length then some ((0 : Int), x12.2.1, (x12.2.2.1.set x14.2.1.toNat x14.2.2.2.2.2.1), x12.2.2.2) else none else none else some ((0 : Int), x12.2)
def Qa.t (m : Fu) (a6 : List T3) (x11 : Int) (x12 : Int × Int × T2 × T8 × Int × Int × Bool × (List Bool) × T10 × Int) : Option (Step T15 ((Int × Int × Int × Int × Bool) ⊕ T6)) := bif decide (x12.1 < x11) then bif (decide ((0 : Int) ≤ x12.1)) && (decide (x12.1 < (a6.length : Int))) then (Qa.s m x12 (a6.getD x12.1.toNat (0, (0, (([], ([], (0, (0, 0)))), ([], (0, (0, false)))))))).bind fun x108 => bif x108.1 != (0 : Int) then some (.fin (Sum.inl (x108.1, (0 : Int), (0 : Int), (0 : Int), false))) else some (.next ((IntKind.i64.wrap (x12.1 + (1 : Int))), x108.2)) else none else some (.fin (Sum.inr x12.2))
def Qa.u (_ : Fu) (x116 : Bool) : Option (Unit ⊕ Unit) := bif x116 then some (Sum.inl ()) else some (Sum.inr ())
def Qa.v (m : Fu) (x113 : Int × T2 × T8 × Int × Int × Bool × (List Bool) × T10 × Int) (x114 : Int) (x115 : T8 × Int) : Option (Step (T8 × Int) (T8)) := (Qa.u m (decide (x115.2 < x114))).bind fun x117 => match x117 with | .inl _ => bif (decide ((0 : Int) ≤ x115.2)) && (decide (x115.2 < (x113.2.2.1.length : Int))) then bif Nat.blt x115.2.toNat x113.2.2.1.length then bif (decide ((0 : Int) ≤ x115.2)) && (decide (x115.2 < (x113.2.2.2.2.2.2.1.length : Int))) then bif Nat.blt x115.2.toNat x113.2.2.2.2.2.2.1.length then bif !(x113.2.2.2.2.2.2.1.getD x115.2.toNat false) then let x122 := [(x113.2.2.1.getD x115.2.toNat (0, ([], ([], (0, (0, 0))))))]; bif Nat.ble (x115.1.length + x122.length) 4294967296 then some (.next ((x115.1 ++ x122), (IntKind.i64.wrap (x115.2 + (1 : Int))))) else none else some (.next (x115.1, (IntKind.i64.wrap (x115.2 + (1 : Int))))) else none else none else none else none | .inr _ => some (.fin x115.1)
def Qa (m : Fu) (p : Int × T2 × T8 × Int × Int × Bool × (List T3)) : Option (Int × T2 × T8 × Int × Int × Bool × Int) := let a0 := p.1; let a1 := p.2.1; let a2 := p.2.2.1; let a3 := p.2.2.2.1; let a4 := p.2.2.2.2.1; let a5 := p.2.2.2.2.2.1; let a6 := p.2.2.2.2.2.2; (ZK m (a0, a1, a2, a3, a4, a5)).bind fun x1 => bif x1 != (0 : Int) then some ((0 : Int), ([] : List Int), ([] : List T1), (0 : Int), (0 : Int), false, x1) else (Qw m a6).bind fun x3 => bif x3.2 != (0 : Int) then some ((0 : Int), ([] : List Int), ([] : List T1), (0 : Int), (0 : Int), false, x3.2) else (QY m a1).bind fun x5 => (QQ m a2).bind fun x6 => let x7 := (x6.length : Int); bif ((decide ((0 : Int) ≤ x7)) && (decide (x7 ≤ x7))) && (decide (x7 ≤ (4294967296 : Int))) then (ZO m x6).bind fun x9 => (iter m (Qa.t m a6 (a6.length : Int)) ((0 : Int), a0, x5, x6, a3, a4, a5, (List.replicate x7.toNat false), x9, (x6.length : Int))).bind fun x111 => match x111 with | .inl x112 => some (x112.2.1, ([] : List Int), ([] : List T1), x112.2.2.1, x112.2.2.2.1, x112.2.2.2.2, x112.1) | .inr x113 => (iter m (Qa.v m x113 (x113.2.2.1.length : Int)) (([] : List T1), (0 : Int))).bind fun x127 => some (x113.1, x113.2.1, x127, x113.2.2.2.1, x113.2.2.2.2.1, x113.2.2.2.2.2.1, (0 : Int)) else none
def Qa.K : SK Tryz.prog := mkK mix [ZK.K, Qw.K, QY.K, QQ.K, ZO.K, J1.K, Vm.K, Vd.K, J0.K] [(30, .inl [(1, [])]),
 (126, .inl [(1, [(58, .loop ⟨[(3, false, [.own Y17 964 .wr]), (12, false, [k25])], [], [], [], 965⟩ [(.exit 0, ⟨[(3, false, [.own Y17 964 .wr])], [], [], [], 965⟩)]), (466, .jnt [(.normal, ⟨[], [], [], [], 981⟩), (.exit 0, ⟨[], [], [], [], 981⟩)])])]),
 (250, .loop ⟨[(32, false, [k25])], [(704, [k25, .own Y18 800 .wr, .own Y17 801 .wr, k25, k25, k26, .own .bool 802 .wr, .own Y23 803 (.mp true false), k25])], [], [384, 432, 576, 624], 804⟩ [(.ret, ⟨[(5, false, [k25])], [(48, [k25, .cst .nils, .cst .nils, k25, k25, k26])], [], [384, 432, 576, 624, 704], 800⟩), (.exit 0, ⟨[], [(704, [k25, .own Y18 800 .wr, .own Y17 801 .wr, k25, k25, k26, .own .bool 802 .wr, .own Y23 803 (.mp true false), k25])], [], [384, 432, 576, 624], 804⟩)]),
 (32050, .inl [(2, [(1, .jnt [(.ret, ⟨[(4, false, [k25])], [(704, [k25, .own Y18 916 .wr, .own Y17 917 .wr, k25, k25, k26, .own .bool 918 .wr, .own Y23 919 (.mp true false), k25])], [], [800, 801, 802, 803], 920⟩)]), (6, .jnt [(.ret, ⟨[(4, false, [k25])], [(704, [k25, .own Y18 948 .wr, .own Y17 949 .wr, k25, k25, k26, .own .bool 950 .wr, .own Y23 951 (.mp true false), k25])], [], [800, 801, 802, 803, 916], 952⟩), (.normal, ⟨[], [], [], [], 948⟩)]), (14, .jnt [(.ret, ⟨[(4, false, [k25])], [], [], [], 948⟩), (.normal, ⟨[], [], [], [], 948⟩)]), (212, .jnt [(.ret, ⟨[(4, false, [k25])], [], [], [], 1012⟩), (.normal, ⟨[], [], [], [], 1012⟩)]), (854, .inl [(2, [(6, .loop ⟨[(12, false, [k25])], [(704, [k25, .own Y18 1268 .wr, .cst (.own Y17 801), k25, k25, k26, .own .bool 1269 .wr, .own Y23 1270 (.mp true false), k25]), (916, [.dat Y20, k25, k28, k28, k27, k25, .dat Y24, k28, .dat Y20, k25, k26])], [], [800, 802, 803], 1271⟩ [(.exit 0, ⟨[], [(704, [k25, .own Y18 1268 .wr, .own Y17 1269 .wr, k25, k25, k26, .own .bool 1270 .wr, .own Y23 1271 (.mp true false), k25])], [], [800, 801, 802, 803, 916], 1272⟩)]), (50, .jnt [(.normal, ⟨[], [], [], [], 1287⟩), (.exit 0, ⟨[], [], [], [], 1287⟩)]), (818, .jnt [(.normal, ⟨[(29, false, [k26])], [(916, [.dat Y20, k25, k28, k28, k27, k25, .dat Y24, k28, .dat Y20, k25, k26])], [], [], 1383⟩)]), (1638, .inl [(7, [(1, .jnt [(.normal, ⟨[], [(704, [k25, .own Y18 1495 .wr, .cst (.own Y17 801), k25, k25, k26, .own .bool 1496 .wr, .own Y23 1497 (.mp true false), k25])], [], [1268, 1269, 1270], 1498⟩)])])])])]), (860, .jnt [(.ret, ⟨[(4, false, [k25])], [], [], [], 1044⟩), (.normal, ⟨[], [], [], [], 1044⟩)]), (980, .inl [(5, [(1, .jnt [(.ret, ⟨[(6, false, [k25])], [(704, [k25, .own Y18 1092 .wr, .own Y17 1093 .wr, k25, k25, k26, .own .bool 1094 .wr, .own Y23 1095 (.mp true false), k25])], [], [800, 801, 802, 803], 1096⟩)]), (6, .jnt [(.ret, ⟨[(6, false, [k25])], [], [], [], 1124⟩), (.normal, ⟨[], [], [], [], 1124⟩)]), (30, .inl [(2, [(1, .jnt [(.normal, ⟨[], [(704, [k25, .own Y18 1252 .wr, .own Y17 1253 .wr, k25, k25, k26, .own .bool 1254 .wr, .own Y23 1255 (.mp true false), k25])], [], [800, 801, 802, 803], 1256⟩)])])]), (62, .jnt [(.ret, ⟨[(6, false, [k25])], [], [], [], 1256⟩), (.normal, ⟨[], [], [], [], 1256⟩)]), (126, .jnt [(.ret, ⟨[(6, false, [k25])], [], [], [], 1256⟩), (.normal, ⟨[], [], [], [], 1256⟩)])])]), (1966, .inl [(6, [(1, .jnt [(.normal, ⟨[], [(704, [k25, .own Y18 1140 .wr, .own Y17 1141 .wr, k25, k25, k26, .own .bool 1142 .wr, .own Y23 1143 (.mp true false), k25])], [], [800, 801, 802, 803], 1144⟩)])])]), (7870, .inl [(2, [(6, .loop ⟨[(12, false, [k25])], [(704, [k25, .own Y18 1220 .wr, .cst (.own Y17 801), k25, k25, k26, .own .bool 1221 .wr, .own Y23 1222 (.mp true false), k25]), (916, [.dat Y20, k25, k28, k28, k27, k25, .dat Y24, k28, .dat Y20, k25, k26])], [], [800, 802, 803], 1223⟩ [(.exit 0, ⟨[], [(704, [k25, .own Y18 1220 .wr, .own Y17 1221 .wr, k25, k25, k26, .own .bool 1222 .wr, .own Y23 1223 (.mp true false), k25])], [], [800, 801, 802, 803, 916], 1224⟩)]), (50, .jnt [(.normal, ⟨[], [], [], [], 1239⟩), (.exit 0, ⟨[], [], [], [], 1239⟩)]), (818, .jnt [(.normal, ⟨[(29, false, [k26])], [(916, [.dat Y20, k25, k28, k28, k27, k25, .dat Y24, k28, .dat Y20, k25, k26])], [], [], 1335⟩)]), (1638, .inl [(7, [(1, .jnt [(.normal, ⟨[], [(704, [k25, .own Y18 1447 .wr, .cst (.own Y17 801), k25, k25, k26, .own .bool 1448 .wr, .own Y23 1449 (.mp true false), k25])], [], [1220, 1221, 1222], 1450⟩)])])])])])])])] 65 Tryz.f65 ⟨[.val true [.int .i64, .sl Y18, .sl Y17, .int .i64, .int .i64, .bool], .val false [.sl Y19]], [(true, [k25, .own Y18 0 .wr, .own Y17 0 .wr, k25, k25, k26]), (false, [k25])]⟩ Qa (by kernel_rfl) (by kernel_rfl) (by kernel_rfl)
def Qn.a (_ : Fu) (x1 : Int × Int) : Option T13 := bif x1.2 != (0 : Int) then some (Sum.inl x1.2) else some (Sum.inr ())
def Qn.b (_ : Fu) (x1 : Int × Int) : Option T13 := bif decide (x1.1 < (3 : Int)) then some (Sum.inl (230 : Int)) else some (Sum.inr ())
def Qn.c (_ : Fu) (x12 : T2 × Int) : Option T13 := bif x12.2 != (0 : Int) then some (Sum.inl x12.2) else some (Sum.inr ())
def Qn.d (_ : Fu) (x22 : Bool) : Option (Unit ⊕ Unit) := bif x22 then some (Sum.inl ()) else some (Sum.inr ())
def Qn.e (m : Fu) (x12 : T2 × Int) (x21 : Int × T2 × Int × Int × Int × Int × Int × Int × Int × Int × Int × Bool) : Option T5 := (Qn.d m (decide (x21.1 < (4 : Int)))).bind fun x23 => match x23 with | .inl _ => bif (decide ((0 : Int) ≤ x21.1)) && (decide (x21.1 < (x12.1.length : Int))) then bif Nat.blt x21.1.toNat x12.1.length then let x27 := IntKind.i64.wrap ((8 : Int) * x21.1); bif decide (x27 < (0 : Int)) then none else some (.next ((IntKind.i64.wrap (x21.1 + (1 : Int))), x21.2.1, (VG .or .u32 x21.2.2.1 (Qdz .u32 (IntKind.u32.wrap (x12.1.getD x21.1.toNat 0)) x27)), x21.2.2.2)) else none else none | .inr _ => some (.fin x21.2)
def Qn.f (m : Fu) (x32 : (T2 × Int × Int × Int × Int × Int × Int × Int × Int × Int × Bool)) : Option ((Bool × T2 × Int × Int × Int × T11 × Int × Int × Int × Int × Int × Int × Bool) ⊕ (T2 × Int × Int × Int × T11 × Int × Int × Int × Int × Int × Int × Bool)) := (Qh m (x32.2.2.2.1, x32.2.2.1)).bind fun x38 => (Qz m (x32.1, x32.2.1, x38, x32.2.2.2.1)).bind fun x39 => bif x39.2.2.2.2 != (0 : Int) then some (Sum.inl (false, x32.1, x32.2.1, x32.2.2.1, x32.2.2.2.1, x39.1, x39.2.1, x39.2.2.1, x39.2.2.2.1, x32.2.2.2.2.2.2.2)) else bif (x39.1.length : Int) == (0 : Int) then some (Sum.inl (false, x32.1, x32.2.1, x32.2.2.1, x32.2.2.2.1, x39.1, x39.2.1, x39.2.2.1, x39.2.2.2.1, x32.2.2.2.2.2.2.2)) else some (Sum.inr (x32.1, x32.2.1, x32.2.2.1, x32.2.2.2.1, x39.1, x39.2.1, x39.2.2.1, x39.2.2.2.1, x32.2.2.2.2.2.2.2))
def Qn.g (m : Fu) (x45 : T2 × Int × Int × Int × T11 × Int × Int × Int × Int × Int × Int × Bool) : Option T9 := bif decide ((0 : Int) < (x45.2.2.2.2.1.length : Int)) then bif Nat.blt 0 x45.2.2.2.2.1.length then (Qv m (x45.2.2.2.2.1.getD 0 [])).bind fun x47 => bif x47.2.2.2.2.2.2 != (0 : Int) then some (Sum.inl (false, x45.1, x45.2.1, x45.2.2.1, x45.2.2.2.1, x45.2.2.2.2.1, x45.2.2.2.2.2.1, x45.2.2.2.2.2.2.1, x45.2.2.2.2.2.2.2.1, x47.1, x47.2.1, x47.2.2.1, x47.2.2.2.1, x47.2.2.2.2.1, x47.2.2.2.2.2.1)) else some (Sum.inr (x45.1, x45.2.1, x45.2.2.1, x45.2.2.2.1, x45.2.2.2.2.1, x45.2.2.2.2.2.1, x45.2.2.2.2.2.2.1, x45.2.2.2.2.2.2.2.1, x47.1, x47.2.1, x47.2.2.1, x47.2.2.2.1, x47.2.2.2.2.1, x47.2.2.2.2.2.1)) else none else none
def Qn.h (_ : Fu) (x55 : Bool) : Option (Unit ⊕ Unit) := bif x55 then some (Sum.inl ()) else some (Sum.inr ())
def Qn.i (_ : Fu) (x59 : (List T3) × Int) : Option (Bool ⊕ Unit) := bif x59.2 != (0 : Int) then some (Sum.inl false) else some (Sum.inr ())
def Qn.j (m : Fu) (x52 : List T2) (x53 : Int) (x54 : Int × T2 × Int × Int × Int × T11 × Int × Int × Int × Int × T2 × T8 × Int × Int × Bool) : Option (Step (Int × T2 × Int × Int × Int × T11 × Int × Int × Int × Int × T2 × T8 × Int × Int × Bool) T9) := (Qn.h m (decide (x54.1 < x53))).bind fun x56 => match x56 with | .inl _ => bif (decide ((0 : Int) ≤ x54.1)) && (decide (x54.1 < (x52.length : Int))) then (Qx m (x52.getD x54.1.toNat [])).bind fun x59 => (Qn.i m x59).bind fun x61 => match x61 with | .inl x62 => some (.fin (Sum.inl (x62, x54.2))) | .inr _ => (Qa m (x54.2.2.2.2.2.2.2.2.2.1, x54.2.2.2.2.2.2.2.2.2.2.1, x54.2.2.2.2.2.2.2.2.2.2.2.1, x54.2.2.2.2.2.2.2.2.2.2.2.2.1, x54.2.2.2.2.2.2.2.2.2.2.2.2.2.1, x54.2.2.2.2.2.2.2.2.2.2.2.2.2.2, x59.1)).bind fun x64 => bif x64.2.2.2.2.2.2 != (0 : Int) then some (.fin (Sum.inl (false, x54.2.1, x54.2.2.1, x54.2.2.2.1, x54.2.2.2.2.1, x54.2.2.2.2.2.1, x54.2.2.2.2.2.2.1, x54.2.2.2.2.2.2.2.1, x54.2.2.2.2.2.2.2.2.1, x64.1, x64.2.1, x64.2.2.1, x64.2.2.2.1, x64.2.2.2.2.1, x64.2.2.2.2.2.1))) else some (.next ((IntKind.i64.wrap (x54.1 + (1 : Int))), x54.2.1, x54.2.2.1, x54.2.2.2.1, x54.2.2.2.2.1, x54.2.2.2.2.2.1, x54.2.2.2.2.2.2.1, x54.2.2.2.2.2.2.2.1, x54.2.2.2.2.2.2.2.2.1, x64.1, x64.2.1, x64.2.2.1, x64.2.2.2.1, x64.2.2.2.2.1, x64.2.2.2.2.2.1)) else none | .inr _ => some (.fin (Sum.inr x54.2))
def Qn.k (m : Fu) (x32 : (T2 × Int × Int × Int × Int × Int × Int × Int × Int × Int × Bool)) : Option ((Bool × T2 × Int × Int × Int × T11 × Int × Int × Int × Int × T2 × T8 × Int × Int × Bool)) := (Qn.f m x32).bind fun x43 => match x43 with | .inl x44 => some (x44.1, x44.2.1, x44.2.2.1, x44.2.2.2.1, x44.2.2.2.2.1, x44.2.2.2.2.2.1, x44.2.2.2.2.2.2.1, x44.2.2.2.2.2.2.2.1, x44.2.2.2.2.2.2.2.2.1, x44.2.2.2.2.2.2.2.2.2.1, ([] : List Int), ([] : List T1), x44.2.2.2.2.2.2.2.2.2.2) | .inr x45 => (Qn.g m x45).bind fun x49 => match x49 with | .inl x50 => some x50 | .inr x51 => bif ((decide ((1 : Int) ≤ (x51.2.2.2.2.1.length : Int))) && (decide ((x51.2.2.2.2.1.length : Int) ≤ (x51.2.2.2.2.1.length : Int)))) && (decide ((x51.2.2.2.2.1.length : Int) ≤ (x51.2.2.2.2.1.length : Int))) then let x52 := (x51.2.2.2.2.1.take ((x51.2.2.2.2.1.length : Int).toNat)).drop 1; (iter m (Qn.j m x52 (x52.length : Int)) ((0 : Int), x51)).bind fun x68 => match x68 with | .inl x69 => some x69 | .inr x70 => some (true, x70) else none
def Qn (m : Fu) (p : List Int) : Option (Int × T2 × T8 × Int × Int × Bool × Int × Int) := let a0 := p; (ZW m a0).bind fun x1 => (Qn.a m x1).bind fun x3 => match x3 with | .inl x4 => bif x4 != (0 : Int) then some ((0 : Int), ([] : List Int), ([] : List T1), (0 : Int), (0 : Int), false, (0 : Int), x4) else none | .inr _ => (Qn.b m x1).bind fun x8 => match x8 with | .inl x9 => bif x9 != (0 : Int) then some ((0 : Int), ([] : List Int), ([] : List T1), (0 : Int), (0 : Int), false, (0 : Int), x9) else none | .inr _ => (Z0 m (a0, (0 : Int))).bind fun x12 => (Qn.c m x12).bind fun x14 => match x14 with | .inl x15 => bif x15 != (0 : Int) then some ((0 : Int), ([] : List Int), ([] : List T1), (0 : Int), (0 : Int), false, (0 : Int), x15) else none | .inr _ => bif decide ((4 : Int) < (x12.1.length : Int)) then bif Nat.blt 4 x12.1.length then (Zq m x1.1).bind fun x20 => (iter m (Qn.e m x12) ((0 : Int), a0, (0 : Int), (IntKind.i64.wrap (x12.1.getD 4 0)), x20, (0 : Int), (0 : Int), (0 : Int), (0 : Int), (0 : Int), (0 : Int), false)).bind fun x32 => bif x32.2.1 == (0 : Int) then some ((0 : Int), ([] : List Int), ([] : List T1), (0 : Int), (0 : Int), false, (0 : Int), (230 : Int)) else bif decide ((1 : Int) < x32.2.2.1) then some ((0 : Int), ([] : List Int), ([] : List T1), (0 : Int), (0 : Int), false, (0 : Int), (230 : Int)) else (Qu m (x32.2.1, x32.2.2.1)).bind fun x35 => (QK m (x35.2, x12.1)).bind fun x36 => bif !x36 then some ((0 : Int), ([] : List Int), ([] : List T1), (0 : Int), (0 : Int), false, (0 : Int), (230 : Int)) else (Qn.k m x32).bind fun x71 => bif !x71.1 then some ((0 : Int), ([] : List Int), ([] : List T1), (0 : Int), (0 : Int), false, (0 : Int), (230 : Int)) else some (x71.2.2.2.2.2.2.2.2.2.1, x71.2.2.2.2.2.2.2.2.2.2.1, x71.2.2.2.2.2.2.2.2.2.2.2.1, x71.2.2.2.2.2.2.2.2.2.2.2.2.1, x71.2.2.2.2.2.2.2.2.2.2.2.2.2.1, x71.2.2.2.2.2.2.2.2.2.2.2.2.2.2, (IntKind.i64.wrap ((x71.2.2.2.2.2.1.length : Int) - (1 : Int))), (0 : Int)) else none else none
def Qn.K : SK Tryz.prog := mkK mix [ZW.K, Z0.K, Zq.K, Qu.K, QK.K, Qh.K, Qz.K, Qv.K, Qx.K, Qa.K] [(6, .inl [(1, [(14, .jnt [(.ret, ⟨[(2, false, [.cst .nilp]), (3, false, [k25])], [], [], [], 256⟩), (.normal, ⟨[], [], [], [], 256⟩)]), (30, .jnt [(.ret, ⟨[(2, false, [.cst .nilp]), (3, false, [k25])], [], [], [], 256⟩), (.normal, ⟨[], [], [], [], 256⟩)]), (126, .jnt [(.ret, ⟨[(2, false, [.cst .nilp]), (3, false, [k25])], [], [], [], 368⟩), (.normal, ⟨[], [], [], [], 368⟩)]), (2042, .loop ⟨[(36, false, [k25])], [(496, [.dat Y22, k27, k25, k25, .cst .nils, k25, k27, k27, k25, .cst .nils, .cst .nils, k25, k25, k26])], [], [], 544⟩ [(.exit 0, ⟨[], [(496, [.dat Y22, k27, k25, k25, .cst .nils, k25, k27, k27, k25, .cst .nils, .cst .nils, k25, k25, k26])], [], [], 544⟩)]), (2044, .inl [(29, [(1, .jnt [(.ret, ⟨[(2, false, [k26])], [(496, [.dat Y22, k27, k25, k25, .own Y22 1056 .fr, k25, k27, k27, k25, .own Y18 1057 .wr, .own Y17 1058 .wr, k25, k25, k26])], [], [], 1059⟩)]), (14, .jnt [(.ret, ⟨[(2, false, [k26])], [(496, [.dat Y22, k27, k25, k25, .own Y22 1088 .wr, k25, k27, k27, k25, .cst .nils, .cst .nils, k25, k25, k26])], [], [], 1089⟩), (.normal, ⟨[], [(496, [.dat Y22, k27, k25, k25, .own Y22 1088 .wr, k25, k27, k27, k25, .cst .nils, .cst .nils, k25, k25, k26])], [], [], 1089⟩)]), (30, .jnt [(.ret, ⟨[(2, false, [k26])], [(496, [.dat Y22, k27, k25, k25, .own Y22 1089 .wr, k25, k27, k27, k25, .own Y18 1090 .wr, .own Y17 1091 .wr, k25, k25, k26])], [], [1088], 1092⟩), (.normal, ⟨[], [(496, [.dat Y22, k27, k25, k25, .own Y22 1089 .wr, k25, k27, k27, k25, .own Y18 1090 .wr, .own Y17 1091 .wr, k25, k25, k26])], [], [1088], 1092⟩)]), (250, .loop ⟨[(67, false, [k25])], [(496, [.dat Y22, k27, k25, k25, .own Y22 1220 .fr, k25, k27, k27, k25, .own Y18 1221 .wr, .own Y17 1222 .wr, k25, k25, k26])], [], [1089, 1090, 1091], 1223⟩ [(.ret, ⟨[(2, false, [k26])], [(496, [.dat Y22, k27, k25, k25, .own Y22 1220 .fr, k25, k27, k27, k25, .own Y18 1221 .wr, .own Y17 1222 .wr, k25, k25, k26])], [], [1089, 1090, 1091], 1223⟩), (.exit 0, ⟨[], [(496, [.dat Y22, k27, k25, k25, .own Y22 1220 .fr, k25, k27, k27, k25, .own Y18 1221 .wr, .own Y17 1222 .wr, k25, k25, k26])], [], [1089, 1090, 1091], 1223⟩)]), (2002, .jnt [(.normal, ⟨[], [], [], [], 1239⟩), (.exit 0, ⟨[], [], [], [], 1239⟩)]), (64102, .jnt [(.ret, ⟨[(2, false, [k26])], [], [], [], 1399⟩), (.normal, ⟨[], [], [], [], 1399⟩)])])]), (16338, .jnt [(.normal, ⟨[], [], [], [], 560⟩), (.exit 0, ⟨[], [], [], [], 560⟩)])])])] 9 Tryz.f9 ⟨[.val true [.sl Y20]], [(true, [k25, .own Y18 0 .wr, .own Y17 0 .wr, k25, k25, k26]), (false, [k25]), (false, [k25])]⟩ Qn (by kernel_rfl) (by kernel_rfl) (by kernel_rfl)
def Jt (_ : Fu) (p : T2 × Int) : Option T2 := let a0 := p.1; let a1 := p.2; let x1 := IntKind.i64.wrap (a1 * (64 : Int)); let x3 := IntKind.i64.wrap ((IntKind.i64.wrap (a1 * (64 : Int))) + (64 : Int)); bif (((decide ((0 : Int) ≤ x1)) && (decide (x1 ≤ x3))) && (decide (x3 ≤ (a0.length : Int)))) && (decide ((a0.length : Int) ≤ (a0.length : Int))) then let x4 := (a0.take x3.toNat).drop x1.toNat; bif Nat.ble x4.length 140737488351232 then some x4 else none else none
def Jt.K : SK Tryz.prog := mkK mix [] [] 61 Tryz.f61 ⟨[.val true [.sl Y20], .val false [.int .i64]], [(false, [.own Y20 0 .wr])]⟩ Jt (by kernel_rfl) (by kernel_rfl) (by kernel_rfl)
def Zz (_ : Fu) (p : Int × Int × Int × T11 × Int × Int × Int × Int × T2 × T8 × Int × Int × Bool × Int) : Option (Int) := let a2 := p.2.2.1; let a13 := p.2.2.2.2.2.2.2.2.2.2.2.2.2; some (IntKind.i64.wrap ((1 : Int) + (IntKind.i64.wrap (a13 * a2))))
def Zz.K : SK Tryz.prog := mkK mix [] [] 41 Tryz.f41 ⟨[.val true [.int .u32, .int .i64, .int .i64, .sl Y22, .int .i64, .int .u32, .int .u32, .int .i64, .sl Y18, .sl Y17, .int .i64, .int .i64, .bool], .val false [.int .i64]], [(false, [k25])]⟩ Zz (by kernel_rfl) (by kernel_rfl) (by kernel_rfl)
def J7 (m : Fu) (p : T2 × Int × Int) : Option (Int) := let a0 := p.1; let a1 := p.2.1; let a2 := p.2.2; (JC m a0).bind fun x1 => bif x1 != (0 : Int) then some x1 else (JJ m a0).bind fun x3 => bif decide (a1 < (0 : Int)) then some (2 : Int) else bif decide (a2 < (0 : Int)) then some (2 : Int) else bif decide (x3 < a1) then some (2 : Int) else bif decide ((IntKind.i64.wrap (x3 - a1)) < a2) then some (2 : Int) else some (0 : Int)
def J7.K : SK Tryz.prog := mkK mix [JC.K, JJ.K] [] 73 Tryz.f73 ⟨[.val true [.sl Y20], .val false [.int .i64], .val false [.int .i64]], [(false, [k25])]⟩ J7 (by kernel_rfl) (by kernel_rfl) (by kernel_rfl)
def ZL.a (m : Fu) (a0 : List Int) (a1 : Int) (a2 : Int) (x1 : T11 × Int) : Option (Step (T11 × Int) (T11)) := bif decide (x1.2 < a2) then (Jt m (a0, (IntKind.i64.wrap (a1 + x1.2)))).bind fun x4 => let x5 := [x4]; bif Nat.ble (x1.1.length + x5.length) 4294967296 then some (.next ((x1.1 ++ x5), (IntKind.i64.wrap (x1.2 + (1 : Int))))) else none else some (.fin x1.1)
def ZL (m : Fu) (p : T2 × Int × Int) : Option T11 := let a0 := p.1; let a1 := p.2.1; let a2 := p.2.2; (iter m (ZL.a m a0 a1 a2) (([] : List T2), (0 : Int))).bind fun x8 => some x8
def ZL.K : SK Tryz.prog := mkK mix [Jt.K] [(58, .loop ⟨[(7, false, [.own Y22 112 .wr]), (8, false, [k25])], [], [], [], 113⟩ [(.exit 0, ⟨[(7, false, [.own Y22 112 .wr])], [], [], [], 113⟩)])] 74 Tryz.f74 ⟨[.val true [.sl Y20], .val false [.int .i64], .val false [.int .i64]], [(false, [.own Y22 0 .wr])]⟩ ZL (by kernel_rfl) (by kernel_rfl) (by kernel_rfl)
def Zl (_ : Fu) (p : List Int) : Option (Int) := let a0 := p; bif decide ((0 : Int) < (a0.length : Int)) then bif decide ((1 : Int) < (a0.length : Int)) then bif decide ((2 : Int) < (a0.length : Int)) then bif decide ((3 : Int) < (a0.length : Int)) then some (IntKind.u32.wrap ((IntKind.u32.wrap ((IntKind.u32.wrap ((IntKind.u32.wrap (a0.getD 0 0)) + (IntKind.u32.wrap ((IntKind.u32.wrap (a0.getD 1 0)) * (256 : Int))))) + (IntKind.u32.wrap ((IntKind.u32.wrap (a0.getD 2 0)) * (65536 : Int))))) + (IntKind.u32.wrap ((IntKind.u32.wrap (a0.getD 3 0)) * (16777216 : Int))))) else none else none else none else none
def Zl.K : SK Tryz.prog := mkK mix [] [] 75 Tryz.f75 ⟨[.val false [.sl Y20]], [(false, [k27])]⟩ Zl (by kernel_rfl) (by kernel_rfl) (by kernel_rfl)
def QW.a (_ : Fu) (a3 : List T2) (x15 : Int) (x19 : T2 × Int) : Option (Step (T2 × Int) ((Int × Int × Int) ⊕ T2)) := bif decide (x19.2 < x15) then bif (decide ((0 : Int) ≤ x19.2)) && (decide (x19.2 < (a3.length : Int))) then let x21 := a3.getD x19.2.toNat []; bif decide ((20 : Int) < (x21.length : Int)) then let x23 := IntKind.i64.wrap (x21.getD 20 0); bif decide ((43 : Int) < x23) then some (.fin (Sum.inl ((0 : Int), (0 : Int), (6 : Int)))) else bif (decide ((0 : Int) ≤ x19.2)) && (decide (x19.2 < (a3.length : Int))) then let x25 := a3.getD x19.2.toNat []; let x26 := IntKind.i64.wrap ((21 : Int) + x23); bif ((decide ((21 : Int) ≤ x26)) && (decide (x26 ≤ (x25.length : Int)))) && (decide ((x25.length : Int) ≤ (x25.length : Int))) then let x27 := (x25.take x26.toNat).drop 21; bif Nat.ble (x19.1.length + x27.length) 140737488351232 then some (.next ((x19.1 ++ x27), (IntKind.i64.wrap (x19.2 + (1 : Int))))) else none else none else none else none else none else some (.fin (Sum.inr x19.1))
def QW.b (_ : Fu) (a3 : List T2) (x15 : Int) (x33 : T11 × Int) (x37 : Int) : Option (Step Int ((Int × Int × Int) ⊕ Unit)) := bif decide (x37 < x15) then bif (decide ((0 : Int) ≤ x37)) && (decide (x37 < (x33.1.length : Int))) then bif Nat.blt x37.toNat x33.1.length then bif (decide ((0 : Int) ≤ x37)) && (decide (x37 < (a3.length : Int))) then bif !((x33.1.getD x37.toNat []) == (a3.getD x37.toNat [])) then some (.fin (Sum.inl ((0 : Int), (0 : Int), (6 : Int)))) else some (.next (IntKind.i64.wrap (x37 + (1 : Int)))) else none else none else none else some (.fin (Sum.inr ()))
def QW (m : Fu) (p : Int × Int × Int × T11) : Option (T2 × Int × Int × Int) := let a0 := p.1; let a1 := p.2.1; let a2 := p.2.2.1; let a3 := p.2.2.2; bif (a3.length : Int) == (0 : Int) then some (([] : List Int), (0 : Int), (0 : Int), (6 : Int)) else bif a0 == (0 : Int) then some (([] : List Int), (0 : Int), (0 : Int), (6 : Int)) else bif a1 == (0 : Int) then some (([] : List Int), (0 : Int), (0 : Int), (6 : Int)) else bif decide ((0 : Int) < (a3.length : Int)) then let x5 := a3.getD 0 []; bif (decide ((12 : Int) ≤ (x5.length : Int))) && (decide ((x5.length : Int) ≤ (x5.length : Int))) then (Zl m ((x5.take 12).drop 8)).bind fun x7 => bif decide ((0 : Int) < (a3.length : Int)) then let x8 := a3.getD 0 []; bif decide ((18 : Int) < (x8.length : Int)) then bif decide ((0 : Int) < (a3.length : Int)) then let x11 := a3.getD 0 []; bif decide ((19 : Int) < (x11.length : Int)) then let x15 := IntKind.i64.wrap ((IntKind.i64.wrap (x8.getD 18 0)) + (IntKind.i64.wrap ((IntKind.i64.wrap (x11.getD 19 0)) * (256 : Int)))); bif decide (x15 < (1 : Int)) then some (([] : List Int), (0 : Int), (0 : Int), (6 : Int)) else bif decide ((a3.length : Int) < x15) then some (([] : List Int), (0 : Int), (0 : Int), (6 : Int)) else (iter m (QW.a m a3 x15) (([] : List Int), (0 : Int))).bind fun x30 => match x30 with | .inl x31 => some (([] : List Int), x31) | .inr x32 => (Q5 m (a0, a1, x7, a2, x32)).bind fun x33 => bif x33.2 != (0 : Int) then some (([] : List Int), (0 : Int), (0 : Int), (6 : Int)) else bif (x33.1.length : Int) != x15 then some (([] : List Int), (0 : Int), (0 : Int), (6 : Int)) else (iter m (QW.b m a3 x15 x33) (0 : Int)).bind fun x43 => match x43 with | .inl x44 => some (([] : List Int), x44) | .inr _ => some (x32, x7, x15, (0 : Int)) else none else none else none else none else none else none
def QW.K : SK Tryz.prog := mkK mix [Zl.K, Q5.K] [(1018, .loop ⟨[(14, false, [.own Y20 800 .wr]), (15, false, [k25])], [], [], [], 801⟩ [(.ret, ⟨[(8, false, [.cst .nils]), (9, false, [k27]), (10, false, [k25]), (11, false, [k25])], [], [], [], 800⟩), (.exit 0, ⟨[(14, false, [.own Y20 800 .wr])], [], [], [], 801⟩)]),
 (8186, .loop ⟨[(19, false, [k25])], [], [], [], 1121⟩ [(.ret, ⟨[(8, false, [.cst .nils]), (9, false, [k27]), (10, false, [k25]), (11, false, [k25])], [], [], [], 1121⟩), (.exit 2, ⟨[], [], [], [], 1121⟩)])] 91 Tryz.f91 ⟨[.val false [.int .u32], .val false [.int .u32], .val false [.int .u32], .val false [.sl Y22]], [(false, [.own Y20 0 .fr]), (false, [k27]), (false, [k25]), (false, [k25])]⟩ QW (by kernel_rfl) (by kernel_rfl) (by kernel_rfl)
def QX.a (_ : Fu) (a1 : Int) (x1 : Int) : Option (Int) := bif x1 == (0 : Int) then bif a1 == (0 : Int) then some (2 : Int) else some x1 else some x1
def QX.b (m : Fu) (a1 : Int) (x7 : T11 × T11 × Int × Int × Int) : Option (Step (T11 × T11 × Int × Int × Int) ((T11 × T11 × Int × Int × Int))) := (QW m (a1, (IntKind.u32.wrap (IntKind.i64.wrap ((x7.2.1.length : Int) + (1 : Int)))), x7.2.2.2.1, x7.1)).bind fun x11 => bif x11.2.2.2 != (0 : Int) then some (.fin x7) else let x13 := [x11.1]; bif Nat.ble (x7.2.1.length + x13.length) 4294967296 then bif (((decide ((0 : Int) ≤ x11.2.2.1)) && (decide (x11.2.2.1 ≤ (x7.1.length : Int)))) && (decide ((x7.1.length : Int) ≤ (x7.1.length : Int)))) && (decide ((x7.1.length : Int) ≤ (x7.1.length : Int))) then some (.next (((x7.1.take ((x7.1.length : Int).toNat)).drop x11.2.2.1.toNat), (x7.2.1 ++ x13), (IntKind.i64.wrap (x7.2.2.1 + x11.2.2.1)), x11.2.1, x7.2.2.2.2)) else none else none
def QX.c (m : Fu) (a1 : Int) (x17 : (T11 × T11 × Int × Int × Int)) (x18 : Int × T11 × Int × Int × Int) : Option (Step (Int × T11 × Int × Int × Int) ((T11 × Int × Int × Int))) := bif decide (x18.1 < (x17.1.length : Int)) then bif (decide ((0 : Int) ≤ x18.1)) && (decide (x18.1 < (x17.1.length : Int))) then let x21 := x17.1.getD x18.1.toNat []; bif (decide ((4 : Int) ≤ (x21.length : Int))) && (decide ((x21.length : Int) ≤ (x21.length : Int))) then (Zl m ((x21.take 4).drop 0)).bind fun x23 => bif x23 == a1 then bif (decide ((0 : Int) ≤ x18.1)) && (decide (x18.1 < (x17.1.length : Int))) then let x25 := x17.1.getD x18.1.toNat []; bif (decide ((12 : Int) ≤ (x25.length : Int))) && (decide ((x25.length : Int) ≤ (x25.length : Int))) then (Zl m ((x25.take 12).drop 8)).bind fun x27 => bif (decide ((0 : Int) ≤ x18.1)) && (decide (x18.1 < (x17.1.length : Int))) then let x28 := x17.1.getD x18.1.toNat []; bif (decide ((16 : Int) ≤ (x28.length : Int))) && (decide ((x28.length : Int) ≤ (x28.length : Int))) then (Zl m ((x28.take 16).drop 12)).bind fun x30 => some (.next ((IntKind.i64.wrap (x18.1 + (1 : Int))), x18.2.1, x18.2.2.1, x18.2.2.2.1, (mxI (mxI x18.2.2.2.2 x27) x30))) else none else none else none else none else some (.next ((IntKind.i64.wrap (x18.1 + (1 : Int))), x18.2)) else none else none else some (.fin x18.2)
def QX (m : Fu) (p : T2 × Int × Int × Int) : Option (T11 × Int × Int × Int × Int) := let a0 := p.1; let a1 := p.2.1; let a2 := p.2.2.1; let a3 := p.2.2.2; (J7 m (a0, a2, a3)).bind fun x1 => (QX.a m a1 x1).bind fun x4 => bif x4 != (0 : Int) then some (([] : List T2), (0 : Int), (0 : Int), (0 : Int), x4) else (ZL m (a0, a2, a3)).bind fun x6 => (iter m (QX.b m a1) (x6, ([] : List T2), (0 : Int), (0 : Int), (0 : Int))).bind fun x17 => (iter m (QX.c m a1 x17) ((0 : Int), x17.2)).bind fun x34 => some (x34.1, x34.2.1, x34.2.2.1, x34.2.2.2, (0 : Int))
def QX.K : SK Tryz.prog := mkK mix [J7.K, ZL.K, QW.K, Zl.K] [(14, .jnt [(.normal, ⟨[(10, false, [k25])], [], [], [], 192⟩)]),
 (508, .loop ⟨[(12, false, [.dat (.sl Y22)])], [(224, [.own Y22 320 .wr, k25, k27, k27])], [], [288], 321⟩ [(.exit 0, ⟨[(12, false, [.dat (.sl Y22)])], [(224, [.own Y22 320 .wr, k25, k27, k27])], [], [288], 321⟩)]),
 (2042, .loop ⟨[(17, false, [k25])], [(224, [.own Y22 337 .wr, k25, k27, k27])], [], [320], 338⟩ [(.exit 2, ⟨[], [(224, [.own Y22 337 .wr, k25, k27, k27])], [], [320], 338⟩)])] 62 Tryz.f62 ⟨[.val true [.sl Y20], .val false [.int .u32], .val false [.int .i64], .val false [.int .i64]], [(true, [.own Y22 0 .wr, k25, k27, k27]), (false, [k25])]⟩ QX (by kernel_rfl) (by kernel_rfl) (by kernel_rfl)
def Qr.a (_ : Fu) (a0 : List Int) (x1 : Int) : Option (Unit ⊕ Unit) := bif decide (x1 < (a0.length : Int)) then bif decide (x1 < (10 : Int)) then bif (decide ((0 : Int) ≤ x1)) && (decide (x1 < (a0.length : Int))) then bif decide ((128 : Int) ≤ (a0.getD x1.toNat 0)) then some (Sum.inl ()) else some (Sum.inr ()) else none else some (Sum.inr ()) else some (Sum.inr ())
def Qr.b (m : Fu) (a0 : List Int) (x1 : Int) : Option (Step Int Int) := (Qr.a m a0 x1).bind fun x7 => match x7 with | .inl _ => some (.next (IntKind.i64.wrap (x1 + (1 : Int)))) | .inr _ => some (.fin x1)
def Qr.c (_ : Fu) (a0 : List Int) (x11 : Int) : Option ((Int × Int × Int) ⊕ Unit) := bif decide ((a0.length : Int) ≤ x11) then some (Sum.inl ((0 : Int), (0 : Int), (8 : Int))) else bif decide ((10 : Int) ≤ x11) then some (Sum.inl ((0 : Int), (0 : Int), (8 : Int))) else bif x11 == (9 : Int) then bif decide ((9 : Int) < (a0.length : Int)) then bif decide ((1 : Int) < (a0.getD 9 0)) then some (Sum.inl ((0 : Int), (0 : Int), (8 : Int))) else bif decide ((0 : Int) < x11) then bif (decide ((0 : Int) ≤ x11)) && (decide (x11 < (a0.length : Int))) then bif (a0.getD x11.toNat 0) == (0 : Int) then some (Sum.inl ((0 : Int), (0 : Int), (8 : Int))) else some (Sum.inr ()) else none else some (Sum.inr ()) else none else bif decide ((0 : Int) < x11) then bif (decide ((0 : Int) ≤ x11)) && (decide (x11 < (a0.length : Int))) then bif (a0.getD x11.toNat 0) == (0 : Int) then some (Sum.inl ((0 : Int), (0 : Int), (8 : Int))) else some (Sum.inr ()) else none else some (Sum.inr ())
def Qr.d (_ : Fu) (a0 : List Int) (x27 : Int × Int) : Option (Step (Int × Int) Int) := bif decide ((0 : Int) ≤ x27.2) then bif (decide ((0 : Int) ≤ x27.2)) && (decide (x27.2 < (a0.length : Int))) then some (.next ((IntKind.u64.wrap ((IntKind.u64.wrap (x27.1 * (128 : Int))) + (IntKind.u64.wrap ((a0.getD x27.2.toNat 0).tmod (128 : Int))))), (IntKind.i64.wrap (x27.2 - (1 : Int))))) else none else some (.fin x27.1)
def Qr (m : Fu) (p : List Int) : Option (Int × Int × Int) := let a0 := p; (iter m (Qr.b m a0) (0 : Int)).bind fun x11 => (Qr.c m a0 x11).bind fun x24 => match x24 with | .inl x25 => some x25 | .inr _ => (iter m (Qr.d m a0) ((0 : Int), x11)).bind fun x35 => some (x35, (IntKind.i64.wrap (x11 + (1 : Int))), (0 : Int))
def Qr.K : SK Tryz.prog := mkK mix [] [(28, .loop ⟨[(5, false, [k25])], [], [], [], 80⟩ [(.exit 0, ⟨[(5, false, [k25])], [], [], [], 80⟩)]),
 (30, .jnt [(.ret, ⟨[(2, false, [.dat Y24]), (3, false, [k25]), (4, false, [k25])], [], [], [], 80⟩), (.normal, ⟨[], [], [], [], 80⟩)]),
 (112, .jnt [(.normal, ⟨[], [], [], [], 80⟩), (.exit 0, ⟨[], [], [], [], 80⟩)]),
 (506, .loop ⟨[(6, false, [.dat Y24]), (7, false, [k25])], [], [], [], 128⟩ [(.exit 2, ⟨[(6, false, [.dat Y24])], [], [], [], 128⟩)])] 120 Tryz.f120 ⟨[.val false [.sl Y20]], [(false, [.dat Y24]), (false, [k25]), (false, [k25])]⟩ Qr (by kernel_rfl) (by kernel_rfl) (by kernel_rfl)
def Qd.a (_ : Fu) (a2 : Int) (x1 : Int × Int × Int) : Option (Bool) := bif x1.2.2 != (0 : Int) then some true else some (decide (a2 < x1.1))
def Qd (m : Fu) (p : T2 × Bool × Int) : Option (Int × T2 × Bool) := let a0 := p.1; let a1 := p.2.1; let a2 := p.2.2; (Qr m a0).bind fun x1 => (Qd.a m a2 x1).bind fun x4 => bif x4 then some ((0 : Int), a0, true) else bif (((decide ((0 : Int) ≤ x1.2.1)) && (decide (x1.2.1 ≤ (a0.length : Int)))) && (decide ((a0.length : Int) ≤ (a0.length : Int)))) && (decide ((a0.length : Int) ≤ (a0.length : Int))) then some (x1.1, ((a0.take ((a0.length : Int).toNat)).drop x1.2.1.toNat), a1) else none
def Qd.K : SK Tryz.prog := mkK mix [Qr.K] [(28, .jnt [(.normal, ⟨[(23, false, [k26])], [], [], [], 240⟩)])] 92 Tryz.f92 ⟨[.box [.sl Y20, .bool], .val false [.int .u64]], [(false, [.dat Y24])]⟩ Qd (by kernel_rfl) (by kernel_rfl) (by kernel_rfl)
def Zd (_ : Fu) (p : T2 × Bool) : Option (Int × T2 × Bool) := let a0 := p.1; let a1 := p.2; bif (a0.length : Int) == (0 : Int) then some ((0 : Int), a0, true) else bif decide ((0 : Int) < (a0.length : Int)) then bif ((decide ((1 : Int) ≤ (a0.length : Int))) && (decide ((a0.length : Int) ≤ (a0.length : Int)))) && (decide ((a0.length : Int) ≤ (a0.length : Int))) then some ((a0.getD 0 0), ((a0.take ((a0.length : Int).toNat)).drop 1), a1) else none else none
def Zd.K : SK Tryz.prog := mkK mix [] [] 93 Tryz.f93 ⟨[.box [.sl Y20, .bool]], [(false, [.dat Y20])]⟩ Zd (by kernel_rfl) (by kernel_rfl) (by kernel_rfl)
def QG.a (_ : Fu) (a0 : List Int) (x1 : Int × Int × Int) : Option (Bool) := bif x1.2.2 != (0 : Int) then some true else some (decide ((IntKind.u64.wrap (IntKind.i64.wrap ((a0.length : Int) - x1.2.1))) < x1.1))
def QG (m : Fu) (p : T2 × Bool) : Option (T2 × T2 × Bool) := let a0 := p.1; let a1 := p.2; (Qr m a0).bind fun x1 => (QG.a m a0 x1).bind fun x7 => bif x7 then some (([] : List Int), a0, true) else let x9 := IntKind.i64.wrap (x1.2.1 + (IntKind.i64.wrap x1.1)); bif (((decide ((0 : Int) ≤ x1.2.1)) && (decide (x1.2.1 ≤ x9))) && (decide (x9 ≤ (a0.length : Int)))) && (decide ((a0.length : Int) ≤ (a0.length : Int))) then let x12 := IntKind.i64.wrap (x1.2.1 + (IntKind.i64.wrap x1.1)); bif (((decide ((0 : Int) ≤ x12)) && (decide (x12 ≤ (a0.length : Int)))) && (decide ((a0.length : Int) ≤ (a0.length : Int)))) && (decide ((a0.length : Int) ≤ (a0.length : Int))) then some (((a0.take x9.toNat).drop x1.2.1.toNat), ((a0.take ((a0.length : Int).toNat)).drop x12.toNat), a1) else none else none
def QG.K : SK Tryz.prog := mkK mix [Qr.K] [(28, .jnt [(.normal, ⟨[(29, false, [k26])], [], [], [], 224⟩)])] 121 Tryz.f121 ⟨[.box [.sl Y20, .bool]], [(false, [k28])]⟩ QG (by kernel_rfl) (by kernel_rfl) (by kernel_rfl)
def ZF (m : Fu) (p : T2 × Bool) : Option (T2 × T2 × Int × Int × Int × T2 × Bool) := let a0 := p.1; let a1 := p.2; (QG m (a0, a1)).bind fun x1 => (QG m x1.2).bind fun x2 => (Qd m (x2.2.1, x2.2.2, (4294967295 : Int))).bind fun x3 => (Qd m (x3.2.1, x3.2.2, (1099511627776 : Int))).bind fun x5 => (Qd m (x5.2.1, x5.2.2, (18446744073709551615 : Int))).bind fun x7 => some (x1.1, x2.1, (IntKind.u32.wrap x3.1), (IntKind.i64.wrap x5.1), x7)
def ZF.K : SK Tryz.prog := mkK mix [QG.K, Qd.K] [] 94 Tryz.f94 ⟨[.box [.sl Y20, .bool]], [(true, [k28, k28, k27, k25, .dat Y24])]⟩ ZF (by kernel_rfl) (by kernel_rfl) (by kernel_rfl)
def Qj.a (_ : Fu) (x5 : Int × T2 × Bool) (x6 : Int × T2 × Bool × Int × T2 × Int × Int × Bool) : Option (Unit ⊕ Unit) := bif decide (x6.1 < x5.1) then bif !x6.2.2.1 then some (Sum.inl ()) else some (Sum.inr ()) else some (Sum.inr ())
def Qj.b (m : Fu) (x5 : Int × T2 × Bool) (x6 : Int × T2 × Bool × Int × T2 × Int × Int × Bool) : Option (Step (Int × T2 × Bool × Int × T2 × Int × Int × Bool) ((T2 × Bool × Int × T2 × Int × Int × Bool))) := (Qj.a m x5 x6).bind fun x9 => match x9 with | .inl _ => (Qd m (x6.2.1, x6.2.2.1, (16 : Int))).bind fun x11 => let x13 := [(IntKind.i64.wrap x11.1)]; bif Nat.ble (x6.2.2.2.2.1.length + x13.length) 4294967296 then some (.next ((IntKind.u64.wrap (x6.1 + (1 : Int))), x11.2.1, x11.2.2, x6.2.2.2.1, (x6.2.2.2.2.1 ++ x13), x6.2.2.2.2.2)) else none | .inr _ => some (.fin x6.2)
def Qj.c (_ : Fu) (x24 : Int × T2 × Bool) (x25 : Int × T2 × Bool × Int × T2 × T8 × Int × Int × Bool) : Option (Unit ⊕ Unit) := bif decide (x25.1 < x24.1) then bif !x25.2.2.1 then some (Sum.inl ()) else some (Sum.inr ()) else some (Sum.inr ())
def Qj.d (m : Fu) (x24 : Int × T2 × Bool) (x25 : Int × T2 × Bool × Int × T2 × T8 × Int × Int × Bool) : Option (Step (Int × T2 × Bool × Int × T2 × T8 × Int × Int × Bool) ((T2 × Bool × Int × T2 × T8 × Int × Int × Bool))) := (Qj.c m x24 x25).bind fun x28 => match x28 with | .inl _ => (Qd m (x25.2.1, x25.2.2.1, (4 : Int))).bind fun x30 => (ZF m x30.2).bind fun x32 => let x33 := [((IntKind.i64.wrap x30.1), (x32.1, (x32.2.1, (x32.2.2.1, (x32.2.2.2.1, x32.2.2.2.2.1)))))]; bif Nat.ble (x25.2.2.2.2.2.1.length + x33.length) 4294967296 then some (.next ((IntKind.u64.wrap (x25.1 + (1 : Int))), x32.2.2.2.2.2.1, x32.2.2.2.2.2.2, x25.2.2.2.1, x25.2.2.2.2.1, (x25.2.2.2.2.2.1 ++ x33), x25.2.2.2.2.2.2)) else none | .inr _ => some (.fin x25.2)
def Qj (m : Fu) (p : List Int) : Option (Int × T2 × T8 × Int × Int × Bool × Int) := let a0 := p; bif decide ((65536 : Int) < (a0.length : Int)) then some ((0 : Int), ([] : List Int), ([] : List T1), (0 : Int), (0 : Int), false, (3 : Int)) else (Qd m (a0, false, (1099511627776 : Int))).bind fun x3 => (Qd m (x3.2.1, x3.2.2, (4 : Int))).bind fun x5 => (iter m (Qj.b m x5) ((0 : Int), x5.2.1, x5.2.2, (IntKind.i64.wrap x3.1), ([] : List Int), (0 : Int), (0 : Int), false)).bind fun x17 => (Qd m (x17.1, x17.2.1, (2147483647 : Int))).bind fun x18 => (Qd m (x18.2.1, x18.2.2, (2147483647 : Int))).bind fun x20 => (Zd m x20.2).bind fun x22 => (Qd m (x22.2.1, x22.2.2, (1024 : Int))).bind fun x24 => (iter m (Qj.d m x24) ((0 : Int), x24.2.1, x24.2.2, x17.2.2.1, x17.2.2.2.1, ([] : List T1), (IntKind.i64.wrap x18.1), (IntKind.i64.wrap x20.1), (x22.1 == (1 : Int)))).bind fun x37 => bif x37.2.1 then some ((0 : Int), ([] : List Int), ([] : List T1), (0 : Int), (0 : Int), false, (8 : Int)) else (QT m x37.2.2).bind fun x38 => bif x38.2 != (0 : Int) then some ((0 : Int), ([] : List Int), ([] : List T1), (0 : Int), (0 : Int), false, (8 : Int)) else bif !(x38.1 == a0) then some ((0 : Int), ([] : List Int), ([] : List T1), (0 : Int), (0 : Int), false, (8 : Int)) else some (x37.2.2.1, x37.2.2.2.1, x37.2.2.2.2.1, x37.2.2.2.2.2.1, x37.2.2.2.2.2.2.1, x37.2.2.2.2.2.2.2, (0 : Int))
def Qj.K : SK Tryz.prog := mkK mix [Qd.K, Zd.K, ZF.K, QT.K] [(506, .loop ⟨[(7, false, [.dat Y24])], [(128, [.dat Y22, k26]), (224, [k25, .own Y18 320 .wr, .cst .nils, k25, k25, k26])], [], [], 321⟩ [(.exit 0, ⟨[], [(128, [.dat Y22, k26]), (224, [k25, .own Y18 320 .wr, .cst .nils, k25, k25, k26])], [], [], 321⟩)]),
 (2024, .jnt [(.normal, ⟨[], [], [], [], 321⟩), (.exit 0, ⟨[], [], [], [], 321⟩)]),
 (16378, .loop ⟨[(8, false, [.dat Y24])], [(128, [.dat Y22, k26]), (224, [k25, .own Y18 625 .wr, .own Y17 626 .wr, k25, k25, k26])], [], [320], 627⟩ [(.exit 2, ⟨[], [(128, [.dat Y22, k26]), (224, [k25, .own Y18 625 .wr, .own Y17 626 .wr, k25, k25, k26])], [], [320], 627⟩)]),
 (65512, .jnt [(.normal, ⟨[], [], [], [], 627⟩), (.exit 2, ⟨[], [], [], [], 627⟩)])] 63 Tryz.f63 ⟨[.val false [.sl Y20]], [(true, [k25, .own Y18 0 .wr, .own Y17 0 .wr, k25, k25, k26]), (false, [k25])]⟩ Qj (by kernel_rfl) (by kernel_rfl) (by kernel_rfl)
def Qg.a (m : Fu) (x1 : Int × T2 × Bool) : Option (T7) := bif x1.1 == (1 : Int) then (Qd m (x1.2.1, x1.2.2, (4 : Int))).bind fun x3 => (ZF m x3.2).bind fun x5 => some (x5.2.2.2.2.2.1, x5.2.2.2.2.2.2, x1.1, (IntKind.i64.wrap x3.1), x5.1, x5.2.1, x5.2.2.1, x5.2.2.2.1, x5.2.2.2.2.1, ([] : List Int), (0 : Int), (0 : Int), false) else bif x1.1 == (2 : Int) then (Qd m (x1.2.1, x1.2.2, (4 : Int))).bind fun x7 => (QG m x7.2).bind fun x9 => (Zd m x9.2).bind fun x10 => some (x10.2.1, x10.2.2, x1.1, (IntKind.i64.wrap x7.1), ([] : List Int), ([] : List Int), (0 : Int), (0 : Int), (0 : Int), x9.1, x10.1, (0 : Int), false) else bif x1.1 == (3 : Int) then (Qd m (x1.2.1, x1.2.2, (4 : Int))).bind fun x12 => some (x12.2.1, x12.2.2, x1.1, (IntKind.i64.wrap x12.1), ([] : List Int), ([] : List Int), (0 : Int), (0 : Int), (0 : Int), ([] : List Int), (0 : Int), (0 : Int), false) else bif x1.1 == (4 : Int) then (Qd m (x1.2.1, x1.2.2, (1099511627776 : Int))).bind fun x15 => some (x15.2.1, x15.2.2, x1.1, (0 : Int), ([] : List Int), ([] : List Int), (0 : Int), (0 : Int), (0 : Int), ([] : List Int), (0 : Int), (IntKind.i64.wrap x15.1), false) else bif x1.1 == (5 : Int) then (Qd m (x1.2.1, x1.2.2, (4 : Int))).bind fun x18 => (Qd m (x18.2.1, x18.2.2, (16 : Int))).bind fun x20 => some (x20.2.1, x20.2.2, x1.1, (IntKind.i64.wrap x18.1), ([] : List Int), ([] : List Int), (0 : Int), (0 : Int), (0 : Int), ([] : List Int), (0 : Int), (IntKind.i64.wrap x20.1), false) else bif x1.1 == (6 : Int) then (Qd m (x1.2.1, x1.2.2, (2147483647 : Int))).bind fun x23 => (Zd m x23.2).bind fun x25 => some (x25.2.1, x25.2.2, x1.1, (0 : Int), ([] : List Int), ([] : List Int), (0 : Int), (0 : Int), (0 : Int), ([] : List Int), (0 : Int), (IntKind.i64.wrap x23.1), (x25.1 == (1 : Int))) else bif x1.1 == (7 : Int) then (Qd m (x1.2.1, x1.2.2, (2147483647 : Int))).bind fun x28 => some (x28.2.1, x28.2.2, x1.1, (0 : Int), ([] : List Int), ([] : List Int), (0 : Int), (0 : Int), (0 : Int), ([] : List Int), (0 : Int), (IntKind.i64.wrap x28.1), false) else some (x1.2.1, true, x1.1, (0 : Int), ([] : List Int), ([] : List Int), (0 : Int), (0 : Int), (0 : Int), ([] : List Int), (0 : Int), (0 : Int), false)
def Qg (m : Fu) (p : T2 × Bool) : Option (Int × Int × T2 × T2 × Int × Int × Int × T2 × Int × Int × Bool × T2 × Bool) := let a0 := p.1; let a1 := p.2; (Zd m (a0, a1)).bind fun x1 => (Qg.a m x1).bind fun x30 => some (x30.2.2.1, x30.2.2.2.1, x30.2.2.2.2.1, x30.2.2.2.2.2.1, x30.2.2.2.2.2.2.1, x30.2.2.2.2.2.2.2.1, x30.2.2.2.2.2.2.2.2.1, x30.2.2.2.2.2.2.2.2.2.1, x30.2.2.2.2.2.2.2.2.2.2.1, x30.2.2.2.2.2.2.2.2.2.2.2.1, x30.2.2.2.2.2.2.2.2.2.2.2.2, x30.1, x30.2.1)
def Qg.K : SK Tryz.prog := mkK mix [Zd.K, Qd.K, ZF.K, QG.K] [(14, .jnt [(.normal, ⟨[], [(0, [.dat Y22, k26]), (80, [.dat Y20, k25, k28, k28, k27, k25, .dat Y24, k28, .dat Y20, k25, k26])], [], [], 112⟩)])] 95 Tryz.f95 ⟨[.box [.sl Y20, .bool]], [(true, [.dat Y20, k25, k28, k28, k27, k25, .dat Y24, k28, .dat Y20, k25, k26])]⟩ Qg (by kernel_rfl) (by kernel_rfl) (by kernel_rfl)
def J8.a (_ : Fu) (a0 : Int) (a1 : Int) (a2 : List Int) (a3 : List Int) (a4 : Int) (a5 : Int) (a6 : Int) (a7 : List Int) (a8 : Int) (a9 : Int) (a10 : Bool) : Option ((Int × Int × T2 × T2 × Int × Int × Int × T2 × Int × Int × Bool)) := bif a0 == (1 : Int) then some (a0, a1, a2, a3, a4, a5, a6, ([] : List Int), (0 : Int), (0 : Int), false) else bif a0 == (2 : Int) then some (a0, a1, ([] : List Int), ([] : List Int), (0 : Int), (0 : Int), (0 : Int), a7, a8, (0 : Int), false) else bif a0 == (3 : Int) then some (a0, a1, ([] : List Int), ([] : List Int), (0 : Int), (0 : Int), (0 : Int), ([] : List Int), (0 : Int), (0 : Int), false) else bif a0 == (4 : Int) then some (a0, (0 : Int), ([] : List Int), ([] : List Int), (0 : Int), (0 : Int), (0 : Int), ([] : List Int), (0 : Int), a9, false) else bif a0 == (5 : Int) then some (a0, a1, ([] : List Int), ([] : List Int), (0 : Int), (0 : Int), (0 : Int), ([] : List Int), (0 : Int), a9, false) else bif a0 == (6 : Int) then some (a0, (0 : Int), ([] : List Int), ([] : List Int), (0 : Int), (0 : Int), (0 : Int), ([] : List Int), (0 : Int), a9, a10) else bif a0 == (7 : Int) then some (a0, (0 : Int), ([] : List Int), ([] : List Int), (0 : Int), (0 : Int), (0 : Int), ([] : List Int), (0 : Int), a9, false) else some (a0, (0 : Int), ([] : List Int), ([] : List Int), (0 : Int), (0 : Int), (0 : Int), ([] : List Int), (0 : Int), (0 : Int), false)
def J8 (m : Fu) (p : Int × Int × T2 × T2 × Int × Int × Int × T2 × Int × Int × Bool) : Option (Int × Int × T2 × T2 × Int × Int × Int × T2 × Int × Int × Bool) := let a0 := p.1; let a1 := p.2.1; let a2 := p.2.2.1; let a3 := p.2.2.2.1; let a4 := p.2.2.2.2.1; let a5 := p.2.2.2.2.2.1; let a6 := p.2.2.2.2.2.2.1; let a7 := p.2.2.2.2.2.2.2.1; let a8 := p.2.2.2.2.2.2.2.2.1; let a9 := p.2.2.2.2.2.2.2.2.2.1; let a10 := p.2.2.2.2.2.2.2.2.2.2; (J8.a m a0 a1 a2 a3 a4 a5 a6 a7 a8 a9 a10).bind fun x8 => some x8
def J8.K : SK Tryz.prog := mkK mix [] [(14, .jnt [(.normal, ⟨[], [(96, [.dat Y20, k25, k28, k28, k27, k25, .dat Y24, k28, .dat Y20, k25, k26])], [], [], 128⟩)])] 103 Tryz.f103 ⟨[.val true [.int .u8, .int .i64, .str, .str, .int .u32, .int .i64, .int .u64, .str, .int .u8, .int .i64, .bool]], [(true, [.dat Y20, k25, k28, k28, k27, k25, .dat Y24, k28, .dat Y20, k25, k26])]⟩ J8 (by kernel_rfl) (by kernel_rfl) (by kernel_rfl)
def VM (_ : Fu) (p : Int) : Option (Bool) := let a0 := p; bif decide ((0 : Int) ≤ a0) then some (decide (a0 < (4 : Int))) else some false
def VM.K : SK Tryz.prog := mkK mix [] [] 104 Tryz.f104 ⟨[.val false [.int .i64]], [(false, [k26])]⟩ VM (by kernel_rfl) (by kernel_rfl) (by kernel_rfl)
def JD (m : Fu) (p : Int × Int × T2 × T2 × Int × Int × Int × T2 × Int × Int × Bool) : Option (Bool) := let a0 := p.1; let a1 := p.2.1; let a2 := p.2.2.1; let a3 := p.2.2.2.1; let a4 := p.2.2.2.2.1; let a5 := p.2.2.2.2.2.1; let a6 := p.2.2.2.2.2.2.1; let a7 := p.2.2.2.2.2.2.2.1; let a8 := p.2.2.2.2.2.2.2.2.1; let a9 := p.2.2.2.2.2.2.2.2.2.1; let a10 := p.2.2.2.2.2.2.2.2.2.2; (J8 m (a0, a1, a2, a3, a4, a5, a6, a7, a8, a9, a10)).bind fun x1 => bif !((x1.1 == a0) && ((x1.2.1 == a1) && (((x1.2.2.1 == a2) && ((x1.2.2.2.1 == a3) && ((x1.2.2.2.2.1 == a4) && ((x1.2.2.2.2.2.1 == a5) && ((x1.2.2.2.2.2.2.1 == a6) && true))))) && ((x1.2.2.2.2.2.2.2.1 == a7) && ((x1.2.2.2.2.2.2.2.2.1 == a8) && ((x1.2.2.2.2.2.2.2.2.2.1 == a9) && ((x1.2.2.2.2.2.2.2.2.2.2 == a10) && true))))))) then some false else (VM m a1).bind fun x3 => bif !x3 then some false else bif a0 == (1 : Int) then (Va m (a2, a3, a4, a5, a6)).bind fun x6 => some x6 else bif a0 == (2 : Int) then (VC m a7).bind fun x8 => bif x8 then bif a8 == (1 : Int) then some true else some (a8 == (2 : Int)) else some false else bif a0 == (3 : Int) then some true else bif a0 == (4 : Int) then bif decide ((0 : Int) ≤ a9) then some (decide (a9 ≤ (1099511627776 : Int))) else some false else bif a0 == (5 : Int) then bif decide ((0 : Int) ≤ a9) then some (decide (a9 ≤ (16 : Int))) else some false else bif a0 == (6 : Int) then bif decide ((0 : Int) ≤ a9) then some (decide (a9 ≤ (2147483647 : Int))) else some false else bif a0 == (7 : Int) then bif decide ((0 : Int) ≤ a9) then some (decide (a9 ≤ (2147483647 : Int))) else some false else some false
def JD.K : SK Tryz.prog := mkK mix [J8.K, VM.K, Va.K, VC.K] [] 70 Tryz.f70 ⟨[.val true [.int .u8, .int .i64, .str, .str, .int .u32, .int .i64, .int .u64, .str, .int .u8, .int .i64, .bool]], [(false, [k26])]⟩ JD (by kernel_rfl) (by kernel_rfl) (by kernel_rfl)
def JK (m : Fu) (p : Int × Int × T2 × T2 × Int × Int × Int × T2 × Int × Int × Bool) : Option T2 := let a0 := p.1; let a1 := p.2.1; let a2 := p.2.2.1; let a3 := p.2.2.2.1; let a4 := p.2.2.2.2.1; let a5 := p.2.2.2.2.2.1; let a6 := p.2.2.2.2.2.2.1; let a7 := p.2.2.2.2.2.2.2.1; let a8 := p.2.2.2.2.2.2.2.2.1; let a9 := p.2.2.2.2.2.2.2.2.2.1; let a10 := p.2.2.2.2.2.2.2.2.2.2; let x1 := [a0]; bif a0 == (1 : Int) then (QI m ([a1])).bind fun x4 => bif Nat.ble (x1.length + x4.length) 140737488351232 then let x5 := x1 ++ x4; (Jn m (a2, a3, a4, a5, a6)).bind fun x6 => bif Nat.ble (x5.length + x6.length) 140737488351232 then some (x5 ++ x6) else none else none else bif a0 == (2 : Int) then (QI m ([a1])).bind fun x10 => bif Nat.ble (x1.length + x10.length) 140737488351232 then let x11 := x1 ++ x10; (J9 m a7).bind fun x12 => bif Nat.ble (x11.length + x12.length) 140737488351232 then let x13 := x11 ++ x12; let x14 := [a8]; bif Nat.ble (x13.length + x14.length) 140737488351232 then some (x13 ++ x14) else none else none else none else bif a0 == (3 : Int) then (QI m ([a1])).bind fun x18 => bif Nat.ble (x1.length + x18.length) 140737488351232 then some (x1 ++ x18) else none else bif a0 == (4 : Int) then (QI m ([a9])).bind fun x22 => bif Nat.ble (x1.length + x22.length) 140737488351232 then some (x1 ++ x22) else none else bif a0 == (5 : Int) then (QI m ([a1, a9])).bind fun x26 => bif Nat.ble (x1.length + x26.length) 140737488351232 then some (x1 ++ x26) else none else bif a0 == (7 : Int) then (QI m ([a9])).bind fun x30 => bif Nat.ble (x1.length + x30.length) 140737488351232 then some (x1 ++ x30) else none else bif a0 == (6 : Int) then (QI m ([a9])).bind fun x34 => bif Nat.ble (x1.length + x34.length) 140737488351232 then let x35 := x1 ++ x34; bif a10 then bif Nat.ble (x35.length + 1) 140737488351232 then some (x35 ++ ([1] : List Int)) else none else bif Nat.ble (x35.length + 1) 140737488351232 then some (x35 ++ ([0] : List Int)) else none else none else some x1
def JK.K : SK Tryz.prog := mkK mix [QI.K, Jn.K, J9.K] [] 71 Tryz.f71 ⟨[.val true [.int .u8, .int .i64, .str, .str, .int .u32, .int .i64, .int .u64, .str, .int .u8, .int .i64, .bool]], [(false, [.own Y20 0 .wr])]⟩ JK (by kernel_rfl) (by kernel_rfl) (by kernel_rfl)
def Ql.a (m : Fu) (a0 : List T3) (x6 : Int) : Option (Step Int T13) := bif decide (x6 < (a0.length : Int)) then bif (decide ((0 : Int) ≤ x6)) && (decide (x6 < (a0.length : Int))) then let x9 := a0.getD x6.toNat (0, (0, (([], ([], (0, (0, 0)))), ([], (0, (0, false)))))); (JD m (x9.1, x9.2.1, x9.2.2.1.1, x9.2.2.1.2.1, x9.2.2.1.2.2.1, x9.2.2.1.2.2.2.1, x9.2.2.1.2.2.2.2, x9.2.2.2)).bind fun x10 => bif !x10 then some (.fin (Sum.inl (8 : Int))) else some (.next (IntKind.i64.wrap (x6 + (1 : Int)))) else none else some (.fin (Sum.inr ()))
def Ql.b (_ : Fu) (a0 : List T3) (x16 : T2 × Int) : Option (Unit ⊕ Unit) := bif decide (x16.2 < (a0.length : Int)) then bif decide ((x16.1.length : Int) ≤ (65536 : Int)) then some (Sum.inl ()) else some (Sum.inr ()) else some (Sum.inr ())
def Ql.c (m : Fu) (a0 : List T3) (x16 : T2 × Int) : Option T16 := (Ql.b m a0 x16).bind fun x21 => match x21 with | .inl _ => bif (decide ((0 : Int) ≤ x16.2)) && (decide (x16.2 < (a0.length : Int))) then let x23 := a0.getD x16.2.toNat (0, (0, (([], ([], (0, (0, 0)))), ([], (0, (0, false)))))); (JK m (x23.1, x23.2.1, x23.2.2.1.1, x23.2.2.1.2.1, x23.2.2.1.2.2.1, x23.2.2.1.2.2.2.1, x23.2.2.1.2.2.2.2, x23.2.2.2)).bind fun x24 => bif Nat.ble (x16.1.length + x24.length) 140737488351232 then some (.next ((x16.1 ++ x24), (IntKind.i64.wrap (x16.2 + (1 : Int))))) else none else none | .inr _ => some (.fin x16.1)
def Ql (m : Fu) (p : List T3) : Option (T2 × Int) := let a0 := p; bif decide ((4096 : Int) < (a0.length : Int)) then some (([] : List Int), (4 : Int)) else (QI m ([(a0.length : Int)])).bind fun x5 => (iter m (Ql.a m a0) (0 : Int)).bind fun x13 => match x13 with | .inl x14 => some (([] : List Int), x14) | .inr _ => (iter m (Ql.c m a0) (x5, (0 : Int))).bind fun x28 => bif decide ((65536 : Int) < (x28.length : Int)) then some (([] : List Int), (3 : Int)) else some (x28, (0 : Int))
def Ql.K : SK Tryz.prog := mkK mix [QI.K, JD.K, JK.K] [(122, .loop ⟨[(5, false, [k25])], [], [], [], 192⟩ [(.ret, ⟨[(2, false, [.cst .nils]), (3, false, [k25])], [], [], [], 192⟩), (.exit 0, ⟨[], [], [], [], 192⟩)]),
 (250, .loop ⟨[(4, false, [.own Y20 208 .wr]), (6, false, [k25])], [], [], [144], 209⟩ [(.exit 2, ⟨[(4, false, [.own Y20 208 .wr])], [], [], [144], 209⟩)]),
 (1000, .jnt [(.normal, ⟨[], [], [], [], 209⟩), (.exit 2, ⟨[], [], [], [], 209⟩)])] 40 Tryz.f40 ⟨[.val false [.sl Y19]], [(false, [.own Y20 0 .wr]), (false, [k25])]⟩ Ql (by kernel_rfl) (by kernel_rfl) (by kernel_rfl)
def Qo.a (_ : Fu) (x3 : Int × T2 × Bool) (x4 : (List T3) × Int × T2 × Bool) : Option (Unit ⊕ Unit) := bif decide (x4.2.1 < x3.1) then bif !x4.2.2.2 then some (Sum.inl ()) else some (Sum.inr ()) else some (Sum.inr ())
def Qo.b (m : Fu) (x3 : Int × T2 × Bool) (x4 : (List T3) × Int × T2 × Bool) : Option (Step ((List T3) × Int × T2 × Bool) (((List T3) × T2 × Bool))) := (Qo.a m x3 x4).bind fun x7 => match x7 with | .inl _ => (Qg m x4.2.2).bind fun x9 => let x10 := [(x9.1, (x9.2.1, ((x9.2.2.1, (x9.2.2.2.1, (x9.2.2.2.2.1, (x9.2.2.2.2.2.1, x9.2.2.2.2.2.2.1)))), (x9.2.2.2.2.2.2.2.1, (x9.2.2.2.2.2.2.2.2.1, (x9.2.2.2.2.2.2.2.2.2.1, x9.2.2.2.2.2.2.2.2.2.2.1))))))]; bif Nat.ble (x4.1.length + x10.length) 4294967296 then some (.next ((x4.1 ++ x10), (IntKind.u64.wrap (x4.2.1 + (1 : Int))), x9.2.2.2.2.2.2.2.2.2.2.2)) else none | .inr _ => some (.fin (x4.1, x4.2.2))
def Qo (m : Fu) (p : List Int) : Option ((List T3) × Int) := let a0 := p; bif decide ((65536 : Int) < (a0.length : Int)) then some (([] : List T3), (3 : Int)) else (Qd m (a0, false, (4096 : Int))).bind fun x3 => (iter m (Qo.b m x3) (([] : List T3), (0 : Int), x3.2)).bind fun x14 => bif x14.2.2 then some (([] : List T3), (8 : Int)) else (Ql m x14.1).bind fun x15 => bif x15.2 != (0 : Int) then some (([] : List T3), (8 : Int)) else bif !(x15.1 == a0) then some (([] : List T3), (8 : Int)) else some (x14.1, (0 : Int))
def Qo.K : SK Tryz.prog := mkK mix [Qd.K, Qg.K, Ql.K] [(506, .loop ⟨[(6, false, [.own Y19 240 .wr]), (7, false, [.dat Y24])], [(128, [.dat Y22, k26])], [], [], 241⟩ [(.exit 0, ⟨[(6, false, [.own Y19 240 .wr])], [(128, [.dat Y22, k26])], [], [], 241⟩)]),
 (2024, .jnt [(.normal, ⟨[], [], [], [], 241⟩), (.exit 0, ⟨[], [], [], [], 241⟩)])] 64 Tryz.f64 ⟨[.val false [.sl Y20]], [(false, [.own Y19 0 .wr]), (false, [k25])]⟩ Qo (by kernel_rfl) (by kernel_rfl) (by kernel_rfl)
def ZZ.a (m : Fu) (a1 : Int) (a2 : Int) (a3 : List Int) (a8 : List Int) (a10 : Int) (x4 : Int × T2 × T2 × Int × Int × Int) : Option (Bool) := bif a1 == (1 : Int) then bif x4.1 == a2 then some (x4.2.1 == a3) else some false else bif a1 == (2 : Int) then bif x4.1 == a2 then some (x4.2.1 == a8) else some false else bif a1 == (3 : Int) then some (x4.1 == a2) else bif a1 == (4 : Int) then (Vc m (x4.2.1, x4.2.2.1, x4.2.2.2.1, x4.2.2.2.2.1, x4.2.2.2.2.2, a10)).bind fun x14 => some x14 else some false
def ZZ.b (m : Fu) (a0 : List T1) (a1 : Int) (a2 : Int) (a3 : List Int) (a8 : List Int) (a10 : Int) (x1 : T8 × Int) : Option (Step (T8 × Int) (T8)) := bif decide (x1.2 < (a0.length : Int)) then bif (decide ((0 : Int) ≤ x1.2)) && (decide (x1.2 < (a0.length : Int))) then let x4 := a0.getD x1.2.toNat (0, ([], ([], (0, (0, 0))))); (ZZ.a m a1 a2 a3 a8 a10 x4).bind fun x15 => bif !x15 then let x17 := [x4]; bif Nat.ble (x1.1.length + x17.length) 4294967296 then some (.next ((x1.1 ++ x17), (IntKind.i64.wrap (x1.2 + (1 : Int))))) else none else some (.next (x1.1, (IntKind.i64.wrap (x1.2 + (1 : Int))))) else none else some (.fin x1.1)
def ZZ (m : Fu) (p : T8 × Int × Int × T2 × T2 × Int × Int × Int × T2 × Int × Int × Bool) : Option T8 := let a0 := p.1; let a1 := p.2.1; let a2 := p.2.2.1; let a3 := p.2.2.2.1; let a8 := p.2.2.2.2.2.2.2.2.1; let a10 := p.2.2.2.2.2.2.2.2.2.2.1; (iter m (ZZ.b m a0 a1 a2 a3 a8 a10) (([] : List T1), (0 : Int))).bind fun x21 => some x21
def ZZ.K : SK Tryz.prog := mkK mix [Vc.K] [(58, .loop ⟨[(5, false, [.own Y17 96 .wr]), (6, false, [k25])], [], [], [], 97⟩ [(.exit 0, ⟨[(5, false, [.own Y17 96 .wr])], [], [], [], 97⟩)]),
 (7462, .jnt [(.normal, ⟨[(8, false, [k26])], [], [], [], 273⟩)])] 102 Tryz.f102 ⟨[.val false [.sl Y17], .val true [.int .u8, .int .i64, .str, .str, .int .u32, .int .i64, .int .u64, .str, .int .u8, .int .i64, .bool]], [(false, [.own Y17 0 .wr])]⟩ ZZ (by kernel_rfl) (by kernel_rfl) (by kernel_rfl)
def QP.a (_ : Fu) (a1 : List Int) (a6 : Int) (a7 : Int) (x1 : Int × T2 × T8 × Int × Int × Bool) : Option ((Int × Int × T2 × T8 × Int × Int × Bool) ⊕ Unit) := bif a6 != (4 : Int) then bif a6 != (6 : Int) then bif a6 != (7 : Int) then bif decide ((a1.length : Int) ≤ a7) then some (Sum.inl ((2 : Int), x1)) else some (Sum.inr ()) else some (Sum.inr ()) else some (Sum.inr ()) else some (Sum.inr ())
def QP.b (m : Fu) (a0 : Int) (a7 : Int) (a8 : List Int) (a9 : List Int) (a10 : Int) (a11 : Int) (a12 : Int) (x1 : Int × T2 × T8 × Int × Int × Bool) (x10 : List T1) : Option ((Int × T2 × T8 × Int × Int × Bool)) := (Vc m (a8, a9, a10, a11, a12, a0)).bind fun x14 => bif !x14 then let x16 := [(a7, (a8, (a9, (a10, (a11, a12)))))]; bif Nat.ble (x10.length + x16.length) 4294967296 then some (x1.1, x1.2.1, (x10 ++ x16), x1.2.2.2) else none else some (x1.1, x1.2.1, x10, x1.2.2.2)
def QP.c (m : Fu) (a0 : Int) (a3 : Int) (a6 : Int) (a7 : Int) (a8 : List Int) (a9 : List Int) (a10 : Int) (a11 : Int) (a12 : Int) (a15 : Int) (a16 : Bool) (x1 : Int × T2 × T8 × Int × Int × Bool) (x10 : List T1) : Option ((Int × Int × T2 × T8 × Int × Int × Bool) ⊕ (Int × T2 × T8 × Int × Int × Bool)) := bif a6 == (1 : Int) then (Vk m (a8, a9, a10, a11, a12)).bind fun x12 => bif decide ((256 : Int) < x12) then some (Sum.inl ((2 : Int), x1.1, x1.2.1, x10, x1.2.2.2)) else (QP.b m a0 a7 a8 a9 a10 a11 a12 x1 x10).bind fun x18 => bif decide ((1024 : Int) < (x18.2.2.1.length : Int)) then some (Sum.inl ((9 : Int), x18)) else some (Sum.inr x18) else bif a6 == (4 : Int) then bif decide (a15 < a0) then some (Sum.inl ((2 : Int), x1.1, x1.2.1, x10, x1.2.2.2)) else some (Sum.inr (a15, x1.2.1, x10, x1.2.2.2)) else bif a6 == (5 : Int) then bif (decide ((0 : Int) ≤ a7)) && (decide (a7 < (x1.2.1.length : Int))) then bif Nat.blt a7.toNat x1.2.1.length then some (Sum.inr (x1.1, (x1.2.1.set a7.toNat a15), x10, x1.2.2.2)) else none else none else bif a6 == (6 : Int) then bif decide (a15 < a3) then some (Sum.inl ((2 : Int), x1.1, x1.2.1, x10, x1.2.2.2)) else some (Sum.inr (x1.1, x1.2.1, x10, a15, x1.2.2.2.2.1, a16)) else bif a6 == (7 : Int) then some (Sum.inr (x1.1, x1.2.1, x10, x1.2.2.2.1, a15, x1.2.2.2.2.2)) else some (Sum.inr (x1.1, x1.2.1, x10, x1.2.2.2))
def QP (m : Fu) (p : Int × T2 × T8 × Int × Int × Bool × Int × Int × T2 × T2 × Int × Int × Int × T2 × Int × Int × Bool) : Option (Int × T2 × T8 × Int × Int × Bool × Int) := let a0 := p.1; let a1 := p.2.1; let a2 := p.2.2.1; let a3 := p.2.2.2.1; let a4 := p.2.2.2.2.1; let a5 := p.2.2.2.2.2.1; let a6 := p.2.2.2.2.2.2.1; let a7 := p.2.2.2.2.2.2.2.1; let a8 := p.2.2.2.2.2.2.2.2.1; let a9 := p.2.2.2.2.2.2.2.2.2.1; let a10 := p.2.2.2.2.2.2.2.2.2.2.1; let a11 := p.2.2.2.2.2.2.2.2.2.2.2.1; let a12 := p.2.2.2.2.2.2.2.2.2.2.2.2.1; let a13 := p.2.2.2.2.2.2.2.2.2.2.2.2.2.1; let a14 := p.2.2.2.2.2.2.2.2.2.2.2.2.2.2.1; let a15 := p.2.2.2.2.2.2.2.2.2.2.2.2.2.2.2.1; let a16 := p.2.2.2.2.2.2.2.2.2.2.2.2.2.2.2.2; (Ja m (a0, a1, a2, a3, a4, a5)).bind fun x1 => (QP.a m a1 a6 a7 x1).bind fun x7 => match x7 with | .inl x8 => some (x8.2.1, x8.2.2.1, x8.2.2.2.1, x8.2.2.2.2.1, x8.2.2.2.2.2.1, x8.2.2.2.2.2.2, x8.1) | .inr _ => (ZZ m (a2, a6, a7, a8, a9, a10, a11, a12, a13, a14, a15, a16)).bind fun x10 => (QP.c m a0 a3 a6 a7 a8 a9 a10 a11 a12 a15 a16 x1 x10).bind fun x28 => match x28 with | .inl x29 => some (x29.2.1, x29.2.2.1, x29.2.2.2.1, x29.2.2.2.2.1, x29.2.2.2.2.2.1, x29.2.2.2.2.2.2, x29.1) | .inr x30 => some (x30.1, x30.2.1, x30.2.2.1, x30.2.2.2.1, x30.2.2.2.2.1, x30.2.2.2.2.2, (0 : Int))
def QP.K : SK Tryz.prog := mkK mix [Ja.K, ZZ.K, Vk.K, Vc.K] [(14, .jnt [(.ret, ⟨[(5, false, [k25])], [(64, [k25, .own Y18 160 .wr, .own Y17 161 .wr, k25, k25, k26])], [], [112, 113], 162⟩), (.normal, ⟨[], [], [], [], 160⟩)]),
 (62, .jnt [(.ret, ⟨[(5, false, [k25])], [(64, [k25, .own Y18 256 .wr, .own Y17 257 .wr, k25, k25, k26])], [], [112, 128, 208], 258⟩), (.normal, ⟨[], [(128, [k25, .own Y18 256 .wr, .own Y17 257 .wr, k25, k25, k26])], [], [112, 208], 258⟩)]),
 (4010, .jnt [(.normal, ⟨[], [(128, [k25, .own Y18 384 .wr, .own Y17 385 .wr, k25, k25, k26])], [], [112, 208], 386⟩)])] 68 Tryz.f68 ⟨[.val true [.int .i64, .sl Y18, .sl Y17, .int .i64, .int .i64, .bool], .val true [.int .u8, .int .i64, .str, .str, .int .u32, .int .i64, .int .u64, .str, .int .u8, .int .i64, .bool]], [(true, [k25, .own Y18 0 .wr, .own Y17 0 .wr, k25, k25, k26]), (false, [k25])]⟩ QP (by kernel_rfl) (by kernel_rfl) (by kernel_rfl)
def Zi.a (m : Fu) (a6 : List T3) (x1 : Int) : Option (Int) := bif x1 == (0 : Int) then (Ql m a6).bind fun x3 => some x3.2 else some x1
def Zi.b (m : Fu) (a6 : List T3) (x7 : Int × Int × T2 × T8 × Int × Int × Bool) : Option (Step (Int × Int × T2 × T8 × Int × Int × Bool) ((Int × Int × Int × Int × Bool) ⊕ (Int × T2 × T8 × Int × Int × Bool))) := bif decide (x7.1 < (a6.length : Int)) then bif (decide ((0 : Int) ≤ x7.1)) && (decide (x7.1 < (a6.length : Int))) then let x10 := a6.getD x7.1.toNat (0, (0, (([], ([], (0, (0, 0)))), ([], (0, (0, false)))))); (QP m (x7.2.1, x7.2.2.1, x7.2.2.2.1, x7.2.2.2.2.1, x7.2.2.2.2.2.1, x7.2.2.2.2.2.2, x10.1, x10.2.1, x10.2.2.1.1, x10.2.2.1.2.1, x10.2.2.1.2.2.1, x10.2.2.1.2.2.2.1, x10.2.2.1.2.2.2.2, x10.2.2.2)).bind fun x11 => bif x11.2.2.2.2.2.2 != (0 : Int) then some (.fin (Sum.inl (x11.2.2.2.2.2.2, (0 : Int), (0 : Int), (0 : Int), false))) else some (.next ((IntKind.i64.wrap (x7.1 + (1 : Int))), x11.1, x11.2.1, x11.2.2.1, x11.2.2.2.1, x11.2.2.2.2.1, x11.2.2.2.2.2.1)) else none else some (.fin (Sum.inr x7.2))
def Zi (m : Fu) (p : Int × T2 × T8 × Int × Int × Bool × (List T3)) : Option (Int × T2 × T8 × Int × Int × Bool × Int) := let a0 := p.1; let a1 := p.2.1; let a2 := p.2.2.1; let a3 := p.2.2.2.1; let a4 := p.2.2.2.2.1; let a5 := p.2.2.2.2.2.1; let a6 := p.2.2.2.2.2.2; (QE m (a0, a1, a2, a3, a4, a5)).bind fun x1 => (Zi.a m a6 x1).bind fun x4 => bif x4 != (0 : Int) then some ((0 : Int), ([] : List Int), ([] : List T1), (0 : Int), (0 : Int), false, x4) else (Ja m (a0, a1, a2, a3, a4, a5)).bind fun x6 => (iter m (Zi.b m a6) ((0 : Int), x6)).bind fun x14 => match x14 with | .inl x15 => some (x15.2.1, ([] : List Int), ([] : List T1), x15.2.2.1, x15.2.2.2.1, x15.2.2.2.2, x15.1) | .inr x16 => some (x16.1, x16.2.1, x16.2.2.1, x16.2.2.2.1, x16.2.2.2.2.1, x16.2.2.2.2.2, (0 : Int))
def Zi.K : SK Tryz.prog := mkK mix [QE.K, Ql.K, Ja.K, QP.K] [(14, .jnt [(.normal, ⟨[(6, false, [k25])], [], [], [], 128⟩)]),
 (506, .loop ⟨[(8, false, [k25])], [(192, [k25, .own Y18 240 .wr, .own Y17 241 .wr, k25, k25, k26])], [], [176, 177], 242⟩ [(.ret, ⟨[(5, false, [k25])], [(48, [k25, .cst .nils, .cst .nils, k25, k25, k26])], [], [176, 177, 192], 240⟩), (.exit 0, ⟨[], [(192, [k25, .own Y18 240 .wr, .own Y17 241 .wr, k25, k25, k26])], [], [176, 177], 242⟩)])] 39 Tryz.f39 ⟨[.val true [.int .i64, .sl Y18, .sl Y17, .int .i64, .int .i64, .bool], .val false [.sl Y19]], [(true, [k25, .own Y18 0 .wr, .own Y17 0 .wr, k25, k25, k26]), (false, [k25])]⟩ Zi (by kernel_rfl) (by kernel_rfl) (by kernel_rfl)
def Zg.a (m : Fu) (x28 : T11 × Int × Int × Int × Int) (x34 : Int × Int × T2 × T8 × Int × Int × Bool) : Option (Step (Int × Int × T2 × T8 × Int × Int × Bool) ((Int × Int × Int × Int × Int × Int × Int × Int × Int × Int × Bool) ⊕ (Int × T2 × T8 × Int × Int × Bool))) := bif decide (x34.1 < (x28.1.length : Int)) then bif (decide ((0 : Int) ≤ x34.1)) && (decide (x34.1 < (x28.1.length : Int))) then bif Nat.blt x34.1.toNat x28.1.length then (Qo m (x28.1.getD x34.1.toNat [])).bind fun x38 => (Zi m (x34.2.1, x34.2.2.1, x34.2.2.2.1, x34.2.2.2.2.1, x34.2.2.2.2.2.1, x34.2.2.2.2.2.2, x38.1)).bind fun x39 => bif x38.2 != (0 : Int) then some (.fin (Sum.inl ((230 : Int), (0 : Int), (0 : Int), (0 : Int), (0 : Int), (0 : Int), (0 : Int), (0 : Int), (0 : Int), (0 : Int), false))) else bif x39.2.2.2.2.2.2 != (0 : Int) then some (.fin (Sum.inl ((230 : Int), (0 : Int), (0 : Int), (0 : Int), (0 : Int), (0 : Int), (0 : Int), (0 : Int), (0 : Int), (0 : Int), false))) else some (.next ((IntKind.i64.wrap (x34.1 + (1 : Int))), x39.1, x39.2.1, x39.2.2.1, x39.2.2.2.1, x39.2.2.2.2.1, x39.2.2.2.2.2.1)) else none else none else some (.fin (Sum.inr x34.2))
def Zg (m : Fu) (p : List Int) : Option (Int × Int × Int × T11 × Int × Int × Int × Int × T2 × T8 × Int × Int × Bool × Int) := let a0 := p; (JC m a0).bind fun x1 => bif x1 != (0 : Int) then some ((0 : Int), (0 : Int), (0 : Int), ([] : List T2), (0 : Int), (0 : Int), (0 : Int), (0 : Int), ([] : List Int), ([] : List T1), (0 : Int), (0 : Int), false, x1) else (JJ m a0).bind fun x3 => bif decide (x3 < (3 : Int)) then some ((0 : Int), (0 : Int), (0 : Int), ([] : List T2), (0 : Int), (0 : Int), (0 : Int), (0 : Int), ([] : List Int), ([] : List T1), (0 : Int), (0 : Int), false, (230 : Int)) else (Jt m (a0, (0 : Int))).bind fun x5 => bif decide ((0 : Int) < (x5.length : Int)) then bif Nat.blt 0 x5.length then bif decide ((1 : Int) < (x5.length : Int)) then bif Nat.blt 1 x5.length then bif decide ((2 : Int) < (x5.length : Int)) then bif Nat.blt 2 x5.length then bif decide ((3 : Int) < (x5.length : Int)) then bif Nat.blt 3 x5.length then let x19 := IntKind.u32.wrap ((IntKind.u32.wrap ((IntKind.u32.wrap ((IntKind.u32.wrap (x5.getD 0 0)) + (IntKind.u32.wrap ((IntKind.u32.wrap (x5.getD 1 0)) * (256 : Int))))) + (IntKind.u32.wrap ((IntKind.u32.wrap (x5.getD 2 0)) * (65536 : Int))))) + (IntKind.u32.wrap ((IntKind.u32.wrap (x5.getD 3 0)) * (16777216 : Int)))); bif decide ((4 : Int) < (x5.length : Int)) then bif Nat.blt 4 x5.length then let x21 := IntKind.i64.wrap (x5.getD 4 0); (Vj m x3).bind fun x22 => bif x19 == (0 : Int) then some ((0 : Int), (0 : Int), (0 : Int), ([] : List T2), (0 : Int), (0 : Int), (0 : Int), (0 : Int), ([] : List Int), ([] : List T1), (0 : Int), (0 : Int), false, (230 : Int)) else bif decide ((1 : Int) < x21) then some ((0 : Int), (0 : Int), (0 : Int), ([] : List T2), (0 : Int), (0 : Int), (0 : Int), (0 : Int), ([] : List Int), ([] : List T1), (0 : Int), (0 : Int), false, (230 : Int)) else (JB m (x19, x21)).bind fun x25 => bif !(x25 == x5) then some ((0 : Int), (0 : Int), (0 : Int), ([] : List T2), (0 : Int), (0 : Int), (0 : Int), (0 : Int), ([] : List Int), ([] : List T1), (0 : Int), (0 : Int), false, (230 : Int)) else (Zz m (x19, x21, x22, ([] : List T2), (0 : Int), (0 : Int), (0 : Int), (0 : Int), ([] : List Int), ([] : List T1), (0 : Int), (0 : Int), false, x21)).bind fun x27 => (QX m (a0, x19, x27, x22)).bind fun x28 => bif (x28.1.length : Int) == (0 : Int) then some ((0 : Int), (0 : Int), (0 : Int), ([] : List T2), (0 : Int), (0 : Int), (0 : Int), (0 : Int), ([] : List Int), ([] : List T1), (0 : Int), (0 : Int), false, (230 : Int)) else bif decide ((0 : Int) < (x28.1.length : Int)) then bif Nat.blt 0 x28.1.length then (Qj m (x28.1.getD 0 [])).bind fun x32 => bif x32.2.2.2.2.2.2 != (0 : Int) then some ((0 : Int), (0 : Int), (0 : Int), ([] : List T2), (0 : Int), (0 : Int), (0 : Int), (0 : Int), ([] : List Int), ([] : List T1), (0 : Int), (0 : Int), false, (230 : Int)) else (iter m (Zg.a m x28) ((1 : Int), x32.1, x32.2.1, x32.2.2.1, x32.2.2.2.1, x32.2.2.2.2.1, x32.2.2.2.2.2.1)).bind fun x43 => match x43 with | .inl x44 => some (x44.2.1, x44.2.2.1, x44.2.2.2.1, ([] : List T2), x44.2.2.2.2.1, x44.2.2.2.2.2.1, x44.2.2.2.2.2.2.1, x44.2.2.2.2.2.2.2.1, ([] : List Int), ([] : List T1), x44.2.2.2.2.2.2.2.2.1, x44.2.2.2.2.2.2.2.2.2.1, x44.2.2.2.2.2.2.2.2.2.2, x44.1) | .inr x45 => some (x19, x21, x22, x28.1, x28.2.1, x28.2.2.1, x28.2.2.2.1, x45.1, x45.2.1, x45.2.2.1, x45.2.2.2.1, x45.2.2.2.2.1, x45.2.2.2.2.2, (0 : Int)) else none else none else none else none else none else none else none else none else none else none else none else none
def Zg.K : SK Tryz.prog := mkK mix [JC.K, JJ.K, Jt.K, Vj.K, JB.K, Zz.K, QX.K, Qj.K, Qo.K, Zi.K] [(65530, .loop ⟨[(10, false, [k25])], [(1536, [k25, .own Y18 1632 .wr, .own Y17 1633 .wr, k25, k25, k26])], [], [1472, 1473], 1634⟩ [(.ret, ⟨[(3, false, [k25])], [(32, [k27, k25, k25, .cst .nils, k25, k27, k27, k25, .cst .nils, .cst .nils, k25, k25, k26])], [], [1472, 1473, 1536], 1632⟩), (.exit 0, ⟨[], [(1536, [k25, .own Y18 1632 .wr, .own Y17 1633 .wr, k25, k25, k26])], [], [1472, 1473], 1634⟩)])] 37 Tryz.f37 ⟨[.val true [.sl Y20]], [(true, [k27, k25, k25, .own Y22 0 .wr, k25, k27, k27, k25, .own Y18 0 .wr, .own Y17 0 .wr, k25, k25, k26]), (false, [k25])]⟩ Zg (by kernel_rfl) (by kernel_rfl) (by kernel_rfl)
def V3 (m : Fu) (p : List Int) : Option (Int × T2 × T8 × Int × Int × Bool × Int × Int) := let a0 := p; (Zg m a0).bind fun x1 => bif x1.2.2.2.2.2.2.2.2.2.2.2.2.2 != (0 : Int) then some ((0 : Int), ([] : List Int), ([] : List T1), (0 : Int), (0 : Int), false, (0 : Int), x1.2.2.2.2.2.2.2.2.2.2.2.2.2) else some (x1.2.2.2.2.2.2.2.1, x1.2.2.2.2.2.2.2.2.1, x1.2.2.2.2.2.2.2.2.2.1, x1.2.2.2.2.2.2.2.2.2.2.1, x1.2.2.2.2.2.2.2.2.2.2.2.1, x1.2.2.2.2.2.2.2.2.2.2.2.2.1, (IntKind.i64.wrap ((x1.2.2.2.1.length : Int) - (1 : Int))), (0 : Int))
def V3.K : SK Tryz.prog := mkK mix [Zg.K] [] 10 Tryz.f10 ⟨[.val true [.sl Y20]], [(true, [k25, .own Y18 0 .wr, .own Y17 0 .wr, k25, k25, k26]), (false, [k25]), (false, [k25])]⟩ V3 (by kernel_rfl) (by kernel_rfl) (by kernel_rfl)
def Qf.a (m : Fu) (x9 : List T2) (x10 : Int) (x11 : Int × T2 × Int × Int × Int × T11 × Int × Int × Int × Int × T2 × T8 × Int × Int × Bool) : Option (Step (Int × T2 × Int × Int × Int × T11 × Int × Int × Int × Int × T2 × T8 × Int × Int × Bool) T9) := bif decide (x11.1 < x10) then bif (decide ((0 : Int) ≤ x11.1)) && (decide (x11.1 < (x9.length : Int))) then (Qx m (x9.getD x11.1.toNat [])).bind fun x14 => bif x14.2 != (0 : Int) then some (.fin (Sum.inl (false, x11.2))) else (Qa m (x11.2.2.2.2.2.2.2.2.2.1, x11.2.2.2.2.2.2.2.2.2.2.1, x11.2.2.2.2.2.2.2.2.2.2.2.1, x11.2.2.2.2.2.2.2.2.2.2.2.2.1, x11.2.2.2.2.2.2.2.2.2.2.2.2.2.1, x11.2.2.2.2.2.2.2.2.2.2.2.2.2.2, x14.1)).bind fun x16 => bif x16.2.2.2.2.2.2 != (0 : Int) then some (.fin (Sum.inl (false, x11.2.1, x11.2.2.1, x11.2.2.2.1, x11.2.2.2.2.1, x11.2.2.2.2.2.1, x11.2.2.2.2.2.2.1, x11.2.2.2.2.2.2.2.1, x11.2.2.2.2.2.2.2.2.1, x16.1, x16.2.1, x16.2.2.1, x16.2.2.2.1, x16.2.2.2.2.1, x16.2.2.2.2.2.1))) else some (.next ((IntKind.i64.wrap (x11.1 + (1 : Int))), x11.2.1, x11.2.2.1, x11.2.2.2.1, x11.2.2.2.2.1, x11.2.2.2.2.2.1, x11.2.2.2.2.2.2.1, x11.2.2.2.2.2.2.2.1, x11.2.2.2.2.2.2.2.2.1, x16.1, x16.2.1, x16.2.2.1, x16.2.2.2.1, x16.2.2.2.2.1, x16.2.2.2.2.2.1)) else none else some (.fin (Sum.inr x11.2))
def Qf (m : Fu) (p : T2 × Int × Int × Int × T11 × Int × Int × Int × Int × T2 × T8 × Int × Int × Bool) : Option (Bool × T2 × Int × Int × Int × T11 × Int × Int × Int × Int × T2 × T8 × Int × Int × Bool) := let a0 := p.1; let a1 := p.2.1; let a2 := p.2.2.1; let a3 := p.2.2.2.1; let a8 := p.2.2.2.2.2.2.2.2.1; let a9 := p.2.2.2.2.2.2.2.2.2.1; let a10 := p.2.2.2.2.2.2.2.2.2.2.1; let a11 := p.2.2.2.2.2.2.2.2.2.2.2.1; let a12 := p.2.2.2.2.2.2.2.2.2.2.2.2.1; let a13 := p.2.2.2.2.2.2.2.2.2.2.2.2.2; (Qh m (a3, a2)).bind fun x1 => (Qz m (a0, a1, x1, a3)).bind fun x2 => bif x2.2.2.2.2 != (0 : Int) then some (false, a0, a1, a2, a3, x2.1, x2.2.1, x2.2.2.1, x2.2.2.2.1, a8, a9, a10, a11, a12, a13) else bif (x2.1.length : Int) == (0 : Int) then some (false, a0, a1, a2, a3, x2.1, x2.2.1, x2.2.2.1, x2.2.2.2.1, a8, a9, a10, a11, a12, a13) else bif decide ((0 : Int) < (x2.1.length : Int)) then bif Nat.blt 0 x2.1.length then (Qv m (x2.1.getD 0 [])).bind fun x7 => bif x7.2.2.2.2.2.2 != (0 : Int) then some (false, a0, a1, a2, a3, x2.1, x2.2.1, x2.2.2.1, x2.2.2.2.1, x7.1, x7.2.1, x7.2.2.1, x7.2.2.2.1, x7.2.2.2.2.1, x7.2.2.2.2.2.1) else bif ((decide ((1 : Int) ≤ (x2.1.length : Int))) && (decide ((x2.1.length : Int) ≤ (x2.1.length : Int)))) && (decide ((x2.1.length : Int) ≤ (x2.1.length : Int))) then let x9 := (x2.1.take ((x2.1.length : Int).toNat)).drop 1; (iter m (Qf.a m x9 (x9.length : Int)) ((0 : Int), a0, a1, a2, a3, x2.1, x2.2.1, x2.2.2.1, x2.2.2.2.1, x7.1, x7.2.1, x7.2.2.1, x7.2.2.2.1, x7.2.2.2.2.1, x7.2.2.2.2.2.1)).bind fun x19 => match x19 with | .inl x20 => some x20 | .inr x21 => some (true, x21) else none else none else none
def Qf.K : SK Tryz.prog := mkK mix [Qh.K, Qz.K, Qv.K, Qx.K, Qa.K] [(250, .loop ⟨[(67, false, [k25])], [(0, [.dat Y22, k27, k25, k25, .own Y22 1072 .fr, k25, k27, k27, k25, .own Y18 1073 .wr, .own Y17 1074 .wr, k25, k25, k26])], [], [352, 784, 785], 1075⟩ [(.ret, ⟨[(2, false, [k26])], [(0, [.dat Y22, k27, k25, k25, .own Y22 1072 .fr, k25, k27, k27, k25, .own Y18 1073 .wr, .own Y17 1074 .wr, k25, k25, k26])], [], [352, 784, 785], 1075⟩), (.exit 0, ⟨[], [(0, [.dat Y22, k27, k25, k25, .own Y22 1072 .fr, k25, k27, k27, k25, .own Y18 1073 .wr, .own Y17 1074 .wr, k25, k25, k26])], [], [352, 784, 785], 1075⟩)])] 59 Tryz.f59 ⟨[.box [.sl Y20, .int .u32, .int .i64, .int .i64, .sl Y22, .int .i64, .int .u32, .int .u32, .int .i64, .sl Y18, .sl Y17, .int .i64, .int .i64, .bool]], [(false, [k26])]⟩ Qf (by kernel_rfl) (by kernel_rfl) (by kernel_rfl)
def Zk (m : Fu) (p : T2 × Int × Int × Int × T11 × Int × Int × Int × Int × T2 × T8 × Int × Int × Bool × (List T3)) : Option ((List T4) × Int × T2 × Int × Int × Int × T11 × Int × Int × Int × Int × T2 × T8 × Int × Int × Bool) := let a0 := p.1; let a1 := p.2.1; let a2 := p.2.2.1; let a3 := p.2.2.2.1; let a4 := p.2.2.2.2.1; let a5 := p.2.2.2.2.2.1; let a6 := p.2.2.2.2.2.2.1; let a7 := p.2.2.2.2.2.2.2.1; let a8 := p.2.2.2.2.2.2.2.2.1; let a9 := p.2.2.2.2.2.2.2.2.2.1; let a10 := p.2.2.2.2.2.2.2.2.2.2.1; let a11 := p.2.2.2.2.2.2.2.2.2.2.2.1; let a12 := p.2.2.2.2.2.2.2.2.2.2.2.2.1; let a13 := p.2.2.2.2.2.2.2.2.2.2.2.2.2.1; let a14 := p.2.2.2.2.2.2.2.2.2.2.2.2.2.2; (Qa m (a8, a9, a10, a11, a12, a13, a14)).bind fun x1 => bif x1.2.2.2.2.2.2 != (0 : Int) then some (([] : List T4), x1.2.2.2.2.2.2, a0, a1, a2, a3, a4, a5, a6, a7, a8, a9, a10, a11, a12, a13) else (Qw m a14).bind fun x3 => bif x3.2 != (0 : Int) then some (([] : List T4), x3.2, a0, a1, a2, a3, a4, a5, a6, a7, a8, a9, a10, a11, a12, a13) else (JU m (a4, a5, a6, a7, a1, x3.1)).bind fun x5 => bif x5.2 != (0 : Int) then some (([] : List T4), x5.2, a0, a1, a2, a3, a4, a5, a6, a7, a8, a9, a10, a11, a12, a13) else bif decide ((IntKind.i64.wrap (a3 - a5)) < (x5.1.length : Int)) then some (([] : List T4), (9 : Int), a0, a1, a2, a3, a4, a5, a6, a7, a8, a9, a10, a11, a12, a13) else (Qh m (a3, a2)).bind fun x10 => (Zy m (x5.1, (IntKind.i64.wrap (x10 + a5)), ([] : List T4))).bind fun x12 => some (x12, (0 : Int), a0, a1, a2, a3, a4, a5, a6, a7, a8, a9, a10, a11, a12, a13)
def Zk.K : SK Tryz.prog := mkK mix [mK, Qa.K, Qw.K, JU.K, Qh.K, Zy.K] [] 38 Tryz.f38 ⟨[.box [.sl Y20, .int .u32, .int .i64, .int .i64, .sl Y22, .int .i64, .int .u32, .int .u32, .int .i64, .sl Y18, .sl Y17, .int .i64, .int .i64, .bool], .val false [.sl Y19]], [(false, [.own (.pr Y18 (.pl false)) 0 .wr]), (false, [k25])]⟩ Zk (by kernel_rfl) (by kernel_rfl) (by kernel_rfl)
def Qi.a (_ : Fu) (x1 : Int × Int) : Option T13 := bif x1.2 != (0 : Int) then some (Sum.inl x1.2) else some (Sum.inr ())
def Qi.b (_ : Fu) (x1 : Int × Int) : Option T13 := bif decide (x1.1 < (3 : Int)) then some (Sum.inl (230 : Int)) else some (Sum.inr ())
def Qi.c (_ : Fu) (x12 : T2 × Int) : Option T13 := bif x12.2 != (0 : Int) then some (Sum.inl x12.2) else some (Sum.inr ())
def Qi.d (_ : Fu) (x22 : Bool) : Option (Unit ⊕ Unit) := bif x22 then some (Sum.inl ()) else some (Sum.inr ())
def Qi.e (m : Fu) (x12 : T2 × Int) (x21 : Int × T2 × Int × Int × Int × Int × Int × Int × Int × Int × Int × Bool) : Option T5 := (Qi.d m (decide (x21.1 < (4 : Int)))).bind fun x23 => match x23 with | .inl _ => bif (decide ((0 : Int) ≤ x21.1)) && (decide (x21.1 < (x12.1.length : Int))) then bif Nat.blt x21.1.toNat x12.1.length then let x27 := IntKind.i64.wrap ((8 : Int) * x21.1); bif decide (x27 < (0 : Int)) then none else some (.next ((IntKind.i64.wrap (x21.1 + (1 : Int))), x21.2.1, (VG .or .u32 x21.2.2.1 (Qdz .u32 (IntKind.u32.wrap (x12.1.getD x21.1.toNat 0)) x27)), x21.2.2.2)) else none else none | .inr _ => some (.fin x21.2)
def Qi (m : Fu) (p : T2 × (List T3)) : Option ((List T4) × Int) := let a0 := p.1; let a1 := p.2; (ZW m a0).bind fun x1 => (Qi.a m x1).bind fun x3 => match x3 with | .inl x4 => bif x4 != (0 : Int) then some (([] : List T4), x4) else none | .inr _ => (Qi.b m x1).bind fun x8 => match x8 with | .inl x9 => bif x9 != (0 : Int) then some (([] : List T4), x9) else none | .inr _ => (Z0 m (a0, (0 : Int))).bind fun x12 => (Qi.c m x12).bind fun x14 => match x14 with | .inl x15 => bif x15 != (0 : Int) then some (([] : List T4), x15) else none | .inr _ => bif decide ((4 : Int) < (x12.1.length : Int)) then bif Nat.blt 4 x12.1.length then (Zq m x1.1).bind fun x20 => (iter m (Qi.e m x12) ((0 : Int), a0, (0 : Int), (IntKind.i64.wrap (x12.1.getD 4 0)), x20, (0 : Int), (0 : Int), (0 : Int), (0 : Int), (0 : Int), (0 : Int), false)).bind fun x32 => bif x32.2.1 == (0 : Int) then some (([] : List T4), (230 : Int)) else bif decide ((1 : Int) < x32.2.2.1) then some (([] : List T4), (230 : Int)) else (Qu m (x32.2.1, x32.2.2.1)).bind fun x35 => (QK m (x35.2, x12.1)).bind fun x36 => bif !x36 then some (([] : List T4), (230 : Int)) else (Qf m (x32.1, x32.2.1, x32.2.2.1, x32.2.2.2.1, ([] : List T2), x32.2.2.2.2.1, x32.2.2.2.2.2.1, x32.2.2.2.2.2.2.1, x32.2.2.2.2.2.2.2.1, ([] : List Int), ([] : List T1), x32.2.2.2.2.2.2.2.2)).bind fun x38 => bif !x38.1 then some (([] : List T4), (230 : Int)) else (Zk m (x38.2.1, x38.2.2.1, x38.2.2.2.1, x38.2.2.2.2.1, x38.2.2.2.2.2.1, x38.2.2.2.2.2.2.1, x38.2.2.2.2.2.2.2.1, x38.2.2.2.2.2.2.2.2.1, x38.2.2.2.2.2.2.2.2.2.1, x38.2.2.2.2.2.2.2.2.2.2.1, x38.2.2.2.2.2.2.2.2.2.2.2.1, x38.2.2.2.2.2.2.2.2.2.2.2.2.1, x38.2.2.2.2.2.2.2.2.2.2.2.2.2.1, x38.2.2.2.2.2.2.2.2.2.2.2.2.2.2, a1)).bind fun x40 => some (x40.1, x40.2.1) else none else none
def Qi.K : SK Tryz.prog := mkK mix [mK, ZW.K, Zk.K, Z0.K, Zq.K, Qu.K, QK.K, Qf.K] [(6, .inl [(1, [(14, .jnt [(.ret, ⟨[(2, false, [.cst .nilp]), (3, false, [k25])], [], [], [], 256⟩), (.normal, ⟨[], [], [], [], 256⟩)]), (30, .jnt [(.ret, ⟨[(2, false, [.cst .nilp]), (3, false, [k25])], [], [], [], 256⟩), (.normal, ⟨[], [], [], [], 256⟩)]), (126, .jnt [(.ret, ⟨[(2, false, [.cst .nilp]), (3, false, [k25])], [], [], [], 368⟩), (.normal, ⟨[], [], [], [], 368⟩)]), (2042, .loop ⟨[(36, false, [k25])], [(496, [.dat Y22, k27, k25, k25, .cst .nils, k25, k27, k27, k25, .cst .nils, .cst .nils, k25, k25, k26])], [], [], 544⟩ [(.exit 0, ⟨[], [(496, [.dat Y22, k27, k25, k25, .cst .nils, k25, k27, k27, k25, .cst .nils, .cst .nils, k25, k25, k26])], [], [], 544⟩)]), (16338, .jnt [(.normal, ⟨[], [], [], [], 560⟩), (.exit 0, ⟨[], [], [], [], 560⟩)])])])] 11 Tryz.f11 ⟨[.val true [.sl Y20], .val false [.sl Y19]], [(false, [.own (.pr Y18 (.pl false)) 0 .wr]), (false, [k25])]⟩ Qi (by kernel_rfl) (by kernel_rfl) (by kernel_rfl)
def Jc (m : Fu) (p : T2 × (List T3)) : Option ((List T4) × Int) := let a0 := p.1; let a1 := p.2; (Zg m a0).bind fun x1 => bif x1.2.2.2.2.2.2.2.2.2.2.2.2.2 != (0 : Int) then some (([] : List T4), x1.2.2.2.2.2.2.2.2.2.2.2.2.2) else (Zi m (x1.2.2.2.2.2.2.2.1, x1.2.2.2.2.2.2.2.2.1, x1.2.2.2.2.2.2.2.2.2.1, x1.2.2.2.2.2.2.2.2.2.2.1, x1.2.2.2.2.2.2.2.2.2.2.2.1, x1.2.2.2.2.2.2.2.2.2.2.2.2.1, a1)).bind fun x3 => bif x3.2.2.2.2.2.2 != (0 : Int) then some (([] : List T4), x3.2.2.2.2.2.2) else (Ql m a1).bind fun x5 => (JI m (x1.2.2.2.1, x1.2.2.2.2.1, x1.2.2.2.2.2.1, x1.2.2.2.2.2.2.1, x1.1, x5.1)).bind fun x6 => bif x6.2 != (0 : Int) then some (([] : List T4), x6.2) else bif decide ((IntKind.i64.wrap (x1.2.2.1 - x1.2.2.2.2.1)) < (x6.1.length : Int)) then some (([] : List T4), (9 : Int)) else (Zz m (x1.1, x1.2.1, x1.2.2.1, x1.2.2.2.1, x1.2.2.2.2.1, x1.2.2.2.2.2.1, x1.2.2.2.2.2.2.1, x1.2.2.2.2.2.2.2.1, x1.2.2.2.2.2.2.2.2.1, x1.2.2.2.2.2.2.2.2.2.1, x1.2.2.2.2.2.2.2.2.2.2.1, x1.2.2.2.2.2.2.2.2.2.2.2.1, x1.2.2.2.2.2.2.2.2.2.2.2.2.1, x1.2.1)).bind fun x11 => (ZS m (x6.1, (IntKind.i64.wrap (x11 + x1.2.2.2.2.1)))).bind fun x13 => some (x13, (0 : Int))
def Jc.K : SK Tryz.prog := mkK mix [Zg.K, Zi.K, Ql.K, JI.K, Zz.K, ZS.K] [] 12 Tryz.f12 ⟨[.val true [.sl Y20], .val false [.sl Y19]], [(false, [.own (.pr Y18 Y22) 0 .wr]), (false, [k25])]⟩ Jc (by kernel_rfl) (by kernel_rfl) (by kernel_rfl)
def Q9.a (m : Fu) (x1 : T11 × Int) (x2 : Int) (x3 : Int × Int) : Option (Step (Int × Int) Int) := bif decide (x3.2 < x2) then bif (decide ((0 : Int) ≤ x3.2)) && (decide (x3.2 < (x1.1.length : Int))) then bif Nat.blt x3.2.toNat x1.1.length then let x5 := x1.1.getD x3.2.toNat []; bif (decide ((4 : Int) ≤ (x5.length : Int))) && (decide ((x5.length : Int) ≤ (x5.length : Int))) then (QJ m ((x5.take 4).drop 0)).bind fun x7 => some (.next ((mxI x3.1 x7), (IntKind.i64.wrap (x3.2 + (1 : Int))))) else none else none else none else some (.fin x3.1)
def Q9 (m : Fu) (p : T2 × Int × Int) : Option (Int × Int) := let a0 := p.1; let a1 := p.2.1; let a2 := p.2.2; (ZN m (a0, a1, a2)).bind fun x1 => (iter m (Q9.a m x1 (x1.1.length : Int)) ((0 : Int), (0 : Int))).bind fun x10 => some (x10, x1.2)
def Q9.K : SK Tryz.prog := mkK mix [ZN.K, QJ.K] [(58, .loop ⟨[(6, false, [k27]), (20, false, [k25])], [], [], [], 288⟩ [(.exit 0, ⟨[(6, false, [k27])], [], [], [], 288⟩)])] 72 Tryz.f72 ⟨[.val true [.sl Y20], .val false [.int .i64], .val false [.int .i64]], [(false, [k27]), (false, [k25])]⟩ Q9 (by kernel_rfl) (by kernel_rfl) (by kernel_rfl)
def QZ (m : Fu) (p : T2 × Int × Int × Int × T11 × Int × Int × Int × Int × T2 × T8 × Int × Int × Bool × Int × T2 × T8 × Int × Int × Bool) : Option ((List T4) × Int × T2 × Int × Int × Int × T11 × Int × Int × Int × Int × T2 × T8 × Int × Int × Bool) := let a0 := p.1; let a1 := p.2.1; let a2 := p.2.2.1; let a3 := p.2.2.2.1; let a4 := p.2.2.2.2.1; let a5 := p.2.2.2.2.2.1; let a6 := p.2.2.2.2.2.2.1; let a7 := p.2.2.2.2.2.2.2.1; let a8 := p.2.2.2.2.2.2.2.2.1; let a9 := p.2.2.2.2.2.2.2.2.2.1; let a10 := p.2.2.2.2.2.2.2.2.2.2.1; let a11 := p.2.2.2.2.2.2.2.2.2.2.2.1; let a12 := p.2.2.2.2.2.2.2.2.2.2.2.2.1; let a13 := p.2.2.2.2.2.2.2.2.2.2.2.2.2.1; let a14 := p.2.2.2.2.2.2.2.2.2.2.2.2.2.2.1; let a15 := p.2.2.2.2.2.2.2.2.2.2.2.2.2.2.2.1; let a16 := p.2.2.2.2.2.2.2.2.2.2.2.2.2.2.2.2.1; let a17 := p.2.2.2.2.2.2.2.2.2.2.2.2.2.2.2.2.2.1; let a18 := p.2.2.2.2.2.2.2.2.2.2.2.2.2.2.2.2.2.2.1; let a19 := p.2.2.2.2.2.2.2.2.2.2.2.2.2.2.2.2.2.2.2; let x1 := IntKind.i64.wrap ((1 : Int) - a2); (Qh m (a3, x1)).bind fun x2 => (Q9 m (a0, x2, a3)).bind fun x3 => bif x3.2 != (0 : Int) then some (([] : List T4), x3.2, a0, a1, a2, a3, a4, a5, a6, a7, a8, a9, a10, a11, a12, a13) else let x6 := IntKind.u32.wrap ((mxI x3.1 a1) + (1 : Int)); (JG m (a14, a15, a16, a17, a18, a19, x6, a3)).bind fun x7 => bif x7.2 != (0 : Int) then some (([] : List T4), x7.2, a0, a1, a2, a3, a4, a5, a6, a7, a8, a9, a10, a11, a12, a13) else (Qh m (a3, x1)).bind fun x9 => (Qu m (x6, x1)).bind fun x10 => (Zy m (x7.1, x9, ([x10]))).bind fun x12 => some (x12, (0 : Int), a0, a1, a2, a3, a4, a5, a6, a7, a8, a9, a10, a11, a12, a13)
def QZ.K : SK Tryz.prog := mkK mix [mK, Qh.K, Q9.K, JG.K, Qu.K, Zy.K] [] 42 Tryz.f42 ⟨[.box [.sl Y20, .int .u32, .int .i64, .int .i64, .sl Y22, .int .i64, .int .u32, .int .u32, .int .i64, .sl Y18, .sl Y17, .int .i64, .int .i64, .bool], .val true [.int .i64, .sl Y18, .sl Y17, .int .i64, .int .i64, .bool]], [(false, [.own (.pr Y18 (.pl false)) 0 .wr]), (false, [k25])]⟩ QZ (by kernel_rfl) (by kernel_rfl) (by kernel_rfl)
def ZI.a (_ : Fu) (x1 : Int × Int) : Option T13 := bif x1.2 != (0 : Int) then some (Sum.inl x1.2) else some (Sum.inr ())
def ZI.b (_ : Fu) (x1 : Int × Int) : Option T13 := bif decide (x1.1 < (3 : Int)) then some (Sum.inl (230 : Int)) else some (Sum.inr ())
def ZI.c (_ : Fu) (x12 : T2 × Int) : Option T13 := bif x12.2 != (0 : Int) then some (Sum.inl x12.2) else some (Sum.inr ())
def ZI.d (_ : Fu) (x22 : Bool) : Option (Unit ⊕ Unit) := bif x22 then some (Sum.inl ()) else some (Sum.inr ())
def ZI.e (m : Fu) (x12 : T2 × Int) (x21 : Int × T2 × Int × Int × Int × Int × Int × Int × Int × Int × Int × Bool) : Option T5 := (ZI.d m (decide (x21.1 < (4 : Int)))).bind fun x23 => match x23 with | .inl _ => bif (decide ((0 : Int) ≤ x21.1)) && (decide (x21.1 < (x12.1.length : Int))) then bif Nat.blt x21.1.toNat x12.1.length then let x27 := IntKind.i64.wrap ((8 : Int) * x21.1); bif decide (x27 < (0 : Int)) then none else some (.next ((IntKind.i64.wrap (x21.1 + (1 : Int))), x21.2.1, (VG .or .u32 x21.2.2.1 (Qdz .u32 (IntKind.u32.wrap (x12.1.getD x21.1.toNat 0)) x27)), x21.2.2.2)) else none else none | .inr _ => some (.fin x21.2)
def ZI (m : Fu) (p : T2 × Int × T2 × T8 × Int × Int × Bool) : Option ((List T4) × Int) := let a0 := p.1; let a1 := p.2.1; let a2 := p.2.2.1; let a3 := p.2.2.2.1; let a4 := p.2.2.2.2.1; let a5 := p.2.2.2.2.2.1; let a6 := p.2.2.2.2.2.2; (ZW m a0).bind fun x1 => (ZI.a m x1).bind fun x3 => match x3 with | .inl x4 => bif x4 != (0 : Int) then some (([] : List T4), x4) else none | .inr _ => (ZI.b m x1).bind fun x8 => match x8 with | .inl x9 => bif x9 != (0 : Int) then some (([] : List T4), x9) else none | .inr _ => (Z0 m (a0, (0 : Int))).bind fun x12 => (ZI.c m x12).bind fun x14 => match x14 with | .inl x15 => bif x15 != (0 : Int) then some (([] : List T4), x15) else none | .inr _ => bif decide ((4 : Int) < (x12.1.length : Int)) then bif Nat.blt 4 x12.1.length then (Zq m x1.1).bind fun x20 => (iter m (ZI.e m x12) ((0 : Int), a0, (0 : Int), (IntKind.i64.wrap (x12.1.getD 4 0)), x20, (0 : Int), (0 : Int), (0 : Int), (0 : Int), (0 : Int), (0 : Int), false)).bind fun x32 => bif x32.2.1 == (0 : Int) then some (([] : List T4), (230 : Int)) else bif decide ((1 : Int) < x32.2.2.1) then some (([] : List T4), (230 : Int)) else (Qu m (x32.2.1, x32.2.2.1)).bind fun x35 => (QK m (x35.2, x12.1)).bind fun x36 => bif !x36 then some (([] : List T4), (230 : Int)) else (Qf m (x32.1, x32.2.1, x32.2.2.1, x32.2.2.2.1, ([] : List T2), x32.2.2.2.2.1, x32.2.2.2.2.2.1, x32.2.2.2.2.2.2.1, x32.2.2.2.2.2.2.2.1, ([] : List Int), ([] : List T1), x32.2.2.2.2.2.2.2.2)).bind fun x38 => bif !x38.1 then some (([] : List T4), (230 : Int)) else (QZ m (x38.2.1, x38.2.2.1, x38.2.2.2.1, x38.2.2.2.2.1, x38.2.2.2.2.2.1, x38.2.2.2.2.2.2.1, x38.2.2.2.2.2.2.2.1, x38.2.2.2.2.2.2.2.2.1, x38.2.2.2.2.2.2.2.2.2.1, x38.2.2.2.2.2.2.2.2.2.2.1, x38.2.2.2.2.2.2.2.2.2.2.2.1, x38.2.2.2.2.2.2.2.2.2.2.2.2.1, x38.2.2.2.2.2.2.2.2.2.2.2.2.2.1, x38.2.2.2.2.2.2.2.2.2.2.2.2.2.2, a1, a2, a3, a4, a5, a6)).bind fun x40 => some (x40.1, x40.2.1) else none else none
def ZI.K : SK Tryz.prog := mkK mix [mK, ZW.K, QZ.K, Z0.K, Zq.K, Qu.K, QK.K, Qf.K] [(6, .inl [(1, [(14, .jnt [(.ret, ⟨[(2, false, [.cst .nilp]), (3, false, [k25])], [], [], [], 272⟩), (.normal, ⟨[], [], [], [], 272⟩)]), (30, .jnt [(.ret, ⟨[(2, false, [.cst .nilp]), (3, false, [k25])], [], [], [], 272⟩), (.normal, ⟨[], [], [], [], 272⟩)]), (126, .jnt [(.ret, ⟨[(2, false, [.cst .nilp]), (3, false, [k25])], [], [], [], 384⟩), (.normal, ⟨[], [], [], [], 384⟩)]), (2042, .loop ⟨[(36, false, [k25])], [(512, [.dat Y22, k27, k25, k25, .cst .nils, k25, k27, k27, k25, .cst .nils, .cst .nils, k25, k25, k26])], [], [], 560⟩ [(.exit 0, ⟨[], [(512, [.dat Y22, k27, k25, k25, .cst .nils, k25, k27, k27, k25, .cst .nils, .cst .nils, k25, k25, k26])], [], [], 560⟩)]), (16338, .jnt [(.normal, ⟨[], [], [], [], 576⟩), (.exit 0, ⟨[], [], [], [], 576⟩)])])])] 13 Tryz.f13 ⟨[.val true [.sl Y20], .val true [.int .i64, .sl Y18, .sl Y17, .int .i64, .int .i64, .bool]], [(false, [.own (.pr Y18 (.pl false)) 0 .wr]), (false, [k25])]⟩ ZI (by kernel_rfl) (by kernel_rfl) (by kernel_rfl)
def Zw.a (m : Fu) (x3 : List T2) (x4 : Int × Int) : Option (Step (Int × Int) Int) := bif decide (x4.2 < (x3.length : Int)) then bif (decide ((0 : Int) ≤ x4.2)) && (decide (x4.2 < (x3.length : Int))) then bif Nat.blt x4.2.toNat x3.length then let x7 := x3.getD x4.2.toNat []; bif (decide ((4 : Int) ≤ (x7.length : Int))) && (decide ((x7.length : Int) ≤ (x7.length : Int))) then (Zl m ((x7.take 4).drop 0)).bind fun x9 => some (.next ((mxI x4.1 x9), (IntKind.i64.wrap (x4.2 + (1 : Int))))) else none else none else none else some (.fin x4.1)
def Zw (m : Fu) (p : T2 × Int × Int) : Option (Int × Int) := let a0 := p.1; let a1 := p.2.1; let a2 := p.2.2; (J7 m (a0, a1, a2)).bind fun x1 => bif x1 != (0 : Int) then some ((0 : Int), x1) else (ZL m (a0, a1, a2)).bind fun x3 => (iter m (Zw.a m x3) ((0 : Int), (0 : Int))).bind fun x12 => some (x12, (0 : Int))
def Zw.K : SK Tryz.prog := mkK mix [J7.K, ZL.K, Zl.K] [(506, .loop ⟨[(9, false, [k27]), (11, false, [k25])], [], [], [], 320⟩ [(.exit 0, ⟨[(9, false, [k27])], [], [], [], 320⟩)])] 43 Tryz.f43 ⟨[.val true [.sl Y20], .val false [.int .i64], .val false [.int .i64]], [(false, [k27]), (false, [k25])]⟩ Zw (by kernel_rfl) (by kernel_rfl) (by kernel_rfl)
def JH (m : Fu) (p : T2 × Int × T2 × T8 × Int × Int × Bool) : Option ((List T4) × Int) := let a0 := p.1; let a1 := p.2.1; let a2 := p.2.2.1; let a3 := p.2.2.2.1; let a4 := p.2.2.2.2.1; let a5 := p.2.2.2.2.2.1; let a6 := p.2.2.2.2.2.2; (Zg m a0).bind fun x1 => bif x1.2.2.2.2.2.2.2.2.2.2.2.2.2 != (0 : Int) then some (([] : List T4), x1.2.2.2.2.2.2.2.2.2.2.2.2.2) else (QT m (a1, a2, a3, a4, a5, a6)).bind fun x3 => bif x3.2 != (0 : Int) then some (([] : List T4), x3.2) else let x5 := IntKind.i64.wrap ((1 : Int) - x1.2.1); (Zz m (x1.1, x1.2.1, x1.2.2.1, x1.2.2.2.1, x1.2.2.2.2.1, x1.2.2.2.2.2.1, x1.2.2.2.2.2.2.1, x1.2.2.2.2.2.2.2.1, x1.2.2.2.2.2.2.2.2.1, x1.2.2.2.2.2.2.2.2.2.1, x1.2.2.2.2.2.2.2.2.2.2.1, x1.2.2.2.2.2.2.2.2.2.2.2.1, x1.2.2.2.2.2.2.2.2.2.2.2.2.1, x5)).bind fun x6 => (Zw m (a0, x6, x1.2.2.1)).bind fun x7 => let x8 := mxI x7.1 x1.1; bif x8 == (4294967295 : Int) then some (([] : List T4), (9 : Int)) else (JI m (([] : List T2), (0 : Int), (0 : Int), (0 : Int), (IntKind.u32.wrap (x8 + (1 : Int))), x3.1)).bind fun x11 => bif decide (x1.2.2.1 < (x11.1.length : Int)) then some (([] : List T4), (9 : Int)) else (Zz m (x1.1, x1.2.1, x1.2.2.1, x1.2.2.2.1, x1.2.2.2.2.1, x1.2.2.2.2.2.1, x1.2.2.2.2.2.2.1, x1.2.2.2.2.2.2.2.1, x1.2.2.2.2.2.2.2.2.1, x1.2.2.2.2.2.2.2.2.2.1, x1.2.2.2.2.2.2.2.2.2.2.1, x1.2.2.2.2.2.2.2.2.2.2.2.1, x1.2.2.2.2.2.2.2.2.2.2.2.2.1, x5)).bind fun x14 => (ZS m (x11.1, x14)).bind fun x15 => (JB m ((IntKind.u32.wrap (x8 + (1 : Int))), x5)).bind fun x17 => let x18 := [((0 : Int), x17)]; bif Nat.ble (x15.length + x18.length) 4294967296 then some ((x15 ++ x18), (0 : Int)) else none
def JH.K : SK Tryz.prog := mkK mix [Zg.K, QT.K, Zz.K, Zw.K, JI.K, ZS.K, JB.K] [] 14 Tryz.f14 ⟨[.val true [.sl Y20], .val true [.int .i64, .sl Y18, .sl Y17, .int .i64, .int .i64, .bool]], [(false, [.own (.pr Y18 Y22) 0 .wr]), (false, [k25])]⟩ JH (by kernel_rfl) (by kernel_rfl) (by kernel_rfl)
def Q3.a (_ : Fu) (x1 : Int × Int) : Option T13 := bif x1.2 != (0 : Int) then some (Sum.inl x1.2) else some (Sum.inr ())
def Q3.b (_ : Fu) (x1 : Int × Int) : Option T13 := bif decide (x1.1 < (3 : Int)) then some (Sum.inl (230 : Int)) else some (Sum.inr ())
def Q3.c (_ : Fu) (x12 : T2 × Int) : Option T13 := bif x12.2 != (0 : Int) then some (Sum.inl x12.2) else some (Sum.inr ())
def Q3.d (_ : Fu) (x22 : Bool) : Option (Unit ⊕ Unit) := bif x22 then some (Sum.inl ()) else some (Sum.inr ())
def Q3.e (m : Fu) (x12 : T2 × Int) (x21 : Int × T2 × Int × Int × Int × Int × Int × Int × Int × Int × Int × Bool) : Option T5 := (Q3.d m (decide (x21.1 < (4 : Int)))).bind fun x23 => match x23 with | .inl _ => bif (decide ((0 : Int) ≤ x21.1)) && (decide (x21.1 < (x12.1.length : Int))) then bif Nat.blt x21.1.toNat x12.1.length then let x27 := IntKind.i64.wrap ((8 : Int) * x21.1); bif decide (x27 < (0 : Int)) then none else some (.next ((IntKind.i64.wrap (x21.1 + (1 : Int))), x21.2.1, (VG .or .u32 x21.2.2.1 (Qdz .u32 (IntKind.u32.wrap (x12.1.getD x21.1.toNat 0)) x27)), x21.2.2.2)) else none else none | .inr _ => some (.fin x21.2)
def Q3 (m : Fu) (p : List Int) : Option ((List T4) × Int) := let a0 := p; (ZW m a0).bind fun x1 => (Q3.a m x1).bind fun x3 => match x3 with | .inl x4 => bif x4 != (0 : Int) then some (([] : List T4), x4) else none | .inr _ => (Q3.b m x1).bind fun x8 => match x8 with | .inl x9 => bif x9 != (0 : Int) then some (([] : List T4), x9) else none | .inr _ => (Z0 m (a0, (0 : Int))).bind fun x12 => (Q3.c m x12).bind fun x14 => match x14 with | .inl x15 => bif x15 != (0 : Int) then some (([] : List T4), x15) else none | .inr _ => bif decide ((4 : Int) < (x12.1.length : Int)) then bif Nat.blt 4 x12.1.length then (Zq m x1.1).bind fun x20 => (iter m (Q3.e m x12) ((0 : Int), a0, (0 : Int), (IntKind.i64.wrap (x12.1.getD 4 0)), x20, (0 : Int), (0 : Int), (0 : Int), (0 : Int), (0 : Int), (0 : Int), false)).bind fun x32 => bif x32.2.1 == (0 : Int) then some (([] : List T4), (230 : Int)) else bif decide ((1 : Int) < x32.2.2.1) then some (([] : List T4), (230 : Int)) else (Qu m (x32.2.1, x32.2.2.1)).bind fun x35 => (QK m (x35.2, x12.1)).bind fun x36 => bif !x36 then some (([] : List T4), (230 : Int)) else (Qf m (x32.1, x32.2.1, x32.2.2.1, x32.2.2.2.1, ([] : List T2), x32.2.2.2.2.1, x32.2.2.2.2.2.1, x32.2.2.2.2.2.2.1, x32.2.2.2.2.2.2.2.1, ([] : List Int), ([] : List T1), x32.2.2.2.2.2.2.2.2)).bind fun x38 => bif !x38.1 then some (([] : List T4), (230 : Int)) else (QZ m (x38.2.1, x38.2.2.1, x38.2.2.2.1, x38.2.2.2.2.1, x38.2.2.2.2.2.1, x38.2.2.2.2.2.2.1, x38.2.2.2.2.2.2.2.1, x38.2.2.2.2.2.2.2.2.1, x38.2.2.2.2.2.2.2.2.2.1, x38.2.2.2.2.2.2.2.2.2.2.1, x38.2.2.2.2.2.2.2.2.2.2.2.1, x38.2.2.2.2.2.2.2.2.2.2.2.2.1, x38.2.2.2.2.2.2.2.2.2.2.2.2.2.1, x38.2.2.2.2.2.2.2.2.2.2.2.2.2.2, x38.2.2.2.2.2.2.2.2.2)).bind fun x40 => some (x40.1, x40.2.1) else none else none
def Q3.K : SK Tryz.prog := mkK mix [mK, ZW.K, Z0.K, Zq.K, Qu.K, QK.K, Qf.K, QZ.K] [(6, .inl [(1, [(14, .jnt [(.ret, ⟨[(2, false, [.cst .nilp]), (3, false, [k25])], [], [], [], 240⟩), (.normal, ⟨[], [], [], [], 240⟩)]), (30, .jnt [(.ret, ⟨[(2, false, [.cst .nilp]), (3, false, [k25])], [], [], [], 240⟩), (.normal, ⟨[], [], [], [], 240⟩)]), (126, .jnt [(.ret, ⟨[(2, false, [.cst .nilp]), (3, false, [k25])], [], [], [], 352⟩), (.normal, ⟨[], [], [], [], 352⟩)]), (2042, .loop ⟨[(36, false, [k25])], [(480, [.dat Y22, k27, k25, k25, .cst .nils, k25, k27, k27, k25, .cst .nils, .cst .nils, k25, k25, k26])], [], [], 528⟩ [(.exit 0, ⟨[], [(480, [.dat Y22, k27, k25, k25, .cst .nils, k25, k27, k27, k25, .cst .nils, .cst .nils, k25, k25, k26])], [], [], 528⟩)]), (16338, .jnt [(.normal, ⟨[], [], [], [], 544⟩), (.exit 0, ⟨[], [], [], [], 544⟩)])])])] 15 Tryz.f15 ⟨[.val true [.sl Y20]], [(false, [.own (.pr Y18 (.pl false)) 0 .wr]), (false, [k25])]⟩ Q3 (by kernel_rfl) (by kernel_rfl) (by kernel_rfl)
def Z9 (m : Fu) (p : List Int) : Option ((List T4) × Int) := let a0 := p; (Zg m a0).bind fun x1 => bif x1.2.2.2.2.2.2.2.2.2.2.2.2.2 != (0 : Int) then some (([] : List T4), x1.2.2.2.2.2.2.2.2.2.2.2.2.2) else (JH m (a0, x1.2.2.2.2.2.2.2.1, x1.2.2.2.2.2.2.2.2.1, x1.2.2.2.2.2.2.2.2.2.1, x1.2.2.2.2.2.2.2.2.2.2.1, x1.2.2.2.2.2.2.2.2.2.2.2.1, x1.2.2.2.2.2.2.2.2.2.2.2.2.1)).bind fun x3 => some x3
def Z9.K : SK Tryz.prog := mkK mix [Zg.K, JH.K] [] 16 Tryz.f16 ⟨[.val true [.sl Y20]], [(false, [.own (.pr Y18 Y22) 0 .wr]), (false, [k25])]⟩ Z9 (by kernel_rfl) (by kernel_rfl) (by kernel_rfl)
def ZJ.a (_ : Fu) (x1 : Int × Int) : Option T13 := bif x1.2 != (0 : Int) then some (Sum.inl x1.2) else some (Sum.inr ())
def ZJ.b (_ : Fu) (x1 : Int × Int) : Option T13 := bif decide (x1.1 < (3 : Int)) then some (Sum.inl (230 : Int)) else some (Sum.inr ())
def ZJ.c (_ : Fu) (x12 : T2 × Int) : Option T13 := bif x12.2 != (0 : Int) then some (Sum.inl x12.2) else some (Sum.inr ())
def ZJ.d (_ : Fu) (x22 : Bool) : Option (Unit ⊕ Unit) := bif x22 then some (Sum.inl ()) else some (Sum.inr ())
def ZJ.e (m : Fu) (x12 : T2 × Int) (x21 : Int × T2 × Int × Int × Int × Int × Int × Int × Int × Int × Int × Bool) : Option T5 := (ZJ.d m (decide (x21.1 < (4 : Int)))).bind fun x23 => match x23 with | .inl _ => bif (decide ((0 : Int) ≤ x21.1)) && (decide (x21.1 < (x12.1.length : Int))) then bif Nat.blt x21.1.toNat x12.1.length then let x27 := IntKind.i64.wrap ((8 : Int) * x21.1); bif decide (x27 < (0 : Int)) then none else some (.next ((IntKind.i64.wrap (x21.1 + (1 : Int))), x21.2.1, (VG .or .u32 x21.2.2.1 (Qdz .u32 (IntKind.u32.wrap (x12.1.getD x21.1.toNat 0)) x27)), x21.2.2.2)) else none else none | .inr _ => some (.fin x21.2)
def ZJ (m : Fu) (p : T2 × (List T3)) : Option ((List T4) × Int) := let a0 := p.1; let a1 := p.2; (ZW m a0).bind fun x1 => (ZJ.a m x1).bind fun x3 => match x3 with | .inl x4 => bif x4 != (0 : Int) then some (([] : List T4), x4) else none | .inr _ => (ZJ.b m x1).bind fun x8 => match x8 with | .inl x9 => bif x9 != (0 : Int) then some (([] : List T4), x9) else none | .inr _ => (Z0 m (a0, (0 : Int))).bind fun x12 => (ZJ.c m x12).bind fun x14 => match x14 with | .inl x15 => bif x15 != (0 : Int) then some (([] : List T4), x15) else none | .inr _ => bif decide ((4 : Int) < (x12.1.length : Int)) then bif Nat.blt 4 x12.1.length then (Zq m x1.1).bind fun x20 => (iter m (ZJ.e m x12) ((0 : Int), a0, (0 : Int), (IntKind.i64.wrap (x12.1.getD 4 0)), x20, (0 : Int), (0 : Int), (0 : Int), (0 : Int), (0 : Int), (0 : Int), false)).bind fun x32 => bif x32.2.1 == (0 : Int) then some (([] : List T4), (230 : Int)) else bif decide ((1 : Int) < x32.2.2.1) then some (([] : List T4), (230 : Int)) else (Qu m (x32.2.1, x32.2.2.1)).bind fun x35 => (QK m (x35.2, x12.1)).bind fun x36 => bif !x36 then some (([] : List T4), (230 : Int)) else (Qf m (x32.1, x32.2.1, x32.2.2.1, x32.2.2.2.1, ([] : List T2), x32.2.2.2.2.1, x32.2.2.2.2.2.1, x32.2.2.2.2.2.2.1, x32.2.2.2.2.2.2.2.1, ([] : List Int), ([] : List T1), x32.2.2.2.2.2.2.2.2)).bind fun x38 => bif !x38.1 then some (([] : List T4), (230 : Int)) else (Zk m (x38.2.1, x38.2.2.1, x38.2.2.2.1, x38.2.2.2.2.1, x38.2.2.2.2.2.1, x38.2.2.2.2.2.2.1, x38.2.2.2.2.2.2.2.1, x38.2.2.2.2.2.2.2.2.1, x38.2.2.2.2.2.2.2.2.2.1, x38.2.2.2.2.2.2.2.2.2.2.1, x38.2.2.2.2.2.2.2.2.2.2.2.1, x38.2.2.2.2.2.2.2.2.2.2.2.2.1, x38.2.2.2.2.2.2.2.2.2.2.2.2.2.1, x38.2.2.2.2.2.2.2.2.2.2.2.2.2.2, a1)).bind fun x40 => bif x40.2.1 != (9 : Int) then some (x40.1, x40.2.1) else (QZ m (x40.2.2.1, x40.2.2.2.1, x40.2.2.2.2.1, x40.2.2.2.2.2.1, x40.2.2.2.2.2.2.1, x40.2.2.2.2.2.2.2.1, x40.2.2.2.2.2.2.2.2.1, x40.2.2.2.2.2.2.2.2.2.1, x40.2.2.2.2.2.2.2.2.2.2.1, x40.2.2.2.2.2.2.2.2.2.2.2.1, x40.2.2.2.2.2.2.2.2.2.2.2.2.1, x40.2.2.2.2.2.2.2.2.2.2.2.2.2.1, x40.2.2.2.2.2.2.2.2.2.2.2.2.2.2.1, x40.2.2.2.2.2.2.2.2.2.2.2.2.2.2.2, x40.2.2.2.2.2.2.2.2.2.2)).bind fun x42 => bif x42.2.1 != (0 : Int) then some (([] : List T4), x42.2.1) else (Z2 m (a0, x42.1, (x42.1.length : Int))).bind fun x45 => bif x45.2 != (0 : Int) then some (([] : List T4), x45.2) else (Qi m (x45.1, a1)).bind fun x47 => bif x47.2 != (0 : Int) then some (([] : List T4), x47.2) else bif Nat.ble (x42.1.length + x47.1.length) 4294967296 then some ((x42.1 ++ x47.1), (0 : Int)) else none else none else none
def ZJ.K : SK Tryz.prog := mkK mix [mK, ZW.K, Zk.K, Z0.K, Zq.K, Qu.K, QK.K, Qf.K, QZ.K, Z2.K, Qi.K] [(6, .inl [(1, [(14, .jnt [(.ret, ⟨[(2, false, [.cst .nilp]), (3, false, [k25])], [], [], [], 256⟩), (.normal, ⟨[], [], [], [], 256⟩)]), (30, .jnt [(.ret, ⟨[(2, false, [.cst .nilp]), (3, false, [k25])], [], [], [], 256⟩), (.normal, ⟨[], [], [], [], 256⟩)]), (126, .jnt [(.ret, ⟨[(2, false, [.cst .nilp]), (3, false, [k25])], [], [], [], 368⟩), (.normal, ⟨[], [], [], [], 368⟩)]), (2042, .loop ⟨[(36, false, [k25])], [(496, [.dat Y22, k27, k25, k25, .cst .nils, k25, k27, k27, k25, .cst .nils, .cst .nils, k25, k25, k26])], [], [], 544⟩ [(.exit 0, ⟨[], [(496, [.dat Y22, k27, k25, k25, .cst .nils, k25, k27, k27, k25, .cst .nils, .cst .nils, k25, k25, k26])], [], [], 544⟩)]), (16338, .jnt [(.normal, ⟨[], [], [], [], 560⟩), (.exit 0, ⟨[], [], [], [], 560⟩)])])])] 17 Tryz.f17 ⟨[.val true [.sl Y20], .val false [.sl Y19]], [(false, [.own (.pr Y18 (.pl false)) 0 .wr]), (false, [k25])]⟩ ZJ (by kernel_rfl) (by kernel_rfl) (by kernel_rfl)
def V4 (m : Fu) (p : T2 × (List T3)) : Option ((List T4) × Int) := let a0 := p.1; let a1 := p.2; (Jc m (a0, a1)).bind fun x1 => bif x1.2 != (9 : Int) then some x1 else (Z9 m a0).bind fun x3 => bif x3.2 != (0 : Int) then some (([] : List T4), x3.2) else (QD m (a0, x3.1, (x3.1.length : Int))).bind fun x6 => (Jc m (x6.1, a1)).bind fun x7 => bif x7.2 != (0 : Int) then some (([] : List T4), x7.2) else bif Nat.ble (x3.1.length + x7.1.length) 4294967296 then some ((x3.1 ++ x7.1), (0 : Int)) else none
def V4.K : SK Tryz.prog := mkK mix [Jc.K, Z9.K, QD.K] [] 18 Tryz.f18 ⟨[.val true [.sl Y20], .val false [.sl Y19]], [(false, [.own (.pr Y18 Y22) 0 .wr]), (false, [k25])]⟩ V4 (by kernel_rfl) (by kernel_rfl) (by kernel_rfl)
def QS.a (_ : Fu) (a1 : List Int) (a7 : List Int) (x11 : Int) : Option (Step Int (Bool ⊕ Unit)) := bif decide (x11 < (a1.length : Int)) then bif (decide ((0 : Int) ≤ x11)) && (decide (x11 < (a1.length : Int))) then bif (decide ((0 : Int) ≤ x11)) && (decide (x11 < (a7.length : Int))) then bif (a1.getD x11.toNat 0) != (a7.getD x11.toNat 0) then some (.fin (Sum.inl false)) else some (.next (IntKind.i64.wrap (x11 + (1 : Int)))) else none else none else some (.fin (Sum.inr ()))
def QS.b (_ : Fu) (a2 : List T1) (a8 : List T1) (x21 : Int) : Option (Step Int (Bool ⊕ Unit)) := bif decide (x21 < (a2.length : Int)) then bif (decide ((0 : Int) ≤ x21)) && (decide (x21 < (a2.length : Int))) then let x24 := a2.getD x21.toNat (0, ([], ([], (0, (0, 0))))); bif (decide ((0 : Int) ≤ x21)) && (decide (x21 < (a8.length : Int))) then let x25 := a8.getD x21.toNat (0, ([], ([], (0, (0, 0))))); bif !((x24.1 == x25.1) && (((x24.2.1 == x25.2.1) && ((x24.2.2.1 == x25.2.2.1) && ((x24.2.2.2.1 == x25.2.2.2.1) && ((x24.2.2.2.2.1 == x25.2.2.2.2.1) && ((x24.2.2.2.2.2 == x25.2.2.2.2.2) && true))))) && true)) then some (.fin (Sum.inl false)) else some (.next (IntKind.i64.wrap (x21 + (1 : Int)))) else none else none else some (.fin (Sum.inr ()))
def QS (m : Fu) (p : Int × T2 × T8 × Int × Int × Bool × Int × T2 × T8 × Int × Int × Bool) : Option (Bool) := let a0 := p.1; let a1 := p.2.1; let a2 := p.2.2.1; let a3 := p.2.2.2.1; let a4 := p.2.2.2.2.1; let a5 := p.2.2.2.2.2.1; let a6 := p.2.2.2.2.2.2.1; let a7 := p.2.2.2.2.2.2.2.1; let a8 := p.2.2.2.2.2.2.2.2.1; let a9 := p.2.2.2.2.2.2.2.2.2.1; let a10 := p.2.2.2.2.2.2.2.2.2.2.1; let a11 := p.2.2.2.2.2.2.2.2.2.2.2; bif a0 != a6 then some false else bif a3 != a9 then some false else bif a4 != a10 then some false else bif !(a5 == a11) then some false else bif (a1.length : Int) != (a7.length : Int) then some false else bif (a2.length : Int) != (a8.length : Int) then some false else (iter m (QS.a m a1 a7) (0 : Int)).bind fun x18 => match x18 with | .inl x19 => some x19 | .inr _ => (iter m (QS.b m a2 a8) (0 : Int)).bind fun x28 => match x28 with | .inl x29 => some x29 | .inr _ => some true
def QS.K : SK Tryz.prog := mkK mix [] [(58, .loop ⟨[(5, false, [k25])], [], [], [], 800⟩ [(.ret, ⟨[(4, false, [k26])], [], [], [], 800⟩), (.exit 0, ⟨[], [], [], [], 800⟩)]),
 (122, .loop ⟨[(6, false, [k25])], [], [], [], 816⟩ [(.ret, ⟨[(4, false, [k26])], [], [], [], 816⟩), (.exit 2, ⟨[], [], [], [], 816⟩)])] 19 Tryz.f19 ⟨[.val true [.int .i64, .sl Y18, .sl Y17, .int .i64, .int .i64, .bool], .val true [.int .i64, .sl Y18, .sl Y17, .int .i64, .int .i64, .bool]], [(false, [k26])]⟩ QS (by kernel_rfl) (by kernel_rfl) (by kernel_rfl)
def Zc.a (_ : Fu) (a0 : List T4) (a1 : List T4) (x4 : Int) : Option (Step Int (Bool ⊕ Unit)) := bif decide (x4 < (a0.length : Int)) then bif (decide ((0 : Int) ≤ x4)) && (decide (x4 < (a0.length : Int))) then bif (decide ((0 : Int) ≤ x4)) && (decide (x4 < (a1.length : Int))) then bif ((a0.getD x4.toNat (0, [])).1) != ((a1.getD x4.toNat (0, [])).1) then some (.fin (Sum.inl false)) else bif (decide ((0 : Int) ≤ x4)) && (decide (x4 < (a0.length : Int))) then bif (decide ((0 : Int) ≤ x4)) && (decide (x4 < (a1.length : Int))) then bif !(((a0.getD x4.toNat (0, [])).2) == ((a1.getD x4.toNat (0, [])).2)) then some (.fin (Sum.inl false)) else some (.next (IntKind.i64.wrap (x4 + (1 : Int)))) else none else none else none else none else some (.fin (Sum.inr ()))
def Zc (m : Fu) (p : (List T4) × (List T4)) : Option (Bool) := let a0 := p.1; let a1 := p.2; bif (a0.length : Int) != (a1.length : Int) then some false else (iter m (Zc.a m a0 a1) (0 : Int)).bind fun x14 => match x14 with | .inl x15 => some x15 | .inr _ => some true
def Zc.K : SK Tryz.prog := mkK mix [] [(58, .loop ⟨[(5, false, [k25])], [], [], [], 144⟩ [(.ret, ⟨[(4, false, [k26])], [], [], [], 144⟩), (.exit 0, ⟨[], [], [], [], 144⟩)])] 20 Tryz.f20 ⟨[.val false [.sl (.pr Y18 Y22)], .val false [.sl (.pr Y18 Y22)]], [(false, [k26])]⟩ Zc (by kernel_rfl) (by kernel_rfl) (by kernel_rfl)
def Qe.a (m : Fu) (a0 : Int) (a1 : List Int) (a2 : Int) (a3 : List Int) (a4 : List T1) (a5 : Int) (a6 : Int) (a7 : Bool) (a8 : List T3) : Option (Bool ⊕ Unit) := (Qab m (a1, a2, a3, a4, a5, a6, a7, a8)).bind fun x1 => bif x1 then some (Sum.inl true) else bif decide ((600 : Int) < a0) then bif decide (a0 ≤ (4096 : Int)) then some (Sum.inl true) else some (Sum.inr ()) else some (Sum.inr ())
def Qe.b (_ : Fu) (x19 : (List T4) × Int) (x39 : Int) (x42 : Int) : Option (Step Int Unit) := bif (decide ((0 : Int) ≤ x39)) && (decide (x39 < (x19.1.length : Int))) then bif Nat.blt x39.toNat x19.1.length then bif decide (x42 < (((x19.1.getD x39.toNat (0, [])).2).length : Int)) then bif (decide ((0 : Int) ≤ x39)) && (decide (x39 < (x19.1.length : Int))) then bif Nat.blt x39.toNat x19.1.length then bif (decide ((0 : Int) ≤ x39)) && (decide (x39 < (x19.1.length : Int))) then bif Nat.blt x39.toNat x19.1.length then bif (decide ((0 : Int) ≤ x42)) && (decide (x42 < (((x19.1.getD x39.toNat (0, [])).2).length : Int))) then bif (decide ((0 : Int) ≤ x42)) && (decide (x42 < (((x19.1.getD x39.toNat (0, [])).2).length : Int))) then some (.next (IntKind.i64.wrap (x42 + (1 : Int)))) else none else none else none else none else none else none else some (.fin ()) else none else none
def Qe.c (m : Fu) (x19 : (List T4) × Int) (x39 : Int) : Option (Step Int Unit) := bif decide (x39 < (x19.1.length : Int)) then (iter m (Qe.b m x19 x39) (0 : Int)).bind fun _ => some (.next (IntKind.i64.wrap (x39 + (1 : Int)))) else some (.fin ())
def Qe.d (_ : Fu) (x52 : Int × T8) : Option (Step (Int × T8) Unit) := bif decide (x52.1 < (x52.2.length : Int)) then bif (decide ((0 : Int) ≤ x52.1)) && (decide (x52.1 < (x52.2.length : Int))) then bif Nat.blt x52.1.toNat x52.2.length then some (.next ((IntKind.i64.wrap (x52.1 + (1 : Int))), (x52.2.set x52.1.toNat ((77 : Int), ((x52.2.getD x52.1.toNat (0, ([], ([], (0, (0, 0)))))).2))))) else none else none else some (.fin ())
def Qe (m : Fu) (p : Int × T2 × Int × T2 × T8 × Int × Int × Bool × (List T3)) : Option (Bool) := let a0 := p.1; let a1 := p.2.1; let a2 := p.2.2.1; let a3 := p.2.2.2.1; let a4 := p.2.2.2.2.1; let a5 := p.2.2.2.2.2.1; let a6 := p.2.2.2.2.2.2.1; let a7 := p.2.2.2.2.2.2.2.1; let a8 := p.2.2.2.2.2.2.2.2; (Qe.a m a0 a1 a2 a3 a4 a5 a6 a7 a8).bind fun x4 => match x4 with | .inl x5 => some x5 | .inr _ => (Vl m a1).bind fun x7 => (Ja m (a2, a3, a4, a5, a6, a7)).bind fun x8 => (Js m (a0, x8)).bind fun x9 => (JS m (a0, a2, a3, a4, a5, a6, a7)).bind fun x10 => (Qn m x7).bind fun x11 => (V3 m a1).bind fun x12 => (Qi m (x7, a8)).bind fun x13 => (Jc m (a1, a8)).bind fun x14 => (ZI m (x7, x8)).bind fun x15 => (JH m (a1, a2, a3, a4, a5, a6, a7)).bind fun x16 => (Q3 m x7).bind fun x17 => (Z9 m a1).bind fun x18 => (ZJ m (x7, a8)).bind fun x19 => (V4 m (a1, a8)).bind fun x20 => bif !(x9.1 == x10.1) then some false else bif x9.2 != x10.2 then some false else (QS m (x11.1, x11.2.1, x11.2.2.1, x11.2.2.2.1, x11.2.2.2.2.1, x11.2.2.2.2.2.1, x12.1, x12.2.1, x12.2.2.1, x12.2.2.2.1, x12.2.2.2.2.1, x12.2.2.2.2.2.1)).bind fun x23 => bif !x23 then some false else bif x11.2.2.2.2.2.2.1 != x12.2.2.2.2.2.2.1 then some false else bif x11.2.2.2.2.2.2.2 != x12.2.2.2.2.2.2.2 then some false else (Zc m (x13.1, x14.1)).bind fun x27 => bif !x27 then some false else bif x13.2 != x14.2 then some false else (Zc m (x15.1, x16.1)).bind fun x30 => bif !x30 then some false else bif x15.2 != x16.2 then some false else (Zc m (x17.1, x18.1)).bind fun x33 => bif !x33 then some false else bif x17.2 != x18.2 then some false else (Zc m (x19.1, x20.1)).bind fun x36 => bif !x36 then some false else bif x19.2 != x20.2 then some false else (iter m (Qe.c m x19) (0 : Int)).bind fun _ => (iter m (Qe.d m) ((0 : Int), x11.2.2.1)).bind fun _ => bif x7 == a1 then (QS m (x8.1, x8.2.1, x8.2.2.1, x8.2.2.2.1, x8.2.2.2.2.1, x8.2.2.2.2.2, a2, a3, a4, a5, a6, a7)).bind fun x59 => some x59 else some false
def Qe.sig : Sig := ⟨[.val false [.int .i64], .val true [.sl Y20], .val true [.int .i64, .sl Y18, .sl Y17, .int .i64, .int .i64, .bool], .val false [.sl Y19]], [(false, [k26])]⟩
def Qe.K : SK Tryz.prog := mkK mix [Qab.K, Vl.K, Ja.K, Js.K, JS.K, Qn.K, V3.K, Qi.K, Jc.K, ZI.K, JH.K, Q3.K, Z9.K, ZJ.K, V4.K, QS.K, Zc.K] [(0, .thaw 17),
 (6, .jnt [(.ret, ⟨[(8, false, [k26])], [], [], [], 112⟩), (.normal, ⟨[], [], [], [], 112⟩)]),
 (2097146, .loop ⟨[(37, false, [k25])], [], [], [], 3008⟩ [(.exit 0, ⟨[], [], [], [], 3008⟩)]),
 (4194298, .loop ⟨[(39, false, [k25])], [], [(545, .pr Y18 (.pr .str (.pr .str (.pr Y21 (.pr Y18 Y24)))), .wr)], [], 3024⟩ [(.exit 4, ⟨[], [], [], [545], 3024⟩)]),
 (134217362, .loop ⟨[(38, false, [k25])], [], [], [], 3088⟩ [(.exit 2, ⟨[], [], [], [], 3088⟩)])] 3 Tryz.f3 Qe.sig Qe (by kernel_rfl) (by kernel_rfl) (by kernel_rfl)
def Qe.S : Summ := ⟨3, Qe.sig, Qe⟩
theorem Qe.sound : Qal Tryz.prog Qe.S := Qe.K.h
end Go.Proofs.YtpfjjbpoikgocaaGreat
namespace Go.Proofs.YtpfjjbpoikgocaaGreat
open Go.Abs
set_option maxRecDepth 100000
def bAt (n : Int) (k : Nat) : Int := ((n.toNat / 256 ^ k % 256 : Nat) : Int)
def le4 (n : Int) : List Int := [bAt n 0, bAt n 1, bAt n 2, bAt n 3]
def le2 (n : Int) : List Int := [bAt n 0, bAt n 1]
def Z6 (n : Int) : Prop := 0 ≤ n ∧ n ≤ 4294967295
def Qcv (n : Int) : Prop := 0 ≤ n ∧ n ≤ 255
def QA (l : List Int) : Prop := ∀ x ∈ l, Qcv x
theorem QlH (n : Int) (k : Nat) : Qcv (bAt n k) := by
 unfold bAt Qcv
 have := Nat.mod_lt (n.toNat / 256 ^ k) (show 0 < 256 by decide)
 omega
theorem Qlf {n : Int} (h : 0 ≤ n) {i : Nat} (hi : i ≤ 3) : IntKind.u8.wrap (QeE .u32 n (IntKind.i64.wrap ((8 : Int) * (i : Int)))) = bAt n i := by
 obtain ⟨m, rfl⟩ := Int.eq_ofNat_of_zero_le h
 rw [w64 (by omega) (by omega)]
 have e : QeE .u32 (m : Int) ((8 : Int) * (i : Int)) = ((m / 2 ^ (8 * i) : Nat) : Int) := by
  show (m : Int).fdiv (2 ^ min ((8 : Int) * (i : Int)).toNat 32) = _
  rw [show ((8 : Int) * (i : Int)).toNat = 8 * i by omega, Nat.min_eq_left (by omega), Int.fdiv_eq_ediv_of_nonneg _ (Int.le_of_lt (Int.pow_pos (by decide)))]
  simp
 rw [e, IntKind.wrap_u8]
 unfold bAt
 rw [Int.toNat_natCast, show (256 : Nat) ^ i = 2 ^ (8 * i) by rw [Nat.pow_mul]]
 rfl
theorem Qh3 {b : List Int} {n : Int} (h : 0 ≤ n) {i : Nat} (hi : i ≤ 3) (hb : b.length + i + 1 ≤ 64) :
  (decide (IntKind.i64.wrap ((8 : Int) * (i : Int)) < 0) = false) ∧ Nat.ble ((b ++ (List.range i).map (bAt n)).length + 1) 64 = true ∧
   (b ++ (List.range i).map (bAt n)) ++ [IntKind.u8.wrap (QeE .u32 n (IntKind.i64.wrap ((8 : Int) * (i : Int))))] = b ++ (List.range (i + 1)).map (bAt n) := by
 refine ⟨by rw [w64 (by omega) (by omega)]; simp; omega, ZQ (by simp; omega), ?_⟩
 rw [Qlf h hi, List.range_succ, List.map_append, List.append_assoc]; rfl
theorem put4 {n : Int} (h : 0 ≤ n) {b : List Int} (hb : b.length ≤ 60) : iter mx (Qc.b mx n) (b, (0 : Int)) = some (b ++ le4 n) := by
 have := QL (f := Qc.b mx n) (fun i => (b ++ (List.range i).map (bAt n), (i : Int))) 4 (r := b ++ (List.range 4).map (bAt n)) (Z7 (by omega)) (fun i hi => by
  obtain ⟨e1, e2, e3⟩ := Qh3 (b := b) h (show i ≤ 3 by omega) (by omega)
  have e4 : decide ((i : Int) < 4) = true := by simp; omega
  simp only [Qc.b, Qc.a, e4, cond_true, Option.bind_some, e1, cond_false, List.length_singleton, e2, e3]
  rw [Z8 (by omega)])
  (by
   have e4 : decide (((4 : Nat) : Int) < 4) = false := by decide
   simp only [Qc.b, Qc.a, e4, cond_false, Option.bind_some])
 rw [show (List.range 4).map (bAt n) = le4 n from rfl] at this
 simpa using this
theorem QqZ {n : Int} (h : 0 ≤ n) {b : List Int} (hb : b.length ≤ 60) : iter mx (Qc.e mx n) (b, (0 : Int)) = some (b ++ le2 n) := by
 have := QL (f := Qc.e mx n) (fun i => (b ++ (List.range i).map (bAt n), (i : Int))) 2 (r := b ++ (List.range 2).map (bAt n)) (Z7 (by omega)) (fun i hi => by
  obtain ⟨e1, e2, e3⟩ := Qh3 (b := b) h (show i ≤ 3 by omega) (by omega)
  have e4 : decide ((i : Int) < 2) = true := by simp; omega
  simp only [Qc.e, Qc.d, e4, cond_true, Option.bind_some, e1, cond_false, List.length_singleton, e2, e3]
  rw [Z8 (by omega)])
  (by
   have e4 : decide (((2 : Nat) : Int) < 2) = false := by decide
   simp only [Qc.e, Qc.d, e4, cond_false, Option.bind_some])
 rw [show (List.range 2).map (bAt n) = le2 n from rfl] at this
 simpa using this
theorem QqY {n : Int} (h : 0 ≤ n) {b : List Int} (hb : b.length ≤ 60) : iter mx (Qc.g mx n) (b, (0 : Int)) = some (b ++ le2 n) := by
 have := QL (f := Qc.g mx n) (fun i => (b ++ (List.range i).map (bAt n), (i : Int))) 2 (r := b ++ (List.range 2).map (bAt n)) (Z7 (by omega)) (fun i hi => by
  obtain ⟨e1, e2, e3⟩ := Qh3 (b := b) h (show i ≤ 3 by omega) (by omega)
  have e4 : decide ((i : Int) < 2) = true := by simp; omega
  simp only [Qc.g, Qc.f, e4, cond_true, Option.bind_some, e1, cond_false, List.length_singleton, e2, e3]
  rw [Z8 (by omega)])
  (by
   have e4 : decide (((2 : Nat) : Int) < 2) = false := by decide
   simp only [Qc.g, Qc.f, e4, cond_false, Option.bind_some])
 rw [show (List.range 2).map (bAt n) = le2 n from rfl] at this
 simpa using this
theorem QnF {a b c d : Int} (ha : 0 ≤ a) (hb : 0 ≤ b) (hc : 0 ≤ c) (hd : 0 ≤ d) :
  iter mx (Qc.c mx [a, b, c, d] (([a, b, c, d].length : Nat) : Int)) (([] : List Int), (0 : Int)) = some (le4 a ++ (le4 b ++ (le4 c ++ le4 d))) := by
 have hl : ([a, b, c, d].length : Nat) = 4 := rfl
 rw [hl]
 have step : ∀ (k : Nat) (s : List Int), k < 4 → s.length ≤ 60 → 0 ≤ [a, b, c, d].getD k 0 → Qc.c mx [a, b, c, d] ((4 : Nat) : Int) (s, (k : Int)) = some (.next (s ++ le4 ([a, b, c, d].getD k 0), ((k + 1 : Nat) : Int))) := fun k s hk hs h0 => by
  have e1 : decide ((k : Int) < ((4 : Nat) : Int)) = true := by simp; omega
  have e2 : (decide ((0 : Int) ≤ (k : Int)) && decide ((k : Int) < (([a, b, c, d].length : Nat) : Int))) = true := by simp; omega
  have e3 : Nat.blt k [a, b, c, d].length = true := Qas hk
  simp only [Qc.c, e1, e2, cond_true, Int.toNat_natCast, e3, put4 h0 hs, Option.bind_some]
  rw [Z8 (by omega)]
 exact QL (f := Qc.c mx [a, b, c, d] ((4 : Nat) : Int)) (fun k => match k with
   | 0 => (([] : List Int), ((0 : Nat) : Int))
   | 1 => (le4 a, ((1 : Nat) : Int))
   | 2 => (le4 a ++ le4 b, ((2 : Nat) : Int))
   | 3 => (le4 a ++ le4 b ++ le4 c, ((3 : Nat) : Int))
   | _ => (le4 a ++ le4 b ++ le4 c ++ le4 d, ((4 : Nat) : Int))) 4 (Z7 (by omega)) (fun k hk => by
  match k, hk with
  | 0, _ => exact step 0 [] (by decide) (by simp) ha
  | 1, _ => exact step 1 (le4 a) (by decide) (by simp [le4]) hb
  | 2, _ => exact step 2 (le4 a ++ le4 b) (by decide) (by simp [le4]) hc
  | 3, _ => exact step 3 (le4 a ++ le4 b ++ le4 c) (by decide) (by simp [le4]) hd)
  (by
   have e4 : decide (((4 : Nat) : Int) < ((4 : Nat) : Int)) = false := by decide
   simp only [Qc.c, e4, cond_false]
   simp [List.append_assoc])
abbrev Blk := List Int
def hdr (g n s p : Int) (parts i k : Nat) : List Int := le4 g ++ (le4 n ++ (le4 s ++ (le4 p ++ (le2 (i : Int) ++ (le2 (parts : Int) ++ [(k : Int)])))))
def blk (g n s p : Int) (parts i : Nat) (x : List Int) : Blk := hdr g n s p parts i x.length ++ (x ++ List.replicate (43 - x.length) 0)
theorem QeR (g n s p : Int) (parts i k : Nat) : (hdr g n s p parts i k).length = 21 := rfl
theorem Qp9 {g n s p : Int} {parts i : Nat} {x : List Int} (h : x.length ≤ 43) : (blk g n s p parts i x).length = 64 := by
 simp only [blk, List.length_append, QeR, List.length_replicate]; omega
def Qp (r : List Int) : Nat := max 1 ((r.length + 42) / 43)
def Jw (r : List Int) (i : Nat) : List Int := (r.drop (43 * i)).take 43
theorem Qbr (r : List Int) (i : Nat) : (Jw r i).length ≤ 43 := by simp [Jw]; omega
def frame (g n s p : Int) (r : List Int) : List Blk := (List.range (Qp r)).map fun i => blk g n s p (Qp r) i (Jw r i)
theorem Q2 (g n s p : Int) (r : List Int) : (frame g n s p r).length = Qp r := by simp [frame]
theorem Qaj (r : List Int) : 1 ≤ Qp r := by unfold Qp; omega
theorem J4 {r : List Int} (h : r.length ≤ 65536) : Qp r ≤ 1525 := by unfold Qp; omega
theorem Qkn (r : List Int) : r.length ≤ 43 * Qp r := by unfold Qp; omega
theorem Qmh {g n s p : Int} (hg : 0 ≤ g) (hn : 0 ≤ n) (hs : 0 ≤ s) (hp : 0 ≤ p) {r : List Int} (hr : r.length ≤ 65536) {i : Nat} (hi : i < Qp r) :
  Qc.h mx g n s p (Qp r : Int) (r.drop (43 * i), (List.range i).map (fun j => blk g n s p (Qp r) j (Jw r j)), (i : Int)) =
   some (.next (r.drop (43 * (i + 1)), (List.range (i + 1)).map (fun j => blk g n s p (Qp r) j (Jw r j)), ((i + 1 : Nat) : Int))) := by
 have hpa := J4 hr
 have e1 : decide ((i : Int) < (Qp r : Int)) = true := by simp; omega
 generalize hx : r.drop (43 * i) = x
 have hpl : Jw r i = x.take 43 := by rw [Jw, hx]
 have hxl : x.length ≤ 65536 := by rw [← hx, List.length_drop]; omega
 have e2 : mnI (x.length : Int) 43 = ((min 43 x.length : Nat) : Int) := by unfold mnI; split <;> omega
 have e3 : (x.take (min 43 x.length)).drop 0 = Jw r i := by
  rw [List.drop_zero, hpl]
  rcases Nat.le_total 43 x.length with h | h
  ·rw [Nat.min_eq_left h]
  ·rw [Nat.min_eq_right h, List.take_length, List.take_of_length_le h]
 have e4 : (Jw r i).length = min 43 x.length := by rw [hpl, List.length_take]
 have e5 : (x.take x.length).drop (min 43 x.length) = r.drop (43 * (i + 1)) := by
  rw [List.take_length]
  rcases Nat.le_total 43 x.length with h | h
  ·rw [Nat.min_eq_left h, ← hx, List.drop_drop]; congr 1
  ·rw [Nat.min_eq_right h, List.drop_length]
   have : r.length ≤ 43 * (i + 1) := by
    rw [← hx, List.length_drop] at h; omega
   rw [List.drop_eq_nil_of_le this]
 have d1 : decide ((0 : Int) ≤ ((min 43 x.length : Nat) : Int)) = true := decide_eq_true (by omega)
 have d2 : decide (((min 43 x.length : Nat) : Int) ≤ (x.length : Int)) = true := decide_eq_true (by omega)
 have hi0 : IntKind.u32.wrap (i : Int) = (i : Int) := wu32 (by omega) (by omega)
 have hp0 : IntKind.u32.wrap (Qp r : Int) = (Qp r : Int) := wu32 (by omega) (by omega)
 have hk0 : IntKind.u8.wrap (((Jw r i).length : Nat) : Int) = (((Jw r i).length : Nat) : Int) := wu8 (by omega) (by have := Qbr r i; omega)
 have hh := QnF hg hn hs hp
 have h16 : (le4 g ++ (le4 n ++ (le4 s ++ le4 p))).length = 16 := rfl
 have h7 := QqZ (n := (i : Int)) (by omega) (b := le4 g ++ (le4 n ++ (le4 s ++ le4 p))) (by rw [h16]; omega)
 have h18 : (le4 g ++ (le4 n ++ (le4 s ++ le4 p)) ++ le2 (i : Int)).length = 18 := rfl
 have h8 := QqY (n := (Qp r : Int)) (by omega) (b := le4 g ++ (le4 n ++ (le4 s ++ le4 p)) ++ le2 (i : Int)) (by rw [h18]; omega)
 have h20 : (le4 g ++ (le4 n ++ (le4 s ++ le4 p)) ++ le2 (i : Int) ++ le2 (Qp r : Int)).length = 20 := rfl
 have c3 : Nat.ble (20 + 1) 64 = true := rfl
 have hbody : (le4 g ++ (le4 n ++ (le4 s ++ le4 p)) ++ le2 (i : Int) ++ le2 (Qp r : Int) ++ [(((Jw r i).length : Nat) : Int)]) = hdr g n s p (Qp r) i (Jw r i).length := by simp [hdr, List.append_assoc]
 have c4 : Nat.ble (21 + (Jw r i).length) 64 = true := ZQ (by have := Qbr r i; omega)
 have hblk : ((hdr g n s p (Qp r) i (Jw r i).length ++ Jw r i) ++ List.replicate (64 - (hdr g n s p (Qp r) i (Jw r i).length ++ Jw r i).length) 0).take 64 = blk g n s p (Qp r) i (Jw r i) := by
  have hle := Qbr r i
  have hlen : (hdr g n s p (Qp r) i (Jw r i).length ++ Jw r i).length = 21 + (Jw r i).length := by rw [List.length_append, QeR]
  rw [List.take_of_length_le (by rw [List.length_append, hlen, List.length_replicate]; omega), hlen, show 64 - (21 + (Jw r i).length) = 43 - (Jw r i).length by omega, List.append_assoc]
  rfl
 have c5 : Nat.ble (i + 1) 4294967296 = true := ZQ (by omega)
 simp only [Qc.h, e1, cond_true, e2, d1, d2, Int.toNat_natCast, e3, e4, Int.le_refl, decide_true, Bool.and_self, hh, Option.bind_some, hi0, h7, hp0, h8, h20, List.length_singleton, c3]
 rw [← e4, hk0, hbody]
 simp only [QeR, c4, cond_true, hblk, List.length_map, List.length_range, c5]
 rw [e4, e5, Z8 (by omega), List.range_succ, List.map_append]
 simp only [List.map_cons, List.map_nil]
theorem Qls {g n s p : Int} (hg : 0 ≤ g) (hn : 0 ≤ n) (hs : 0 ≤ s) (hp : 0 ≤ p) {r : List Int} (hrl : r.length ≤ 140737488351232) :
  Qc mx (g, n, s, p, r) = some (if g = 0 ∨ n = 0 then ([], 2) else if 65536 < r.length then ([], 3) else (frame g n s p r, 0)) := by
 simp only [Qc, ieq]
 by_cases h1 : g = 0
 ·rw [if_pos (.inl h1), decide_eq_true h1]; rfl
 ·by_cases h2 : n = 0
  ·rw [if_pos (.inr h2), decide_eq_false h1, decide_eq_true h2]; rfl
  ·rw [if_neg (by omega), decide_eq_false h1, decide_eq_false h2]
   by_cases h3 : 65536 < r.length
   ·have : decide ((65536 : Int) < (r.length : Int)) = true := by simp; omega
    rw [if_pos h3, this]; rfl
   ·have e3 : decide ((65536 : Int) < (r.length : Int)) = false := by simp; omega
    have hr : r.length ≤ 65536 := by omega
    have hpa := J4 hr
    have e4 : mxI 1 (IntKind.i64.wrap ((IntKind.i64.wrap (IntKind.i64.wrap ((r.length : Int) + 43) - 1)).tdiv 43)) = (Qp r : Int) := by
     rw [w64 (n := (r.length : Int) + 43) (by omega) (by omega), w64 (n := (r.length : Int) + 43 - 1) (by omega) (by omega)]
     have : ((r.length : Int) + 43 - 1).tdiv 43 = (((r.length + 42) / 43 : Nat) : Int) := by
      rw [show (r.length : Int) + 43 - 1 = ((r.length + 42 : Nat) : Int) by omega]; exact VZ _ 43
     rw [this, w64 (by omega) (by omega)]
     unfold mxI Qp
     split <;> omega
    have e5 : (decide ((0 : Int) ≤ (Qp r : Int)) && decide ((Qp r : Int) ≤ 4294967296)) = true := by simp; omega
    rw [if_neg h3, e3]
    simp only [cond_false, e4, e5, cond_true]
    have := QL (f := Qc.h mx g n s p (Qp r : Int)) (fun i => (r.drop (43 * i), (List.range i).map (fun j => blk g n s p (Qp r) j (Jw r j)), (i : Int))) (Qp r) (r := frame g n s p r) (Z7 (by omega))
     (fun i hi => Qmh hg hn hs hp hr hi) (by simp only [Qc.h, nltd, cond_false]; rfl)
    have t1 : iter mx (Qc.h mx g n s p (Qp r : Int)) (r, (List.replicate 0 [] : List (List Int)), (0 : Int)) = _ := this
    have t2 : iter mx (Qc.h mx g n s p (Qp r : Int)) (r, ([] : List (List Int)), (0 : Int)) = _ := this
    first
    | rw [t1]; rfl
    | rw [t2]; rfl
end Go.Proofs.YtpfjjbpoikgocaaGreat
namespace Go.Proofs.YtpfjjbpoikgocaaGreat
open Go.Abs
set_option maxRecDepth 100000
def Vv : List Int → Int
 | [] => 0
 | x :: r => x + 256 * Vv r
theorem Qgh : ∀ (l : List Int) (x : Int), Vv (l ++ [x]) = Vv l + x * 256 ^ l.length
 | [], x => by simp [Vv]
 | y :: l, x => by
  have ih := Qgh l x
  have e1 : Vv (y :: l ++ [x]) = y + 256 * Vv (l ++ [x]) := rfl
  have e2 : Vv (y :: l) = y + 256 * Vv l := rfl
  rw [e1, e2, ih, List.length_cons, Int.pow_succ, Int.mul_add, Int.mul_comm _ 256, ← Int.mul_assoc 256 x, Int.mul_comm 256 x, Int.mul_assoc x, Int.add_assoc]
theorem QfC : ∀ {l : List Int}, QA l → 0 ≤ Vv l ∧ Vv l < 256 ^ l.length
 | [], _ => by simp [Vv]
 | x :: l, h => by
  have h1 := h x (by simp)
  have h2 := QfC (l := l) fun y hy => h y (by simp [hy])
  unfold Qcv at h1
  have e2 : Vv (x :: l) = x + 256 * Vv l := rfl
  rw [e2, List.length_cons, Int.pow_succ]
  constructor <;> omega
theorem Zf {l : List Int} (h : QA l) (n : Nat) : QA (l.take n) := fun x hx => h x (List.mem_of_mem_take hx)
theorem Z5 {l : List Int} (h : QA l) (n : Nat) : QA (l.drop n) := fun x hx => h x (List.mem_of_mem_drop hx)
theorem VF {a b : List Int} (h : QA a) (k : QA b) : QA (a ++ b) := fun x hx => by
 rcases List.mem_append.1 hx with hx | hx
 ·exact h x hx
 ·exact k x hx
theorem VK {l : List Int} (h : QA l) (n : Nat) : Qcv (l.getD n 0) := by
 by_cases hn : n < l.length
 ·exact h _ (Zt hn)
 ·rw [List.getD_eq_getElem?_getD, List.getElem?_eq_none (by omega)]
  exact ⟨by decide, by decide⟩
theorem Qni {x : Int} (h1 : 0 ≤ x) (h2 : x ≤ 4294967295) : (BitVec.ofInt (IntKind.u32.bits) x).toNat = x.toNat := by
 rw [BitVec.toNat_ofInt]
 show (x % ((2 ^ 32 : Nat) : Int)).toNat = x.toNat
 rw [Int.emod_eq_of_lt h1 (by omega)]
theorem Qnc {a x : Int} {i : Nat} (hi : i ≤ 3) (h1 : 0 ≤ a) (h2 : a < 256 ^ i) (hx : Qcv x) :
  VG .or .u32 a (Qdz .u32 (IntKind.u32.wrap x) (IntKind.i64.wrap ((8 : Int) * (i : Int)))) = a + x * 256 ^ i ∧ decide (IntKind.i64.wrap ((8 : Int) * (i : Int)) < 0) = false := by
 obtain ⟨x1, x2⟩ := hx
 rw [w64 (by omega) (by omega)]
 refine ⟨?_, decide_eq_false (by omega)⟩
 rw [wu32 (n := x) x1 (by omega)]
 obtain ⟨y, rfl⟩ := Int.eq_ofNat_of_zero_le x1
 obtain ⟨b, rfl⟩ := Int.eq_ofNat_of_zero_le h1
 have hp : (256 : Nat) ^ i = 2 ^ (8 * i) := by rw [Nat.pow_mul]
 have hpi : (256 : Int) ^ i = ((2 ^ (8 * i) : Nat) : Int) := by rw [← hp]; simp
 rw [hpi] at h2 ⊢
 have hb : b < 2 ^ (8 * i) := by omega
 have hbound : 256 * 2 ^ (8 * i) ≤ 4294967296 := by
  have : 2 ^ (8 * i) ≤ 2 ^ 24 := Nat.pow_le_pow_right (by decide) (by omega)
  omega
 have hy : y ≤ 255 := by omega
 have hmul : y * 2 ^ (8 * i) ≤ 255 * 2 ^ (8 * i) := Nat.mul_le_mul_right _ hy
 have e1 : Qdz .u32 (y : Int) ((8 : Int) * (i : Int)) = ((y * 2 ^ (8 * i) : Nat) : Int) := by
  show IntKind.u32.wrap ((y : Int) * 2 ^ min ((8 : Int) * (i : Int)).toNat 32) = _
  rw [show ((8 : Int) * (i : Int)).toNat = 8 * i by omega, Nat.min_eq_left (by omega)]
  have : (y : Int) * 2 ^ (8 * i) = ((y * 2 ^ (8 * i) : Nat) : Int) := by simp
  rw [this, wu32 (by omega) (by omega)]
 rw [e1]
 have e2 : VG .or .u32 (b : Int) ((y * 2 ^ (8 * i) : Nat) : Int) = IntKind.u32.wrap ((BitVec.ofInt IntKind.u32.bits (b : Int) ||| BitVec.ofInt IntKind.u32.bits ((y * 2 ^ (8 * i) : Nat) : Int)).toNat : Int) := rfl
 rw [e2, BitVec.toNat_or, Qni (by omega) (by omega), Qni (by omega) (by omega), Int.toNat_natCast, Int.toNat_natCast]
 have e3 : b ||| y * 2 ^ (8 * i) = y * 2 ^ (8 * i) + b := by
  rw [Nat.or_comm, ← Nat.shiftLeft_eq, ← Nat.shiftLeft_add_eq_or_of_lt hb]
 rw [e3, wu32 (by omega) (by omega)]
 omega
theorem QjB {l : List Int} (hb : QA l) (hl : l.length ≤ 4) : QJ mx l = some (Vv l) := by
 have := QL (f := QJ.a mx l (l.length : Int)) (fun i => (Vv (l.take i), (i : Int))) l.length (r := Vv l) (Z7 (by omega)) (fun i hi => by
  obtain ⟨b1, b2⟩ := QfC (Zf hb i)
  rw [List.length_take, Nat.min_eq_left (by omega)] at b2
  obtain ⟨e1, e2⟩ := Qnc (a := Vv (l.take i)) (x := l.getD i 0) (i := i) (by omega) b1 b2 (VK hb i)
  simp only [QJ.a, ltd hi, lez, Bool.and_self, cond_true, Int.toNat_natCast, e1, e2, cond_false]
  rw [Z8 (by omega), QH hi 0, Qgh, List.length_take, Nat.min_eq_left (by omega)])
  (by simp only [QJ.a, nltd, cond_false, List.take_length])
 have this : iter mx (QJ.a mx l (l.length : Int)) ((0 : Int), (0 : Int)) = _ := this
 simp only [QJ, this, Option.bind_some]
theorem QdJ {n : Int} (h : Z6 n) : Vv (le4 n) = n := by
 obtain ⟨h1, h2⟩ := h
 simp only [le4, Vv, bAt]
 obtain ⟨m, rfl⟩ := Int.eq_ofNat_of_zero_le h1
 simp only [Int.toNat_natCast, Nat.pow_zero, Nat.div_one, Nat.pow_one]
 rw [show 256 ^ 2 = 65536 from rfl, show 256 ^ 3 = 16777216 from rfl]
 omega
theorem QpV {n : Nat} (h : n < 65536) : Vv (le2 (n : Int)) = (n : Int) := by
 simp only [le2, Vv, bAt, Int.toNat_natCast, Nat.pow_zero, Nat.div_one, Nat.pow_one]
 omega
theorem QcM (n : Int) : QA (le4 n) := fun x hx => by
 simp only [le4, List.mem_cons, List.not_mem_nil, or_false] at hx
 rcases hx with rfl | rfl | rfl | rfl <;> exact QlH _ _
theorem Qjt (n : Int) : QA (le2 n) := fun x hx => by
 simp only [le2, List.mem_cons, List.not_mem_nil, or_false] at hx
 rcases hx with rfl | rfl <;> exact QlH _ _
def Jk (l : List Blk) : Prop := ∀ b ∈ l, b.length = 64 ∧ QA b
def QaI (b : Blk) : Int := Vv (b.take 4)
def JY (b : Blk) : Int := Vv ((b.take 12).drop 8)
def Qa1 (b : Blk) : Int := Vv ((b.take 16).drop 12)
def J2 (b : Blk) : Int := Vv ((b.take 20).drop 18)
section
variable {g n s p : Int} {parts i : Nat} {x : List Int}
theorem QkL (hg : Z6 g) : QaI (blk g n s p parts i x) = g := QdJ hg
theorem QfH (hs : Z6 s) : JY (blk g n s p parts i x) = s := QdJ hs
theorem Qo1 (hp : Z6 p) : Qa1 (blk g n s p parts i x) = p := QdJ hp
theorem QgD (h : parts < 65536) : J2 (blk g n s p parts i x) = (parts : Int) := QpV h
theorem QqN : (blk g n s p parts i x).getD 20 0 = (x.length : Int) := rfl
theorem Qo2 : ((blk g n s p parts i x).drop 21).take x.length = x := by
 have : (blk g n s p parts i x).drop 21 = x ++ List.replicate (43 - x.length) 0 := by
  rw [blk, List.drop_append, QeR, List.drop_eq_nil_of_le (by rw [QeR]; omega)]; rfl
 rw [this, List.take_append_of_le_length (by omega), List.take_length]
theorem Qn3 (hx : QA x) (hl : x.length ≤ 43) : QA (blk g n s p parts i x) := by
 refine VF (VF (QcM _) (VF (QcM _) (VF (QcM _) (VF (QcM _) (VF (Qjt _) (VF (Qjt _) ?_)))))) (VF hx ?_)
 ·intro y hy
  have : y = (x.length : Int) := by simpa using hy
  subst this
  exact ⟨by omega, by omega⟩
 ·intro y hy
  have : y = 0 := (List.mem_replicate.1 hy).2
  subst this
  exact ⟨by decide, by decide⟩
end
theorem Qb3 {g n s p : Int} {r : List Int} (hr : QA r) : Jk (frame g n s p r) := fun b hb => by
 simp only [frame, List.mem_map, List.mem_range] at hb
 obtain ⟨i, _, rfl⟩ := hb
 exact ⟨Qp9 (Qbr r i), Qn3 (Zf (Z5 hr _) _) (Qbr r i)⟩
def recs (l : List Blk) : List Int := (l.map fun b => (b.drop 21).take (b.getD 20 0).toNat).flatten
theorem Qle (a b : List Blk) : recs (a ++ b) = recs a ++ recs b := by simp [recs]
theorem Qfw {l : List Blk} (h : ∀ b ∈ l, b.getD 20 0 ≤ 43) : (recs l).length ≤ 43 * l.length := by
 induction l with
 | nil => simp [recs]
 | cons b l ih =>
  have h1 := h b (by simp)
  have h2 := ih fun c hc => h c (by simp [hc])
  have e : recs (b :: l) = (b.drop 21).take (b.getD 20 0).toNat ++ recs l := rfl
  rw [e, List.length_append, List.length_take, List.length_cons]
  omega
theorem Ql0 {l : List Blk} (h : Jk l) : QA (recs l) := by
 induction l with
 | nil => intro x hx; cases hx
 | cons b l ih => exact VF (Zf (Z5 (h b (by simp)).2 _) _) (ih fun c hc => h c (by simp [hc]))
theorem Qhk (r : List Int) : ∀ k, ((List.range k).map (Jw r)).flatten = r.take (43 * k)
 | 0 => by simp
 | k + 1 => by
  rw [List.range_succ, List.map_append, List.flatten_append, Qhk r k]
  simp only [List.map_cons, List.map_nil, List.flatten_cons, List.flatten_nil, List.append_nil, Jw]
  rw [show 43 * (k + 1) = 43 * k + 43 by omega, List.take_add]
theorem QlZ (g n s p : Int) (r : List Int) : recs (frame g n s p r) = r := by
 have : recs (frame g n s p r) = ((List.range (Qp r)).map (Jw r)).flatten := by
  unfold recs frame
  rw [List.map_map]
  congr 1
  refine List.map_congr_left fun i _ => ?_
  simp only [Function.comp, QqN, Int.toNat_natCast]
  exact Qo2
 rw [this, Qhk, List.take_of_length_le (Qkn r)]
def opn (g n p : Int) (l : List Blk) : Option (List Int × Int × Nat) :=
 if l ≠ [] ∧ 1 ≤ (J2 (l.getD 0 [])).toNat ∧ (J2 (l.getD 0 [])).toNat ≤ l.length ∧ (∀ b ∈ l.take (J2 (l.getD 0 [])).toNat, b.getD 20 0 ≤ 43) ∧ g ≠ 0 ∧ n ≠ 0 ∧
   (recs (l.take (J2 (l.getD 0 [])).toNat)).length ≤ 65536 ∧ frame g n (JY (l.getD 0 [])) p (recs (l.take (J2 (l.getD 0 [])).toNat)) = l.take (J2 (l.getD 0 [])).toNat then
  some (recs (l.take (J2 (l.getD 0 [])).toNat), JY (l.getD 0 []), (J2 (l.getD 0 [])).toNat) else none
theorem Qia {l : List Blk} (h : Jk l) (hn : l ≠ []) : (l.getD 0 []).length = 64 ∧ QA (l.getD 0 []) := by
 cases l with
 | nil => exact absurd rfl hn
 | cons b l => exact h b (by simp)
theorem JQ {l : List Int} (h : QA l) (hl : l.length ≤ 4) : Z6 (Vv l) := by
 obtain ⟨h1, h2⟩ := QfC h
 have : (256 : Int) ^ l.length ≤ 256 ^ 4 := by
  have : l.length = 0 ∨ l.length = 1 ∨ l.length = 2 ∨ l.length = 3 ∨ l.length = 4 := by omega
  rcases this with h | h | h | h | h <;> rw [h] <;> decide
 exact ⟨h1, by omega⟩
theorem QdE {g n p : Int} {l : List Blk} (hl : Jk l) {r : List Int} {s : Int} {k : Nat} :
  opn g n p l = some (r, s, k) ↔ g ≠ 0 ∧ n ≠ 0 ∧ r.length ≤ 65536 ∧ Z6 s ∧ QA r ∧ k = Qp r ∧ k ≤ l.length ∧ l.take k = frame g n s p r := by
 unfold opn
 constructor
 ·intro h
  split at h
  ·rename_i hc
   obtain ⟨c1, c2, c3, c4, c5, c6, c7, c8⟩ := hc
   cases h
   refine ⟨c5, c6, c7, ?_, Ql0 (fun b hb => hl b (List.mem_of_mem_take hb)), ?_, c3, c8.symm⟩
   ·obtain ⟨h1, h2⟩ := Qia hl c1
    exact JQ (Z5 (Zf h2 _) _) (by rw [List.length_drop, List.length_take]; omega)
   ·have := congrArg List.length c8
    rw [Q2, List.length_take, Nat.min_eq_left c3] at this
    exact this.symm
  ·cases h
 ·rintro ⟨h1, h2, h3, h4, h5, rfl, h7, h8⟩
  have hpa := Qaj r
  have hpl := J4 h3
  have hne : l ≠ [] := fun e => by subst e; simp at h7; omega
  have h0 : l.getD 0 [] = blk g n s p (Qp r) 0 (Jw r 0) := by
   have e1 : (l.take (Qp r)).getD 0 [] = l.getD 0 [] := by
    rw [getD_some (by rw [List.length_take]; omega), getD_some (by omega), List.getElem_take]
   rw [← e1, h8, getD_some (by rw [Q2]; omega)]
   simp [frame]
  have hc : (J2 (l.getD 0 [])).toNat = Qp r := by rw [h0, QgD (by omega), Int.toNat_natCast]
  have hs : JY (l.getD 0 []) = s := by rw [h0, QfH h4]
  rw [hc, hs, h8, QlZ, if_pos]
  refine ⟨hne, hpa, h7, fun b hb => ?_, h1, h2, h3, rfl⟩
  simp only [frame, List.mem_map, List.mem_range] at hb
  obtain ⟨i, _, rfl⟩ := hb
  rw [QqN]
  have := Qbr r i
  omega
theorem QoD {l : List Blk} (hl : Jk l) (hlen : l.length ≤ 1000000000) (s k : Int) :
  iter mx (Qy.a mx l (l.length : Int)) (([] : List Int), s, k, (0 : Int)) = some (if ∀ b ∈ l, b.getD 20 0 ≤ 43 then .inr (recs l, s, k) else .inl (0, 0, false)) := by
 rcases JF (f := Qy.a mx l (l.length : Int)) (fun i => (recs (l.take i), s, k, (i : Int))) l.length (fun i => (l.getD i []).getD 20 0 ≤ 43) (Z7 (by omega)) (fun _ => .inl (0, 0, false)) (.inr (recs l, s, k))
  (fun i hi hp hb => by
   obtain ⟨b1, b2⟩ := hl _ (Zt (d := []) hi)
   obtain ⟨b3, b4⟩ := VK b2 20
   have hw : IntKind.i64.wrap ((l.getD i []).getD 20 0) = (l.getD i []).getD 20 0 := w64 (by omega) (by omega)
   have hrl : (recs (l.take i)).length ≤ 43 * i := by
    have := Qfw (l := l.take i) (fun b hb' => by
     obtain ⟨j, hj, rfl⟩ := List.mem_iff_getElem.1 hb'
     rw [List.length_take] at hj
     have := hb j (by omega)
     rw [getD_some (l := l) (show j < l.length by omega)] at this
     rw [List.getElem_take]; exact this)
    rw [List.length_take, Nat.min_eq_left (by omega)] at this
    exact this
   have e1 : decide ((20 : Int) < ((l.getD i []).length : Int)) = true := decide_eq_true (by omega)
   have e2 : decide ((43 : Int) < (l.getD i []).getD 20 0) = false := decide_eq_false (by omega)
   have e3 : decide ((21 : Int) ≤ ((l.getD i []).length : Int)) = true := decide_eq_true (by omega)
   have e4 : ((l.getD i []).drop 21).length = 43 := by rw [List.length_drop]; omega
   have e5 : decide ((0 : Int) ≤ (l.getD i []).getD 20 0) = true := decide_eq_true b3
   have e6 : decide ((l.getD i []).getD 20 0 ≤ ((43 : Nat) : Int)) = true := decide_eq_true (by omega)
   have e7 : (((l.getD i []).drop 21).take ((l.getD i []).getD 20 0).toNat).length ≤ 43 := by rw [List.length_take]; omega
   have e8 : Nat.ble ((recs (l.take i)).length + (((l.getD i []).drop 21).take ((l.getD i []).getD 20 0).toNat).length) 140737488351232 = true := ZQ (by omega)
   simp only [Qy.a, ltd hi, lez, Bool.and_self, cond_true, Int.toNat_natCast, e1, hw, e2, cond_false, e3, Int.le_refl, decide_true, List.take_length, e4, e5, e6, List.drop_zero, e8]
   rw [Z8 (by omega), QH hi [], Qle]
   simp [recs])
  (fun i hi hp hb => by
   obtain ⟨b1, b2⟩ := hl _ (Zt (d := []) hi)
   obtain ⟨b3, b4⟩ := VK b2 20
   have hw : IntKind.i64.wrap ((l.getD i []).getD 20 0) = (l.getD i []).getD 20 0 := w64 (by omega) (by omega)
   have e1 : decide ((20 : Int) < ((l.getD i []).length : Int)) = true := decide_eq_true (by omega)
   have e2 : decide ((43 : Int) < (l.getD i []).getD 20 0) = true := decide_eq_true (by omega)
   simp only [Qy.a, ltd hi, lez, Bool.and_self, cond_true, Int.toNat_natCast, e1, hw, e2])
  (fun _ => by simp only [Qy.a, nltd, cond_false, List.take_length]) with ⟨h, e⟩ | ⟨i, hi, hp, _, e⟩
 ·have e : iter mx (Qy.a mx l (l.length : Int)) (([] : List Int), s, k, (0 : Int)) = _ := e
  rw [e, if_pos]
  intro b hb
  obtain ⟨j, hj, rfl⟩ := List.mem_iff_getElem.1 hb
  have := h j hj
  rwa [getD_some (l := l) hj] at this
 ·have e : iter mx (Qy.a mx l (l.length : Int)) (([] : List Int), s, k, (0 : Int)) = _ := e
  rw [e, if_neg]
  intro hall
  exact hp (hall _ (Zt hi))
theorem QnS {a l : List Blk} (h : ∀ j, j < a.length → a.getD j [] = l.getD j []) (hl : a.length ≤ l.length) : a = l.take a.length := by
 apply List.ext_getElem (by rw [List.length_take]; omega)
 intro j h1 h2
 have := h j h1
 rw [getD_some h1, getD_some (by omega)] at this
 rw [List.getElem_take]; exact this
theorem QoX {l a : List Blk} (e0 : Int) (hl : a.length ≤ l.length) (hlen : l.length ≤ 1000000000) (r : List Int) (s k : Int) :
  iter mx (Qy.b mx l (a, e0) (a.length : Int)) (r, s, k, (0 : Int)) = some (if a = l.take a.length then .inr (r, s, k) else .inl (0, 0, false)) := by
 rcases JF (f := Qy.b mx l (a, e0) (a.length : Int)) (fun i => (r, s, k, (i : Int))) a.length (fun i => a.getD i [] = l.getD i []) (Z7 (by omega)) (fun _ => .inl (0, 0, false)) (.inr (r, s, k))
  (fun i hi hp hb => by
   simp only [Qy.b, ltd hi, lez, Bool.and_self, cond_true, Int.toNat_natCast, Qas hi, ltd (show i < l.length by omega), QK, hp, beq_self_eq_true, Option.bind_some, Bool.not_true, cond_false]
   rw [Z8 (by omega)])
  (fun i hi hp hb => by
   have : (a.getD i [] == l.getD i []) = false := by simpa using hp
   simp only [Qy.b, ltd hi, lez, Bool.and_self, cond_true, Int.toNat_natCast, Qas hi, ltd (show i < l.length by omega), QK, this, Option.bind_some, Bool.not_false])
  (fun _ => by simp only [Qy.b, nltd, cond_false]) with ⟨h, e⟩ | ⟨i, hi, hp, _, e⟩
 ·have e : iter mx (Qy.b mx l (a, e0) (a.length : Int)) (r, s, k, (0 : Int)) = _ := e
  rw [e, if_pos (QnS h hl)]
 ·have e : iter mx (Qy.b mx l (a, e0) (a.length : Int)) (r, s, k, (0 : Int)) = _ := e
  rw [e, if_neg]
  intro hall
  apply hp
  rw [hall, getD_some (by rw [List.length_take]; omega), List.getElem_take, getD_some (by omega)]
theorem QpK {g n p : Int} (hg : 0 ≤ g) (hn : 0 ≤ n) (hp : 0 ≤ p) {l : List Blk} (hl : Jk l) (hlen : l.length ≤ 1000000000) :
  Qy mx (g, n, p, l) = some (match opn g n p l with | some (r, s, k) => (r, s, (k : Int), true) | none => ([], 0, 0, false)) := by
 unfold opn
 simp only [Qy, ieq]
 by_cases hne : l = []
 ·subst hne
  rw [if_neg (fun h => h.1 rfl)]; rfl
 ·have hpos : 0 < l.length := List.length_pos_iff.2 hne
  have e0 : decide ((l.length : Int) = 0) = false := decide_eq_false (by omega)
  have e1 : decide ((0 : Int) < (l.length : Int)) = true := decide_eq_true (by omega)
  obtain ⟨b1, b2⟩ := Qia hl hne
  generalize hB : l.getD 0 [] = B at b1 b2
  have e2 : decide ((12 : Int) ≤ (B.length : Int)) = true := decide_eq_true (by omega)
  have e3 : decide ((20 : Int) ≤ (B.length : Int)) = true := decide_eq_true (by omega)
  have g1 : QJ mx ((B.take 12).drop 8) = some (JY B) := QjB (Z5 (Zf b2 _) _) (by rw [List.length_drop, List.length_take]; omega)
  have g2 : QJ mx ((B.take 20).drop 18) = some (J2 B) := QjB (Z5 (Zf b2 _) _) (by rw [List.length_drop, List.length_take]; omega)
  have hs : Z6 (JY B) := JQ (Z5 (Zf b2 _) _) (by rw [List.length_drop, List.length_take]; omega)
  have hc : Z6 (J2 B) := JQ (Z5 (Zf b2 _) _) (by rw [List.length_drop, List.length_take]; omega)
  have hw : IntKind.i64.wrap (J2 B) = J2 B := w64 (by have := hc.1; omega) (by have := hc.2; omega)
  simp only [e0, e1, cond_false, cond_true, hB, e2, Int.le_refl, decide_true, Bool.and_self, g1, Option.bind_some, e3, g2, hw]
  by_cases h1 : J2 B < 1
  ·rw [decide_eq_true h1, if_neg (fun h => by have := h.2.1; omega)]; rfl
  ·rw [decide_eq_false h1]
   by_cases h2 : (l.length : Int) < J2 B
   ·rw [decide_eq_true h2, if_neg (fun h => by have := h.2.2.1; omega)]; rfl
   ·rw [decide_eq_false h2]
    obtain ⟨k, hk⟩ := Int.eq_ofNat_of_zero_le hc.1
    rw [hk] at h1 h2 ⊢
    have e4 : decide ((0 : Int) ≤ (k : Int)) = true := lez k
    have e5 : decide ((k : Int) ≤ (l.length : Int)) = true := decide_eq_true (by omega)
    simp only [cond_false, e4, e5, Bool.and_self, cond_true, Int.toNat_natCast, List.drop_zero]
    have hkl : (l.take k).length = k := by rw [List.length_take]; omega
    have hok : Jk (l.take k) := fun b hb => hl b (List.mem_of_mem_take hb)
    rw [QoD hok (by omega) (JY B) (k : Int)]
    by_cases h3 : ∀ b ∈ l.take k, b.getD 20 0 ≤ 43
    ·rw [if_pos h3]
     have hrl := Qfw h3
     rw [hkl] at hrl
     dsimp only [Option.bind_some]
     rw [Qls hg hn hs.1 hp (by omega)]
     by_cases h4 : g = 0 ∨ n = 0
     ·rw [if_pos h4, if_neg (fun h => by obtain ⟨_, _, _, _, q1, q2, _⟩ := h; rcases h4 with h4 | h4; exact q1 h4; exact q2 h4)]; rfl
     ·rw [if_neg h4]
      by_cases h5 : 65536 < (recs (l.take k)).length
      ·rw [if_pos h5, if_neg (fun h => by have := h.2.2.2.2.2.2.1; omega)]; rfl
      ·rw [if_neg h5]
       simp only [Option.bind_some, bne_self_eq_false, cond_false, Q2, Vf]
       by_cases h6 : ((Qp (recs (l.take k)) : Nat) : Int) = (k : Int)
       ·rw [decide_eq_true h6, Bool.not_true, cond_false]
        have hcmp := QoX (l := l) (a := frame g n (JY B) p (recs (l.take k))) 0 (by rw [Q2]; omega) (by omega) (recs (l.take k)) (JY B) (k : Int)
        rw [Q2] at hcmp
        rw [hcmp]
        have h6' : Qp (recs (l.take k)) = k := by omega
        rw [h6']
        by_cases h7 : frame g n (JY B) p (recs (l.take k)) = l.take k
        ·rw [if_pos h7, if_pos ⟨hne, by omega, by omega, h3, fun e => h4 (.inl e), fun e => h4 (.inr e), by omega, h7⟩]; rfl
        ·rw [if_neg h7, if_neg (fun h => h7 h.2.2.2.2.2.2.2)]; rfl
       ·rw [decide_eq_false h6, if_neg (fun h => h6 (by
         have := congrArg List.length h.2.2.2.2.2.2.2
         rw [Q2, hkl] at this
         omega))]; rfl
    ·rw [if_neg h3, if_neg (fun h => h3 h.2.2.2.1)]; rfl
end Go.Proofs.YtpfjjbpoikgocaaGreat
namespace Go.Proofs.YtpfjjbpoikgocaaGreat
open Go.Abs
set_option maxRecDepth 100000
abbrev Put := Int × List Int
def okD (d : List Int) : Prop := 64 ≤ d.length ∧ d.length ≤ 262144 ∧ d.length % 64 = 0
instance (d : List Int) : Decidable (okD d) := by unfold okD; infer_instance
theorem Qdk (d : List Int) : Vo mx d = some (if okD d then 0 else 20) := by
 have e : ((d.length : Int).tmod (64 : Int)) = ((d.length % 64 : Nat) : Int) := QbD _ 64
 simp only [Vo, e, Vf]
 by_cases h1 : d.length < 64
 ·have h1' : decide ((d.length : Int) < 64) = true := by simp; omega
  have : ¬ okD d := fun h => by have := h.1; omega
  rw [h1', if_neg this]; rfl
 ·have h1' : decide ((d.length : Int) < 64) = false := by simp; omega
  rw [h1']
  by_cases h2 : 262144 < d.length
  ·have h2' : decide ((262144 : Int) < (d.length : Int)) = true := by simp; omega
   have : ¬ okD d := fun h => by have := h.2.1; omega
   rw [h2', if_neg this]; rfl
  ·have h2' : decide ((262144 : Int) < (d.length : Int)) = false := by simp; omega
   rw [h2']
   by_cases h3 : d.length % 64 = 0
   ·have : okD d := ⟨by omega, by omega, h3⟩
    rw [if_pos this, h3]; rfl
   ·have : ¬ okD d := fun h => h3 h.2.2
    have h3' : decide (((d.length % 64 : Nat) : Int) = 0) = false := by simp; omega
    rw [if_neg this, h3']; rfl
theorem QcI (d : List Int) : ZW mx d = some (if okD d then (((d.length / 64 : Nat) : Int), 0) else (0, 20)) := by
 have e : ((d.length : Int).tdiv (64 : Int)) = ((d.length / 64 : Nat) : Int) := VZ _ 64
 simp only [ZW, Qdk, Option.bind_some, e]
 by_cases h : okD d
 ·have := h.2.1
  rw [if_pos h, if_pos h, w64 (by omega) (by omega)]; rfl
 ·rw [if_neg h, if_neg h]; rfl
theorem Qe0 (d : List Int) (n : Int) : Vn mx (d, n) = some (if okD d then (if 0 ≤ n ∧ n < ((d.length / 64 : Nat) : Int) then 0 else 2) else 20) := by
 simp only [Vn, QcI, Option.bind_some]
 by_cases h : okD d
 ·rw [if_pos h, if_pos h]
  by_cases h1 : n < 0
  ·rw [if_neg (by omega)]
   have : decide (n < 0) = true := by simpa using h1
   simp [this]
  ·have e1 : decide (n < 0) = false := by simpa using h1
   by_cases h2 : ((d.length / 64 : Nat) : Int) ≤ n
   ·rw [if_neg (by omega)]
    have e2 : decide (((d.length / 64 : Nat) : Int) ≤ n) = true := by simpa using h2
    simp only [e1, e2]; rfl
   ·rw [if_pos (by omega)]
    have e2 : decide (((d.length / 64 : Nat) : Int) ≤ n) = false := by simpa using h2
    simp only [e1, e2]; rfl
 ·rw [if_neg h, if_neg h]; rfl
theorem Qlk (n : Int) : Qbm mx n = some (if 1 ≤ n ∧ n ≤ 4096 then (List.replicate (n * 64).toNat 0, 0) else ([], 20)) := by
 simp only [Qbm]
 by_cases h1 : n < 1
 ·have : decide (n < 1) = true := by simpa using h1
  rw [this, if_neg (by omega)]; rfl
 ·have e1 : decide (n < 1) = false := by simpa using h1
  by_cases h2 : 4096 < n
  ·have : decide (4096 < n) = true := by simpa using h2
   rw [e1, this, if_neg (by omega)]; rfl
  ·have e2 : decide (4096 < n) = false := by simpa using h2
   rw [e1, e2, if_pos (by omega), w64 (by omega) (by omega)]
   have e3 : (decide ((0 : Int) ≤ n * 64) && decide (n * 64 ≤ n * 64) && decide (n * 64 ≤ 4294967296)) = true := by simp; omega
   rw [e3]; rfl
theorem Qgx {l : List Int} (h : l.length ≤ 140737488351232) : ZC mx l = some l := by
 simp only [ZC, ZQ h, cond_true]
def QB (d : List Int) (n : Nat) : List Int := (d.drop (64 * n)).take 64
theorem QaN {d : List Int} {n : Nat} (h : n < d.length / 64) : (QB d n).length = 64 := by
 unfold QB
 have := Nat.div_mul_le_self d.length 64
 have h2 : 64 * (n + 1) ≤ 64 * (d.length / 64) := Nat.mul_le_mul_left 64 h
 simp; omega
theorem Qqb {d : List Int} {n : Nat} (hd : d.length ≤ 262144) (h : n < d.length / 64) : Qb9 mx (d, (n : Int)) = some (QB d n) := by
 have hm := Nat.div_mul_le_self d.length 64
 have h2 : 64 * (n + 1) ≤ 64 * (d.length / 64) := Nat.mul_le_mul_left 64 h
 simp only [Qb9]
 rw [w64 (n := (n : Int) + 1) (by omega) (by omega), w64 (n := (n : Int) * 64) (by omega) (by omega), w64 (n := ((n : Int) + 1) * 64) (by omega) (by omega)]
 have e : (decide ((0 : Int) ≤ (n : Int) * 64) && decide ((n : Int) * 64 ≤ ((n : Int) + 1) * 64) && decide (((n : Int) + 1) * 64 ≤ ((n : Int) + 1) * 64) && decide (((n : Int) + 1) * 64 ≤ (d.length : Int))) = true := by simp; omega
 rw [e, cond_true]
 congr 1
 unfold QB
 rw [show (((n : Int) + 1) * 64).toNat = 64 * n + 64 by omega, show ((n : Int) * 64).toNat = 64 * n by omega, List.drop_take, show 64 * n + 64 - 64 * n = 64 by omega]
theorem Qi7 (d : List Int) (n : Int) : Z0 mx (d, n) = some (if okD d then (if 0 ≤ n ∧ n < ((d.length / 64 : Nat) : Int) then (QB d n.toNat, 0) else ([], 2)) else ([], 20)) := by
 simp only [Z0, Qe0, Option.bind_some]
 by_cases h : okD d
 ·rw [if_pos h, if_pos h]
  by_cases h1 : 0 ≤ n ∧ n < ((d.length / 64 : Nat) : Int)
  ·rw [if_pos h1, if_pos h1]
   obtain ⟨k, rfl⟩ := Int.eq_ofNat_of_zero_le h1.1
   have hk : k < d.length / 64 := by omega
   have := Qqb h.2.1 hk
   simp only [Int.toNat_natCast, this, Option.bind_some, Qgx (l := QB d k) (by rw [QaN hk]; omega)]
   rfl
  ·rw [if_neg h1, if_neg h1]; rfl
 ·rw [if_neg h, if_neg h]; rfl
def Jq (d : List Int) (p : Put) : Int := if 0 ≤ p.1 ∧ p.1 < ((d.length / 64 : Nat) : Int) then (if p.2.length = 64 then 0 else 3) else 2
def VW (d : List Int) (l : List Put) : Int := match l.find? (fun p => !decide (Jq d p = 0)) with
 | some p => Jq d p
 | none => 0
def wr1 (d : List Int) (p : Put) : List Int := d.take (64 * p.1.toNat) ++ p.2 ++ d.drop (64 * p.1.toNat + 64)
def wr (d : List Int) (l : List Put) : List Int := l.foldl wr1 d
theorem Qa0 {d : List Int} {p : Put} (h : Jq d p = 0) : 0 ≤ p.1 ∧ p.1 < ((d.length / 64 : Nat) : Int) ∧ p.2.length = 64 := by
 unfold Jq at h
 split at h
 ·rename_i h1
  split at h
  ·rename_i h2; exact ⟨h1.1, h1.2, h2⟩
  ·cases h
 ·cases h
theorem Qj6 {d : List Int} {p : Put} (h : Jq d p = 0) : (wr1 d p).length = d.length := by
 obtain ⟨h1, h2, h3⟩ := Qa0 h
 have hm := Nat.div_mul_le_self d.length 64
 simp only [wr1, List.length_append, List.length_take, List.length_drop, h3]
 omega
theorem QbW {d e : List Int} (h : e.length = d.length) (p : Put) : Jq e p = Jq d p := by simp only [Jq, h]
theorem QeI {d : List Int} {l : List Put} : VW d l = 0 ↔ ∀ p ∈ l, Jq d p = 0 := by
 unfold VW
 constructor
 ·intro h p hp
  cases hf : l.find? (fun p => !decide (Jq d p = 0)) with
  | none =>
   rw [List.find?_eq_none] at hf
   simpa using hf p hp
  | some q =>
   have := List.find?_some hf
   rw [hf] at h
   simp [h] at this
 ·intro h
  have : l.find? (fun p => !decide (Jq d p = 0)) = none := by
   rw [List.find?_eq_none]
   intro p hp
   simp [h p hp]
  rw [this]
theorem QfL : ∀ {l : List Put} {d : List Int}, (∀ p ∈ l, Jq d p = 0) → (wr d l).length = d.length
 | [], _, _ => rfl
 | p :: l, d, h => by
  have h1 := Qj6 (h p (by simp))
  show (wr (wr1 d p) l).length = _
  rw [QfL (l := l) (fun q hq => by rw [QbW h1]; exact h q (by simp [hq])), h1]
theorem Qp6 {d : List Int} {l : List Put} (hd : okD d) (hl : l.length ≤ 1000000000000000000) :
  iter mx (Z2.a mx d l (l.length : Int)) (0 : Int) = some (if VW d l = 0 then .inr () else .inl (VW d l)) := by
 have := Qma (f := Z2.a mx d l (l.length : Int)) l (0, []) (fun p => decide (Jq d p = 0)) (fun k => (k : Int)) (fun p => .inl (Jq d p)) (.inr ()) (Z7 hl)
  (fun k hk hp => by
   obtain ⟨h1, h2, h3⟩ := Qa0 (of_decide_eq_true hp)
   simp only [Z2.a, ltd hk, lez, Bool.and_self, cond_true, Int.toNat_natCast, Qe0, if_pos hd, Option.bind_some, if_pos (show 0 ≤ (l.getD k (0, [])).1 ∧ (l.getD k (0, [])).1 < _ from ⟨h1, h2⟩), h3]
   rw [Z8 (by omega)]; rfl)
  (fun k hk hp => by
   have hp : ¬ Jq d (l.getD k (0, [])) = 0 := of_decide_eq_false hp
   simp only [Z2.a, ltd hk, lez, Bool.and_self, cond_true, Int.toNat_natCast, Qe0, if_pos hd, Option.bind_some]
   unfold Jq at hp ⊢
   by_cases h1 : 0 ≤ (l.getD k (0, [])).1 ∧ (l.getD k (0, [])).1 < ((d.length / 64 : Nat) : Int)
   ·rw [if_pos h1] at hp
    rw [if_pos h1, if_pos h1]
    by_cases h2 : (l.getD k (0, [])).2.length = 64
    ·rw [if_pos h2] at hp; exact absurd rfl hp
    ·rw [if_neg h2]
     have : (((l.getD k (0, [])).2.length : Int) != 64) = true := bne_iff_ne.2 fun h => h2 (by omega)
     rw [this]; rfl
   ·rw [if_neg h1, if_neg h1]; rfl)
  (by simp only [Z2.a, nltd, cond_false])
 have this : iter mx (Z2.a mx d l (l.length : Int)) (0 : Int) = _ := this
 rw [this]
 unfold VW
 cases hf : l.find? (fun p => !decide (Jq d p = 0)) with
 | none => simp
 | some q =>
  have := List.find?_some hf
  have hq : ¬ Jq d q = 0 := by simpa using this
  simp [hq]
theorem at_w {d : List Int} {n : Int} (hd : d.length ≤ 262144) (h0 : 0 ≤ n) (h : n < ((d.length / 64 : Nat) : Int)) : Jb mx (d, n) = some (n * 64, 64) := by
 have hm := Nat.div_mul_le_self d.length 64
 have h2 : n * 64 + 64 ≤ (d.length : Int) := by omega
 simp only [Jb]
 rw [w64 (n := n + 1) (by omega) (by omega), w64 (n := n * 64) (by omega) (by omega), w64 (n := (n + 1) * 64) (by omega) (by omega)]
 have e : (decide ((0 : Int) ≤ n * 64) && decide (n * 64 < (n + 1) * 64) && decide ((n + 1) * 64 ≤ (d.length : Int))) = true := by simp; omega
 rw [e, cond_true, show (n + 1) * 64 - n * 64 = 64 by omega]
theorem QnW {d : List Int} {l : List Put} (hd : d.length ≤ 262144) (h : ∀ p ∈ l, Jq d p = 0) (hl : l.length ≤ 1000000000000000000) :
  iter mx (Z2.b mx l (l.length : Int)) ((0 : Int), d) = some (wr d l) := by
 refine Qak (f := Z2.b mx l (l.length : Int)) l (0, []) wr1 d (fun k s => ((k : Int), s)) (Z7 hl) (fun k hk => ?_) (by simp only [Z2.b, nltd, cond_false]; rfl)
 have hlen : ((l.take k).foldl wr1 d).length = d.length := QfL fun p hp => h p (List.mem_of_mem_take hp)
 have hk0 : Jq d (l.getD k (0, [])) = 0 := h _ (Zt hk)
 obtain ⟨h1, h2, h3⟩ := Qa0 hk0
 have hm := Nat.div_mul_le_self d.length 64
 simp only [Z2.b, ltd hk, lez, Bool.and_self, cond_true, Int.toNat_natCast]
 rw [at_w (by rw [hlen]; exact hd) h1 (by rw [hlen]; exact h2)]
 have e1 : ((l.getD k (0, [])).1 * 64).toNat = 64 * (l.getD k (0, [])).1.toNat := by omega
 simp only [Option.bind_some, h3, hlen, e1]
 have e2 : (Nat.ble (64 * (l.getD k (0, [])).1.toNat + (64 : Int).toNat) d.length && (Nat.beq 64 (64 : Int).toNat && Nat.ble (64 : Int).toNat 4294967296)) = true := by
  have : Nat.ble (64 * (l.getD k (0, [])).1.toNat + 64) d.length = true := Nat.ble_eq_true_of_le (by omega)
  simp only [show (64 : Int).toNat = 64 from rfl, this]; rfl
 rw [e2, cond_true, Z8 (by omega)]
 rfl
def doS (d : List Int) (l : List Put) (m : Int) : List Int × Int :=
 if okD d then (if VW d l = 0 then (if 0 ≤ m ∧ m ≤ (l.length : Int) then (wr d (l.take m.toNat), 0) else ([], 2)) else ([], VW d l)) else ([], 20)
theorem QkF {d : List Int} {l : List Put} {m : Int} (hl : l.length ≤ 1000000000000000000) : Z2 mx (d, l, m) = some (doS d l m) := by
 simp only [Z2, Qdk, Option.bind_some, doS]
 by_cases hd : okD d
 ·rw [if_pos hd, if_pos hd]
  simp only [Qp6 hd hl, Option.bind_some, bne_self_eq_false, cond_false]
  by_cases hp : VW d l = 0
  ·rw [if_pos hp, if_pos hp]
   dsimp only
   by_cases h1 : m < 0
   ·have : decide (m < 0) = true := by simpa using h1
    rw [this, if_neg (by omega)]; rfl
   ·have e1 : decide (m < 0) = false := by simpa using h1
    by_cases h2 : (l.length : Int) < m
    ·have : decide ((l.length : Int) < m) = true := by simpa using h2
     rw [e1, this, if_neg (by omega)]; rfl
    ·have e2 : decide ((l.length : Int) < m) = false := by simpa using h2
     rw [e1, e2, if_pos (by omega), Qgx (by have := hd.2.1; omega)]
     have e3 : (decide ((0 : Int) ≤ m) && decide (m ≤ m) && decide (m ≤ (l.length : Int))) = true := by simp; omega
     simp only [Option.bind_some, e3, cond_true, cond_false, List.drop_zero]
     rw [QnW (l := l.take m.toNat) hd.2.1 (fun p hp' => QeI.1 hp p (List.mem_of_mem_take hp')) (by rw [List.length_take]; omega)]
     rfl
  ·rw [if_neg hp, if_neg hp]
 ·rw [if_neg hd, if_neg hd]; rfl
end Go.Proofs.YtpfjjbpoikgocaaGreat
namespace Go.Proofs.YtpfjjbpoikgocaaGreat
open Go.Abs
set_option maxRecDepth 100000
theorem QgA {d : List Int} {p : Put} {n : Nat} (h : Jq d p = 0) (hn : n < d.length / 64) : QB (wr1 d p) n = if p.1 = (n : Int) then p.2 else QB d n := by
 obtain ⟨h1, h2, h3⟩ := Qa0 h
 obtain ⟨q, x⟩ := p
 dsimp only at h1 h2 h3
 obtain ⟨k, rfl⟩ := Int.eq_ofNat_of_zero_le h1
 have hm := Nat.div_mul_le_self d.length 64
 simp only [QB, wr1, Int.toNat_natCast]
 have hk : (d.take (64 * k)).length = 64 * k := by simp; omega
 rcases Nat.lt_trichotomy n k with g | g | g
 ·rw [if_neg (by omega), List.append_assoc, List.drop_append_of_le_length (by omega), List.take_append_of_le_length (by simp; omega), List.drop_take, List.take_take, Nat.min_eq_left (by omega)]
 ·subst g
  rw [if_pos rfl, List.append_assoc, List.drop_append, hk, List.drop_eq_nil_of_le (by omega), Nat.sub_self, List.drop_zero, List.nil_append, List.take_append_of_le_length (by omega), List.take_of_length_le (by omega)]
 ·rw [if_neg (by omega), List.drop_append, List.drop_eq_nil_of_le (by simp; omega), List.nil_append, List.drop_drop]
  congr 2
  simp only [List.length_append, hk, h3]
  omega
def blks (d : List Int) (f m : Nat) : List (List Int) := (List.range m).map fun i => QB d (f + i)
theorem Qbh (d : List Int) (f m : Nat) : (blks d f m).length = m := by simp [blks]
def Ze (l : List (List Int)) (f : Nat) : List Put := l.mapIdx fun i b => (((f + i : Nat) : Int), b)
theorem ZT (l : List (List Int)) (f : Nat) : (Ze l f).length = l.length := by simp [Ze]
theorem QbV {l : List (List Int)} {f i : Nat} (h : i < l.length) : (Ze l f).getD i (0, []) = (((f + i : Nat) : Int), l.getD i []) := by
 rw [getD_some (by rw [ZT]; exact h), getD_some h]; simp [Ze]
theorem Qd5 {d : List Int} {l : List (List Int)} {f : Nat} (hl : ∀ b ∈ l, b.length = 64) (hf : f + l.length ≤ d.length / 64) : ∀ p ∈ Ze l f, Jq d p = 0 := by
 intro p hp
 obtain ⟨i, hi, rfl⟩ := List.mem_iff_getElem.1 hp
 rw [ZT] at hi
 have := QbV (f := f) hi
 rw [getD_some (by rw [ZT]; exact hi)] at this
 rw [this]
 have h1 := hl _ (Zt (d := []) hi)
 unfold Jq
 rw [if_pos ⟨by dsimp only; omega, by dsimp only; omega⟩, if_pos h1]
theorem Qb8 {d : List Int} {l : List (List Int)} {f : Nat} (hl : ∀ b ∈ l, b.length = 64) (hf : f + l.length ≤ d.length / 64) {n : Nat} (hn : n < d.length / 64) : ∀ t, t ≤ l.length →
  QB (wr d ((Ze l f).take t)) n = if f ≤ n ∧ n < f + t then l.getD (n - f) [] else QB d n
 | 0, _ => by
  rw [if_neg (by omega)]; rfl
 | t + 1, ht => by
  have hok := Qd5 hl hf
  have hlt : t < (Ze l f).length := by rw [ZT]; omega
  have hw : (wr d ((Ze l f).take t)).length = d.length := QfL fun p hp => hok p (List.mem_of_mem_take hp)
  have e : wr d ((Ze l f).take (t + 1)) = wr1 (wr d ((Ze l f).take t)) ((Ze l f).getD t (0, [])) := by
   rw [QH hlt (0, []), wr, wr, List.foldl_append]; rfl
  rw [e, QgA (by rw [QbW hw]; exact hok _ (Zt hlt)) (by rw [hw]; exact hn), Qb8 hl hf hn t (by omega), QbV (by omega)]
  by_cases h1 : n = f + t
  ·subst h1
   rw [if_pos rfl, if_pos (by omega), Nat.add_sub_cancel_left]
  ·rw [if_neg (by dsimp only; omega)]
   by_cases h2 : f ≤ n ∧ n < f + t
   ·rw [if_pos h2, if_pos (by omega)]
   ·rw [if_neg h2, if_neg (by omega)]
theorem QgB {d : List Int} {l : List (List Int)} {f m B t : Nat} (hl : ∀ b ∈ l, b.length = 64) (hm : f + m ≤ d.length / 64) (hB : B + l.length ≤ m) (ht : t ≤ l.length) :
  blks (wr d ((Ze l (f + B)).take t)) f m = (blks d f m).take B ++ (l.take t ++ (blks d f m).drop (B + t)) := by
 apply List.ext_getElem
 ·simp only [Qbh, List.length_append, List.length_take, List.length_drop]; omega
 ·intro i h1 h2
  rw [Qbh] at h1
  have e : (blks (wr d ((Ze l (f + B)).take t)) f m)[i] = QB (wr d ((Ze l (f + B)).take t)) (f + i) := by simp [blks]
  have e2 : ∀ (j : Nat) (h : j < (blks d f m).length), (blks d f m)[j] = QB d (f + j) := fun j h => by simp [blks]
  rw [e, Qb8 hl (by omega) (show f + i < d.length / 64 by omega) t ht]
  by_cases g1 : i < B
  ·rw [if_neg (by omega), List.getElem_append_left (by rw [List.length_take, Qbh]; omega), List.getElem_take, e2]
  ·have hB' : ((blks d f m).take B).length = B := by rw [List.length_take, Qbh]; omega
   rw [List.getElem_append_right (by rw [hB']; omega)]
   by_cases g2 : i < B + t
   ·rw [if_pos (by omega), List.getElem_append_left (by rw [hB', List.length_take]; omega), List.getElem_take, getD_some (by omega)]
    congr 1
    rw [hB']; omega
   ·have ht' : (l.take t).length = t := by rw [List.length_take]; omega
    rw [if_neg (by omega), List.getElem_append_right (by rw [hB', ht']; omega), List.getElem_drop, e2]
    congr 1
    rw [hB', ht']; omega
end Go.Proofs.YtpfjjbpoikgocaaGreat
namespace Go.Proofs.YtpfjjbpoikgocaaGreat
open Go.Abs
set_option maxRecDepth 100000
theorem QgC {d : List Int} (hd : QA d) {f m : Nat} (hm : f + m ≤ d.length / 64) : Jk (blks d f m) := fun b hb => by
 simp only [blks, List.mem_map, List.mem_range] at hb
 obtain ⟨i, hi, rfl⟩ := hb
 exact ⟨QaN (by omega), Zf (Z5 hd _) _⟩
def VH (d : List Int) (f m : Int) : Prop := 0 ≤ f ∧ 0 ≤ m ∧ f ≤ ((d.length / 64 : Nat) : Int) ∧ m ≤ ((d.length / 64 : Nat) : Int) - f
instance (d : List Int) (f m : Int) : Decidable (VH d f m) := by unfold VH; infer_instance
theorem QmL {d : List Int} {f m : Int} :
  ZN mx (d, f, m) = some (if okD d then (if VH d f m then (blks d f.toNat m.toNat, 0) else ([], 2)) else ([], 20)) := by
 simp only [ZN, QcI, Option.bind_some]
 by_cases hd : okD d
 ·rw [if_pos hd, if_pos hd]
  have hN := hd.2.1
  simp only [bne_self_eq_false, cond_false]
  by_cases h1 : f < 0
  ·rw [decide_eq_true h1, if_neg (by unfold VH; omega)]; rfl
  ·rw [decide_eq_false h1]
   by_cases h2 : m < 0
   ·rw [decide_eq_true h2, if_neg (by unfold VH; omega)]; rfl
   ·rw [decide_eq_false h2]
    by_cases h3 : ((d.length / 64 : Nat) : Int) < f
    ·rw [decide_eq_true h3, if_neg (by unfold VH; omega)]; rfl
    ·rw [decide_eq_false h3, w64 (n := ((d.length / 64 : Nat) : Int) - f) (by omega) (by omega)]
     by_cases h4 : ((d.length / 64 : Nat) : Int) - f < m
     ·rw [decide_eq_true h4, if_neg (by unfold VH; omega)]; rfl
     ·rw [decide_eq_false h4, if_pos (by unfold VH; omega)]
      obtain ⟨a, rfl⟩ := Int.eq_ofNat_of_zero_le (show 0 ≤ f by omega)
      obtain ⟨b, rfl⟩ := Int.eq_ofNat_of_zero_le (show 0 ≤ m by omega)
      simp only [cond_false, Int.toNat_natCast]
      have := QL (f := ZN.a mx d (a : Int) (b : Int)) (fun i => ((List.range i).map fun j => QB d (a + j), (i : Int))) b (r := .inr (blks d a b)) (Z7 (by omega)) (fun i hi => by
       have e1 : IntKind.i64.wrap ((a : Int) + (i : Int)) = ((a + i : Nat) : Int) := by rw [w64 (by omega) (by omega)]; omega
       simp only [ZN.a, ltd hi, cond_true, e1, Qi7, if_pos hd, if_pos (show 0 ≤ ((a + i : Nat) : Int) ∧ ((a + i : Nat) : Int) < ((d.length / 64 : Nat) : Int) by omega), Option.bind_some, bne_self_eq_false, cond_false, List.length_map, List.length_range, List.length_singleton, Int.toNat_natCast]
       rw [ZQ (show i + 1 ≤ 4294967296 by omega), Z8 (by omega), List.range_succ, List.map_append]
       rfl) (by simp only [ZN.a, nltd, cond_false]; rfl)
      have this : iter mx (ZN.a mx d (a : Int) (b : Int)) (([] : List (List Int)), (0 : Int)) = _ := this
      rw [this]; rfl
 ·rw [if_neg hd, if_neg hd]; rfl
def rd (g : Int) : Nat → List Blk → List (List Int) → Nat → Int → List Blk × List (List Int) × Nat × Int
 | 0, l, rs, bl, la => (l, rs, bl, la)
 | f + 1, l, rs, bl, la => match opn g ((rs.length + 1 : Nat) : Int) la l with
  | none => (l, rs, bl, la)
  | some (r, s, k) => rd g f (l.drop k) (rs ++ [r]) (bl + k) s
inductive Ch (g : Int) : List (List Int) → Int → List Blk → List (List Int) → Int → Prop
 | nil (rs : List (List Int)) (la : Int) : Ch g rs la [] rs la
 | cons (rs : List (List Int)) (la : Int) (r : List Int) (s : Int) (P : List Blk) (rs' : List (List Int)) (la' : Int) (h1 : g ≠ 0) (h2 : r.length ≤ 65536) (h3 : Z6 s) (h4 : QA r)
  (h : Ch g (rs ++ [r]) s P rs' la') : Ch g rs la (frame g ((rs.length + 1 : Nat) : Int) s la r ++ P) rs' la'
theorem Ch.snoc {g : Int} {rs rs' : List (List Int)} {la la' : Int} {P : List Blk} (h : Ch g rs la P rs' la') {r : List Int} {s : Int} (h1 : g ≠ 0) (h2 : r.length ≤ 65536) (h3 : Z6 s) (h4 : QA r) :
  Ch g rs la (P ++ frame g ((rs'.length + 1 : Nat) : Int) s la' r) (rs' ++ [r]) s := by
 induction h with
 | nil rs la =>
  have := Ch.cons rs la r s [] (rs ++ [r]) s h1 h2 h3 h4 (.nil _ _)
  simpa using this
 | cons rs la r0 s0 P rs' la' g1 g2 g3 g4 _ ih =>
  rw [List.append_assoc]
  exact .cons rs la r0 s0 _ _ _ g1 g2 g3 g4 ih
theorem Ch.okB {g : Int} {rs rs' : List (List Int)} {la la' : Int} {P : List Blk} (h : Ch g rs la P rs' la') : Jk P := by
 induction h with
 | nil => intro b hb; cases hb
 | cons _ _ _ _ _ _ _ _ _ _ k4 _ ih =>
  intro b hb
  rcases List.mem_append.1 hb with hb | hb
  ·exact Qb3 k4 b hb
  ·exact ih b hb
theorem Qnd {g n p s : Int} {r : List Int} {l : List Blk} (hl : Jk l) (h1 : g ≠ 0) (h2 : n ≠ 0) (h3 : r.length ≤ 65536) (h4 : Z6 s) (h5 : QA r) : opn g n p (frame g n s p r ++ l) = some (r, s, Qp r) := by
 refine (QdE ?_).2 ⟨h1, h2, h3, h4, h5, rfl, by rw [List.length_append, Q2]; omega, ?_⟩
 ·intro b hb
  rcases List.mem_append.1 hb with hb | hb
  ·exact Qb3 h5 b hb
  ·exact hl b hb
 ·rw [List.take_append_of_le_length (by rw [Q2]; omega), ← Q2 g n s p r, List.take_length]
theorem Qh2 {g : Int} {l' : List Blk} (hl' : Jk l') {rs rs' : List (List Int)} {la la' : Int} {P : List Blk} (h : Ch g rs la P rs' la') (hend : opn g ((rs'.length + 1 : Nat) : Int) la' l' = none) :
  ∀ (F : Nat) (bl : Nat), P.length < F → rd g F (P ++ l') rs bl la = (l', rs', bl + P.length, la') := by
 induction h with
 | nil rs la =>
  intro F bl hF
  obtain ⟨F, rfl⟩ : ∃ f, F = f + 1 := ⟨F - 1, by omega⟩
  simp only [rd, List.nil_append, hend, List.length_nil, Nat.add_zero]
 | cons rs la r s P rs' la' g1 g2 g3 g4 hP ih =>
  intro F bl hF
  obtain ⟨F, rfl⟩ : ∃ f, F = f + 1 := ⟨F - 1, by omega⟩
  have hPok : Jk (P ++ l') := by
   intro b hb
   rcases List.mem_append.1 hb with hb | hb
   ·exact hP.okB b hb
   ·exact hl' b hb
  have hp := Qaj r
  rw [List.length_append, Q2] at hF
  have hopn := Qnd (p := la) (n := ((rs.length + 1 : Nat) : Int)) hPok g1 (by omega) g2 g3 g4
  rw [List.append_assoc]
  simp only [rd, hopn]
  have hd : (frame g ((rs.length + 1 : Nat) : Int) s la r ++ (P ++ l')).drop (Qp r) = P ++ l' := by
   rw [List.drop_append_of_le_length (by rw [Q2]; omega), List.drop_eq_nil_of_le (by rw [Q2]; omega)]; rfl
  rw [hd, ih hend F (bl + Qp r) (by omega), List.length_append, Q2, Nat.add_assoc]
end Go.Proofs.YtpfjjbpoikgocaaGreat
end
