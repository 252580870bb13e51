/- The frame of the proofs, part 1: an executor over plain data, and that what it yields is what the machine does. -/
import Derived.Tactics
import Derived.Orders
import Derived.Below
import Derived.KernelRfl
import Derived.WalkKit
import Derived.Laws.World
import Derived.Laws.Cells
import Derived.Laws.IdiomCopy
import Derived.Laws.StructEq
import Derived.Laws.Entries
import Derived.Laws.Strings
import Derived.Lib.MinMax
import Derived.Laws.Tables
import Derived.Laws.MakeOwn
import Derived.Laws.BytesString
import Derived.Laws.IdiomStrings
import Derived.Laws.Append
/- Abs, part A: an executor over plain data. Types of data, cells, states, and what each operation does to them. -/
namespace Go.Abs

/-- Kinds of plain data. -/
inductive Ty where
  | int (k : IntKind) | bool | str | sl (e : Ty) | pr (a b : Ty) | un

@[reducible] def Ty.den : Ty → Type
  | .int _ => Int | .bool => Bool | .str => List Int | .sl e => List e.den | .pr a b => a.den × b.den | .un => Unit

def Ty.zero : (t : Ty) → t.den
  | .int _ => (0 : Int) | .bool => false | .str => ([] : List Int) | .sl _ => [] | .pr a b => (a.zero, b.zero) | .un => ()

/-- How many cells a value has. -/
def Ty.sz : Ty → Nat
  | .pr a b => a.sz + b.sz | .un => 0 | _ => 1

def Ty.beq : Ty → Ty → Bool
  | .int a, .int b => decide (a = b) | .bool, .bool => true | .str, .str => true | .sl a, .sl b => a.beq b
  | .pr a b, .pr c d => a.beq c && b.beq d | .un, .un => true | _, _ => false

theorem Ty.eq_of_beq : ∀ {a b : Ty}, a.beq b = true → a = b := by
  intro a
  induction a with
  | int k => intro b h; cases b <;> simp_all [Ty.beq]
  | bool => intro b h; cases b <;> simp_all [Ty.beq]
  | str => intro b h; cases b <;> simp_all [Ty.beq]
  | sl e ih => intro b h; cases b <;> simp_all [Ty.beq]; exact ih h
  | pr a b iha ihb => intro c h; cases c <;> simp_all [Ty.beq]; exact ⟨iha h.1, ihb h.2⟩
  | un => intro b h; cases b <;> simp_all [Ty.beq]

theorem Ty.beq_refl : ∀ a : Ty, a.beq a = true := by
  intro a; induction a <;> simp_all [Ty.beq]

/-- A datum of one kind, as one of another one, if they are the same. -/
def Ty.to (t u : Ty) (x : t.den) : Option u.den :=
  match h : t.beq u with
  | true => some (cast (congrArg Ty.den (Ty.eq_of_beq h)) x)
  | false => none

theorem Ty.to_some {t u : Ty} {x : t.den} {y : u.den} (h : t.to u x = some y) : ∃ e : t = u, cast (congrArg Ty.den e) x = y := by
  unfold Ty.to at h
  split at h
  · rename_i hb; exact ⟨Ty.eq_of_beq hb, by simpa using h⟩
  · cases h

/-- What one cell (or slot) holds. -/
inductive Cell where
  | any
  | skip                                   -- what a skipped operation leaves
  | dat (t : Ty) (x : t.den)
  | nils | nilp
  | own (t : Ty) (id : Nat)                -- a slice of an object of our own, whole
  | ptr (id off : Nat)                     -- an address in a box of our own
  | vptr (t : Ty) (x : t.den) (off : Nat)  -- an address in memory that nobody writes
  | eptr (t : Ty) (id i off : Nat)         -- an address in an element of a slice of our own
  | win (t : Ty) (id lo n : Nat)           -- a part of a slice of our own, to be written
  | bsl (id n : Nat)                       -- a slice of addresses: over a box of our own, whole
  | nilf
  | fn (f : FuncId) (caps : List (Nat × Nat))

inductive V1 where
  | one (c : Cell)
  | agg (cs : List Cell)

inductive AV where
  | val (x : V1)
  | tup (l : List V1)

/-- What becomes of an object of our own: a slice that is written no more, one that may be, a map (are its keys, its values, aggregates?). -/
inductive MK where
  | fr | wr | mp (ka va : Bool)
  | cp (c : Nat)     -- a slice of just that capacity, noughts behind

def MK.beq : MK → MK → Bool
  | .fr, .fr => true
  | .wr, .wr => true
  | .mp a b, .mp c d => (a == c) && (b == d)
  | .cp a, .cp b => Nat.beq a b
  | _, _ => false
def MK.isSl : MK → Bool
  | .mp _ _ => false
  | .cp _ => false
  | _ => true
theorem MK.eq_of_beq {a b : MK} (h : a.beq b = true) : a = b := by
  cases a <;> cases b <;> simp_all [MK.beq]

inductive AO where
  | box (cs : List Cell)
  | arr (t : Ty) (xs : List t.den) (mu : MK)

structure Ob where
  dirty : Bool
  o : AO

/-- Slots, objects (the first row of a number counts), the next number, how many slots. -/
structure St where
  tm : List (Nat × AV)
  hp : List (Nat × Option Ob)
  nxt : Nat
  n : Nat

def look {α : Type} : List (Nat × α) → Nat → Option α
  | [], _ => none
  | (i, v) :: r, n => bif Nat.beq i n then some v else look r n

def St.get (σ : St) (t : Nat) : AV := (look σ.tm t).getD (.val (.one .any))
def St.put (σ : St) (d : Option Nat) (v : AV) : St := match d with
  | some d => { σ with tm := (d, v) :: σ.tm }
  | none => σ
def St.ob (σ : St) (id : Nat) : Option AO := match look σ.hp id with
  | some (some b) => some b.o
  | _ => none
def St.set (σ : St) (id : Nat) (o : AO) : St := { σ with hp := (id, some ⟨true, o⟩) :: σ.hp }
def St.kill (σ : St) (id : Nat) : St := { σ with hp := (id, none) :: σ.hp }

def bytesOf (s : ByteArray) : List Int := s.data.toList.map fun b => (b.toNat : Int)

def Cell.ofValue : Value → Cell
  | .int k n => bif decide (k.wrap n = n) then .dat (.int k) n else .any
  | .bool b => .dat .bool b
  | .string s => bif decide (s.size ≤ 140737488351232) then .dat .str (bytesOf s) else .any
  | .slice a l c => bif a.isNone && Nat.beq l 0 && Nat.beq c 0 then .nils else .any
  | .pointer a => bif a.isNone then .nilp else .any
  | .tuple vs => bif Nat.beq vs.toList.length 0 then .skip else .any
  | .nilFunc => .nilf
  | _ => .any

def AV.ofValue : Value → AV
  | .agg cs => .val (.agg (cs.toList.map Cell.ofValue))
  | v => .val (.one (Cell.ofValue v))

def St.ev (σ : St) : Operand → AV
  | .tmp t => σ.get t
  | .const v => AV.ofValue v
  | .global _ => .val (.one .any)
  | .func f => .val (.one (.fn f []))

def V1.cells : V1 → List Cell
  | .one c => [c]
  | .agg cs => cs

/-- A datum as its cells. -/
def explode : (t : Ty) → t.den → List Cell
  | .pr a b, x => explode a x.1 ++ explode b x.2
  | .un, _ => []
  | .int k, x => [.dat (.int k) x]
  | .bool, x => [.dat .bool x]
  | .str, x => [.dat .str x]
  | .sl e, x => [.dat (.sl e) x]

/-- A cell as a datum. -/
def Cell.toDat (σ : St) (t : Ty) : Cell → Option t.den
  | .dat u x => u.to t x
  | .nils => match t with
    | .sl _ => some []
    | _ => none
  | .own e id => match σ.ob id with
    | some (.arr e' xs m) => bif m.isSl && e'.beq e then (Ty.sl e').to t xs else none
    | _ => none
  | _ => none

/-- As 'toDat'; what is of our own must have been told already. -/
def Cell.toDatS (σ : St) (t : Ty) : Cell → Option t.den
  | .dat u x => u.to t x
  | .nils => match t with
    | .sl _ => some []
    | _ => none
  | .own e id => match σ.ob id with
    | some (.arr e' xs .fr) => bif e'.beq e then (Ty.sl e').to t xs else none
    | _ => none
  | _ => none

/-- Cells as a datum; and the cells behind it. -/
def implode (σ : St) : (t : Ty) → List Cell → Option (t.den × List Cell)
  | .pr a b, cs => match implode σ a cs with
    | some (x, r) => match implode σ b r with
      | some (y, r') => some ((x, y), r')
      | none => none
    | none => none
  | .un, cs => some ((), cs)
  | .int k, c :: r => (c.toDatS σ (.int k)).map fun x => (x, r)
  | .bool, c :: r => (c.toDatS σ .bool).map fun x => (x, r)
  | .str, c :: r => (c.toDatS σ .str).map fun x => (x, r)
  | .sl e, c :: r => (c.toDatS σ (.sl e)).map fun x => (x, r)
  | _, [] => none

/-- What was told as a datum is written no more. -/
def St.freeze1 (σ : St) : Cell → St
  | .own _ id => match σ.ob id with
    | some (.arr t xs .wr) => { σ with hp := (id, some ⟨true, .arr t xs .fr⟩) :: σ.hp }
    | _ => σ
  | _ => σ
def St.freeze (σ : St) : List Cell → St
  | [] => σ
  | c :: r => (σ.freeze1 c).freeze r

/-! ## Types of the program -/

def aggOf (P : Program) (t : TypeId) : Option Bool := match P.underlying t with
  | some (.struct _) | some (.array _ _) => some true
  | some _ => some false
  | none => none

def tyFold : List (Option Ty) → Option Ty
  | [] => some .un
  | [a] => a
  | a :: r => match a, tyFold r with
    | some a, some b => some (.pr a b)
    | _, _ => none

def tyOf (P : Program) : Nat → TypeId → Option Ty
  | 0, _ => none
  | n + 1, t => match P.underlying t with
    | some (.int k) => some (.int k)
    | some .bool => some .bool
    | some .string => some .str
    | some (.slice e) => (tyOf P n e).map .sl
    | some (.struct fs) => tyFold (fs.toList.map fun f => tyOf P n f.type)
    | _ => none

def tyD : Nat := 12

/-- The element type of a slice type: its number, its kind. -/
def elemOf (P : Program) (t : TypeId) : Option (TypeId × Ty) := match P.underlying t with
  | some (.slice e) => match tyOf P tyD e with
    | some u => bif Nat.beq (P.cellsOf e) u.sz && Nat.blt 0 u.sz && Nat.ble (P.bytesOf e) 4096 then some (e, u) else none
    | none => none
  | _ => none

/-- Is a cell the zero value of a kind? -/
def zcell : Ty → Value → Bool
  | .int k, .int k' n => decide (k = k') && decide (n = 0)
  | .bool, .bool b => !b
  | .str, .string s => Nat.beq s.size 0
  | .sl _, .slice none 0 0 => true
  | _, _ => false

/-- Are cells the zero value of a kind? What is behind. -/
def zmatch : Ty → List Value → Option (List Value)
  | .pr a b, vs => match zmatch a vs with | some r => zmatch b r | none => none
  | .un, vs => some vs
  | .int k, v :: r => bif zcell (.int k) v then some r else none
  | .bool, v :: r => bif zcell .bool v then some r else none
  | .str, v :: r => bif zcell .str v then some r else none
  | .sl e, v :: r => bif zcell (.sl e) v then some r else none
  | _, [] => none

def zeroVals (P : Program) (t : TypeId) : Option (List Value) := match P.info? t with
  | some i => match i.zero with
    | some v => some v.cells.toList
    | none => none
  | none => none

def zeroOk (P : Program) (e : TypeId) (u : Ty) : Bool := match zeroVals P e with
  | some vs => match zmatch u vs with
    | some [] => true
    | _ => false
  | none => false

def fieldsOf (P : Program) (t : TypeId) : Option (List Field) := match P.underlying t with
  | some (.struct fs) => some fs.toList
  | _ => none

/-! ## Operations. 'K' goes on with the value and the state. -/
section
variable {R : Type}

def splice (cs : List Cell) (off : Nat) (new : List Cell) : List Cell := cs.take off ++ new ++ cs.drop (off + new.length)

/-- May these cells be stored? -/
def storB : List Cell → Bool
  | [] => true
  | .any :: _ | .skip :: _ => false
  | _ :: r => storB r

/-- 'build': parts put into the zero cells. -/
def fillC (place : Nat → Option (Nat × Nat)) (cs : List Cell) : List (Nat × AV) → Option (List Cell)
  | [] => some cs
  | (i, .val x) :: r => match place i with
    | some (off, n) => bif Nat.beq x.cells.length n && Nat.ble (off + n) cs.length && storB x.cells then fillC place (splice cs off x.cells) r else none
    | none => none
  | _ => none

def nth {α : Type} : List α → Nat → Option α
  | [], _ => none
  | a :: _, 0 => some a
  | _ :: r, n + 1 => nth r n

def placesOf (P : Program) : List Field → Option (List (Nat × Nat))
  | [] => some []
  | f :: r => match P.info? f.type, placesOf P r with
    | some i, some l => some ((f.offset, i.size) :: l)
    | _, _ => none

def aBuild (P : Program) (t : TypeId) (parts : List (Nat × AV)) (K : AV → Option R) : Option R :=
  match zeroVals P t with
  | none => none
  | some z => match P.underlying t with
    | some (.struct fs) => match placesOf P fs.toList with
      | some pl => match fillC (nth pl) (z.map Cell.ofValue) parts with
        | some cs => K (.val (.agg cs))
        | none => none
      | none => none
    | some (.array _ e) => match P.info? e with
      | some ie => match fillC (fun i => some (i * ie.size, ie.size)) (z.map Cell.ofValue) parts with
        | some cs => K (.val (.agg cs))
        | none => none
      | none => none
    | _ => none

/-- The elements of a literal, one behind the other. -/
def litElems (σ : St) (u : Ty) : Nat → List (Nat × AV) → Option (List u.den)
  | _, [] => some []
  | k, (i, .val x) :: r => bif Nat.beq i k && Nat.beq x.cells.length u.sz && storB x.cells then
      match implode σ u x.cells with
      | some (d, []) => match litElems σ u (k + 1) r with
        | some l => some (d :: l)
        | none => none
      | _ => none
    else none
  | _, _ => none

def freezeParts (σ : St) : List (Nat × AV) → St
  | [] => σ
  | (_, .val x) :: r => freezeParts (σ.freeze x.cells) r
  | _ :: r => freezeParts σ r

/-- The element type of a slice of addresses. -/
def ptrElem (P : Program) (t : TypeId) : Option TypeId := match P.underlying t with
  | some (.slice e) => match P.underlying e, zeroVals P e with
    | some (.pointer _), some [.pointer none] => bif Nat.beq (P.cellsOf e) 1 then some e else none
    | _, _ => none
  | _ => none
def aBuildSlice (P : Program) (nb : Nat) (t : TypeId) (n : Nat) (parts : List (Nat × AV)) (σ : St) (K : AV → St → Option R) : Option R :=
  match elemOf P t with
  | some (e, u) => bif Nat.ble (n * u.sz) 16777216 && zeroOk P e u && Nat.beq parts.length n then
      match litElems (freezeParts σ parts) u 0 parts with
      | some xs => K (.val (.one (.own u nb))) ((freezeParts σ parts).set nb (.arr u xs .wr))
      | none => none
    else none
  | none => match ptrElem P t with
    | some _ => bif Nat.blt 0 n && Nat.ble n 64 then
        match fillC (fun i => some (i * 1, 1)) (List.replicate n .nilp) parts with
        | some cs => K (.val (.one (.bsl nb n))) (σ.set nb (.box cs))
        | none => none
      else none
    | none => none

/-- A variable of a type, out of cells, from one on. -/
def aPart (P : Program) (t : TypeId) (cs : List Cell) (off : Nat) (K : AV → Option R) : Option R :=
  match P.info? t, aggOf P t with
  | some i, some true => bif Nat.ble (off + i.size) cs.length then K (.val (.agg ((cs.drop off).take i.size))) else none
  | some _, some false => match nth cs off with
    | some c => K (.val (.one c))
    | none => none
  | _, _ => none

def aLoad (P : Program) (t : TypeId) (a : AV) (σ : St) (K : AV → Option R) : Option R :=
  match a with
  | .val (.one (.ptr id off)) => match σ.ob id with
    | some (.box cs) => aPart P t cs off K
    | _ => none
  | .val (.one (.vptr u x off)) => aPart P t (explode u x) off K
  | .val (.one (.eptr u id i off)) => match σ.ob id with
    | some (.arr u' xs m) => bif m.isSl && (u'.beq u && Nat.blt i (List.length xs)) then aPart P t (explode u' (List.getD xs i u'.zero)) off K else none
    | _ => none
  | _ => none

def aStore (P : Program) (t : TypeId) (a v : AV) (σ : St) (K : St → Option R) : Option R :=
  match v with
  | .val x =>
    bif Nat.beq x.cells.length (P.cellsOf t) && Nat.blt 0 (P.cellsOf t) && storB x.cells then
      match a with
      | .val (.one (.ptr id off)) => match σ.ob id with
        | some (.box cs) => bif Nat.ble (off + P.cellsOf t) cs.length then K (σ.set id (.box (splice cs off x.cells))) else none
        | _ => none
      | .val (.one (.eptr u id i off)) => match (σ.freeze x.cells).ob id with
        | some (.arr u' xs .wr) => bif u'.beq u && Nat.ble (off + P.cellsOf t) u'.sz && Nat.blt i (List.length xs) then
            match implode (σ.freeze x.cells) u' (splice (explode u' (List.getD xs i u'.zero)) off x.cells) with
            | some (d, []) => K ((σ.freeze x.cells).set id (.arr u' (List.set xs i d) .wr))
            | _ => none
          else none
        | _ => none
      | _ => none
    else none
  | _ => none

def bitsOp (op : BinOp) (k : IntKind) (x y : Int) : Int :=
  let a := BitVec.ofInt k.bits x
  let b := BitVec.ofInt k.bits y
  k.wrap (match op with
    | .and => a &&& b
    | .or => a ||| b
    | .xor => a ^^^ b
    | _ => a &&& ~~~b).toNat

def shlOp (k : IntKind) (x y : Int) : Int := k.wrap (x * 2 ^ min y.toNat k.bits)
def shrOp (k : IntKind) (x y : Int) : Int := x.fdiv (2 ^ min y.toNat k.bits)

def one (t : Ty) (x : t.den) : AV := .val (.one (.dat t x))

def aInt (op : BinOp) (k : IntKind) (x y : Int) (K : AV → Option R) : Option R :=
  match op with
  | .add => K (one (.int k) (k.wrap (x + y)))
  | .sub => K (one (.int k) (k.wrap (x - y)))
  | .mul => K (one (.int k) (k.wrap (x * y)))
  | .quo => bif y == 0 then none else K (one (.int k) (k.wrap (x.tdiv y)))
  | .rem => bif y == 0 then none else K (one (.int k) (x.tmod y))
  | .and | .or | .xor | .andNot => K (one (.int k) (bitsOp op k x y))
  | .eql => K (one .bool (x == y))
  | .neq => K (one .bool (x != y))
  | .lss => K (one .bool (decide (x < y)))
  | .leq => K (one .bool (decide (x ≤ y)))
  | .gtr => K (one .bool (decide (y < x)))
  | .geq => K (one .bool (decide (y ≤ x)))
  | _ => none

def aStr (op : BinOp) (x y : List Int) (K : AV → Option R) : Option R :=
  match op with
  | .add => bif Nat.ble (x.length + y.length) 140737488351232 then K (one .str (x ++ y)) else none
  | .eql => K (one .bool (x == y))
  | .neq => K (one .bool (!(x == y)))
  | _ => none

def scalarEq : TypeDesc → Cell → Cell → Option Bool
  | .int _, .dat (.int k) x, .dat (.int k') y => bif decide (k = k') then some (x == y) else none
  | .bool, .dat .bool x, .dat .bool y => some (x == y)
  | .string, .dat .str x, .dat .str y => some (x == y)
  | _, _, _ => none

def eqFs (P : Program) (go : TypeId → List Cell → List Cell → Option Bool) (cs ds : List Cell) : List Field → Option Bool
  | [] => some true
  | f :: r => bif decide (f.name = "_") then none else
    match aggOf P f.type, P.info? f.type with
    | some true, some i => bif Nat.ble (f.offset + i.size) cs.length && Nat.ble (f.offset + i.size) ds.length then
        match go f.type ((cs.drop f.offset).take i.size) ((ds.drop f.offset).take i.size), eqFs P go cs ds r with
        | some a, some b => some (a && b)
        | _, _ => none
      else none
    | some false, some _ => match nth cs f.offset, nth ds f.offset with
      | some c, some d => match go f.type [c] [d], eqFs P go cs ds r with
        | some a, some b => some (a && b)
        | _, _ => none
      | _, _ => none
    | _, _ => none

/-- Equality of values of a type. -/
def eqT (P : Program) : Nat → TypeId → List Cell → List Cell → Option Bool
  | 0, _, _, _ => none
  | n + 1, t, cs, ds => match P.underlying t with
    | some (.struct fs) => bif P.stoodInHeld t then none else eqFs P (eqT P n) cs ds fs.toList
    | some e => match cs, ds with
      | [c], [d] => scalarEq e c d
      | _, _ => none
    | none => none

def aBin (P : Program) (op : BinOp) (xt : TypeId) (x y : AV) (K : AV → Option R) : Option R :=
  match x, y with
  | .val (.one (.dat (.int k) a)), .val (.one (.dat (.int k') b)) =>
    match op with
    | .shl => bif decide (b < 0) then none else K (one (.int k) (shlOp k a b))
    | .shr => bif decide (b < 0) then none else K (one (.int k) (shrOp k a b))
    | _ => bif decide (k = k') then aInt op k a b K else none
  | .val (.one (.dat .str a)), .val (.one (.dat .str b)) => aStr op a b K
  | .val (.one (.dat .bool a)), .val (.one (.dat .bool b)) => match P.underlying xt, op with
    | some .bool, .eql => K (one .bool (a == b))
    | some .bool, .neq => K (one .bool (!(a == b)))
    | _, _ => none
  | .val (.agg cs), .val (.agg ds) => bif P.eqGuardType P.depth xt then none else
      match aggOf P xt, op, eqT P tyD xt cs ds with
      | some true, .eql, some b => K (one .bool b)
      | some true, .neq, some b => K (one .bool (!b))
      | _, _, _ => none
  | _, _ => none

open Classical in
/-- Both ways, which must come to the same. -/
noncomputable def same2 (a b : Option R) : Option R := if a = b then a else none
theorem same2_self (a : Option R) : same2 a a = a := by simp [same2]
theorem same2_some {a b : Option R} {r : R} (h : same2 a b = some r) : a = some r ∧ b = some r := by
  unfold same2 at h
  split at h
  · rename_i e; exact ⟨h, e ▸ h⟩
  · cases h

/-- A slice against nil: what is told as a datum without elements may be either; then both ways must come to the same. -/
noncomputable def aNil (P : Program) (op : BinOp) (xt : TypeId) (x y : AV) (K : AV → Option R) (els : Option R) : Option R :=
  match P.underlying xt, op, x, y with
  | some (.slice _), .eql, .val (.one (.dat (.sl e) xs)), .val (.one .nils) => match (xs : List e.den) with
    | [] => same2 (K (one .bool true)) (K (one .bool false))
    | _ :: _ => K (one .bool false)
  | some (.slice _), .neq, .val (.one (.dat (.sl e) xs)), .val (.one .nils) => match (xs : List e.den) with
    | [] => same2 (K (one .bool true)) (K (one .bool false))
    | _ :: _ => K (one .bool true)
  | some (.slice _), .eql, .val (.one .nils), .val (.one .nils) => K (one .bool true)
  | some (.slice _), .neq, .val (.one .nils), .val (.one .nils) => K (one .bool false)
  | _, _, _, _ => els

/-- Is it such a test? -/
def isNil (x y : AV) : Bool := match x, y with
  | .val (.one (.dat (.sl _) _)), .val (.one .nils) => true
  | .val (.one .nils), .val (.one .nils) => true
  | _, _ => false

def aUn (op : UnOp) (x : AV) (K : AV → Option R) : Option R :=
  match op, x with
  | .not, .val (.one (.dat .bool b)) => K (one .bool (!b))
  | .neg, .val (.one (.dat (.int k) n)) => K (one (.int k) (k.wrap (0 - n)))
  | .xor, .val (.one (.dat (.int k) n)) => K (one (.int k) (bitsOp .xor k (if k.signed then -1 else k.max) n))
  | _, _ => none

/-- A slice's elements, if x is one. -/
def listOf (σ : St) (u : Ty) : AV → Option (List u.den)
  | .val (.one c) => c.toDat σ (.sl u)
  | _ => none

def aConvert (P : Program) (nb : Nat) (src dst : TypeId) (x : AV) (σ : St) (K : AV → St → Option R) : Option R :=
  match P.underlying src, P.underlying dst, x with
  | some (.int _), some (.int k), .val (.one (.dat (.int _) n)) => K (one (.int k) (k.wrap n)) σ
  | some .string, some .string, .val (.one (.dat .str s)) => K (one .str s) σ
  | some .string, some (.slice e), .val (.one (.dat .str s)) => match P.underlying e with
    | some (.int .u8) => K (.val (.one (.own (.int .u8) nb))) (σ.set nb (.arr (.int .u8) s .wr))
    | _ => none
  | some (.slice e), some .string, x => match P.underlying e with
    | some (.int .u8) => match listOf σ (.int .u8) x with
      | some s => K (one .str s) σ
      | none => none
    | _ => none
  | some (.slice _), some (.slice e), .val (.one (.own t id)) => match Nat.beq src dst, P.underlying e, σ.ob id with
    | true, some (.int .u8), some (.arr u xs mu) => match (xs : List u.den) with
      | [] => none
      | x :: r => bif mu.isSl then K (.val (.one (.own t id))) (σ.set id (.arr u (x :: r : List u.den) mu)) else none
    | _, _, _ => none
  | _, _, _ => none

/-- A bound: given, or not. -/
def bnd (σ : St) : Option Operand → Option (Option Int)
  | none => some none
  | some o => match σ.ev o with
    | .val (.one (.dat (.int _) n)) => some (some n)
    | _ => none

def aSlice (P : Program) (t : TypeId) (x : AV) (lo hi mx : Option (Option Int)) (σ : St) (K : AV → St → Option R) : Option R :=
  match lo, hi, mx with
  | some lo, some hi, some mx =>
    match P.underlying t, x with
    | some .string, .val (.one (.dat .str s)) => match mx with
      | none =>
        let h : Int := hi.getD s.length
        let l : Int := lo.getD 0
        bif decide (0 ≤ l) && decide (l ≤ h) && decide (h ≤ s.length) then K (one .str ((s.take h.toNat).drop l.toNat)) σ else none
      | some _ => none
    | some (.slice _), .val (.one c) =>
      match hi, mx with
      | none, some _ => none
      | hi, mx => match elemOf P t with
        | some (_, u) => match c.toDatS (σ.freeze1 c) (.sl u) with
          | some xs =>
            let h : Int := hi.getD (List.length xs)
            let l : Int := lo.getD 0
            let m : Int := mx.getD (List.length xs)
            bif decide (0 ≤ l) && decide (l ≤ h) && decide (h ≤ m) && decide (m ≤ (List.length xs : Int)) then
              K (one (.sl u) ((List.take h.toNat xs).drop l.toNat)) (σ.freeze1 c) else none
          | none => none
        | none => none
    | _, _ => none
  | _, _, _ => none

def aFieldAddr (P : Program) (s : TypeId) (x : AV) (f : Nat) (K : AV → Option R) : Option R :=
  match fieldsOf P s with
  | some fs => match nth fs f with
    | some fd => bif Nat.beq (P.cellsOf fd.type) 0 then none else match x with
      | .val (.one (.ptr id off)) => K (.val (.one (.ptr id (off + fd.offset))))
      | .val (.one (.vptr u d off)) => K (.val (.one (.vptr u d (off + fd.offset))))
      | .val (.one (.eptr u id i off)) => K (.val (.one (.eptr u id i (off + fd.offset))))
      | _ => none
    | none => none
  | none => none

def aField (P : Program) (s : TypeId) (x : AV) (f : Nat) (K : AV → Option R) : Option R :=
  match fieldsOf P s with
  | some fs => match nth fs f with
    | some fd => match x with
      | .val (.agg cs) => aPart P fd.type cs fd.offset K
      | _ => none
    | none => none
  | none => none

/-- One of so many. -/
def pickN (i : Int) (f : Nat → Option R) : Nat → Nat → Option R
  | 0, _ => none
  | k + 1, j => bif i == (j : Int) then f j else pickN i f k (j + 1)

def aIndexAddr (P : Program) (t : TypeId) (x i : AV) (σ : St) (K : AV → Option R) : Option R :=
  match i with
  | .val (.one (.dat (.int _) i)) => match P.underlying t with
    | some (.slice _) => match elemOf P t, x with
      | some (_, u), .val (.one (.dat (.sl u') xs)) => match (Ty.sl u').to (.sl u) xs with
        | some xs => bif decide (0 ≤ i) && decide (i < (List.length xs : Int)) then K (.val (.one (.vptr u (List.getD xs i.toNat u.zero) 0))) else none
        | none => none
      | some (_, u), .val (.one (.own u' id)) => match σ.ob id with
        | some (.arr u'' xs m) => bif m.isSl && (u'.beq u && u''.beq u) then
            bif decide (0 ≤ i) && decide (i < (List.length xs : Int)) then K (.val (.one (.eptr u id i.toNat 0))) else none
          else none
        | _ => none
      | none, .val (.one (.bsl id n)) => match ptrElem P t with
        | some _ => bif Nat.ble n 64 then pickN i (fun j => K (.val (.one (.ptr id j)))) n 0 else none
        | none => none
      | _, _ => none
    | some (.array n e) => match x with
      | .val (.one (.ptr id off)) => bif Nat.blt 0 (P.cellsOf e) && Nat.ble n 64 then pickN i (fun j => K (.val (.one (.ptr id (off + j * P.cellsOf e))))) n 0 else none
      | _ => none
    | _ => none
  | _ => none

def aIndex (P : Program) (t : TypeId) (x i : AV) (K : AV → Option R) : Option R :=
  match i with
  | .val (.one (.dat (.int _) i)) => match P.underlying t, x with
    | some .string, .val (.one (.dat .str s)) => bif decide (0 ≤ i) && decide (i < (s.length : Int)) then K (one (.int .u8) (s.getD i.toNat 0)) else none
    | some (.array n e), .val (.agg cs) => match i with
      | .ofNat j => bif Nat.blt j n then aPart P e cs (j * P.cellsOf e) K else none
      | _ => none
    | _, _ => none
  | _ => none

def aExtract (x : AV) (i : Nat) (K : AV → Option R) : Option R :=
  match x with
  | .tup l => match nth l i with
    | some v => K (.val v)
    | none => none
  | _ => none

/-- 2^32: how long a slice of our own may grow. -/
def room : Nat := 4294967296
/-- How long a slice of such elements may grow by 'append'. -/
def lim (P : Program) (e : TypeId) : Nat := bif Nat.ble (P.bytesOf e) 1 then 140737488351232 else 4294967296

def aMakeSlice (P : Program) (nb : Nat) (t : TypeId) (l c : AV) (σ : St) (K : AV → St → Option R) : Option R :=
  match elemOf P t, l, c with
  | some (e, u), .val (.one (.dat (.int .i64) l)), .val (.one (.dat (.int .i64) c)) => bif zeroOk P e u then
      bif decide (0 ≤ l) && decide (l ≤ c) && decide (c ≤ 4294967296) then
        K (.val (.one (.own u nb))) (σ.set nb (.arr u (List.replicate l.toNat u.zero) .wr)) else none
    else none
  | _, _, _ => none

/-- A capacity that the text tells. -/
def capOf : Operand → Operand → Option Nat
  | .const (.int .i64 l), .const (.int .i64 c) => bif (l == 0) && decide (0 < c) && decide (c ≤ 65536) then some c.toNat else none
  | _, _ => none

/-- A slice without elements, of a capacity that is told. -/
def aMakeCap (P : Program) (nb : Nat) (t : TypeId) (c : Nat) (σ : St) (K : AV → St → Option R) : Option R :=
  match elemOf P t with
  | some (e, u) => bif zeroOk P e u && Nat.blt 0 c && Nat.ble c 65536 then K (.val (.one (.own u nb))) (σ.set nb (.arr u [] (.cp c))) else none
  | none => none

/-- A slice of a capacity that is told, if x is one. -/
def capAt (σ : St) : AV → Option (Nat × Nat × (t : Ty) × List t.den)
  | .val (.one (.own _ id)) => match σ.ob id with
    | some (.arr t xs (.cp c)) => some (id, c, ⟨t, xs⟩)
    | _ => none
  | _ => none

/-- What is cut off such a slice, from its begin on. -/
def aCut (P : Program) (nb : Nat) (t : TypeId) (q : Nat × Nat × (t : Ty) × List t.den) (lo hi mx : Option (Option Int)) (σ : St) (K : AV → St → Option R) : Option R :=
  match lo, hi, mx with
  | some none, some (some h), some none => match elemOf P t with
    | some (_, u) => bif q.2.2.1.beq u && (decide (0 ≤ h) && decide (h ≤ (q.2.1 : Int))) then
        K (.val (.one (.own q.2.2.1 nb))) ((σ.kill q.1).set nb (.arr q.2.2.1 ((q.2.2.2 ++ List.replicate (q.2.1 - q.2.2.2.length) q.2.2.1.zero).take h.toNat) .wr)) else none
    | none => none
  | _, _, _ => none

/-- What 'append' puts behind: the elements, and the cells that are told as data then. -/
def appended (σ : St) (u : Ty) : AV → Option (List u.den)
  | .val (.one (.dat .str s)) => (Ty.sl (.int .u8)).to (.sl u) s
  | x => listOf σ u x

def aAppend (P : Program) (nb : Nat) (ats : List TypeId) (s x : AV) (σ : St) (K : AV → St → Option R) : Option R :=
  match ats with
  | [st, xt] => match elemOf P st, (match P.underlying xt with | some (.int _) => true | none => true | _ => false) with
    | some (e, u), false => bif zeroOk P e u then
        match appended σ u x with
        | some ys => match s with
          | .val (.one .nils) =>
            bif Nat.ble (List.length ys) (lim P e) then K (.val (.one (.own u nb))) (σ.set nb (.arr u ys .wr)) else none
          | .val (.one (.own u' id)) => match σ.ob id with
            | some (.arr u'' xs mu) => bif mu.isSl && (u''.beq u && u'.beq u) then
                match (Ty.sl u'').to (.sl u) xs with
                | some xs => bif Nat.ble (List.length xs + List.length ys) (lim P e) then
                    K (.val (.one (.own u nb))) ((σ.kill id).set nb (.arr u (xs ++ ys) mu)) else none
                | none => none
              else none
            | _ => none
          | _ => none
        | none => none
      else none
    | _, _ => none
  | _ => none

/-- The same, behind a slice of a capacity that is told. -/
def aAppendC (P : Program) (nb : Nat) (ats : List TypeId) (q : Nat × Nat × (t : Ty) × List t.den) (x : AV) (σ : St) (K : AV → St → Option R) : Option R :=
  match ats with
  | [st, xt] => match elemOf P st, (match P.underlying xt with | some (.int _) => true | none => true | _ => false) with
    | some (_, u), false => match appended σ q.2.2.1 x with
      | some ys => bif q.2.2.1.beq u && Nat.ble (List.length q.2.2.2 + List.length ys) q.2.1 then
          K (.val (.one (.own q.2.2.1 nb))) ((σ.kill q.1).set nb (.arr q.2.2.1 (q.2.2.2 ++ ys) (.cp q.2.1))) else none
      | none => none
    | _, _ => none
  | _ => none

/-- 'copy' into a part of a slice of our own: what was told as data is taken over. -/
def aCopy (P : Program) (ats : List TypeId) (d x : AV) (σ : St) (K : AV → St → Option R) : Option R :=
  match ats, d, x with
  | [dt, _], .val (.one (.win t id lo n)), .val (.one (.dat (.sl t') ys)) => match elemOf P dt, σ.ob id, (Ty.sl t').to (.sl t) ys with
    | some (_, u), some (.arr t0 xs .wr), some ys => bif (t.beq u && t0.beq t && Nat.beq u.sz 1) && (Nat.ble (lo + n) (List.length xs) && (Nat.beq (List.length ys) n && Nat.ble n 4294967296)) then
        match (Ty.sl t).to (.sl t0) ys with
        | some ys => K (one (.int .i64) (n : Int)) (σ.set id (.arr t0 (List.take lo xs ++ ys ++ List.drop (lo + n) xs) .wr))
        | none => none
      else none
    | _, _, _ => none
  | _, _, _ => none

def aLen (P : Program) (t : TypeId) (x : AV) (σ : St) (K : AV → Option R) : Option R :=
  match P.underlying t, x with
  | some .string, .val (.one (.dat .str s)) => K (one (.int .i64) (s.length : Int))
  | some (.slice _), .val (.one (.dat (.sl _) xs)) => K (one (.int .i64) (xs.length : Int))
  | some (.slice _), .val (.one .nils) => K (one (.int .i64) (0 : Int))
  | some (.slice _), .val (.one (.bsl _ n)) => bif Nat.ble n 64 then K (one (.int .i64) (n : Int)) else none
  | some (.slice _), .val (.one (.own _ id)) => match σ.ob id with
    | some (.arr _ xs m) => bif m.isSl then K (one (.int .i64) (xs.length : Int)) else none
    | _ => none
  | some (.array n _), _ => bif Nat.ble n 1000000 then K (one (.int .i64) (n : Int)) else none
  | _, _ => none

/-! ### Maps -/
def keyEq : (t : Ty) → t.den → t.den → Bool
  | .int _, x, y => (x : Int) == (y : Int)
  | .bool, x, y => (x : Bool) == (y : Bool)
  | .str, x, y => (x : List Int) == (y : List Int)
  | .pr a b, x, y => keyEq a x.1 y.1 && keyEq b x.2 y.2
  | .un, _, _ => true
  | .sl _, _, _ => false
def mget {K V : Type} (eq : K → K → Bool) : List (K × V) → K → Option V
  | [], _ => none
  | e :: r, k => bif eq k e.1 then some e.2 else mget eq r k
def mset {K V : Type} (eq : K → K → Bool) : List (K × V) → K → V → List (K × V)
  | [], k, v => [(k, v)]
  | e :: r, k, v => bif eq k e.1 then (k, v) :: r else e :: mset eq r k v
def mdel {K V : Type} (eq : K → K → Bool) : List (K × V) → K → List (K × V)
  | [], _ => []
  | e :: r, k => bif eq k e.1 then r else e :: mdel eq r k

/-- Kinds of keys: one cell, or a struct of such. -/
def oneTy (P : Program) (t : TypeId) : Option Ty := match P.underlying t with
  | some (.int k) => some (.int k)
  | some .bool => some .bool
  | some .string => some .str
  | _ => none
def fsKey (P : Program) : Nat → List Field → Option Ty
  | _, [] => some .un
  | off, f :: r => match oneTy P f.type, fsKey P (off + 1) r with
    | some a, some b => bif Nat.beq f.offset off && !(decide (f.name = "_")) && (P.info? f.type).isSome then some (match r with | [] => a | _ => .pr a b) else none
    | _, _ => none
def keyTy (P : Program) (t : TypeId) : Option (Bool × Ty) := match P.underlying t with
  | some (.struct fs) => bif P.stoodInHeld t then none else match fsKey P 0 fs.toList with
    | some k => some (true, k)
    | none => none
  | _ => match oneTy P t with
    | some k => some (false, k)
    | none => none
def valTy (P : Program) (t : TypeId) : Option (Bool × Ty) := match tyOf P tyD t, P.info? t with
  | some v, some i => match i.zero with
    | some (.agg _) => bif zeroOk P t v && !hasSl0 v then some (true, v) else none
    | some _ => bif zeroOk P t v && !hasSl0 v && Nat.beq v.sz 1 then some (false, v) else none
    | none => none
  | _, _ => none
where hasSl0 : Ty → Bool
  | .sl _ => true
  | .pr a b => hasSl0 a || hasSl0 b
  | _ => false
def mapOf (P : Program) (t : TypeId) : Option ((Bool × Ty) × (Bool × Ty)) := match P.underlying t with
  | some (.map k e) => match keyTy P k, valTy P e with
    | some a, some b => some (a, b)
    | _, _ => none
  | _ => none
def V1.isAgg : V1 → Bool
  | .one _ => false
  | .agg _ => true
def mkE (ag : Bool) (t : Ty) (x : t.den) : V1 := match ag, explode t x with
  | false, [c] => .one c
  | _, cs => .agg cs

def aMakeMap (P : Program) (nb : Nat) (t : TypeId) (σ : St) (K : AV → St → Option R) : Option R :=
  match mapOf P t with
  | some ((ka, k), (va, v)) => K (.val (.one (.own (.pr k v) nb))) (σ.set nb (.arr (.pr k v) [] (.mp ka va)))
  | none => none

/-- The entries of a map of our own. -/
def mapAt (σ : St) (ka : Bool) (k : Ty) (va : Bool) (v : Ty) : AV → Option (Nat × List (k.den × v.den))
  | .val (.one (.own _ id)) => match σ.ob id with
    | some (.arr u xs (.mp ka' va')) => bif (ka == ka') && (va == va') && u.beq (.pr k v) then match (Ty.sl u).to (.sl (.pr k v)) xs with
        | some xs => some (id, xs)
        | none => none
      else none
    | _ => none
  | _ => none

/-- A value as a key, an element. -/
def elAt (σ : St) (ag : Bool) (t : Ty) : AV → Option t.den
  | .val x => bif ag == x.isAgg && storB x.cells then match implode σ t x.cells with
      | some (d, []) => some d
      | _ => none
    else none
  | _ => none

def aLookup (P : Program) (t : TypeId) (m key : AV) (ok : Bool) (σ : St) (K : AV → Option R) : Option R :=
  match mapOf P t with
  | some ((ka, k), (va, v)) => match mapAt σ ka k va v m, elAt σ ka k key with
    | some (_, xs), some x => bif ok then K (.tup [mkE va v ((mget (keyEq k) xs x).getD v.zero), .one (.dat .bool (mget (keyEq k) xs x).isSome)])
      else K (.val (mkE va v ((mget (keyEq k) xs x).getD v.zero)))
    | _, _ => none
  | none => none

def aMapUpdate (P : Program) (t : TypeId) (m key val : AV) (σ : St) (K : St → Option R) : Option R :=
  match mapOf P t with
  | some ((ka, k), (va, v)) => match mapAt σ ka k va v m, elAt σ ka k key, elAt σ va v val with
    | some (id, xs), some x, some y => bif Nat.blt xs.length 4294967296 then K (σ.set id (.arr (.pr k v) (mset (keyEq k) xs x y) (.mp ka va))) else none
    | _, _, _ => none
  | none => none

def aDelete (P : Program) (t : TypeId) (m key : AV) (σ : St) (K : St → Option R) : Option R :=
  match mapOf P t with
  | some ((ka, k), (va, v)) => match mapAt σ ka k va v m, elAt σ ka k key with
    | some (id, xs), some x => K (σ.set id (.arr (.pr k v) (mdel (keyEq k) xs x) (.mp ka va)))
    | _, _ => none
  | none => none

def aLenMap (P : Program) (t : TypeId) (m : AV) (σ : St) (K : AV → Option R) : Option R :=
  match mapOf P t with
  | some ((ka, k), (va, v)) => match mapAt σ ka k va v m with
    | some (_, xs) => K (one (.int .i64) (xs.length : Int))
    | none => none
  | none => none

def mxI (x y : Int) : Int := if x < y then y else x
def mnI (x y : Int) : Int := if y < x then y else x

def aFold (f : Int → Int → Int) (k : IntKind) (acc : Int) : List AV → Option Int
  | [] => some acc
  | .val (.one (.dat (.int k') y)) :: r => bif decide (k = k') then aFold f k (f acc y) r else none
  | _ => none

def aMinMax (f : Int → Int → Int) (args : List AV) (K : AV → Option R) : Option R :=
  match args with
  | .val (.one (.dat (.int k) x)) :: r => match aFold f k x r with
    | some n => K (one (.int k) n)
    | none => none
  | _ => none

end

end Go.Abs

/- Abs, part B: payloads, calls, regions, code, functions. -/
namespace Go.Abs

/-! ## Several data as one -/
@[reducible] def tupT : List Ty → Ty
  | [] => .un
  | [t] => t
  | t :: u :: r => .pr t (tupT (u :: r))

def tcons (t : Ty) : (r : List Ty) → t.den → (tupT r).den → (tupT (t :: r)).den
  | [], x, _ => x
  | _ :: _, x, y => (x, y)
def thd (t : Ty) : (r : List Ty) → (tupT (t :: r)).den → t.den
  | [], x => x
  | _ :: _, x => x.1
def ttl (t : Ty) : (r : List Ty) → (tupT (t :: r)).den → (tupT r).den
  | [], _ => ()
  | _ :: _, x => x.2

inductive CK where
  | dat (t : Ty)
  | own (t : Ty) (tgt : Nat) (mu : MK)
  | cst (c : Cell)

@[reducible] def pay : List CK → List Ty
  | [] => []
  | .dat t :: r => t :: pay r
  | .own t _ _ :: r => .sl t :: pay r
  | .cst _ :: r => pay r

def Cell.same : Cell → Cell → Bool
  | .any, _ => true
  | .skip, .skip => true
  | .nils, .nils => true
  | .nilp, .nilp => true
  | .ptr a b, .ptr c d => Nat.beq a c && Nat.beq b d
  | .fn f cs, .fn g ds => Nat.beq f g && decide (cs = ds)
  | .own _ a, .own _ b => Nat.beq a b
  | .bsl a n, .bsl b k => Nat.beq a b && Nat.beq n k
  | .nilf, .nilf => true
  | _, _ => false

/-- The elements of what is of our own. -/
def Cell.toOwn (σ : St) (t : Ty) (mu : MK) : Cell → Option (List t.den)
  | .own e id => match σ.ob id with
    | some (.arr e' xs m) => bif e'.beq e && m.beq mu then (Ty.sl e').to (.sl t) xs else none
    | _ => none
  | .nils => bif mu.isSl then some [] else none
  | _ => none

/-- What is taken as a datum, or as written no more, is written no more. -/
def freezeCk (σ : St) : List CK → List Cell → St
  | .dat _ :: ks, c :: cs => freezeCk (σ.freeze1 c) ks cs
  | .own _ _ .fr :: ks, c :: cs => freezeCk (σ.freeze1 c) ks cs
  | _ :: ks, _ :: cs => freezeCk σ ks cs
  | _, _ => σ

def grab (σ : St) : (ks : List CK) → List Cell → Option (tupT (pay ks)).den
  | [], [] => some ()
  | .cst c :: ks, d :: ds => bif c.same d then grab σ ks ds else none
  | .dat t :: ks, d :: ds => match d.toDatS σ t with
    | some x => match grab σ ks ds with
      | some y => some (tcons t (pay ks) x y)
      | none => none
    | none => none
  | .own t _ mu :: ks, d :: ds => match d.toOwn σ t mu with
    | some x => match grab σ ks ds with
      | some y => some (tcons (.sl t) (pay ks) x y)
      | none => none
    | none => none
  | _, _ => none

def plant : (ks : List CK) → (tupT (pay ks)).den → List Cell
  | [], _ => []
  | .cst c :: ks, p => c :: plant ks p
  | .dat t :: ks, p => .dat t (thd t (pay ks) p) :: plant ks (ttl t (pay ks) p)
  | .own t tgt _ :: ks, p => .own t tgt :: plant ks (ttl (.sl t) (pay ks) p)

def plantObs : (ks : List CK) → (tupT (pay ks)).den → List (Nat × Option Ob)
  | [], _ => []
  | .cst _ :: ks, p => plantObs ks p
  | .dat t :: ks, p => plantObs ks (ttl t (pay ks) p)
  | .own t tgt mu :: ks, p => (tgt, some ⟨true, .arr t (thd (.sl t) (pay ks) p) mu⟩) :: plantObs ks (ttl (.sl t) (pay ks) p)

/-- The numbers of what is of our own and handed on. -/
def srcs : List CK → List Cell → List Nat
  | .own _ _ _ :: ks, .own _ id :: ds => id :: srcs ks ds
  | _ :: ks, _ :: ds => srcs ks ds
  | _, _ => []
def tgts : List CK → List Nat
  | .own _ t _ :: ks => t :: tgts ks
  | _ :: ks => tgts ks
  | [] => []

def memB (n : Nat) : List Nat → Bool
  | [] => false
  | a :: r => Nat.beq a n || memB n r
def nodupB : List Nat → Bool
  | [] => true
  | a :: r => !memB a r && nodupB r

/-! ## Specs: what is kept where ways meet -/
structure Spec where
  tms : List (Nat × Bool × List CK)
  bxs : List (Nat × List CK)
  ars : List (Nat × Ty × MK)
  drop : List Nat
  nxt : Nat

def cksT : List (Nat × Bool × List CK) → List CK
  | [] => []
  | (_, _, ks) :: r => ks ++ cksT r
def cksB : List (Nat × List CK) → List CK
  | [] => []
  | (_, ks) :: r => ks ++ cksB r
def cksA : List (Nat × Ty × MK) → List CK
  | [] => []
  | (id, t, mu) :: r => .own t id mu :: cksA r
@[reducible] def Spec.cks (sp : Spec) : List CK := cksT sp.tms ++ (cksB sp.bxs ++ cksA sp.ars)
@[reducible] def Spec.ty (sp : Spec) : Ty := tupT (pay sp.cks)

def cellsT (σ : St) : List (Nat × Bool × List CK) → Option (List Cell)
  | [] => some []
  | (t, ag, ks) :: r => match cellsT σ r with
    | none => none
    | some cs => match ag, σ.get t with
      | false, .val (.one c) => bif Nat.beq ks.length 1 then some (c :: cs) else none
      | true, .val (.agg ds) => bif Nat.beq ks.length ds.length then some (ds ++ cs) else none
      | _, _ => none
def cellsB (σ : St) : List (Nat × List CK) → Option (List Cell)
  | [] => some []
  | (id, ks) :: r => match cellsB σ r with
    | none => none
    | some cs => match σ.ob id with
      | some (.box ds) => bif Nat.beq ks.length ds.length then some (ds ++ cs) else none
      | _ => none
def cellsA (σ : St) : List (Nat × Ty × MK) → Option (List Cell)
  | [] => some []
  | (id, t, _) :: r => match cellsA σ r with
    | none => none
    | some cs => match σ.ob id with
      | some (.arr _ _ _) => some (.own t id :: cs)
      | _ => none
def Spec.cells (sp : Spec) (σ : St) : Option (List Cell) := match cellsT σ sp.tms, cellsB σ sp.bxs, cellsA σ sp.ars with
  | some a, some b, some c => some (a ++ (b ++ c))
  | _, _, _ => none

def fsts {α : Type} : List (Nat × α) → List Nat
  | [] => []
  | (i, _) :: r => i :: fsts r

def allLt (n : Nat) : List Nat → Bool
  | [] => true
  | a :: r => Nat.blt a n && allLt n r
def allGe (n : Nat) : List Nat → Bool
  | [] => true
  | a :: r => Nat.ble n a && allGe n r

def cstOk (n : Nat) : List CK → Bool
  | [] => true
  | .cst (.ptr id _) :: r => Nat.blt id n && cstOk n r
  | .cst (.own _ id) :: r => Nat.blt id n && cstOk n r
  | .cst (.bsl id _) :: r => Nat.blt id n && cstOk n r
  | .cst (.fn _ cs) :: r => (allLt n (fsts cs)) && cstOk n r
  | .cst .any :: r | .cst .skip :: r | .cst .nils :: r | .cst .nilp :: r => cstOk n r
  | .cst _ :: _ => false
  | _ :: r => cstOk n r

/-- Has what is kept been left alone? 'used': what is handed on under another number. -/
def keptOk (σ0 σ' : St) (skip used : List Nat) : List (Nat × Option Ob) → Bool
  | [] => true
  | (id, _) :: r => (match look σ0.hp id with
    | some (some _) => memB id skip || (match look σ'.hp id with | some (some ⟨false, _⟩) => !memB id used | _ => false)
    | _ => true) && keptOk σ0 σ' skip used r

/-- What a spec takes of a state: σ0 is the state at the begin, σ the state now. -/
def Spec.take (sp : Spec) (σ0 σ : St) : Option sp.ty.den :=
  match sp.cells σ with
  | none => none
  | some cs =>
    let kt := cksT sp.tms ++ cksB sp.bxs
    let arIds := fsts sp.ars
    let src := srcs sp.cks cs
    bif nodupB src && nodupB (tgts kt ++ (arIds ++ fsts sp.bxs)) && allGe σ0.nxt (tgts kt) && allLt sp.nxt (tgts kt) && Nat.ble σ0.nxt sp.nxt &&
        allLt σ0.nxt (arIds ++ fsts sp.bxs) && cstOk σ0.nxt sp.cks && allLt σ0.n (fsts sp.tms) && keptOk σ0 (freezeCk σ sp.cks cs) (sp.drop ++ (fsts sp.bxs ++ arIds)) src σ0.hp then grab (freezeCk σ sp.cks cs) sp.cks cs
    else none

/-- Cells put into slots, in order. -/
def putT : List (Nat × Bool × List CK) → List Cell → List (Nat × AV)
  | [], _ => []
  | (t, ag, ks) :: r, cs => (t, match ag, cs with
      | true, cs => .val (.agg (cs.take ks.length))
      | false, c :: _ => .val (.one c)
      | false, [] => .val (.one .any)) :: putT r (cs.drop ks.length)
def putB : List (Nat × List CK) → List Cell → List (Nat × Option Ob)
  | [], _ => []
  | (id, ks) :: r, cs => (id, some ⟨true, .box (cs.take ks.length)⟩) :: putB r (cs.drop ks.length)
def anys : List Nat → List (Nat × AV) → List (Nat × AV)
  | [], l => l
  | t :: r, l => (t, .val (.one .any)) :: anys r l
def nones : List Nat → List (Nat × Option Ob) → List (Nat × Option Ob)
  | [], l => l
  | t :: r, l => (t, none) :: nones r l
def app {α : Type} : List α → List α → List α
  | [], l => l
  | a :: r, l => a :: app r l

def Spec.mk' (sp : Spec) (σ0 : St) (dead : List Nat) (p : sp.ty.den) : St :=
  let cs := plant sp.cks p
  { tm := app (putT sp.tms cs) (anys dead σ0.tm)
    hp := app (putB sp.bxs (cs.drop (cksT sp.tms).length)) (app (plantObs sp.cks p) (nones sp.drop σ0.hp))
    nxt := sp.nxt
    n := σ0.n }

def cleanHp : List (Nat × Option Ob) → List (Nat × Option Ob)
  | [] => []
  | (i, some ⟨_, o⟩) :: r => (i, some ⟨false, o⟩) :: cleanHp r
  | (i, none) :: r => (i, none) :: cleanHp r
def St.clean (σ : St) : St := { σ with hp := cleanHp σ.hp }

/-! ## Rounds -/
inductive Step (A R : Type) where
  | next (a : A)
  | fin (r : R)

def iterN {A R : Type} (f : A → Option (Step A R)) : Nat → A → Option R
  | 0, _ => none
  | n + 1, a => match f a with
    | some (.next b) => iterN f n b
    | some (.fin r) => some r
    | none => none

open Classical in
noncomputable def iterW {A R : Type} (f : A → Option (Step A R)) (a : A) : Option R :=
  if h : ∃ r n, iterN f n a = some r then some h.choose else none

abbrev Fu := Option Nat
noncomputable def iter {A R : Type} (m : Fu) (f : A → Option (Step A R)) (a : A) : Option R :=
  match m with
  | some n => iterN f n a
  | none => iterW f a

/-! ## Exits -/
inductive AX where
  | normal | exit (id : Nat) | ret

def AX.same : AX → AX → Bool
  | .normal, .normal => true
  | .exit a, .exit b => Nat.beq a b
  | .ret, .ret => true
  | _, _ => false

@[reducible] def exT : List (AX × Spec) → Type
  | [] => Empty
  | [x] => x.2.ty.den
  | x :: y :: r => x.2.ty.den ⊕ exT (y :: r)

def exIn (σ0 : St) : (l : List (AX × Spec)) → AX → St → Option (exT l)
  | [], _, _ => none
  | [x], e, σ => bif x.1.same e then x.2.take σ0 σ else none
  | x :: y :: r, e, σ => bif x.1.same e then
      match x.2.take σ0 σ with | some p => some (Sum.inl p) | none => none
    else match exIn σ0 (y :: r) e σ with | some q => some (Sum.inr q) | none => none

def exOut {R : Type} (σ0 : St) (dead : List Nat) : (l : List (AX × Spec)) → exT l → (AX → St → Option R) → Option R
  | [], x, _ => nomatch x
  | [x], p, K => K x.1 (x.2.mk' σ0 dead p)
  | x :: y :: r, p, K => match p with
    | .inl p => K x.1 (x.2.mk' σ0 dead p)
    | .inr q => exOut σ0 dead (y :: r) q K

def subB : List Nat → List Nat → Bool
  | [], _ => true
  | a :: r, l => memB a l && subB r l
@[reducible] def Spec.skip (sp : Spec) : List Nat := sp.drop ++ (fsts sp.bxs ++ fsts sp.ars)
def exSkip (l : List Nat) : List (AX × Spec) → Bool
  | [] => true
  | (_, sp) :: r => subB l sp.skip && exSkip l r
def exDs (ds : List Nat) : List (AX × Spec) → Bool
  | [] => true
  | (_, sp) :: r => subB (fsts sp.tms) ds && exDs ds r

inductive Ann where
  | loop (head : Spec) (exits : List (AX × Spec))
  | jnt (exits : List (AX × Spec))
  | inl (rows : List (Nat × List (Nat × Ann)))      -- functions that are gone through at the call's place

/-! ## Calls -/
inductive PK where
  | val (ag : Bool) (ts : List Ty)
  | own (t : Ty)
  | box (ts : List Ty)
  | fn (f : FuncId) (caps : List (List Ty))

def concatT : List (List Ty) → List Ty
  | [] => []
  | a :: r => app a (concatT r)

@[reducible] def pkTs : PK → List Ty
  | .val _ ts => ts
  | .own t => [.sl t]
  | .box ts => ts
  | .fn _ caps => concatT caps
def outTs : PK → List Ty
  | .box ts => ts
  | .fn _ caps => concatT caps
  | _ => []

structure Sig where
  pars : List PK
  res : List (Bool × List CK)

def insL : List PK → List Ty
  | [] => []
  | p :: r => app (pkTs p) (insL r)
def outsP : List PK → List Ty
  | [] => []
  | p :: r => app (outTs p) (outsP r)
def resTs : List (Bool × List CK) → List Ty
  | [] => []
  | (_, ks) :: r => app (pay ks) (resTs r)
@[reducible] def Sig.ins (s : Sig) : Ty := tupT (insL s.pars)
@[reducible] def Sig.outs (s : Sig) : Ty := tupT (app (resTs s.res) (outsP s.pars))

structure Summ where
  f : FuncId
  sig : Sig
  fn : Fu → sig.ins.den → Option sig.outs.den

/-- Data in a row, and the row behind. -/
def grabTs (σ : St) : (ts : List Ty) → List Cell → Option ((tupT ts).den)
  | [], [] => some ()
  | [], _ :: _ => none
  | t :: r, c :: cs => match c.toDatS σ t with
    | some x => match grabTs σ r cs with
      | some y => some (tcons t r x y)
      | none => none
    | none => none
  | _ :: _, [] => none

def tapp : (a b : List Ty) → (tupT a).den → (tupT b).den → (tupT (app a b)).den
  | [], _, _, y => y
  | t :: r, b, x, y => tcons t (app r b) (thd t r x) (tapp r b (ttl t r x) y)

def tfst : (a b : List Ty) → (tupT (app a b)).den → (tupT a).den
  | [], _, _ => ()
  | t :: r, b, x => tcons t r (thd t (app r b) x) (tfst r b (ttl t (app r b) x))
def tsnd : (a b : List Ty) → (tupT (app a b)).den → (tupT b).den
  | [], _, x => x
  | t :: r, b, x => tsnd r b (ttl t (app r b) x)

def hasSl : Ty → Bool
  | .sl _ => true
  | .pr a b => hasSl a || hasSl b
  | _ => false

def boxCells (σ : St) (id : Nat) : Option (List Cell) := match σ.ob id with
  | some (.box cs) => some cs
  | _ => none

def grabCaps (σ : St) : (caps : List (List Ty)) → List (Nat × Nat) → Option (tupT (concatT caps)).den
  | [], [] => some ()
  | ts :: r, (id, off) :: ps => bif Nat.beq off 0 then match boxCells σ id with
    | some cs => match grabTs σ ts cs with
      | some x => match grabCaps σ r ps with
        | some y => some (tapp ts (concatT r) x y)
        | none => none
      | none => none
    | none => none
    else none
  | _, _ => none

/-- A slice of our own that was told already. -/
def Cell.toOwnF (σ : St) (t : Ty) : Cell → Option (List t.den)
  | .own e id => match σ.ob id with
    | some (.arr e' xs .fr) => bif e'.beq e then (Ty.sl e').to (.sl t) xs else none
    | _ => none
  | .nils => some []
  | _ => none

def grabArg (σ : St) : (k : PK) → AV → Option (tupT (pkTs k)).den
  | .val false ts, .val (.one c) => grabTs σ ts [c]
  | .val true ts, .val (.agg cs) => grabTs σ ts cs
  | .own t, .val (.one c) => c.toOwnF σ t
  | .box ts, .val (.one (.ptr id off)) => bif Nat.beq off 0 then match boxCells σ id with
    | some cs => grabTs σ ts cs
    | none => none
    else none
  | .fn f caps, .val (.one (.fn g ps)) => bif Nat.beq f g then grabCaps σ caps ps else none
  | _, _ => none

def grabArgs (σ : St) : (ks : List PK) → List AV → Option (tupT (insL ks)).den
  | [], [] => some ()
  | k :: r, v :: vs => match grabArg σ k v with
    | some x => match grabArgs σ r vs with
      | some y => some (tapp (pkTs k) (insL r) x y)
      | none => none
    | none => none
  | _, _ => none

/-- The numbers of what is handed over: slices that go, boxes that are written. -/
def held1 : PK → AV → List Nat
  | .own _, .val (.one (.own _ id)) => [id]
  | .box _, .val (.one (.ptr id _)) => [id]
  | .fn _ _, .val (.one (.fn _ ps)) => fsts ps
  | _, _ => []
def held : List PK → List AV → List Nat
  | k :: r, v :: vs => app (held1 k v) (held r vs)
  | _, _ => []

def freezeBox (σ : St) (id : Nat) : St := match boxCells σ id with
  | some cs => σ.freeze cs
  | none => σ
def freezeBoxes (σ : St) : List Nat → St
  | [] => σ
  | id :: r => freezeBoxes (freezeBox σ id) r

def freezeArgs (σ : St) : List PK → List AV → St
  | .val _ _ :: r, .val x :: vs => freezeArgs (σ.freeze x.cells) r vs
  | .own _ :: r, .val x :: vs => freezeArgs (σ.freeze x.cells) r vs
  | .box _ :: r, .val (.one (.ptr id _)) :: vs => freezeArgs (freezeBox σ id) r vs
  | .fn _ _ :: r, .val (.one (.fn _ ps)) :: vs => freezeArgs (freezeBoxes σ (fsts ps)) r vs
  | _ :: r, _ :: vs => freezeArgs σ r vs
  | _, _ => σ

def killAll (σ : St) : List Nat → St
  | [] => σ
  | i :: r => killAll (σ.kill i) r

def datCells : (ts : List Ty) → (tupT ts).den → List Cell
  | [], _ => []
  | t :: r, x => .dat t (thd t r x) :: datCells r (ttl t r x)

/-- How many slices of our own. -/
def owns : List CK → Nat
  | [] => 0
  | .own _ _ _ :: r => owns r + 1
  | _ :: r => owns r

/-- What comes back: values (what is of our own gets the numbers from nb on), objects. -/
def plantN (nb : Nat) : (ks : List CK) → (tupT (pay ks)).den → List Cell
  | [], _ => []
  | .cst c :: ks, p => c :: plantN nb ks p
  | .dat t :: ks, p => .dat t (thd t (pay ks) p) :: plantN nb ks (ttl t (pay ks) p)
  | .own t _ _ :: ks, p => .own t nb :: plantN (nb + 1) ks (ttl (.sl t) (pay ks) p)
def obsN (nb : Nat) (σ : St) : (ks : List CK) → (tupT (pay ks)).den → St
  | [], _ => σ
  | .cst _ :: ks, p => obsN nb σ ks p
  | .dat t :: ks, p => obsN nb σ ks (ttl t (pay ks) p)
  | .own t _ mu :: ks, p => obsN (nb + 1) (σ.set nb (.arr t (thd (.sl t) (pay ks) p) mu)) ks (ttl (.sl t) (pay ks) p)
def mkV1 (ag : Bool) (cs : List Cell) : V1 := match ag, cs with
  | false, [c] => .one c
  | _, cs => .agg cs
def resVals (nb : Nat) : (l : List (Bool × List CK)) → (tupT (resTs l)).den → List V1
  | [], _ => []
  | (ag, ks) :: r, p => mkV1 ag (plantN nb ks (tfst (pay ks) (resTs r) p)) :: resVals (nb + owns ks) r (tsnd (pay ks) (resTs r) p)
def resObs (nb : Nat) (σ : St) : (l : List (Bool × List CK)) → (tupT (resTs l)).den → St
  | [], _ => σ
  | (_, ks) :: r, p => resObs (nb + owns ks) (obsN nb σ ks (tfst (pay ks) (resTs r) p)) r (tsnd (pay ks) (resTs r) p)
def resOwns : List (Bool × List CK) → Nat
  | [] => 0
  | (_, ks) :: r => owns ks + resOwns r

/-- Constants that may stand among results: no data in memory. -/
def cstB : List CK → Bool
  | [] => true
  | .cst .any :: r | .cst .skip :: r | .cst .nils :: r | .cst .nilp :: r | .cst (.fn _ []) :: r => cstB r
  | .cst _ :: _ => false
  | _ :: r => cstB r
def resCst : List (Bool × List CK) → Bool
  | [] => true
  | (_, ks) :: r => cstB ks && resCst r

def setCaps (σ : St) : (caps : List (List Ty)) → List (Nat × Nat) → (tupT (concatT caps)).den → St
  | ts :: r, (id, _) :: ps, p => setCaps (σ.set id (.box (datCells ts (tfst ts (concatT r) p)))) r ps (tsnd ts (concatT r) p)
  | _, _, _ => σ
def setBoxes (σ : St) : (ks : List PK) → List AV → (tupT (outsP ks)).den → St
  | .box ts :: r, .val (.one (.ptr id _)) :: vs, p => setBoxes (σ.set id (.box (datCells ts (tfst ts (outsP r) p)))) r vs (tsnd ts (outsP r) p)
  | .fn _ caps :: r, .val (.one (.fn _ ps)) :: vs, p => setBoxes (setCaps σ caps ps (tfst (concatT caps) (outsP r) p)) r vs (tsnd (concatT caps) (outsP r) p)
  | .val _ _ :: r, _ :: vs, p => setBoxes σ r vs p
  | .own _ :: r, _ :: vs, p => setBoxes σ r vs p
  | _, _, _ => σ

def resAV : List V1 → AV
  | [] => .val (.one .skip)
  | [v] => .val v
  | l => .tup l

def hasSlL : List Ty → Bool
  | [] => false
  | t :: r => hasSl t || hasSlL r

/-- May what comes back hold on to what was handed over? -/
def ckSl : List CK → Bool
  | [] => false
  | .cst _ :: r => ckSl r
  | .dat t :: r => hasSl t || ckSl r
  | .own t _ .wr :: r => hasSl t || ckSl r
  | .own _ _ .fr :: _ => true
  | .own _ _ (.mp _ _) :: r => ckSl r
  | .own _ _ (.cp _) :: _ => true
def resSl : List (Bool × List CK) → Bool
  | [] => false
  | (_, ks) :: r => ckSl ks || resSl r
def sigSl (sig : Sig) : Bool := resSl sig.res || hasSlL (outsP sig.pars)

section
variable {R : Type}

def aCallS (m : Fu) (nb : Nat) (S : Summ) (args : List AV) (σ : St) (K : AV → St → Option R) : Option (Option R) :=
  match grabArgs (freezeArgs σ S.sig.pars args) S.sig.pars args with
  | none => none
  | some p =>
    let σ1 := bif sigSl S.sig then freezeArgs σ S.sig.pars args else σ
    bif nodupB (held S.sig.pars args) && Nat.ble (resOwns S.sig.res) 16 && resCst S.sig.res then
      some ((S.fn m p).bind fun r =>
        let σ3 := setBoxes (killAll σ1 (held S.sig.pars args)) S.sig.pars args (tsnd (resTs S.sig.res) (outsP S.sig.pars) r)
        K (resAV (resVals nb S.sig.res (tfst (resTs S.sig.res) (outsP S.sig.pars) r))) (resObs nb σ3 S.sig.res (tfst (resTs S.sig.res) (outsP S.sig.pars) r)))
    else none

/-- Functions of two kinds of their own: they cut a part out of a slice, to be written; they read one number of a box. -/
inductive Spc where
  | win (t : Ty) (fn : Fu → List t.den × Int → Option (Int × Int))
  | rd (k : Nat) (fn : Fu → Int × Int → Option Int)
/-- Summaries of such (a mark among the results tells them). -/
def winFn : Summ → Option Spc
  | ⟨_, ⟨[.own t, .val false [.int .i64]], [(true, [.cst (.ptr 0 0), .dat (.int .i64), .dat (.int .i64)])]⟩, fn⟩ => some (.win t fn)
  | ⟨_, ⟨[.val false [.int .i64], .val false [.int .i64]], [(true, [.cst (.ptr 1 k), .dat (.int .i64)])]⟩, fn⟩ => some (.rd k fn)
  | _ => none
def winOf (g : FuncId) : List Summ → Option Spc
  | [] => none
  | S :: r => bif Nat.beq S.f g then match winFn S with
      | some x => some x
      | none => winOf g r
    else winOf g r
def aWin (m : Fu) (q : Spc) (args : List AV) (σ : St) (K : AV → Option R) : Option R :=
  match q with
  | .win t fn => match args with
    | [.val (.agg [.own _ id]), .val (.one (.dat (.int .i64) n))] => match σ.ob id with
      | some (.arr t0 xs .wr) => match (Ty.sl t0).to (.sl t) xs with
        | some xs => (fn m (xs, n)).bind fun y => K (.val (.one (.win t id y.1.toNat y.2.toNat)))
        | none => none
      | _ => none
    | _ => none
  | .rd k fn => match args with
    | [.val (.one (.ptr id 0)), .val (.one (.dat (.int .i64) n))] => match σ.ob id with
      | some (.box cs) => match nth cs k with
        | some (.dat (.int .i64) y) => (fn m (y, n)).bind fun z => K (one (.int .i64) z)
        | _ => none
      | _ => none
    | _ => none

def aCallF (m : Fu) (nb : Nat) (g : FuncId) (args : List AV) (σ : St) (K : AV → St → Option R) : List Summ → Option R
  | [] => none
  | S :: r => bif Nat.beq S.f g && (winFn S).isNone then
      match aCallS m nb S args σ K with
      | some x => x
      | none => aCallF m nb g args σ K r
    else aCallF m nb g args σ K r

def capAVs : List (Nat × Nat) → List AV
  | [] => []
  | (i, o) :: r => .val (.one (.ptr i o)) :: capAVs r

def evs (σ : St) : List Operand → List AV
  | [] => []
  | x :: r => σ.ev x :: evs σ r
def evPs (σ : St) : List (Nat × Operand) → List (Nat × AV)
  | [] => []
  | (i, x) :: r => (i, σ.ev x) :: evPs σ r

def ptrsOf : List AV → Option (List (Nat × Nat))
  | [] => some []
  | .val (.one (.ptr i o)) :: r => match ptrsOf r with
    | some l => some ((i, o) :: l)
    | none => none
  | _ => none

def aPick (c a b : AV) (K : AV → Option R) : Option R :=
  match c with
  | .val (.one (.dat .bool cb)) => match a, b with
    | .val (.one (.dat .bool x)), .val (.one (.dat .bool y)) => K (one .bool (bif cb then x else y))
    | a, b => bif cb then K a else K b
  | _ => none

/-- One operation. -/
noncomputable def aOp (P : Program) (Γ : List Summ) (m : Fu) (nb : Nat) (o : Oper) (σ : St) (K : AV → St → Option R) : Option R :=
  match o.op with
  | .move x | .assign x => K (σ.ev x) σ
  | .pick c a b => aPick (σ.ev c) (σ.ev a) (σ.ev b) fun v => K v σ
  | .alloc t => match zeroVals P t with
    | some z => K (.val (.one (.ptr nb 0))) (σ.set nb (.box (z.map Cell.ofValue)))
    | none => none
  | .box _ x => match σ.ev x with
    | .val v => bif storB v.cells then K (.val (.one (.ptr nb 0))) (σ.set nb (.box v.cells)) else none
    | _ => none
  | .build t ps => aBuild P t (evPs σ ps.toList) fun v => K v σ
  | .buildSlice t n ps => aBuildSlice P nb t n (evPs σ ps.toList) σ K
  | .load t a => aLoad P t (σ.ev a) σ fun v => K v σ
  | .store t a x => aStore P t (σ.ev a) (σ.ev x) σ fun σ' => K (.val (.one .skip)) σ'
  | .nilCheck x => match σ.ev x with
    | .val (.one (.ptr i f)) => K (.val (.one (.ptr i f))) σ
    | .val (.one (.vptr t d f)) => K (.val (.one (.vptr t d f))) σ
    | .val (.one (.eptr t i j f)) => K (.val (.one (.eptr t i j f))) σ
    | .val (.one (.fn f cs)) => K (.val (.one (.fn f cs))) σ
    | _ => none
  | .binOp op xt x y _ => aNil P op xt (σ.ev x) (σ.ev y) (fun v => K v σ) (aBin P op xt (σ.ev x) (σ.ev y) fun v => K v σ)
  | .unOp op _ x => aUn op (σ.ev x) fun v => K v σ
  | .convert s d x => aConvert P nb s d (σ.ev x) σ K
  | .slice t x lo hi mx => match capAt σ (σ.ev x) with
    | some q => aCut P nb t q (bnd σ lo) (bnd σ hi) (bnd σ mx) σ K
    | none => aSlice P t (σ.ev x) (bnd σ lo) (bnd σ hi) (bnd σ mx) σ K
  | .fieldAddr s x f => aFieldAddr P s (σ.ev x) f fun v => K v σ
  | .field s x f => aField P s (σ.ev x) f fun v => K v σ
  | .indexAddr t x i => aIndexAddr P t (σ.ev x) (σ.ev i) σ fun v => K v σ
  | .index t x i => aIndex P t (σ.ev x) (σ.ev i) fun v => K v σ
  | .extract x i => aExtract (σ.ev x) i fun v => K v σ
  | .makeSlice t l c => match capOf l c with
    | some n => aMakeCap P nb t n σ K
    | none => aMakeSlice P nb t (σ.ev l) (σ.ev c) σ K
  | .makeFunc (.func f) first caps => match first.toList, ptrsOf (evs σ caps.toList) with
    | [], some ps => K (.val (.one (.fn f ps))) σ
    | _, _ => none
  | .call c => match c.callee with
    | .builtin .len => match evs σ c.args.toList, c.argTypes.toList with
      | [x], [t] => match P.underlying t with
        | some (.map _ _) => aLenMap P t x σ fun v => K v σ
        | _ => aLen P t x σ fun v => K v σ
      | _, _ => none
    | .builtin .append => match evs σ c.args.toList with
      | [s, x] => match capAt σ s with
        | some q => aAppendC P nb c.argTypes.toList q x σ K
        | none => aAppend P nb c.argTypes.toList s x σ K
      | _ => none
    | .builtin .max => aMinMax mxI (evs σ c.args.toList) fun v => K v σ
    | .builtin .min => aMinMax mnI (evs σ c.args.toList) fun v => K v σ
    | .value f => match σ.ev f with
      | .val (.one (.fn g caps)) => match caps, winOf g Γ with
        | [], some q => aWin m q (evs σ c.args.toList) σ fun v => K v σ
        | _, _ => aCallF m nb g (app (evs σ c.args.toList) (capAVs caps)) σ K Γ
      | _ => none
    | .builtin .delete => match evs σ c.args.toList, c.argTypes.toList with
      | [x, y], t :: _ => aDelete P t x y σ fun σ' => K (.val (.one .skip)) σ'
      | _, _ => none
    | .builtin .copy => match evs σ c.args.toList with
      | [d, x] => aCopy P c.argTypes.toList d x σ K
      | _ => none
    | _ => none
  | .makeMap t none => aMakeMap P nb t σ K
  | .lookup t x y ok => aLookup P t (σ.ev x) (σ.ev y) ok σ fun v => K v σ
  | .mapUpdate t x y z => aMapUpdate P t (σ.ev x) (σ.ev y) (σ.ev z) σ fun σ' => K (.val (.one .skip)) σ'
  | _ => none

def guardTmp (ops : List Oper) (j : Nat) : Option Nat := match nth ops j with
  | some o => o.dst
  | none => none

noncomputable def aOper (P : Program) (Γ : List Summ) (m : Fu) (nb : Nat) (o : Oper) (σ : St) (K : St → Option R) : Option R :=
  aOp P Γ m nb o σ fun v σ' => match o.dst with
    | some d => bif Nat.blt d σ.n then K (σ'.put (some d) v) else none
    | none => K σ'

def aSkip (o : Oper) (σ : St) (K : St → Option R) : Option R := match o.dst with
  | some d => bif Nat.blt d σ.n then K (σ.put (some d) (.val (.one .skip))) else none
  | none => K σ

/-- A region's operations, one behind the other. -/
noncomputable def aOps (P : Program) (Γ : List Summ) (m : Fu) (all : List Oper) : List Oper → Nat → St → (St → Option R) → Option R
  | [], _, σ, K => K σ
  | o :: r, nb, σ, K => match o.guard with
    | none => aOper P Γ m nb o σ fun σ' => aOps P Γ m all r (nb + 16) σ' K
    | some (j, want) => match guardTmp all j with
      | some t => match σ.get t with
        | .val (.one (.dat .bool b)) =>
          let yes (σ : St) := aOper P Γ m nb o σ fun σ' => aOps P Γ m all r (nb + 16) σ' K
          let no (σ : St) := aSkip o σ fun σ' => aOps P Γ m all r (nb + 16) σ' K
          match want with
          | true => bif b then yes (σ.put (some t) (one .bool true)) else no (σ.put (some t) (one .bool false))
          | false => bif b then no (σ.put (some t) (one .bool true)) else yes (σ.put (some t) (one .bool false))
        | .val (.one .skip) => aSkip o σ fun σ' => aOps P Γ m all r (nb + 16) σ' K
        | _ => none
      | none => none

/-- One operation of a region, its guard looked at. -/
noncomputable def aStep (P : Program) (Γ : List Summ) (m : Fu) (all : List Oper) (nb : Nat) (o : Oper) (σ : St) (K : St → Option R) : Option R :=
  match o.guard with
  | none => aOper P Γ m nb o σ K
  | some (j, want) => match guardTmp all j with
    | some t => match σ.get t with
      | .val (.one (.dat .bool b)) =>
        match want with
        | true => bif b then aOper P Γ m nb o (σ.put (some t) (one .bool true)) K else aSkip o (σ.put (some t) (one .bool false)) K
        | false => bif b then aSkip o (σ.put (some t) (one .bool true)) K else aOper P Γ m nb o (σ.put (some t) (one .bool false)) K
      | .val (.one .skip) => aSkip o σ K
      | _ => none
    | none => none

/-- Goes through a function's own text. -/
abbrev Inl := ∀ {R : Type}, FuncId → List (Nat × Ann) → List AV → St → (AV → St → Option R) → Option R
def noInl : Inl := fun _ _ _ _ _ => none

/-- A region's operations, some of them calls that are gone through. -/
noncomputable def aOpsI (I : Inl) (P : Program) (Γ : List Summ) (m : Fu) (all : List Oper) (rows : List (Nat × List (Nat × Ann))) : List Oper → Nat → St → (St → Option R) → Option R
  | [], _, σ, K => K σ
  | o :: r, k, σ, K => match look rows k with
    | none => aStep P Γ m all σ.nxt o σ fun σ' => aOpsI I P Γ m all rows r (k + 1) { σ' with nxt := σ.nxt + 16 } K
    | some ann' => match o.guard with
      | some _ => none
      | none => match o.op with
        | .call c => match c.callee with
          | .value f => match σ.ev f with
            | .val (.one (.fn g caps)) => I g ann' (app (evs σ c.args.toList) (capAVs caps)) σ fun v σ' => match o.dst with
              | some d => bif Nat.blt d σ.n then aOpsI I P Γ m all rows r (k + 1) (σ'.put (some d) v) K else none
              | none => aOpsI I P Γ m all rows r (k + 1) σ' K
            | _ => none
          | _ => none
        | _ => none

/-! ### Regions in any order: what each operation touches -/
def Cell.ids : Cell → List Nat
  | .own _ id => [id]
  | .ptr id _ => [id]
  | .eptr _ id _ _ => [id]
  | .win _ id _ _ => [id]
  | .bsl id _ => [id]
  | .fn _ caps => fsts caps
  | _ => []
def cellsIds : List Cell → List Nat
  | [] => []
  | c :: r => app c.ids (cellsIds r)
def AV.ids : AV → List Nat
  | .val x => cellsIds x.cells
  | .tup _ => []
def psIds : List (Nat × AV) → List Nat
  | [] => []
  | (_, x) :: r => app x.ids (psIds r)
def avIds : List AV → List Nat
  | [] => []
  | x :: r => app x.ids (avIds r)
def valPars : List PK → Bool
  | [] => true
  | .val _ _ :: r => valPars r
  | .own _ :: r => valPars r
  | .box _ :: r => valPars r
  | _ => false
def ownPars : List PK → Bool
  | [] => false
  | .own _ :: _ => true
  | .box _ :: _ => true
  | _ :: r => ownPars r
/-- And what boxes hold. -/
def deepIds (σ : St) : List Nat → List Nat
  | [] => []
  | i :: r => i :: app (match boxCells σ i with | some cs => cellsIds cs | none => []) (deepIds σ r)
/-- Calls that may stand where the order is open: values alone are handed over. -/
def valCalls (g : FuncId) : List Summ → Bool
  | [] => true
  | S :: r => (!Nat.beq S.f g || valPars S.sig.pars) && valCalls g r
def slCalls (g : FuncId) : List Summ → Bool
  | [] => false
  | S :: r => (Nat.beq S.f g && (sigSl S.sig || ownPars S.sig.pars)) || slCalls g r
def ownCalls (g : FuncId) : List Summ → Bool
  | [] => false
  | S :: r => (Nat.beq S.f g && !Nat.beq (resOwns S.sig.res) 0) || ownCalls g r
def span16 (nb : Nat) : List Nat := [nb, nb + 1, nb + 2, nb + 3, nb + 4, nb + 5, nb + 6, nb + 7, nb + 8, nb + 9, nb + 10, nb + 11, nb + 12, nb + 13, nb + 14, nb + 15]
def callWr (g : FuncId) (Γ : List Summ) (nb : Nat) (l : List Nat) : List Nat := app (bif slCalls g Γ then l else []) (bif ownCalls g Γ then span16 nb else [])

/-- The objects that are read, that are written; none: not fit for any order. -/
def foot (Γ : List Summ) (nb : Nat) (o : Oper) (σ : St) : Option (List Nat × List Nat) :=
  match o.op with
  | .binOp _ _ x y _ => bif isNil (σ.ev x) (σ.ev y) then none else some ([], [])
  | .move _ | .assign _ | .pick _ _ _ | .build _ _ | .unOp _ _ _ | .fieldAddr _ _ _ | .field _ _ _ | .index _ _ _ | .extract _ _ | .nilCheck _ | .makeFunc _ _ _ => some ([], [])
  | .load _ a => some ((σ.ev a).ids, [])
  | .lookup _ x y _ => some (app (σ.ev x).ids (σ.ev y).ids, [])
  | .indexAddr _ x _ => some ((σ.ev x).ids, [])
  | .alloc _ => some ([], [nb])
  | .box _ _ => some ([], [nb])
  | .store _ a x => some (app (σ.ev a).ids (σ.ev x).ids, app (σ.ev a).ids (σ.ev x).ids)
  | .convert s d x => some ((σ.ev x).ids, bif Nat.beq s d then nb :: (σ.ev x).ids else [nb])
  | .slice _ x _ _ _ => some ((σ.ev x).ids, nb :: (σ.ev x).ids)
  | .makeSlice _ _ _ => some ([], [nb])
  | .buildSlice _ _ ps => some (psIds (evPs σ ps.toList), nb :: psIds (evPs σ ps.toList))
  | .call c => match c.callee with
    | .builtin .len => match evs σ c.args.toList with
      | [x] => some (x.ids, [])
      | _ => none
    | .builtin .append => match evs σ c.args.toList with
      | [s, x] => some (app s.ids x.ids, nb :: s.ids)
      | _ => none
    | .builtin .max | .builtin .min => some ([], [])
    | .builtin .delete => match evs σ c.args.toList with
      | [x, y] => some (app x.ids y.ids, x.ids)
      | _ => none
    | .builtin .copy => match evs σ c.args.toList with
      | [x, _] => some (x.ids, x.ids)
      | _ => none
    | .value f => match σ.ev f with
      | .val (.one (.fn g [])) => match winOf g Γ with
        | some _ => some (avIds (evs σ c.args.toList), [])
        | none => bif valCalls g Γ then some (deepIds σ (avIds (evs σ c.args.toList)), callWr g Γ nb (deepIds σ (avIds (evs σ c.args.toList)))) else none
      | _ => none
    | _ => none
  | .mapUpdate _ x y z => some (app (σ.ev x).ids (app (σ.ev y).ids (σ.ev z).ids), (σ.ev x).ids)
  | _ => none

/-- The slots that an operation looks at. -/
def anyTmp (t : Nat) : List Operand → Bool
  | [] => false
  | .tmp u :: r => Nat.beq u t || anyTmp t r
  | _ :: r => anyTmp t r
def looksB (all : List Oper) (o : Oper) (t : Nat) : Bool :=
  anyTmp t o.op.operands.toList || (match o.guard with | some (j, _) => (match guardTmp all j with | some u => Nat.beq u t | none => false) | none => false)
def apartB (all : List Oper) (x y : Oper) : Bool :=
  (match x.dst with | some d => !looksB all y d && (match y.dst with | some e => !Nat.beq d e | none => true) | none => true) && (match y.dst with | some e => !looksB all x e | none => true)
def disjB : List Nat → List Nat → Bool
  | [], _ => true
  | a :: r, l => !memB a l && disjB r l
def bindsE (j : Nat) : List Edge → Bool
  | [] => false
  | e :: r => (Region.binds .any e && Nat.beq e.on j) || bindsE j r
/-- The operation j is bound ahead, through others too. -/
def viaE (all : List Oper) (j : Nat) : Nat → List Edge → Bool
  | 0, l => bindsE j l
  | f + 1, l => bindsE j l || l.any fun e => Region.binds .any e && (match all[e.on]? with | some y => viaE all j f y.after.toList | none => false)
def edgesE (k : Nat) : List Edge → Bool
  | [] => true
  | e :: r => (!Region.binds .any e || Nat.blt e.on k) && edgesE k r
def edgesB : Nat → List Oper → Bool
  | _, [] => true
  | k, o :: r => edgesE k o.after.toList && edgesB (k + 1) r
def okPrev (all : List Oper) (o : Oper) (rd wr : List Nat) : List (Nat × Oper × List Nat × List Nat) → Bool
  | [] => true
  | (j, y, rd', wr') :: r => (bindsE j o.after.toList || (apartB all o y && disjB wr rd' && disjB wr wr' && disjB wr' rd) || viaE all j 9 o.after.toList) && okPrev all o rd wr r

/-- A region's operations, fit for any order. -/
noncomputable def aOpsD (P : Program) (Γ : List Summ) (m : Fu) (all : List Oper) : List Oper → Nat → Nat → St → List (Nat × Oper × List Nat × List Nat) → (St → Option R) → Option R
  | [], _, _, σ, _, K => K σ
  | o :: r, k, nb, σ, prev, K =>
    let go (σ : St) := match foot Γ nb o σ with
      | some (rd, wr) => bif okPrev all o rd wr prev then aOper P Γ m nb o σ fun σ' => aOpsD P Γ m all r (k + 1) (nb + 16) σ' ((k, o, rd, wr) :: prev) K else none
      | none => none
    let no (σ : St) := bif okPrev all o [] [] prev then aSkip o σ fun σ' => aOpsD P Γ m all r (k + 1) (nb + 16) σ' ((k, o, [], []) :: prev) K else none
    match o.guard with
    | none => go σ
    | some (j, want) => match guardTmp all j with
      | some t => match σ.get t with
        | .val (.one (.dat .bool b)) => match want with
          | true => bif b then go (σ.put (some t) (one .bool true)) else no (σ.put (some t) (one .bool false))
          | false => bif b then no (σ.put (some t) (one .bool true)) else go (σ.put (some t) (one .bool false))
        | .val (.one .skip) => no σ
        | _ => none
      | none => none

end

/-! ## Code -/
def Run := ∀ {R : Type}, St → (AX → St → Option R) → Option R

def opDsts : List Oper → List Nat
  | [] => []
  | o :: r => match o.dst with
    | some d => d :: opDsts r
    | none => opDsts r

def dsts : Code → List Nat
  | .region _ ops _ => opDsts ops.toList
  | .seq a b => app (dsts a) (dsts b)
  | .cond _ a b => app (dsts a) (dsts b)
  | .block _ b => dsts b
  | .loop b => dsts b
  | .scope b => dsts b
  | _ => []

noncomputable def sealed (ds : List Nat) (exits : List (AX × Spec)) (run : Run) : Run := fun σ K => bif !exDs ds exits then none else
  (run (R := exT exits) σ.clean (exIn σ exits)).bind fun x => exOut σ ds exits x K

noncomputable def wrap (ann : List (Nat × Ann)) (p : Nat) (ds : List Nat) (run : Run) : Run := match look ann p with
  | some (.jnt exits) => sealed ds exits run
  | _ => run

def loopRound (σ : St) (head : Spec) (exits : List (AX × Spec)) (ds : List Nat) (run : Run) (p : head.ty.den) : Option (Step head.ty.den (exT exits)) :=
  run (R := Step head.ty.den (exT exits)) (head.mk' σ ds p).clean fun e σ' => match e with
    | .normal => match head.take σ σ' with | some q => some (.next q) | none => none
    | e => match exIn σ exits e σ' with | some x => some (.fin x) | none => none

noncomputable def exec (I : Inl) (P : Program) (Γ : List Summ) (m : Fu) (ann : List (Nat × Ann)) : Code → Nat → Run
  | .skip, _ => fun σ K => K .normal σ
  | .label _, _ => fun σ K => K .normal σ
  | .region _ ops draw, p => wrap ann p (opDsts ops.toList) fun σ K => match look ann p with
   | some (.inl rows) => bif draw then none else aOpsI I P Γ m ops.toList rows ops.toList 0 σ fun σ' => K .normal σ'
   | _ => match draw with
    | false => aOps P Γ m ops.toList ops.toList σ.nxt σ fun σ' => K .normal { σ' with nxt := σ.nxt + 16 * ops.toList.length }
    | true => bif edgesB 0 ops.toList then aOpsD P Γ m ops.toList ops.toList 0 σ.nxt σ [] fun σ' => K .normal { σ' with nxt := σ.nxt + 16 * ops.toList.length } else none
  | .seq a b, p => wrap ann p (app (dsts a) (dsts b)) fun σ K => exec I P Γ m ann a (2 * p) σ fun e σ' => match e with
    | .normal => exec I P Γ m ann b (2 * p + 1) σ' K
    | e => K e σ'
  | .cond c a b, p => wrap ann p (app (dsts a) (dsts b)) fun σ K => match σ.ev c with
    | .val (.one (.dat .bool t)) => bif t then exec I P Γ m ann a (2 * p) σ K else exec I P Γ m ann b (2 * p + 1) σ K
    | _ => none
  | .block id b, p => wrap ann p (dsts b) fun σ K => exec I P Γ m ann b (2 * p) σ fun e σ' => match e with
    | .exit i => bif Nat.beq i id then K .normal σ' else K (.exit i) σ'
    | e => K e σ'
  | .loop b, p => fun σ K => match look ann p with
    | some (.loop head exits) => bif !(exDs (dsts b) exits && subB (fsts head.tms) (dsts b) && exSkip head.skip exits) then none else match head.take σ σ.clean with
      | some p0 => (iter m (loopRound σ head exits (dsts b) (exec I P Γ m ann b (2 * p))) p0).bind fun x => exOut σ (dsts b) exits x K
      | none => none
    | _ => none
  | .scope b, p => wrap ann p (dsts b) fun σ K => exec I P Γ m ann b (2 * p) σ K
  | .exit i, _ => fun σ K => K (.exit i) σ
  | .ret, _ => fun σ K => K .ret σ
  | _, _ => fun _ _ => none

/-! ## Functions -/
/-- The results' values. -/
def resGet (P : Program) (σ : St) : List ResultVar → Option (List V1)
  | [] => some []
  | .tmp t :: r => match σ.get t, resGet P σ r with
    | .val v, some l => some (v :: l)
    | _, _ => none
  | .cell a t :: r => match aLoad P t (σ.get a) σ some, resGet P σ r with
    | some (.val v), some l => some (v :: l)
    | _, _ => none

def enum (i : Nat) : List AV → List (Nat × AV)
  | [] => []
  | x :: r => (i, x) :: enum (i + 1) r

/-- Goes through functions, so deep. -/
noncomputable def inlOf (P : Program) (Γ : List Summ) (m : Fu) : Nat → Inl
  | 0 => noInl
  | l + 1 => fun g ann args σ K => match P.funcs[g]? with
    | none => none
    | some fn => match fn.body with
      | none => none
      | some c => bif !(Nat.ble args.length fn.ntmps) || (fn.name == "runtime.NumGoroutine") then none else
          exec (inlOf P Γ m l) P Γ m ann c 1 ⟨enum 0 args, σ.hp, σ.nxt, fn.ntmps⟩ fun e σ' => match e with
            | .exit _ => none
            | _ => match resGet P σ' fn.results.toList with
              | some vs => K (resAV vs) ⟨σ.tm, σ'.hp, σ'.nxt, σ.n⟩
              | none => none

def entryPar (i : Nat) : (k : PK) → (tupT (pkTs k)).den → AV × List (Nat × Option Ob)
  | .val false ts, p => (match datCells ts p with | [c] => .val (.one c) | _ => .val (.one .any), [])
  | .val true ts, p => (.val (.agg (datCells ts p)), [])
  | .own t, p => (.val (.one (.own t (16 * i))), [(16 * i, some ⟨false, .arr t p .fr⟩)])
  | .box ts, p => (.val (.one (.ptr (16 * i) 0)), [(16 * i, some ⟨false, .box (datCells ts p)⟩)])
  | .fn f caps, p => (.val (.one (.fn f (ids (16 * i) caps))), obs (16 * i) caps p)
where
  ids (j : Nat) : List (List Ty) → List (Nat × Nat)
    | [] => []
    | _ :: r => (j, 0) :: ids (j + 1) r
  obs (j : Nat) : (caps : List (List Ty)) → (tupT (concatT caps)).den → List (Nat × Option Ob)
    | [], _ => []
    | ts :: r, p => (j, some ⟨false, .box (datCells ts (tfst ts (concatT r) p))⟩) :: obs (j + 1) r (tsnd ts (concatT r) p)

def entry (σ : St) (i : Nat) : (ks : List PK) → (tupT (insL ks)).den → St
  | [], _ => σ
  | k :: r, p =>
    let e := entryPar i k (tfst (pkTs k) (insL r) p)
    entry { tm := (i, e.1) :: σ.tm, hp := app e.2 σ.hp, nxt := 16 * (i + 1), n := σ.n } (i + 1) r (tsnd (pkTs k) (insL r) p)

def resCells : List (Bool × List CK) → List V1 → Option (List Cell)
  | [], [] => some []
  | (ag, ks) :: r, v :: vs => match resCells r vs with
    | none => none
    | some cs => match ag, v with
      | false, .one c => bif Nat.beq ks.length 1 then some (c :: cs) else none
      | true, .agg ds => bif Nat.beq ks.length ds.length then some (app ds cs) else none
      | _, _ => none
  | _, _ => none

def resCks : List (Bool × List CK) → List CK
  | [] => []
  | (_, ks) :: r => app ks (resCks r)

def grabRes (σ : St) : (l : List (Bool × List CK)) → List Cell → Option (tupT (resTs l)).den
  | [], [] => some ()
  | (_, ks) :: r, cs => match grab σ ks (cs.take ks.length) with
    | some x => match grabRes σ r (cs.drop ks.length) with
      | some y => some (tapp (pay ks) (resTs r) x y)
      | none => none
    | none => none
  | _, _ => none

def outsGet (σ : St) (i : Nat) : (ks : List PK) → Option (tupT (outsP ks)).den
  | [] => some ()
  | .box ts :: r => match boxCells σ (16 * i) with
    | some cs => match grabTs σ ts cs with
      | some x => match outsGet σ (i + 1) r with
        | some y => some (tapp ts (outsP r) x y)
        | none => none
      | none => none
    | none => none
  | .fn _ caps :: r => match grabCaps σ caps (entryPar.ids (16 * i) caps) with
    | some x => match outsGet σ (i + 1) r with
      | some y => some (tapp (concatT caps) (outsP r) x y)
      | none => none
    | none => none
  | .val _ _ :: r => outsGet σ (i + 1) r
  | .own _ :: r => outsGet σ (i + 1) r

/-- The cells of the boxes that came in. -/
def lentCells (σ : St) (i : Nat) : List PK → List Cell
  | [] => []
  | .box _ :: r => app ((boxCells σ (16 * i)).getD []) (lentCells σ (i + 1) r)
  | .fn _ caps :: r => app (go (16 * i) caps) (lentCells σ (i + 1) r)
  | _ :: r => lentCells σ (i + 1) r
where
  go (j : Nat) : List (List Ty) → List Cell
    | [] => []
    | _ :: r => app ((boxCells σ j).getD []) (go (j + 1) r)

def finish (P : Program) (sig : Sig) (rs : List ResultVar) (σ : St) : Option sig.outs.den :=
  match resGet P σ rs with
  | none => none
  | some vs => match resCells sig.res vs with
    | none => none
    | some cs =>
      let σ1 := (freezeCk σ (resCks sig.res) cs).freeze (lentCells σ 0 sig.pars)
      bif nodupB (srcs (resCks sig.res) cs) then
        match grabRes σ1 sig.res cs, outsGet σ1 0 sig.pars with
        | some x, some y => some (tapp (resTs sig.res) (outsP sig.pars) x y)
        | _, _ => none
      else none

def capsOk : List PK → Bool
  | [] => true
  | .fn _ caps :: r => Nat.ble caps.length 16 && capsOk r
  | _ :: r => capsOk r

noncomputable def absF (P : Program) (Γ : List Summ) (ann : List (Nat × Ann)) (sig : Sig) (fn : Func) (m : Fu) (p : sig.ins.den) : Option sig.outs.den :=
  match fn.body with
  | none => none
  | some c => bif !(Nat.ble sig.pars.length fn.ntmps && capsOk sig.pars && resCst sig.res) then none else exec (inlOf P Γ m 6) P Γ m ann c 1 (entry ⟨[], [], 0, fn.ntmps⟩ 0 sig.pars p) fun e σ => match e with
    | .exit _ => none
    | _ => finish P sig fn.results.toList σ

end Go.Abs

/- Abs, part C: what data, cells, objects and states say of a machine's memory. -/
namespace Go.Abs

/-! ## Lists side by side -/
def All2 {α β : Type} (R : α → β → Prop) : List α → List β → Prop
  | [], [] => True
  | a :: r, b :: s => R a b ∧ All2 R r s
  | _, _ => False

section
variable {α β : Type} {R R' : α → β → Prop}
theorem All2.len : ∀ {l : List α} {m : List β}, All2 R l m → l.length = m.length
  | [], [], _ => rfl
  | _ :: _, _ :: _, h => by simp [All2.len h.2]
  | [], _ :: _, h => h.elim
  | _ :: _, [], h => h.elim
theorem All2.mono (hr : ∀ a b, R a b → R' a b) : ∀ {l : List α} {m : List β}, All2 R l m → All2 R' l m
  | [], [], _ => trivial
  | _ :: _, _ :: _, h => ⟨hr _ _ h.1, All2.mono hr h.2⟩
  | [], _ :: _, h => h.elim
  | _ :: _, [], h => h.elim
theorem All2.app : ∀ {l : List α} {m : List β} {l' : List α} {m' : List β}, All2 R l m → All2 R l' m' → All2 R (l ++ l') (m ++ m')
  | [], [], _, _, _, h => h
  | _ :: _, _ :: _, _, _, h, h' => ⟨h.1, All2.app h.2 h'⟩
  | [], _ :: _, _, _, h, _ => h.elim
  | _ :: _, [], _, _, h, _ => h.elim
theorem All2.take : ∀ {l : List α} {m : List β} (n : Nat), All2 R l m → All2 R (l.take n) (m.take n)
  | _, _, 0, _ => by simp [All2]
  | [], [], _ + 1, _ => trivial
  | _ :: _, _ :: _, n + 1, h => ⟨h.1, All2.take n h.2⟩
  | [], _ :: _, _ + 1, h => h.elim
  | _ :: _, [], _ + 1, h => h.elim
theorem All2.drop : ∀ {l : List α} {m : List β} (n : Nat), All2 R l m → All2 R (l.drop n) (m.drop n)
  | _, _, 0, h => h
  | [], [], _ + 1, _ => trivial
  | _ :: _, _ :: _, n + 1, h => All2.drop n h.2
  | [], _ :: _, _ + 1, h => h.elim
  | _ :: _, [], _ + 1, h => h.elim
theorem All2.nth : ∀ {l : List α} {m : List β} {i : Nat} {a : α}, All2 R l m → nth l i = some a → ∃ b, m[i]? = some b ∧ R a b
  | [], [], _, _, _, h => by cases h
  | _ :: _, b :: _, 0, _, h, ha => by cases ha; exact ⟨b, rfl, h.1⟩
  | _ :: _, _ :: _, i + 1, _, h, ha => by
    obtain ⟨b, hb, hr⟩ := All2.nth (i := i) h.2 ha
    exact ⟨b, by simpa using hb, hr⟩
  | [], _ :: _, _, _, h, _ => h.elim
  | _ :: _, [], _, _, h, _ => h.elim
theorem All2.split {l l' : List α} : ∀ {m : List β}, All2 R (l ++ l') m → ∃ m1 m2, m = m1 ++ m2 ∧ All2 R l m1 ∧ All2 R l' m2 := by
  induction l with
  | nil => intro m h; exact ⟨[], m, rfl, trivial, h⟩
  | cons a r ih =>
    intro m h
    cases m with
    | nil => exact h.elim
    | cons b s =>
      obtain ⟨m1, m2, e, h1, h2⟩ := ih h.2
      exact ⟨b :: m1, m2, by simp [e], ⟨h.1, h1⟩, h2⟩
theorem All2.mem : ∀ {l : List α} {m : List β} {b : β}, All2 R l m → b ∈ m → ∃ a ∈ l, R a b
  | [], [], _, _, h => by cases h
  | a :: _, b :: _, c, h, hm => by
    rcases List.mem_cons.1 hm with rfl | hm
    · exact ⟨a, by simp, h.1⟩
    · obtain ⟨a', ha', hr⟩ := All2.mem h.2 hm
      exact ⟨a', by simp [ha'], hr⟩
  | [], _ :: _, _, h, _ => h.elim
  | _ :: _, [], _, h, _ => h.elim
end

theorem app_eq {α : Type} : ∀ (a b : List α), app a b = a ++ b
  | [], _ => rfl
  | x :: r, b => by simp [app, app_eq r b]

theorem look_mem {α : Type} : ∀ {l : List (Nat × α)} {n : Nat} {v : α}, look l n = some v → (n, v) ∈ l
  | [], _, _, h => by cases h
  | (i, u) :: r, n, v, h => by
    simp only [look] at h
    cases hb : Nat.beq i n with
    | true =>
      have e : i = n := Nat.eq_of_beq_eq_true hb
      simp [hb] at h; subst h; subst e; simp
    | false => simp [hb] at h; exact List.mem_cons_of_mem _ (look_mem h)

theorem look_cons {α : Type} (i : Nat) (v : α) (l : List (Nat × α)) (n : Nat) : look ((i, v) :: l) n = if i = n then some v else look l n := by
  simp only [look]
  by_cases h : i = n
  · subst h; simp
  · have : Nat.beq i n = false := by
      cases hb : Nat.beq i n with
      | true => exact absurd (Nat.eq_of_beq_eq_true hb) h
      | false => rfl
    simp [this, h]

/-! ## Data in memory -/
def Reps {α : Type} (R : α → List Value → Prop) : List α → List Value → Prop
  | [], vs => vs = []
  | x :: r, vs => ∃ v1 v2, vs = v1 ++ v2 ∧ R x v1 ∧ Reps R r v2

/-- The cells lie in block b from o on. -/
def At (w : World) (b o : Nat) (vs : List Value) : Prop := ∀ j v, vs[j]? = some v → w.cell? ⟨b, o + j, none⟩ = some v

def big : Nat := 140737488351232

def RepD (w : World) (ok : Nat → Nat → Prop) : (t : Ty) → t.den → List Value → Prop
  | .int k, n, vs => vs = [.int k n] ∧ k.wrap n = n
  | .bool, b, vs => vs = [.bool b]
  | .str, l, vs => ∃ s, vs = [.string s] ∧ bytesOf s = l ∧ l.length ≤ big
  | .sl e, xs, vs => ∃ a cap, vs = [.slice a (List.length xs) cap] ∧ List.length xs ≤ cap ∧ List.length xs ≤ big ∧
      (xs = [] ∨ ∃ b o, a = some ⟨b, o, none⟩ ∧ ∃ us, Reps (fun x us => RepD w ok e x us) xs us ∧ At w b o us ∧ ∀ j, j < us.length → ok b (o + j))
  | .pr s t, x, vs => ∃ v1 v2, vs = v1 ++ v2 ∧ RepD w ok s x.1 v1 ∧ RepD w ok t x.2 v2
  | .un, _, vs => vs = []

section
variable {α : Type} {R R' : α → List Value → Prop}
theorem Reps.mono (hr : ∀ x us, R x us → R' x us) : ∀ {xs : List α} {us : List Value}, Reps R xs us → Reps R' xs us
  | [], _, h => h
  | _ :: _, _, ⟨v1, v2, e, h1, h2⟩ => ⟨v1, v2, e, hr _ _ h1, Reps.mono hr h2⟩
theorem Reps.len {n : Nat} (hn : ∀ x us, R x us → us.length = n) : ∀ {xs : List α} {us : List Value}, Reps R xs us → us.length = xs.length * n
  | [], _, h => by simp [show _ = [] from h]
  | x :: r, us, ⟨v1, v2, e, h1, h2⟩ => by
    subst e; simp [hn _ _ h1, Reps.len hn h2, Nat.add_mul]; omega
theorem Reps.append : ∀ {xs ys : List α} {us vs : List Value}, Reps R xs us → Reps R ys vs → Reps R (xs ++ ys) (us ++ vs)
  | [], _, us, _, h, h' => by cases (show us = [] from h); simpa using h'
  | _ :: _, _, _, vs, ⟨v1, v2, e, h1, h2⟩, h' => ⟨v1, v2 ++ vs, by simp [e], h1, Reps.append h2 h'⟩
theorem Reps.drop {n : Nat} (hn : ∀ x us, R x us → us.length = n) : ∀ (k : Nat) {xs : List α} {us : List Value}, Reps R xs us → Reps R (xs.drop k) (us.drop (k * n))
  | 0, _, _, h => by simpa using h
  | k + 1, [], us, h => by cases (show us = [] from h); simp [Reps]
  | k + 1, x :: r, us, ⟨v1, v2, e, h1, h2⟩ => by
    subst e
    have := Reps.drop hn k h2
    have e2 : (v1 ++ v2).drop ((k + 1) * n) = v2.drop (k * n) := by
      rw [List.drop_append, hn _ _ h1]
      rw [show (k + 1) * n - n = k * n from by rw [Nat.add_mul]; omega]
      rw [List.drop_eq_nil_of_le (by rw [hn _ _ h1, Nat.add_mul]; omega)]
      rfl
    rw [e2]; simpa using this
theorem Reps.take {n : Nat} (hn : ∀ x us, R x us → us.length = n) : ∀ (k : Nat) {xs : List α} {us : List Value}, Reps R xs us → Reps R (xs.take k) (us.take (k * n))
  | 0, _, _, _ => by simp [Reps]
  | k + 1, [], us, h => by cases (show us = [] from h); simp [Reps]
  | k + 1, x :: r, us, ⟨v1, v2, e, h1, h2⟩ => by
    subst e
    have := Reps.take hn k h2
    have e2 : (v1 ++ v2).take ((k + 1) * n) = v1 ++ v2.take (k * n) := by
      rw [List.take_append, hn _ _ h1]
      rw [show (k + 1) * n - n = k * n from by rw [Nat.add_mul]; omega]
      rw [List.take_of_length_le (by rw [hn _ _ h1, Nat.add_mul]; omega)]
    rw [e2]; exact ⟨v1, v2.take (k * n), rfl, h1, this⟩
theorem Reps.get {n : Nat} (hn : ∀ x us, R x us → us.length = n) (d : α) : ∀ {i : Nat} {xs : List α} {us : List Value}, Reps R xs us → i < xs.length → R (xs.getD i d) ((us.drop (i * n)).take n)
  | i, [], us, _, hi => by simp at hi
  | 0, x :: r, us, ⟨v1, v2, e, h1, h2⟩, _ => by
    subst e; simp [← hn _ _ h1]; exact h1
  | i + 1, x :: r, us, ⟨v1, v2, e, h1, h2⟩, hi => by
    subst e
    have := Reps.get hn d (i := i) h2 (by simpa using hi)
    have e2 : (v1 ++ v2).drop ((i + 1) * n) = v2.drop (i * n) := by
      rw [List.drop_append, hn _ _ h1]
      rw [show (i + 1) * n - n = i * n from by rw [Nat.add_mul]; omega]
      rw [List.drop_eq_nil_of_le (by rw [hn _ _ h1, Nat.add_mul]; omega)]
      rfl
    rw [e2]; simpa using this
theorem Reps.set {n : Nat} (hn : ∀ x us, R x us → us.length = n) {d : α} {ud : List Value} (hd : R d ud) : ∀ {i : Nat} {xs : List α} {us : List Value}, Reps R xs us → i < xs.length →
    Reps R (xs.set i d) (us.take (i * n) ++ ud ++ us.drop (i * n + n))
  | i, [], us, _, hi => by simp at hi
  | 0, x :: r, us, ⟨v1, v2, e, h1, h2⟩, _ => by
    subst e
    refine ⟨ud, v2, ?_, hd, h2⟩
    simp [← hn _ _ h1]
  | i + 1, x :: r, us, ⟨v1, v2, e, h1, h2⟩, hi => by
    subst e
    have := Reps.set hn hd (i := i) h2 (by simpa using hi)
    refine ⟨v1, _, ?_, h1, this⟩
    have hl := hn _ _ h1
    have a1 : (v1 ++ v2).take ((i + 1) * n) = v1 ++ v2.take (i * n) := by
      rw [List.take_append, hl]
      rw [show (i + 1) * n - n = i * n from by rw [Nat.add_mul]; omega]
      rw [List.take_of_length_le (by rw [hl, Nat.add_mul]; omega)]
    have a2 : (v1 ++ v2).drop ((i + 1) * n + n) = v2.drop (i * n + n) := by
      rw [List.drop_append, hl]
      rw [show (i + 1) * n + n - n = i * n + n from by rw [Nat.add_mul]; omega]
      rw [List.drop_eq_nil_of_le (by rw [hl, Nat.add_mul]; omega)]
      rfl
    rw [a1, a2]; simp
theorem Reps.replicate {d : α} {ud : List Value} (hd : R d ud) : ∀ (k : Nat), Reps R (List.replicate k d) ((List.replicate k ud).flatten)
  | 0 => by simp [Reps]
  | k + 1 => ⟨ud, (List.replicate k ud).flatten, by simp [List.replicate_succ], hd, Reps.replicate hd k⟩
theorem Reps.one {x : α} {us : List Value} : Reps R [x] us ↔ R x us := by
  constructor
  · rintro ⟨v1, v2, e, h, h2⟩
    have : v2 = [] := h2
    subst this; simpa [e] using h
  · intro h; exact ⟨us, [], by simp, h, rfl⟩
end

theorem RepD.len {w : World} {ok : Nat → Nat → Prop} : ∀ {t : Ty} {x : t.den} {vs : List Value}, RepD w ok t x vs → vs.length = t.sz := by
  intro t
  induction t with
  | int k => intro x vs h; simp [h.1, Ty.sz]
  | bool => intro x vs h; simp [show vs = _ from h, Ty.sz]
  | str => intro x vs h; obtain ⟨s, rfl, _⟩ := h; simp [Ty.sz]
  | sl e ih => intro x vs h; obtain ⟨a, c, rfl, _⟩ := h; simp [Ty.sz]
  | pr a b iha ihb => intro x vs h; obtain ⟨v1, v2, rfl, h1, h2⟩ := h; simp [Ty.sz, iha h1, ihb h2]
  | un => intro x vs h; simp [show vs = _ from h, Ty.sz]

theorem RepD.one {w : World} {ok : Nat → Nat → Prop} : ∀ {t : Ty} {x : t.den} {vs : List Value}, RepD w ok t x vs → ∀ v ∈ vs, v.oneCell' = true := by
  intro t
  induction t with
  | int k => intro x vs h v hv; rw [h.1] at hv; simp at hv; subst hv; rfl
  | bool => intro x vs h v hv; rw [show vs = _ from h] at hv; simp at hv; subst hv; rfl
  | str => intro x vs h v hv; obtain ⟨s, rfl, _⟩ := h; simp at hv; subst hv; rfl
  | sl e ih => intro x vs h v hv; obtain ⟨a, c, rfl, _⟩ := h; simp at hv; subst hv; rfl
  | pr a b iha ihb =>
    intro x vs h v hv; obtain ⟨v1, v2, rfl, h1, h2⟩ := h
    rcases List.mem_append.1 hv with hv | hv
    · exact iha h1 v hv
    · exact ihb h2 v hv
  | un => intro x vs h v hv; rw [show vs = _ from h] at hv; simp at hv

/-- What was there is there. -/
def Ext (w : World) (ok : Nat → Nat → Prop) (w' : World) (ok' : Nat → Nat → Prop) : Prop :=
  ∀ b o, ok b o → ok' b o ∧ w'.cell? ⟨b, o, none⟩ = w.cell? ⟨b, o, none⟩

theorem Ext.refl (w : World) (ok : Nat → Nat → Prop) : Ext w ok w ok := fun _ _ h => ⟨h, rfl⟩

theorem At.ext {w w' : World} {ok ok' : Nat → Nat → Prop} (hx : Ext w ok w' ok') {b o : Nat} {us : List Value} (h : At w b o us) (hk : ∀ j, j < us.length → ok b (o + j)) :
    At w' b o us ∧ ∀ j, j < us.length → ok' b (o + j) :=
  ⟨fun j v hv => by
    have hj : j < us.length := by
      rcases Nat.lt_or_ge j us.length with h | h
      · exact h
      · rw [List.getElem?_eq_none h] at hv; cases hv
    rw [(hx _ _ (hk j hj)).2]; exact h j v hv, fun j hj => (hx _ _ (hk j hj)).1⟩

theorem RepD.ext {w w' : World} {ok ok' : Nat → Nat → Prop} (hx : Ext w ok w' ok') : ∀ {t : Ty} {x : t.den} {vs : List Value}, RepD w ok t x vs → RepD w' ok' t x vs := by
  intro t
  induction t with
  | int k => intro x vs h; exact h
  | bool => intro x vs h; exact h
  | str => intro x vs h; exact h
  | sl e ih =>
    intro x vs h
    obtain ⟨a, c, e1, h1, h2, h3⟩ := h
    refine ⟨a, c, e1, h1, h2, ?_⟩
    rcases h3 with h3 | ⟨b, o, ha, us, hr, hat, hk⟩
    · exact .inl h3
    · obtain ⟨p, q⟩ := At.ext hx hat hk
      exact .inr ⟨b, o, ha, us, Reps.mono (fun _ _ h => ih h) hr, p, q⟩
  | pr a b iha ihb => intro x vs h; obtain ⟨v1, v2, e, h1, h2⟩ := h; exact ⟨v1, v2, e, iha h1, ihb h2⟩
  | un => intro x vs h; exact h

/-- What has no slices hangs on no memory. -/
theorem RepD.flat {w w' : World} {ok ok' : Nat → Nat → Prop} : ∀ {t : Ty}, hasSl t = false → ∀ {x : t.den} {vs : List Value}, RepD w ok t x vs → RepD w' ok' t x vs := by
  intro t
  induction t with
  | int k => intro _ x vs h; exact h
  | bool => intro _ x vs h; exact h
  | str => intro _ x vs h; exact h
  | sl e ih => intro hf; simp [hasSl] at hf
  | pr a b iha ihb => intro hf x vs h; simp [hasSl] at hf; obtain ⟨v1, v2, e, h1, h2⟩ := h; exact ⟨v1, v2, e, iha hf.1 h1, ihb hf.2 h2⟩
  | un => intro _ x vs h; exact h

/-! ## Cells, values, objects -/
/-- The numbers that are taken: N, one more, sixteen more. -/
def plus (N : Nat → Prop) (id : Nat) : Nat → Prop := fun i => N i ∨ i = id
def span (N : Nat → Prop) (nb : Nat) : Nat → Prop := fun i => N i ∨ (nb ≤ i ∧ i < nb + 16)
def Fresh (N : Nat → Prop) (nb : Nat) : Prop := ∀ i, nb ≤ i → i < nb + 16 → ¬ N i
theorem Fresh.nb {N : Nat → Prop} {nb : Nat} (h : Fresh N nb) : ¬ N nb := h nb (Nat.le_refl _) (by omega)
theorem plus_self {N : Nat → Prop} {id : Nat} : plus N id id := .inr rfl
theorem le_plus {N : Nat → Prop} {id : Nat} : ∀ i, N i → plus N id i := fun _ h => .inl h
theorem le_span {N : Nat → Prop} {nb : Nat} : ∀ i, N i → span N nb i := fun _ h => .inl h
theorem plus_span {N : Nat → Prop} {nb : Nat} : ∀ i, plus N nb i → span N nb i := fun i h => h.imp id (fun e => by subst e; exact ⟨Nat.le_refl _, by omega⟩)

def ptrAt (ι : Nat → Value) (N : Nat → Prop) (c : Nat × Nat) (v : Value) : Prop :=
  N c.1 ∧ ∃ B, ι c.1 = .pointer (some ⟨B, 0, none⟩) ∧ v = .pointer (some ⟨B, c.2, none⟩)

def RepC (w : World) (ok : Nat → Nat → Prop) (ι : Nat → Value) (N : Nat → Prop) : Cell → Value → Prop
  | .any, _ => True
  | .skip, v => v = .tuple #[]
  | .dat t x, v => RepD w ok t x [v]
  | .nils, v => v = .slice none 0 0
  | .nilp, v => v = .pointer none
  | .own _ id, v => N id ∧ v = ι id ∧ ((∃ a n c, v = .slice a n c) ∨ ∃ b, v = .map (some b))
  | .ptr id off, v => ptrAt ι N (id, off) v
  | .vptr t x off, v => ∃ b o us, v = .pointer (some ⟨b, o + off, none⟩) ∧ RepD w ok t x us ∧ At w b o us ∧ ∀ j, j < us.length → ok b (o + j)
  | .eptr t id i off, v => N id ∧ ∃ b o n cap, ι id = .slice (some ⟨b, o, none⟩) n cap ∧ v = .pointer (some ⟨b, o + i * t.sz + off, none⟩)
  | .win t id lo n, v => N id ∧ ∃ b o len cap c', ι id = .slice (some ⟨b, o, none⟩) len cap ∧ v = .slice (some ⟨b, o + lo * t.sz, none⟩) n c'
  | .bsl id n, v => N id ∧ ∃ B, ι id = .pointer (some ⟨B, 0, none⟩) ∧ v = .slice (some ⟨B, 0, none⟩) n n
  | .nilf, v => v = .nilFunc
  | .fn f caps, v => ∃ vs : List Value, v = .func (.func f) #[] vs.toArray ∧ All2 (ptrAt ι N) caps vs

def RepV1 (w : World) (ok : Nat → Nat → Prop) (ι : Nat → Value) (N : Nat → Prop) : V1 → Value → Prop
  | .one c, v => RepC w ok ι N c v
  | .agg cs, v => ∃ vs : List Value, v = .agg vs.toArray ∧ All2 (RepC w ok ι N) cs vs

def RepAV (w : World) (ok : Nat → Nat → Prop) (ι : Nat → Value) (N : Nat → Prop) : AV → Value → Prop
  | .val x, v => RepV1 w ok ι N x v
  | .tup l, v => ∃ vs : List Value, v = .tuple vs.toArray ∧ All2 (RepV1 w ok ι N) l vs

def blk : Value → Option Nat
  | .map (some b) => some b
  | .pointer (some a) => some a.block
  | .slice (some a) _ _ => some a.block
  | _ => none

/-- What is frozen lies behind. -/
def FzOk (fz : Nat × Nat) (n : Nat) : Prop := n ≤ fz.1 ∨ fz.1 = fz.2
theorem FzOk.free {fz : Nat × Nat} {n : Nat} (h : FzOk fz n) (j : Nat) (hj : j < n) : ¬(fz.1 ≤ j ∧ j < fz.2) := by
  rcases h with h | h <;> omega

/-- The cells of a slice of our own. -/
def ArrAt (w : World) (ok : Nat → Nat → Prop) (t : Ty) (xs : List t.den) (mu : MK) (b o cap : Nat) : Prop :=
  ∃ c T fz, w.heap[b]? = some (.cells c T fz) ∧ FzOk fz (o + cap * t.sz) ∧ o + cap * t.sz ≤ c.size ∧
    (∃ us, Reps (RepD w ok t) xs us ∧ ∀ j v, us[j]? = some v → c[o + j]? = some v) ∧
    (mu = .wr → ∀ j, ¬ok b j) ∧ (mu = .fr → (∀ j, ok b j → j < o + xs.length * t.sz) ∧ ∀ j, j < xs.length * t.sz → ok b (o + j))

def SlRep (w : World) (ok : Nat → Nat → Prop) (t : Ty) (xs : List t.den) (mu : MK) (V : Value) : Prop :=
  ∃ a cap, V = .slice a xs.length cap ∧ xs.length ≤ cap ∧ xs.length ≤ big ∧
      ((a = none ∧ xs = [] ∧ cap = 0) ∨ ∃ b o, a = some ⟨b, o, none⟩ ∧ ArrAt w ok t xs mu b o cap)

/-- A key, an element of a map. -/
def RepE (w : World) (ok : Nat → Nat → Prop) (ag : Bool) (t : Ty) (x : t.den) (v : Value) : Prop := match ag with
  | false => RepD w ok t x [v]
  | true => ∃ vs : List Value, v = .agg vs.toArray ∧ RepD w ok t x vs

def EntRep (w : World) (ok : Nat → Nat → Prop) (ka va : Bool) : (t : Ty) → t.den → MapEntry → Prop
  | .pr k v, x, e => hasSl k = false ∧ hasSl v = false ∧ RepE w ok ka k x.1 e.key ∧ RepE w ok va v x.2 e.val
  | _, _, _ => False

def MpRep (w : World) (ok : Nat → Nat → Prop) (ka va : Bool) (t : Ty) (xs : List t.den) (V : Value) : Prop :=
  ∃ b es clock, V = .map (some b) ∧ w.heap[b]? = some (.map es clock) ∧ All2 (EntRep w ok ka va t) xs es.toList ∧ (∀ j, ¬ok b j) ∧ xs.length ≤ big

/-- A slice of a capacity that is told; noughts behind. -/
def CpRep (w : World) (ok : Nat → Nat → Prop) (t : Ty) (xs : List t.den) (c : Nat) (V : Value) : Prop :=
  ∃ b o, V = .slice (some ⟨b, o, none⟩) xs.length c ∧ xs.length ≤ c ∧ c ≤ big ∧ ArrAt w ok t (xs ++ List.replicate (c - xs.length) t.zero) .wr b o c

def ObjRep (w : World) (ok : Nat → Nat → Prop) (ι : Nat → Value) (N : Nat → Prop) : AO → Value → Prop
  | .box cs, V => ∃ B c T, V = .pointer (some ⟨B, 0, none⟩) ∧ w.heap[B]? = some (.cells c T (0, 0)) ∧ All2 (RepC w ok ι N) cs c.toList ∧ ∀ j, ¬ok B j
  | .arr t xs (.mp ka va), V => MpRep w ok ka va t xs V
  | .arr t xs .fr, V => SlRep w ok t xs .fr V
  | .arr t xs .wr, V => SlRep w ok t xs .wr V
  | .arr t xs (.cp c), V => CpRep w ok t xs c V

theorem ObjRep.sl {w : World} {ok : Nat → Nat → Prop} {ι : Nat → Value} {N : Nat → Prop} {t : Ty} {xs : List t.den} {mu : MK} {V : Value} (hm : mu.isSl = true) (h : ObjRep w ok ι N (.arr t xs mu) V) : SlRep w ok t xs mu V := by
  cases mu with
  | fr => exact h
  | wr => exact h
  | mp ka va => cases hm
  | cp c => cases hm
theorem ObjRep.arr {w : World} {ok : Nat → Nat → Prop} {ι ι' : Nat → Value} {N N' : Nat → Prop} {t : Ty} {xs : List t.den} {mu : MK} {V : Value} (h : ObjRep w ok ι N (.arr t xs mu) V) : ObjRep w ok ι' N' (.arr t xs mu) V := by
  cases mu <;> exact h
theorem ObjRep.val {w : World} {ok : Nat → Nat → Prop} {ι : Nat → Value} {N : Nat → Prop} {t : Ty} {xs : List t.den} {mu : MK} {V : Value} (h : ObjRep w ok ι N (.arr t xs mu) V) : (∃ a n c, V = .slice a n c) ∨ ∃ b, V = .map (some b) := by
  cases mu with
  | fr => obtain ⟨a, cap, e, _⟩ := h; exact .inl ⟨_, _, _, e⟩
  | wr => obtain ⟨a, cap, e, _⟩ := h; exact .inl ⟨_, _, _, e⟩
  | mp ka va => obtain ⟨b, es, clock, e, _⟩ := h; exact .inr ⟨b, e⟩
  | cp c => obtain ⟨b, o, e, _⟩ := h; exact .inl ⟨_, _, _, e⟩
theorem ObjRep.of_sl {w : World} {ok : Nat → Nat → Prop} {ι : Nat → Value} {N : Nat → Prop} {t : Ty} {xs : List t.den} {mu : MK} {V : Value} (hm : mu.isSl = true) (h : SlRep w ok t xs mu V) : ObjRep w ok ι N (.arr t xs mu) V := by
  cases mu with
  | fr => exact h
  | wr => exact h
  | mp ka va => cases hm
  | cp c => cases hm

section
variable {w w' : World} {ok ok' : Nat → Nat → Prop} {ι ι' : Nat → Value} {N N' : Nat → Prop}

theorem RepE.ext (hx : Ext w ok w' ok') {ag : Bool} {t : Ty} {x : t.den} {v : Value} (h : RepE w ok ag t x v) : RepE w' ok' ag t x v := by
  cases ag with
  | false => exact RepD.ext hx h
  | true => obtain ⟨vs, e, h⟩ := h; exact ⟨vs, e, RepD.ext hx h⟩
theorem EntRep.ext (hx : Ext w ok w' ok') {ka va : Bool} : ∀ {t : Ty} {x : t.den} {e : MapEntry}, EntRep w ok ka va t x e → EntRep w' ok' ka va t x e
  | .pr _ _, _, _, ⟨h1, h2, h3, h4⟩ => ⟨h1, h2, RepE.ext hx h3, RepE.ext hx h4⟩
  | .int _, _, _, h => h.elim
  | .bool, _, _, h => h.elim
  | .str, _, _, h => h.elim
  | .sl _, _, _, h => h.elim
  | .un, _, _, h => h.elim

theorem ptrAt.mono (hι : ∀ i, N i → ι' i = ι i) (hN : ∀ i, N i → N' i) {c : Nat × Nat} {v : Value} (h : ptrAt ι N c v) : ptrAt ι' N' c v := by
  obtain ⟨h1, B, h2, h3⟩ := h
  exact ⟨hN _ h1, B, by rw [hι _ h1]; exact h2, h3⟩

theorem RepC.mono (hx : Ext w ok w' ok') (hι : ∀ i, N i → ι' i = ι i) (hN : ∀ i, N i → N' i) {c : Cell} {v : Value} (h : RepC w ok ι N c v) : RepC w' ok' ι' N' c v := by
  cases c with
  | any => trivial
  | skip => exact h
  | dat t x => exact RepD.ext hx h
  | nils => exact h
  | nilp => exact h
  | own t id => obtain ⟨h1, h2, h3⟩ := h; exact ⟨hN _ h1, by rw [hι _ h1]; exact h2, h3⟩
  | ptr id off => exact ptrAt.mono hι hN h
  | vptr t x off =>
    obtain ⟨b, o, us, e, h1, h2, h3⟩ := h
    obtain ⟨p, q⟩ := At.ext hx h2 h3
    exact ⟨b, o, us, e, RepD.ext hx h1, p, q⟩
  | eptr t id i off => obtain ⟨h1, b, o, n, cap, h2, h3⟩ := h; exact ⟨hN _ h1, b, o, n, cap, by rw [hι _ h1]; exact h2, h3⟩
  | win t id lo n => obtain ⟨h1, b, o, len, cap, c', h2, h3⟩ := h; exact ⟨hN _ h1, b, o, len, cap, c', by rw [hι _ h1]; exact h2, h3⟩
  | bsl id n => obtain ⟨h1, B, h2, h3⟩ := h; exact ⟨hN _ h1, B, by rw [hι _ h1]; exact h2, h3⟩
  | nilf => exact h
  | fn f caps => obtain ⟨vs, e, h⟩ := h; exact ⟨vs, e, All2.mono (fun _ _ h => ptrAt.mono hι hN h) h⟩

theorem RepV1.mono (hx : Ext w ok w' ok') (hι : ∀ i, N i → ι' i = ι i) (hN : ∀ i, N i → N' i) {x : V1} {v : Value} (h : RepV1 w ok ι N x v) : RepV1 w' ok' ι' N' x v := by
  cases x with
  | one c => exact RepC.mono hx hι hN h
  | agg cs => obtain ⟨vs, e, h⟩ := h; exact ⟨vs, e, All2.mono (fun _ _ h => RepC.mono hx hι hN h) h⟩

theorem RepAV.mono (hx : Ext w ok w' ok') (hι : ∀ i, N i → ι' i = ι i) (hN : ∀ i, N i → N' i) {x : AV} {v : Value} (h : RepAV w ok ι N x v) : RepAV w' ok' ι' N' x v := by
  cases x with
  | val c => exact RepV1.mono hx hι hN h
  | tup cs => obtain ⟨vs, e, h⟩ := h; exact ⟨vs, e, All2.mono (fun _ _ h => RepV1.mono hx hι hN h) h⟩

theorem ObjRep.mono (hx : Ext w ok w' ok') (hι : ∀ i, N i → ι' i = ι i) (hN : ∀ i, N i → N' i) {o : AO} {V : Value}
    (hb : ∀ b, blk V = some b → w'.heap[b]? = w.heap[b]? ∧ ∀ j, ok' b j → ok b j) (h : ObjRep w ok ι N o V) : ObjRep w' ok' ι' N' o V := by
  cases o with
  | box cs =>
    obtain ⟨B, c, T, rfl, h1, h2, h3⟩ := h
    obtain ⟨hb1, hb2⟩ := hb B rfl
    exact ⟨B, c, T, rfl, by rw [hb1]; exact h1, All2.mono (fun _ _ h => RepC.mono hx hι hN h) h2, fun j hj => h3 j (hb2 j hj)⟩
  | arr t xs mu =>
    cases hm : mu.isSl with
    | false =>
      cases mu with
      | fr => cases hm
      | wr => cases hm
      | mp ka va =>
        obtain ⟨b, es, clock, rfl, h1, h2, h3, h4⟩ := h
        obtain ⟨hb1, hb2⟩ := hb b rfl
        exact ⟨b, es, clock, rfl, by rw [hb1]; exact h1, All2.mono (fun _ _ h => EntRep.ext hx h) h2, fun j hj => h3 j (hb2 j hj), h4⟩
      | cp c =>
        obtain ⟨b, o, rfl, h1, h2, C, T, fz, g1, g2, g3, ⟨us, g4, g5⟩, g6, g7⟩ := h
        obtain ⟨hb1, hb2⟩ := hb b rfl
        exact ⟨b, o, rfl, h1, h2, C, T, fz, by rw [hb1]; exact g1, g2, g3, ⟨us, Reps.mono (fun _ _ h => RepD.ext hx h) g4, g5⟩, fun hm j hj => g6 hm j (hb2 j hj), fun hm => by cases hm⟩
    | true =>
    refine ObjRep.of_sl hm ?_
    obtain ⟨a, cap, rfl, h1, h2, h3⟩ := h.sl hm
    refine ⟨a, cap, rfl, h1, h2, ?_⟩
    rcases h3 with h3 | ⟨b, o, rfl, c, T, fz, g1, g2, g3, ⟨us, g4, g5⟩, g6, g7⟩
    · exact .inl h3
    · obtain ⟨hb1, hb2⟩ := hb b rfl
      refine .inr ⟨b, o, rfl, c, T, fz, by rw [hb1]; exact g1, g2, g3, ⟨us, Reps.mono (fun _ _ h => RepD.ext hx h) g4, g5⟩, fun hm j hj => g6 hm j (hb2 j hj), fun hm => ⟨fun j hj => (g7 hm).1 j (hb2 j hj), fun j hj => (hx _ _ ((g7 hm).2 j hj)).1⟩⟩

/-- What may be stored is one cell. -/
theorem RepC.one {c : Cell} {v : Value} (h : RepC w ok ι N c v) (h1 : c ≠ .any) (h2 : c ≠ .skip) : v.oneCell' = true := by
  cases c with
  | any => exact absurd rfl h1
  | skip => exact absurd rfl h2
  | dat t x => exact RepD.one h v (by simp)
  | nils => cases (show v = _ from h); rfl
  | nilp => cases (show v = _ from h); rfl
  | own t id => obtain ⟨_, _, ⟨a, n, c, rfl⟩ | ⟨b, rfl⟩⟩ := h <;> rfl
  | ptr id off => obtain ⟨_, B, _, rfl⟩ := h; rfl
  | vptr t x off => obtain ⟨b, o, us, rfl, _⟩ := h; rfl
  | eptr t id i off => obtain ⟨_, b, o, n, cap, _, rfl⟩ := h; rfl
  | win t id lo n => obtain ⟨_, b, o, len, cap, c', _, rfl⟩ := h; rfl
  | bsl id n => obtain ⟨_, B, _, rfl⟩ := h; rfl
  | nilf => cases (show v = _ from h); rfl
  | fn f caps => obtain ⟨vs, rfl, _⟩ := h; rfl

theorem storB_one : ∀ {cs : List Cell} {vs : List Value}, storB cs = true → All2 (RepC w ok ι N) cs vs → ∀ v ∈ vs, v.oneCell' = true
  | [], [], _, _, v, hv => by cases hv
  | c :: r, u :: s, hs, h, v, hv => by
    have hc : c ≠ .any ∧ c ≠ .skip ∧ storB r = true := by
      cases c <;> simp_all [storB]
    rcases List.mem_cons.1 hv with rfl | hv
    · exact RepC.one h.1 hc.1 hc.2.1
    · exact storB_one hc.2.2 h.2 v hv
  | [], _ :: _, _, h, _, _ => h.elim
  | _ :: _, [], _, h, _, _ => h.elim
end

/-! ## States -/
structure Fr where
  w0 : World
  S : List Nat
  ok0 : Nat → Nat → Prop
  pin : List (Nat × Value)

structure Keeps (F : Fr) (ok : Nat → Nat → Prop) (w : World) : Prop where
  size : F.w0.heap.size ≤ w.heap.size
  old : ∀ b, b < F.w0.heap.size → b ∉ F.S → w.heap[b]? = F.w0.heap[b]?
  os : w.os = F.w0.os
  tape : w.tape = F.w0.tape
  output : w.output = F.w0.output
  kept : ∀ b o, F.ok0 b o → ok b o ∧ w.cell? ⟨b, o, none⟩ = F.w0.cell? ⟨b, o, none⟩
  new : ∀ b o, ok b o → F.ok0 b o ∨ F.w0.heap.size ≤ b ∨ b ∈ F.S

structure Sim (F : Fr) (ι : Nat → Value) (ok : Nat → Nat → Prop) (N : Nat → Prop) (σ : St) (a : Act) (w : World) : Prop where
  tms : ∀ t, RepAV w ok ι N (σ.get t) (a.tmps.getD t undef)
  objs : ∀ id o, σ.ob id = some o → N id ∧ ObjRep w ok ι N o (ι id) ∧ ∀ b, blk (ι id) = some b → F.w0.heap.size ≤ b ∨ b ∈ F.S
  apart : ∀ i j o p b, σ.ob i = some o → σ.ob j = some p → i ≠ j → blk (ι i) = some b → blk (ι j) ≠ some b
  oks : ∀ b o, ok b o → b < w.heap.size
  keep : Keeps F ok w
  size : a.tmps.size = σ.n
  defs : a.defers = []
  pins : ∀ x ∈ F.pin, N x.1 ∧ ι x.1 = x.2

/-- The block of an object is there. -/
theorem ObjRep.lt {w : World} {ok : Nat → Nat → Prop} {ι : Nat → Value} {N : Nat → Prop} {o : AO} {V : Value} (h : ObjRep w ok ι N o V) {b : Nat} (hb : blk V = some b) : b < w.heap.size := by
  have key : ∀ b x, w.heap[b]? = some x → b < w.heap.size := fun b x hx => by
    rcases Nat.lt_or_ge b w.heap.size with h | h
    · exact h
    · rw [Array.getElem?_eq_none h] at hx; cases hx
  cases o with
  | box cs => obtain ⟨B, c, T, rfl, h1, _⟩ := h; cases hb; exact key _ _ h1
  | arr t xs mu =>
    cases hm : mu.isSl with
    | false =>
      cases mu with
      | fr => cases hm
      | wr => cases hm
      | mp ka va =>
        obtain ⟨b', es, clock, rfl, h1, _⟩ := h
        cases hb; exact key _ _ h1
      | cp c =>
        obtain ⟨b', o', rfl, _, _, C, T, fz, g1, _⟩ := h
        cases hb; exact key _ _ g1
    | true =>
    obtain ⟨a, cap, rfl, _, _, h3⟩ := h.sl hm
    rcases h3 with ⟨rfl, _⟩ | ⟨b', o', rfl, c, T, fz, g1, _⟩
    · cases hb
    · cases hb; exact key _ _ g1

end Go.Abs

/- Abs, part D: how states change. -/
namespace Go.Abs

theorem St.get_put (σ : St) (d : Nat) (v : AV) (t : Nat) : (σ.put (some d) v).get t = if d = t then v else σ.get t := by
  simp only [St.get, St.put, look_cons]
  split <;> rfl

theorem St.ob_set (σ : St) (i : Nat) (o : AO) (j : Nat) : (σ.set i o).ob j = if i = j then some o else σ.ob j := by
  by_cases h : i = j <;> simp [St.ob, St.set, look_cons, h]

theorem St.ob_kill (σ : St) (i : Nat) (j : Nat) : (σ.kill i).ob j = if i = j then none else σ.ob j := by
  by_cases h : i = j <;> simp [St.ob, St.kill, look_cons, h]

@[simp] theorem St.get_set (σ : St) (i : Nat) (o : AO) (t : Nat) : (σ.set i o).get t = σ.get t := rfl
@[simp] theorem St.get_kill (σ : St) (i : Nat) (t : Nat) : (σ.kill i).get t = σ.get t := rfl
@[simp] theorem St.ob_put (σ : St) (d : Option Nat) (v : AV) (i : Nat) : (σ.put d v).ob i = σ.ob i := by cases d <;> rfl
@[simp] theorem St.n_set (σ : St) (i : Nat) (o : AO) : (σ.set i o).n = σ.n := rfl
@[simp] theorem St.n_kill (σ : St) (i : Nat) : (σ.kill i).n = σ.n := rfl
@[simp] theorem St.n_put (σ : St) (d : Option Nat) (v : AV) : (σ.put d v).n = σ.n := by cases d <;> rfl

theorem put_getD (a : Act) (d : Nat) (v : Value) (t : Nat) (h : d < a.tmps.size) : (a.put (some d) v).tmps.getD t undef = if d = t then v else a.tmps.getD t undef := by
  simp only [Act.put, Array.getD_eq_getD_getElem?]
  by_cases e : d = t
  · subst e; simp [h]
  · simp [Array.getElem?_setIfInBounds_ne e, e]

def upd (ι : Nat → Value) (i : Nat) (V : Value) : Nat → Value := fun j => if j = i then V else ι j
theorem upd_same (ι : Nat → Value) (i : Nat) (V : Value) : upd ι i V i = V := by simp [upd]
theorem upd_other (ι : Nat → Value) (i : Nat) (V : Value) {j : Nat} (h : j ≠ i) : upd ι i V j = ι j := by simp [upd, h]

theorem cell_of_heap {w w' : World} {b : Nat} (h : w'.heap[b]? = w.heap[b]?) (o : Nat) : w'.cell? ⟨b, o, none⟩ = w.cell? ⟨b, o, none⟩ := by
  simp [World.cell?, h]

theorem cell_in {w : World} {b : Nat} {c : Array Value} {T : TypeId} {fz : Nat × Nat} (h : w.heap[b]? = some (.cells c T fz)) (o : Nat) : w.cell? ⟨b, o, none⟩ = c[o]? := by
  simp [World.cell?, h]

section
variable {F : Fr} {ι : Nat → Value} {ok : Nat → Nat → Prop} {N : Nat → Prop} {σ : St} {a : Act} {w : World}

/-- A slot is written. -/
theorem Sim.put (h : Sim F ι ok N σ a w) {x : AV} {v : Value} (hx : RepAV w ok ι N x v) {d : Nat} (hd : d < σ.n) : Sim F ι ok N (σ.put (some d) x) (a.put (some d) v) w where
  tms t := by
    rw [St.get_put, put_getD _ _ _ _ (by rw [h.size]; exact hd)]
    split
    · exact hx
    · exact h.tms t
  objs id o ho := h.objs id o (by simpa using ho)
  apart i j o p b hi hj := h.apart i j o p b (by simpa using hi) (by simpa using hj)
  oks := h.oks
  keep := h.keep
  size := by simp [Act.put, h.size]
  defs := h.defs
  pins := h.pins

theorem Sim.more (h : Sim F ι ok N σ a w) {N' : Nat → Prop} (hN : ∀ i, N i → N' i) : Sim F ι ok N' σ a w where
  tms t := RepAV.mono (Ext.refl _ _) (fun _ _ => rfl) hN (h.tms t)
  objs id o ho := by
    obtain ⟨h1, h2, h3⟩ := h.objs id o ho
    exact ⟨hN _ h1, ObjRep.mono (Ext.refl _ _) (fun _ _ => rfl) hN (fun _ _ => ⟨rfl, fun _ h => h⟩) h2, h3⟩
  apart := h.apart
  oks := h.oks
  keep := h.keep
  size := h.size
  defs := h.defs
  pins := fun x hx => ⟨hN _ (h.pins x hx).1, (h.pins x hx).2⟩

theorem ext_of_heap {w' : World} (hh : w'.heap = w.heap) : Ext w ok w' ok := fun b o hk => ⟨hk, cell_of_heap (by rw [hh]) o⟩

/-- A world with the same memory. -/
theorem Sim.heap (h : Sim F ι ok N σ a w) {w' : World} (hh : w'.heap = w.heap) (h1 : w'.os = w.os) (h2 : w'.tape = w.tape) (h3 : w'.output = w.output) : Sim F ι ok N σ a w' where
  tms t := RepAV.mono (ext_of_heap hh) (fun _ _ => rfl) (fun _ h => h) (h.tms t)
  objs id o ho := by
    obtain ⟨g1, g2, g3⟩ := h.objs id o ho
    exact ⟨g1, ObjRep.mono (ext_of_heap hh) (fun _ _ => rfl) (fun _ h => h) (fun b _ => ⟨by rw [hh], fun _ h => h⟩) g2, g3⟩
  apart := h.apart
  oks b o hk := by rw [hh]; exact h.oks b o hk
  keep := by
    obtain ⟨k1, k2, k3, k4, k5, k6, k7⟩ := h.keep
    exact ⟨by rw [hh]; exact k1, fun b hb hs => by rw [hh]; exact k2 b hb hs, by rw [h1]; exact k3, by rw [h2]; exact k4, by rw [h3]; exact k5,
      fun b o hk => ⟨(k6 b o hk).1, by rw [cell_of_heap (w := w) (w' := w') (by rw [hh]) o]; exact (k6 b o hk).2⟩, k7⟩
  size := h.size
  defs := h.defs
  pins := h.pins

theorem Sim.drew (h : Sim F ι ok N σ a w) : Sim F ι ok N σ a w.drew := h.heap rfl rfl rfl rfl

theorem Sim.kill (h : Sim F ι ok N σ a w) (i : Nat) : Sim F ι ok N (σ.kill i) a w where
  tms t := h.tms t
  objs id o ho := by
    rw [St.ob_kill] at ho
    split at ho
    · cases ho
    · exact h.objs id o ho
  apart x y o p b hx hy := by
    rw [St.ob_kill] at hx hy
    split at hx
    · cases hx
    · split at hy
      · cases hy
      · exact h.apart x y o p b hx hy
  oks := h.oks
  keep := h.keep
  size := h.size
  defs := h.defs
  pins := h.pins

theorem heap_alloc_lt (w : World) (o : Obj) {b : Nat} (h : b < w.heap.size) : (w.alloc o).heap[b]? = w.heap[b]? := by
  show (w.heap.push o)[b]? = _
  rw [Array.getElem?_push, if_neg (by omega)]
theorem heap_alloc_at (w : World) (o : Obj) : (w.alloc o).heap[w.heap.size]? = some o := by
  show (w.heap.push o)[w.heap.size]? = _
  simp
theorem size_alloc (w : World) (o : Obj) : (w.alloc o).heap.size = w.heap.size + 1 := by
  show (w.heap.push o).size = _
  simp

theorem ext_alloc (hk : ∀ b o, ok b o → b < w.heap.size) (o : Obj) : Ext w ok (w.alloc o) ok := fun b j h => ⟨h, cell_of_heap (heap_alloc_lt w o (hk b j h)) j⟩

theorem Keeps.alloc {F : Fr} (h : Keeps F ok w) (hk : ∀ b o, ok b o → b < w.heap.size) (o : Obj) : Keeps F ok (w.alloc o) := by
  obtain ⟨k1, k2, k3, k4, k5, k6, k7⟩ := h
  refine ⟨by rw [size_alloc]; omega, fun b hb hs => by rw [heap_alloc_lt _ _ (by omega)]; exact k2 b hb hs, k3, k4, k5, fun b j hb => ⟨(k6 b j hb).1, ?_⟩, k7⟩
  rw [cell_of_heap (heap_alloc_lt w o (hk b j (k6 b j hb).1)) j]; exact (k6 b j hb).2

/-- Memory that is nobody's object yet. -/
theorem Sim.alloc0 (h : Sim F ι ok N σ a w) (o : Obj) : Sim F ι ok N σ a (w.alloc o) where
  tms t := RepAV.mono (ext_alloc h.oks o) (fun _ _ => rfl) (fun _ h => h) (h.tms t)
  objs id p hp := by
    obtain ⟨g1, g2, g3⟩ := h.objs id p hp
    exact ⟨g1, ObjRep.mono (ext_alloc h.oks o) (fun _ _ => rfl) (fun _ h => h) (fun b hb => ⟨heap_alloc_lt _ _ (g2.lt hb), fun _ h => h⟩) g2, g3⟩
  apart := h.apart
  oks b j hk := by rw [size_alloc]; have := h.oks b j hk; omega
  keep := h.keep.alloc h.oks o
  size := h.size
  defs := h.defs
  pins := h.pins

/-- A new object, of a number that nobody has. -/
theorem Sim.newOb (h : Sim F ι ok N σ a w) {id : Nat} (hid : ¬ N id) {o : AO} {V : Value} (hV : ObjRep w ok (upd ι id V) (plus N id) o V)
    (hb : ∀ b, blk V = some b → (F.w0.heap.size ≤ b ∨ b ∈ F.S) ∧ ∀ i p, σ.ob i = some p → blk (ι i) ≠ some b) : Sim F (upd ι id V) ok (plus N id) (σ.set id o) a w := by
  have hι : ∀ i, N i → upd ι id V i = ι i := fun i hi => upd_other ι id V (fun e => hid (e ▸ hi))
  refine ⟨fun t => RepAV.mono (Ext.refl _ _) hι le_plus (h.tms t), fun i p hp => ?_, fun i j p q b hp hq hij hbi hbj => ?_, h.oks, h.keep, h.size, h.defs, fun x hx => ⟨le_plus _ (h.pins x hx).1, by rw [hι _ (h.pins x hx).1]; exact (h.pins x hx).2⟩⟩
  · rw [St.ob_set] at hp
    split at hp
    · rename_i e; subst e; cases hp
      rw [upd_same]
      exact ⟨plus_self, hV, fun b hb' => (hb b hb').1⟩
    · obtain ⟨g1, g2, g3⟩ := h.objs i p hp
      rw [hι i g1]
      exact ⟨le_plus _ g1, ObjRep.mono (Ext.refl _ _) hι le_plus (fun _ _ => ⟨rfl, fun _ h => h⟩) g2, g3⟩
  · rw [St.ob_set] at hp hq
    by_cases ei : id = i
    · by_cases ej : id = j
      · exact hij (ei.symm.trans ej)
      · simp only [ei, if_true] at hp
        subst ei
        rw [if_neg ej] at hq
        rw [upd_same] at hbi
        rw [hι j (h.objs j q hq).1] at hbj
        exact (hb b hbi).2 j q hq hbj
    · rw [if_neg ei] at hp
      rw [hι i (h.objs i p hp).1] at hbi
      by_cases ej : id = j
      · subst ej
        rw [upd_same] at hbj
        exact (hb b hbj).2 i p hp hbi
      · rw [if_neg ej] at hq
        rw [hι j (h.objs j q hq).1] at hbj
        exact h.apart i j p q b hp hq hij hbi hbj

/-- A new object in a new block. -/
theorem Sim.alloc (h : Sim F ι ok N σ a w) {id : Nat} (hid : ¬ N id) (c : Obj) {o : AO} {V : Value} (hbV : blk V = some w.heap.size)
    (hV : ObjRep (w.alloc c) ok (upd ι id V) (plus N id) o V) : Sim F (upd ι id V) ok (plus N id) (σ.set id o) a (w.alloc c) := by
  refine (h.alloc0 c).newOb hid hV fun b hb => ?_
  rw [hbV] at hb; cases hb
  refine ⟨.inl h.keep.size, fun i p hp hbi => ?_⟩
  have := (h.objs i p hp).2.1.lt hbi
  omega

/-- What is told of memory may grow in a block. -/
theorem Sim.okMore (h : Sim F ι ok N σ a w) {ok' : Nat → Nat → Prop} (hle : ∀ b j, ok b j → ok' b j) {B : Nat} (hB : B < w.heap.size) (hF : F.w0.heap.size ≤ B ∨ B ∈ F.S)
    (hoth : ∀ b j, b ≠ B → ok' b j → ok b j) (σ' : St) (hg : ∀ t, σ'.get t = σ.get t) (hn : σ'.n = σ.n) (id : Nat) (o o' : AO) (hid : σ.ob id = some o) (hob : ∀ i, σ'.ob i = if id = i then some o' else σ.ob i)
    (hblk : blk (ι id) = some B) (hnew : ObjRep w ok' ι N o' (ι id)) : Sim F ι ok' N σ' a w := by
  have hx : Ext w ok w ok' := fun b j hk => ⟨hle b j hk, rfl⟩
  refine ⟨fun t => by rw [hg]; exact RepAV.mono hx (fun _ _ => rfl) (fun _ h => h) (h.tms t), fun i p hp => ?_, fun i j p q b hp hq => ?_, fun b j hk => ?_, ?_, by rw [hn]; exact h.size, h.defs, h.pins⟩
  · rw [hob] at hp
    split at hp
    · rename_i e; subst e; cases hp
      obtain ⟨g1, _, g3⟩ := h.objs id o hid
      exact ⟨g1, hnew, g3⟩
    · rename_i e
      obtain ⟨g1, g2, g3⟩ := h.objs i p hp
      refine ⟨g1, ObjRep.mono hx (fun _ _ => rfl) (fun _ h => h) (fun b hb => ⟨rfl, fun j hj => ?_⟩) g2, g3⟩
      refine hoth b j (fun e' => ?_) hj
      subst e'
      exact h.apart id i o p b hid hp e hblk hb
  · intro hij
    have key : ∀ i p, σ'.ob i = some p → ∃ p', σ.ob i = some p' := fun i p hp => by
      rw [hob] at hp
      split at hp
      · rename_i e; subst e; exact ⟨o, hid⟩
      · exact ⟨p, hp⟩
    obtain ⟨p', hp'⟩ := key i p hp
    obtain ⟨q', hq'⟩ := key j q hq
    exact h.apart i j p' q' b hp' hq' hij
  · by_cases e : b = B
    · subst e; exact hB
    · exact h.oks b j (hoth b j e hk)
  · obtain ⟨k1, k2, k3, k4, k5, k6, k7⟩ := h.keep
    refine ⟨k1, k2, k3, k4, k5, fun b j hk => ⟨hle b j (k6 b j hk).1, (k6 b j hk).2⟩, fun b j hk => ?_⟩
    by_cases e : b = B
    · subst e; exact .inr hF
    · exact k7 b j (hoth b j e hk)

/-- What was told as data is written no more. -/
theorem Sim.freeze1 (h : Sim F ι ok N σ a w) (c : Cell) : ∃ ok', Sim F ι ok' N (σ.freeze1 c) a w ∧ ∀ b j, ok b j → ok' b j := by
  unfold St.freeze1
  split
  case h_2 => exact ⟨ok, h, fun _ _ h => h⟩
  rename_i t0 id
  split
  case h_2 => exact ⟨ok, h, fun _ _ h => h⟩
  rename_i t xs hob
  obtain ⟨g1, g2, g3⟩ := h.objs id _ hob
  have hob' : ∀ i, ({ σ with hp := (id, some ⟨true, .arr t xs .fr⟩) :: σ.hp } : St).ob i = if id = i then some (.arr t xs .fr) else σ.ob i := fun i => St.ob_set σ id _ i
  obtain ⟨A, cap, hV, l1, l2, hc⟩ := g2
  rcases hc with ⟨rfl, hxs, hcap⟩ | ⟨b, o, rfl, C, T, fz, m1, m2, m3, ⟨us, m4, m5⟩, m6, m7⟩
  · refine ⟨ok, ⟨h.tms, fun i p hp => ?_, fun i j p q b hp hq => ?_, h.oks, h.keep, h.size, h.defs, h.pins⟩, fun _ _ h => h⟩
    · rw [hob'] at hp
      split at hp
      · rename_i e; subst e; cases hp
        exact ⟨g1, ⟨none, cap, hV, l1, l2, .inl ⟨rfl, hxs, hcap⟩⟩, g3⟩
      · exact h.objs i p hp
    · have key : ∀ i p, ({ σ with hp := (id, some ⟨true, .arr t xs .fr⟩) :: σ.hp } : St).ob i = some p → ∃ p', σ.ob i = some p' := fun i p hp => by
        rw [hob'] at hp
        split at hp
        · rename_i e; subst e; exact ⟨_, hob⟩
        · exact ⟨p, hp⟩
      obtain ⟨p', hp'⟩ := key i p hp
      obtain ⟨q', hq'⟩ := key j q hq
      exact h.apart i j p' q' b hp' hq'
  · have hblk : blk (ι id) = some b := by rw [hV]; rfl
    have hlt : b < w.heap.size := ObjRep.lt (h.objs id _ hob).2.1 hblk
    refine ⟨fun b' j => ok b' j ∨ (b' = b ∧ o ≤ j ∧ j < o + xs.length * t.sz), h.okMore (fun b' j hk => .inl hk) hlt (g3 b hblk) (fun b' j hne hk => ?_) _ (fun _ => rfl) rfl id _ (.arr t xs .fr) hob hob' hblk ?_, fun b' j hk => .inl hk⟩
    · rcases hk with hk | hk
      · exact hk
      · exact absurd hk.1 hne
    · refine ⟨some ⟨b, o, none⟩, cap, hV, l1, l2, .inr ⟨b, o, rfl, C, T, fz, m1, m2, m3, ⟨us, Reps.mono (fun _ _ hr => RepD.ext (fun b' j hk => ⟨.inl hk, rfl⟩) hr) m4, m5⟩, (fun hm => by cases hm), fun _ => ⟨fun j hj => ?_, fun j hj => .inr ⟨rfl, by omega, by omega⟩⟩⟩⟩
      rcases hj with hj | hj
      · exact absurd hj (m6 rfl j)
      · exact hj.2.2

theorem Sim.freeze : ∀ (cs : List Cell) {ok : Nat → Nat → Prop} {σ : St}, Sim F ι ok N σ a w → ∃ ok', Sim F ι ok' N (σ.freeze cs) a w ∧ ∀ b j, ok b j → ok' b j
  | [], ok, σ, h => ⟨ok, h, fun _ _ h => h⟩
  | c :: r, ok, σ, h => by
    obtain ⟨ok1, h1, l1⟩ := h.freeze1 c
    obtain ⟨ok2, h2, l2⟩ := Sim.freeze r h1
    exact ⟨ok2, h2, fun b j hk => l2 b j (l1 b j hk)⟩

/-- An object's own block is written. -/
theorem Sim.write (h : Sim F ι ok N σ a w) {id : Nat} {o o' : AO} (hid : σ.ob id = some o) {B : Nat} (hblk : blk (ι id) = some B) {w' : World} (hsz : w'.heap.size = w.heap.size)
    (hoth : ∀ b, b ≠ B → w'.heap[b]? = w.heap[b]?) (h1 : w'.os = w.os) (h2 : w'.tape = w.tape) (h3 : w'.output = w.output)
    (hok : ∀ j, ok B j → w'.cell? ⟨B, j, none⟩ = w.cell? ⟨B, j, none⟩) (hnew : ObjRep w' ok ι N o' (ι id)) : Sim F ι ok N (σ.set id o') a w' := by
  have hx : Ext w ok w' ok := fun b j hk => ⟨hk, by
    by_cases e : b = B
    · subst e; exact hok j hk
    · exact cell_of_heap (hoth b e) j⟩
  obtain ⟨g1, g2, g3⟩ := h.objs id o hid
  refine ⟨fun t => RepAV.mono hx (fun _ _ => rfl) (fun _ h => h) (h.tms t), fun i p hp => ?_, fun i j p q b hp hq => ?_, fun b j hk => by rw [hsz]; exact h.oks b j hk, ?_, h.size, h.defs, h.pins⟩
  · rw [St.ob_set] at hp
    split at hp
    · rename_i e; subst e; cases hp; exact ⟨g1, hnew, g3⟩
    · rename_i e
      obtain ⟨k1, k2, k3⟩ := h.objs i p hp
      refine ⟨k1, ObjRep.mono hx (fun _ _ => rfl) (fun _ h => h) (fun b hb => ⟨hoth b (fun e' => ?_), fun _ h => h⟩) k2, k3⟩
      subst e'
      exact h.apart id i o p b hid hp e hblk hb
  · have key : ∀ i p, (σ.set id o').ob i = some p → ∃ p', σ.ob i = some p' := fun i p hp => by
      rw [St.ob_set] at hp
      split at hp
      · rename_i e; subst e; exact ⟨o, hid⟩
      · exact ⟨p, hp⟩
    obtain ⟨p', hp'⟩ := key i p hp
    obtain ⟨q', hq'⟩ := key j q hq
    exact h.apart i j p' q' b hp' hq'
  · obtain ⟨k1, k2, k3, k4, k5, k6, k7⟩ := h.keep
    refine ⟨by rw [hsz]; exact k1, fun b hb hs => ?_, by rw [h1]; exact k3, by rw [h2]; exact k4, by rw [h3]; exact k5, fun b j hk => ⟨(k6 b j hk).1, ?_⟩, k7⟩
    · have hne : b ≠ B := fun e => by
        subst e
        rcases g3 b hblk with hh | hh
        · omega
        · exact hs hh
      rw [hoth b hne]; exact k2 b hb hs
    · rw [(hx b j (k6 b j hk).1).2]; exact (k6 b j hk).2

end
end Go.Abs

/- Abs, part E: cells and data. -/
namespace Go.Abs
section
variable {F : Fr} {ι : Nat → Value} {ok : Nat → Nat → Prop} {N : Nat → Prop} {σ : St} {a : Act} {w : World}

theorem RepD.nil (w : World) (ok : Nat → Nat → Prop) (e : Ty) (A : Option Addr) (c : Nat) : RepD w ok (.sl e) ([] : List e.den) [.slice A 0 c] :=
  ⟨A, c, rfl, Nat.zero_le _, Nat.zero_le _, .inl rfl⟩

/-- What is of our own, and told, as a datum. -/
theorem ObjRep.dat {t : Ty} {xs : List t.den} {V : Value} (h : ObjRep w ok ι N (.arr t xs .fr) V) : RepD w ok (.sl t) xs [V] := by
  obtain ⟨A, cap, rfl, l1, l2, h3⟩ := h
  refine ⟨A, cap, rfl, l1, l2, ?_⟩
  rcases h3 with ⟨_, h3, _⟩ | ⟨b, o, rfl, C, T, fz, m1, m2, m3, ⟨us, m4, m5⟩, _, m7⟩
  · exact .inl h3
  · have hl := Reps.len (fun x us hr => RepD.len hr) m4
    exact .inr ⟨b, o, rfl, us, m4, fun j v hv => by rw [cell_in m1]; exact m5 j v hv, fun j hj => (m7 rfl).2 j (by rw [hl] at hj; exact hj)⟩

theorem Sim.toDatS (h : Sim F ι ok N σ a w) {c : Cell} {t : Ty} {x : t.den} {v : Value} (hc : c.toDatS σ t = some x) (hv : RepC w ok ι N c v) : RepD w ok t x [v] := by
  cases c with
  | dat u y =>
    obtain ⟨e, hx⟩ := Ty.to_some (show u.to t y = some x from hc)
    subst e; subst hx; exact hv
  | nils =>
    cases t with
    | sl e => simp [Cell.toDatS] at hc; subst hc; cases (show v = _ from hv); exact RepD.nil _ _ _ _ _
    | _ => simp [Cell.toDatS] at hc
  | own e id =>
    simp only [Cell.toDatS] at hc
    split at hc
    · rename_i e' xs ho
      cases hb : e'.beq e with
      | false => simp [hb] at hc
      | true =>
        simp only [hb, cond_true] at hc
        obtain ⟨e1, hx⟩ := Ty.to_some hc
        subst e1; subst hx
        obtain ⟨_, g2, _⟩ := h.objs id _ ho
        rw [hv.2.1]
        exact ObjRep.dat g2
    · cases hc
  | any => simp [Cell.toDatS] at hc
  | skip => simp [Cell.toDatS] at hc
  | nilp => simp [Cell.toDatS] at hc
  | ptr _ _ => simp [Cell.toDatS] at hc
  | vptr _ _ _ => simp [Cell.toDatS] at hc
  | eptr _ _ _ _ => simp [Cell.toDatS] at hc
  | win _ _ _ _ => simp [Cell.toDatS] at hc
  | bsl _ _ => simp [Cell.toDatS] at hc
  | nilf => simp [Cell.toDatS] at hc
  | fn _ _ => simp [Cell.toDatS] at hc

/-- A slice's elements can be read. -/
def ReadL (w : World) (ok : Nat → Nat → Prop) (u : Ty) (xs : List u.den) (v : Value) : Prop :=
  ∃ A cap, v = .slice A xs.length cap ∧ xs.length ≤ cap ∧ xs.length ≤ big ∧ (xs = [] ∨ ∃ b o us, A = some ⟨b, o, none⟩ ∧ Reps (RepD w ok u) xs us ∧ At w b o us)

theorem RepD.readL {u : Ty} {xs : List u.den} {v : Value} (h : RepD w ok (.sl u) xs [v]) : ReadL w ok u xs v := by
  obtain ⟨A, cap, e, l1, l2, h3⟩ := h
  cases e
  refine ⟨A, cap, rfl, l1, l2, ?_⟩
  rcases h3 with h3 | ⟨b, o, hA, us, h4, h5, _⟩
  · exact .inl h3
  · exact .inr ⟨b, o, us, hA, h4, h5⟩

theorem ObjRep.readL {t : Ty} {xs : List t.den} {mu : MK} {V : Value} (hm : mu.isSl = true) (h : ObjRep w ok ι N (.arr t xs mu) V) : ReadL w ok t xs V := by
  obtain ⟨A, cap, rfl, l1, l2, h3⟩ := h.sl hm
  refine ⟨A, cap, rfl, l1, l2, ?_⟩
  rcases h3 with ⟨_, h3, _⟩ | ⟨b, o, rfl, C, T, fz, m1, m2, m3, ⟨us, m4, m5⟩, _⟩
  · exact .inl h3
  · exact .inr ⟨b, o, us, rfl, m4, fun j v hv => by rw [cell_in m1]; exact m5 j v hv⟩

theorem Sim.toDat (h : Sim F ι ok N σ a w) {c : Cell} {u : Ty} {xs : List u.den} {v : Value} (hc : c.toDat σ (.sl u) = some xs) (hv : RepC w ok ι N c v) : ReadL w ok u xs v := by
  cases c with
  | dat t y =>
    obtain ⟨e, hx⟩ := Ty.to_some (show t.to (.sl u) y = some xs from hc)
    subst e; subst hx; exact RepD.readL hv
  | nils => simp [Cell.toDat] at hc; subst hc; cases (show v = _ from hv); exact RepD.readL (RepD.nil _ _ _ _ _)
  | own e id =>
    simp only [Cell.toDat] at hc
    split at hc
    · rename_i e' ys mu ho
      cases hb : mu.isSl && e'.beq e with
      | false => simp [hb] at hc
      | true =>
        simp only [hb, cond_true] at hc
        obtain ⟨e1, hx⟩ := Ty.to_some hc
        cases e1; subst hx
        obtain ⟨_, g2, _⟩ := h.objs id _ ho
        rw [hv.2.1]
        rw [Bool.and_eq_true] at hb
        exact ObjRep.readL hb.1 g2
    · cases hc
  | any => simp [Cell.toDat] at hc
  | skip => simp [Cell.toDat] at hc
  | nilp => simp [Cell.toDat] at hc
  | ptr _ _ => simp [Cell.toDat] at hc
  | vptr _ _ _ => simp [Cell.toDat] at hc
  | eptr _ _ _ _ => simp [Cell.toDat] at hc
  | win _ _ _ _ => simp [Cell.toDat] at hc
  | bsl _ _ => simp [Cell.toDat] at hc
  | nilf => simp [Cell.toDat] at hc
  | fn _ _ => simp [Cell.toDat] at hc

theorem explode_rep : ∀ {t : Ty} {x : t.den} {vs : List Value}, RepD w ok t x vs → All2 (RepC w ok ι N) (explode t x) vs := by
  intro t
  induction t with
  | int k => intro x vs h; rw [h.1]; exact ⟨⟨rfl, h.2⟩, trivial⟩
  | bool => intro x vs h; rw [show vs = _ from h]; exact ⟨rfl, trivial⟩
  | str => intro x vs h; obtain ⟨s, rfl, h1, h2⟩ := h; exact ⟨⟨s, rfl, h1, h2⟩, trivial⟩
  | sl e ih => intro x vs h; obtain ⟨A, c, rfl, h1⟩ := h; exact ⟨⟨A, c, rfl, h1⟩, trivial⟩
  | pr a b iha ihb => intro x vs h; obtain ⟨v1, v2, rfl, h1, h2⟩ := h; exact All2.app (iha h1) (ihb h2)
  | un => intro x vs h; rw [show vs = _ from h]; trivial

theorem explode_len : ∀ (t : Ty) (x : t.den), (explode t x).length = t.sz := by
  intro t
  induction t with
  | pr a b iha ihb => intro x; simp [explode, Ty.sz, iha, ihb]
  | _ => intro x; simp [explode, Ty.sz]

theorem implode_rep (h : Sim F ι ok N σ a w) : ∀ {t : Ty} {cs : List Cell} {x : t.den} {r : List Cell} {vs : List Value}, implode σ t cs = some (x, r) → All2 (RepC w ok ι N) cs vs →
    ∃ v1 v2, vs = v1 ++ v2 ∧ RepD w ok t x v1 ∧ All2 (RepC w ok ι N) r v2 := by
  have base : ∀ {t : Ty} {c : Cell} {r : List Cell} {x : t.den} {r' : List Cell} {vs : List Value},
      ((c.toDatS σ t).map fun x => (x, r)) = some (x, r') → All2 (RepC w ok ι N) (c :: r) vs → ∃ v1 v2, vs = v1 ++ v2 ∧ RepD w ok t x v1 ∧ All2 (RepC w ok ι N) r' v2 := by
    intro t c r x r' vs hc hv
    cases hd : c.toDatS σ t with
    | none => simp [hd] at hc
    | some y =>
      simp [hd] at hc
      obtain ⟨rfl, rfl⟩ := hc
      cases vs with
      | nil => exact hv.elim
      | cons v s => exact ⟨[v], s, rfl, h.toDatS hd hv.1, hv.2⟩
  intro t
  induction t with
  | int k => intro cs x r vs hc hv; cases cs with | nil => simp [implode] at hc | cons c r0 => exact base hc hv
  | bool => intro cs x r vs hc hv; cases cs with | nil => simp [implode] at hc | cons c r0 => exact base hc hv
  | str => intro cs x r vs hc hv; cases cs with | nil => simp [implode] at hc | cons c r0 => exact base hc hv
  | sl e _ => intro cs x r vs hc hv; cases cs with | nil => simp [implode] at hc | cons c r0 => exact base hc hv
  | pr t u iht ihu =>
    intro cs x r vs hc hv
    simp only [implode] at hc
    split at hc
    · rename_i y r1 h1
      split at hc
      · rename_i z r2 h2
        simp at hc
        obtain ⟨rfl, rfl⟩ := hc
        obtain ⟨v1, v2, rfl, g1, g2⟩ := iht h1 hv
        obtain ⟨v3, v4, rfl, g3, g4⟩ := ihu h2 g2
        exact ⟨v1 ++ v3, v4, by simp, ⟨v1, v3, rfl, g1, g3⟩, g4⟩
      · cases hc
    · cases hc
  | un => intro cs x r vs hc hv; simp [implode] at hc; obtain rfl := hc; exact ⟨[], vs, rfl, rfl, hv⟩

theorem V1.rep_cells {x : V1} {v : Value} (h : RepV1 w ok ι N x v) (hs : storB x.cells = true) :
    All2 (RepC w ok ι N) x.cells v.cells.toList ∧ ∀ u ∈ v.cells.toList, u.oneCell' = true := by
  cases x with
  | one c =>
    have hc : c ≠ .any ∧ c ≠ .skip := by cases c <;> simp_all [storB, V1.cells]
    have h1 := RepC.one h hc.1 hc.2
    have e : v.cells.toList = [v] := by cases v <;> first | rfl | cases h1
    rw [e]
    exact ⟨⟨h, trivial⟩, fun u hu => by simp at hu; subst hu; exact h1⟩
  | agg cs =>
    obtain ⟨vs, rfl, h2⟩ := h
    exact ⟨h2, storB_one hs h2⟩

theorem zcell_rep {t : Ty} {v : Value} (h : zcell t v = true) : RepD w ok t t.zero [v] := by
  cases t with
  | int k =>
    cases v <;> simp [zcell] at h
    obtain ⟨rfl, rfl⟩ := h
    exact ⟨rfl, by cases k <;> decide⟩
  | bool =>
    cases v <;> simp [zcell] at h
    subst h; rfl
  | str =>
    cases v <;> simp [zcell] at h
    rename_i s
    subst h
    exact ⟨_, rfl, rfl, by simp [Ty.zero, big]⟩
  | sl e =>
    unfold zcell at h
    split at h <;> first | (exact RepD.nil _ _ _ _ _) | (simp_all; done) | skip
  | pr a b => cases v <;> simp [zcell] at h
  | un => cases v <;> simp [zcell] at h

/-- The zero value of a kind. -/
theorem zmatch_rep : ∀ {t : Ty} {vs r : List Value}, zmatch t vs = some r → ∃ f, vs = f ++ r ∧ RepD w ok t t.zero f := by
  have base : ∀ {t : Ty} {v : Value} {r r' : List Value}, (bif zcell t v then some r else none) = some r' → ∃ f, v :: r = f ++ r' ∧ RepD w ok t t.zero f := by
    intro t v r r' h
    cases hz : zcell t v with
    | false => simp [hz] at h
    | true => simp [hz] at h; subst h; exact ⟨[v], rfl, zcell_rep hz⟩
  intro t
  induction t with
  | int k => intro vs r h; cases vs with | nil => simp [zmatch] at h | cons v s => exact base h
  | bool => intro vs r h; cases vs with | nil => simp [zmatch] at h | cons v s => exact base h
  | str => intro vs r h; cases vs with | nil => simp [zmatch] at h | cons v s => exact base h
  | sl e ih => intro vs r h; cases vs with | nil => simp [zmatch] at h | cons v s => exact base h
  | pr a b iha ihb =>
    intro vs r h
    simp only [zmatch] at h
    split at h
    · rename_i r1 h1
      obtain ⟨f1, rfl, g1⟩ := iha h1
      obtain ⟨f2, rfl, g2⟩ := ihb h
      exact ⟨f1 ++ f2, by simp, ⟨f1, f2, rfl, g1, g2⟩⟩
    · cases h
  | un => intro vs r h; simp [zmatch] at h; exact ⟨[], by simp [h], rfl⟩

end
end Go.Abs

/- Abs, part F: what each operation does, I. -/
namespace Go.Abs

/-- What an operation leaves as it was. -/
structure OpFrm (σ σ' : St) : Prop where
  tm : σ'.tm = σ.tm
  n : σ'.n = σ.n
  nxt : σ'.nxt = σ.nxt
  hp : ∀ id o, look σ'.hp id = some (some ⟨false, o⟩) → look σ.hp id = some (some ⟨false, o⟩)

theorem OpFrm.refl (σ : St) : OpFrm σ σ := ⟨rfl, rfl, rfl, fun _ _ h => h⟩
theorem OpFrm.trans {a b c : St} (h : OpFrm a b) (k : OpFrm b c) : OpFrm a c := ⟨k.tm.trans h.tm, k.n.trans h.n, k.nxt.trans h.nxt, fun i o ho => h.hp i o (k.hp i o ho)⟩
theorem OpFrm.set (σ : St) (i : Nat) (o : AO) : OpFrm σ (σ.set i o) := ⟨rfl, rfl, rfl, fun j p h => by
  simp only [St.set, look_cons] at h
  split at h
  · cases h
  · exact h⟩
theorem OpFrm.kill (σ : St) (i : Nat) : OpFrm σ (σ.kill i) := ⟨rfl, rfl, rfl, fun j p h => by
  simp only [St.kill, look_cons] at h
  split at h
  · cases h
  · exact h⟩
theorem OpFrm.freeze1 (σ : St) (c : Cell) : OpFrm σ (σ.freeze1 c) := by
  unfold St.freeze1
  split
  · split
    · exact ⟨rfl, rfl, rfl, fun j p h => by
        simp only [look_cons] at h
        split at h
        · cases h
        · exact h⟩
    · exact OpFrm.refl _
  · exact OpFrm.refl _
theorem OpFrm.freeze : ∀ (cs : List Cell) (σ : St), OpFrm σ (σ.freeze cs)
  | [], σ => OpFrm.refl σ
  | c :: r, σ => (OpFrm.freeze1 σ c).trans (OpFrm.freeze r _)

/-- An operation leads on. -/
def Leads {R : Type} (P : Program) (o : Oper) (F : Fr) (N : Nat → Prop) (a : Act) (w : World) (σ : St) (K : AV → St → Option R) (r : R) : Prop :=
  ∀ (next : Act → World → Prop) (Q : Exit → Act → World → Prop),
    (∀ av σ1 v w' ι' ok', Sim F ι' ok' N σ1 a w' → RepAV w' ok' ι' N av v → OpFrm σ σ1 → K av σ1 = some r → next (a.put o.dst v) w') → o.wp P a w next Q

section
variable {P : Program} {R : Type} {F : Fr} {ι : Nat → Value} {ok : Nat → Nat → Prop} {N : Nat → Prop} {σ : St} {a : Act} {w : World} {o : Oper} {r : R}

theorem Leads.value {K : AV → St → Option R} {av : AV} {σ1 : St} {v : Value} {w' : World} {ι' : Nat → Value} {ok' : Nat → Nat → Prop} {N' : Nat → Prop}
    (hrun : (execOp a.eval o).run P w = .ok (.value v) w') (h : Sim F ι' ok' N' σ1 a w') (hv : RepAV w' ok' ι' N' av v) (hf : OpFrm σ σ1) (hK : K av σ1 = some r) (hN : ∀ i, N' i → N i) : Leads P o F N a w σ K r :=
  fun next Q hn => by
    unfold Oper.wp
    rw [hrun]
    exact hn av σ1 v w' ι' ok' (h.more hN) (RepAV.mono (Ext.refl _ _) (fun _ _ => rfl) hN hv) hf hK

theorem Leads.skip {K : AV → St → Option R} {σ1 : St} {w' : World} {ι' : Nat → Value} {ok' : Nat → Nat → Prop} {N' : Nat → Prop}
    (hrun : (execOp a.eval o).run P w = .ok .skip w') (h : Sim F ι' ok' N' σ1 a w') (hf : OpFrm σ σ1) (hK : K (.val (.one .skip)) σ1 = some r) (hN : ∀ i, N' i → N i) : Leads P o F N a w σ K r :=
  fun next Q hn => by
    unfold Oper.wp
    rw [hrun]
    exact hn (.val (.one .skip)) σ1 undef w' ι' ok' (h.more hN) (show undef = _ from rfl) hf hK

/-! ### Operands -/
theorem ofValue_rep' (v : Value) : RepC w ok ι N (Cell.ofValue v) v := by
  cases v with
  | int k n =>
    by_cases e : k.wrap n = n
    · simp [Cell.ofValue, e]; exact ⟨rfl, e⟩
    · simp [Cell.ofValue, e]; trivial
  | bool b => exact rfl
  | string s =>
    by_cases e : s.size ≤ 140737488351232
    · simp [Cell.ofValue, e]; exact ⟨s, rfl, rfl, by simpa [bytesOf, big] using e⟩
    · simp [Cell.ofValue, e]; trivial
  | slice A l c =>
    cases A with
    | some A => trivial
    | none =>
      by_cases e : l = 0 ∧ c = 0
      · obtain ⟨rfl, rfl⟩ := e; exact rfl
      · have : (Nat.beq l 0 && Nat.beq c 0) = false := by
          cases l <;> cases c <;> first | rfl | simp_all
        simp [Cell.ofValue, this]; trivial
  | pointer A => cases A <;> first | exact rfl | trivial
  | tuple vs =>
    by_cases e : vs.toList = []
    · have : vs = #[] := by cases vs; simp_all
      subst this; exact rfl
    · have : Nat.beq vs.toList.length 0 = false := by
        cases h : vs.toList with
        | nil => exact absurd h e
        | cons _ _ => rfl
      simp only [Cell.ofValue, this, cond_false]; trivial
  | _ => trivial

theorem map_ofValue : ∀ (vs : List Value), All2 (RepC w ok ι N) (vs.map Cell.ofValue) vs
  | [] => trivial
  | v :: r => ⟨ofValue_rep' v, map_ofValue r⟩

theorem Sim.ev (h : Sim F ι ok N σ a w) (x : Operand) : RepAV w ok ι N (σ.ev x) (a.eval x) := by
  cases x with
  | tmp t => exact h.tms t
  | const v =>
    show RepAV w ok ι N (AV.ofValue v) v
    unfold AV.ofValue
    split
    · rename_i cs; exact ⟨cs.toList, by simp, map_ofValue _⟩
    · exact ofValue_rep' v
  | global g => exact trivial
  | func f => exact ⟨[], rfl, trivial⟩

/-! ### Types -/
theorem info_of_underlying {t : TypeId} {d : TypeDesc} (h : P.underlying t = some d) : ∃ i, P.info? t = some i := by
  unfold Program.underlying at h
  split at h
  · rename_i hi; exact ⟨_, hi⟩
  · rename_i i hi; exact ⟨_, hi⟩
  · cases h

theorem run_sizeOf' {t : TypeId} {i : TypeInfo} (h : P.info? t = some i) (w : World) : (sizeOf t).run P w = .ok i.size w := by
  simp [sizeOf, typeInfo, h]

theorem cellsOf_info {t : TypeId} {i : TypeInfo} (h : P.info? t = some i) : P.cellsOf t = i.size := by
  simp [Program.cellsOf, h]

theorem info_of_cells {t : TypeId} (h : 0 < P.cellsOf t) : ∃ i, P.info? t = some i ∧ i.size = P.cellsOf t := by
  unfold Program.cellsOf at *
  cases hi : P.info? t with
  | none => simp [hi] at h
  | some i => exact ⟨i, rfl, by simp⟩

theorem run_isAgg {t : TypeId} {b : Bool} (h : aggOf P t = some b) (w : World) : (isAgg t).run P w = .ok b w := by
  unfold aggOf at h
  split at h
  · rename_i hu; cases h; simp [isAgg, run_underlying hu]
  · rename_i hu; cases h; simp [isAgg, run_underlying hu]
  · rename_i d h1 h2 hu
    cases h
    simp only [isAgg, Sem.run_bind, run_underlying hu, Result.andThen_ok]
    rfl
  · cases h

theorem addr_add (b o n : Nat) : (⟨b, o, none⟩ : Addr).add n = ⟨b, o + n, none⟩ := by
  unfold Addr.add; split <;> simp_all

/-- A variable in memory. -/
theorem run_loadVar {t : TypeId} {cs : List Cell} {off : Nat} {K : AV → Option R} (hr : aPart P t cs off K = some r) {vs : List Value} (hv : All2 (RepC w ok ι N) cs vs)
    {b o : Nat} (hat : At w b o vs) : ∃ av u, K av = some r ∧ (loadVar t ⟨b, o + off, none⟩).run P w = .ok u w ∧ RepAV w ok ι N av u := by
  unfold aPart at hr
  split at hr
  · rename_i i hi ha
    cases hle : Nat.ble (off + i.size) cs.length with
    | false => simp [hle] at hr
    | true =>
      simp [hle] at hr
      have hl : off + i.size ≤ vs.length := by rw [← hv.len]; exact Nat.le_of_ble_eq_true hle
      refine ⟨_, .agg ((vs.drop off).take i.size).toArray, hr, ?_, ⟨_, rfl, (hv.drop off).take i.size⟩⟩
      have hld := run_loadCells_list (P := P) w ⟨b, o + off, none⟩ ((vs.drop off).take i.size) (fun j v hj => by
        rw [addr_add, Nat.add_assoc]
        refine hat (off + j) v ?_
        rw [List.getElem?_take] at hj
        split at hj
        · rw [List.getElem?_drop] at hj; exact hj
        · cases hj)
      have hlen : ((vs.drop off).take i.size).length = i.size := by simp; omega
      rw [hlen] at hld
      simp [loadVar, run_isAgg ha, run_sizeOf' hi, hld]
  · rename_i i hi ha
    cases hn : nth cs off with
    | none => simp [hn] at hr
    | some c =>
      simp [hn] at hr
      obtain ⟨u, hu, hru⟩ := hv.nth hn
      refine ⟨_, u, hr, ?_, hru⟩
      have := hat off u hu
      simp [loadVar, run_isAgg ha, Go.load, Sem.run, this]
  · cases hr

/-- A part of a value. -/
theorem run_part {t : TypeId} {cs : List Cell} {off : Nat} {K : AV → Option R} (hr : aPart P t cs off K = some r) {vs : List Value} (hv : All2 (RepC w ok ι N) cs vs) :
    ∃ av u, K av = some r ∧ (part t vs.toArray off).run P w = .ok u w ∧ RepAV w ok ι N av u := by
  unfold aPart at hr
  split at hr
  · rename_i i hi ha
    cases hle : Nat.ble (off + i.size) cs.length with
    | false => simp [hle] at hr
    | true =>
      simp [hle] at hr
      have hl : off + i.size ≤ vs.length := by rw [← hv.len]; exact Nat.le_of_ble_eq_true hle
      refine ⟨_, .agg ((vs.drop off).take i.size).toArray, hr, ?_, ⟨_, rfl, (hv.drop off).take i.size⟩⟩
      simp [part, run_isAgg ha, run_sizeOf' hi]
  · rename_i i hi ha
    cases hn : nth cs off with
    | none => simp [hn] at hr
    | some c =>
      simp [hn] at hr
      obtain ⟨u, hu, hru⟩ := hv.nth hn
      refine ⟨_, u, hr, ?_, hru⟩
      simp [part, run_isAgg ha, hu]
  · cases hr

/-- The cells of a box lie in its block. -/
theorem ObjRep.boxAt {cs : List Cell} {V : Value} (h : ObjRep w ok ι N (.box cs) V) : ∃ B vs, V = .pointer (some ⟨B, 0, none⟩) ∧ All2 (RepC w ok ι N) cs vs ∧ At w B 0 vs := by
  obtain ⟨B, c, T, rfl, h1, h2, _⟩ := h
  exact ⟨B, c.toList, rfl, h2, fun j v hj => by rw [cell_in h1, Nat.zero_add]; simpa using hj⟩

theorem aLoad_ok (h : Sim F ι ok N σ a w) {t : TypeId} {x : AV} {v : Value} {K : AV → Option R} (hx : RepAV w ok ι N x v) (hr : aLoad P t x σ K = some r) :
    ∃ av u, K av = some r ∧ (Instr.loadAt t v).run P w = .ok u w ∧ RepAV w ok ι N av u := by
  unfold aLoad at hr
  split at hr
  · rename_i id off
    split at hr
    · rename_i cs ho
      obtain ⟨_, B, hB, rfl⟩ := hx
      obtain ⟨B', vs, hV, hvs, hat⟩ := (h.objs id _ ho).2.1.boxAt
      rw [hB] at hV; cases hV
      obtain ⟨av, u, h1, h2, h3⟩ := run_loadVar (P := P) hr hvs hat
      exact ⟨av, u, h1, by simpa [Instr.loadAt, Instr.sureAddr] using h2, h3⟩
    · cases hr
  · rename_i u x off
    obtain ⟨b, o, us, rfl, h1, h2, h3⟩ := hx
    obtain ⟨av, u, g1, g2, g3⟩ := run_loadVar (P := P) hr (explode_rep h1) h2
    exact ⟨av, u, g1, by simpa [Instr.loadAt, Instr.sureAddr] using g2, g3⟩
  · rename_i u id i off
    split at hr
    · rename_i u' xs mu ho
      cases hb : mu.isSl && (u'.beq u && Nat.blt i (List.length xs)) with
      | false => simp [hb] at hr
      | true =>
        simp only [hb, cond_true] at hr
        simp at hb
        obtain ⟨hb0, hb1, hb2⟩ := hb
        have e1 := Ty.eq_of_beq hb1
        subst e1
        obtain ⟨_, b, o, n, cap, hV, rfl⟩ := hx
        have hi : i < List.length xs := by simpa using hb2
        have hO := (h.objs id _ ho).2.1
        rw [hV] at hO
        obtain ⟨A, cap', hV', l1, l2, hc⟩ := hO.sl hb0
        cases hV'
        rcases hc with ⟨hA, _⟩ | ⟨b', o', hA, C, T, fz, m1, m2, m3, ⟨us, m4, m5⟩, _⟩
        · cases hA
        · cases hA
          have hg := Reps.get (fun x us hr => RepD.len hr) u'.zero m4 hi
          have hat : At w b (o + i * u'.sz) ((us.drop (i * u'.sz)).take u'.sz) := fun j v hj => by
            rw [cell_in m1, Nat.add_assoc]
            refine m5 _ _ ?_
            rw [List.getElem?_take] at hj
            split at hj
            · rw [List.getElem?_drop] at hj; exact hj
            · cases hj
          obtain ⟨av, u, g1, g2, g3⟩ := run_loadVar (P := P) hr (explode_rep hg) hat
          exact ⟨av, u, g1, by simpa [Instr.loadAt, Instr.sureAddr] using g2, g3⟩
    · cases hr
  · cases hr

end
end Go.Abs

/- Abs, part G: what each operation does, II: what leaves memory alone. -/
namespace Go.Abs
section
variable {P : Program} {R : Type} {F : Fr} {ι : Nat → Value} {ok : Nat → Nat → Prop} {N : Nat → Prop} {σ : St} {a : Act} {w : World} {o : Oper} {r : R}

theorem wrap_wrap (k : IntKind) (n : Int) : k.wrap (k.wrap n) = k.wrap n := by
  cases k <;> simp [IntKind.wrap, IntKind.bits, IntKind.signed] <;> (repeat' split) <;> omega

theorem rep_int (k : IntKind) (n : Int) (h : k.wrap n = n) : RepAV w ok ι N (one (.int k) n) (.int k n) := ⟨rfl, h⟩
theorem rep_wrap (k : IntKind) (n : Int) : RepAV w ok ι N (one (.int k) (k.wrap n)) (.int k (k.wrap n)) := ⟨rfl, wrap_wrap k n⟩
theorem rep_bool (b : Bool) : RepAV w ok ι N (one .bool b) (.bool b) := rfl

theorem aPick_ok {c x y : AV} {vc vx vy : Value} (hc : RepAV w ok ι N c vc) (hx : RepAV w ok ι N x vx) (hy : RepAV w ok ι N y vy) {K : AV → Option R} (hr : aPick c x y K = some r) :
    ∃ av b, K av = some r ∧ vc = .bool b ∧ RepAV w ok ι N av (if b then vx else vy) := by
  unfold aPick at hr
  split at hr
  · rename_i cb
    cases (show [vc] = [.bool cb] from hc)
    split at hr
    · rename_i p q
      cases (show [vx] = [.bool p] from hx)
      cases (show [vy] = [.bool q] from hy)
      refine ⟨_, cb, hr, rfl, ?_⟩
      cases cb <;> exact rfl
    · cases cb with
      | true => exact ⟨_, true, by simpa using hr, rfl, by simpa using hx⟩
      | false => exact ⟨_, false, by simpa using hr, rfl, by simpa using hy⟩
  · cases hr

/-! ### Arithmetic -/
/-- A number of a kind is one between its bounds. -/
theorem in_iff (k : IntKind) (n : Int) : k.wrap n = n ↔ k.min ≤ n ∧ n ≤ k.max := by
  cases k <;> simp [IntKind.wrap, IntKind.bits, IntKind.signed, IntKind.min, IntKind.max] <;> (constructor <;> intro h <;> (try split at *) <;> omega)

theorem between (k : IntKind) {n m : Int} (hn : k.wrap n = n) (h : (0 ≤ m ∧ m ≤ n) ∨ (n ≤ m ∧ m ≤ 0)) : k.wrap m = m := by
  rw [in_iff] at *
  have h0 : k.min ≤ 0 ∧ 0 ≤ k.max := by cases k <;> decide
  omega

theorem tmod_in (k : IntKind) (x y : Int) (hx : k.wrap x = x) : k.wrap (x.tmod y) = x.tmod y := by
  refine between k hx ?_
  have key : ∀ z : Int, 0 ≤ z → 0 ≤ z.tmod y ∧ z.tmod y ≤ z := fun z hz => by
    have h1 := Int.tmod_nonneg y hz
    have h2 : (z.tmod y).natAbs ≤ z.natAbs := by
      rw [Int.natAbs_tmod]; exact Nat.mod_le _ _
    omega
  rcases Int.le_total 0 x with h | h
  · exact .inl (key x h)
  · have := key (-x) (by omega)
    rw [Int.neg_tmod] at this
    exact .inr (by omega)

theorem shr_in (k : IntKind) (x : Int) (n : Nat) (hx : k.wrap x = x) : k.wrap (x.fdiv (2 ^ n)) = x.fdiv (2 ^ n) := by
  refine between k hx ?_
  have hp : (0 : Int) < 2 ^ n := Int.pow_pos (by decide)
  rw [Int.fdiv_eq_ediv_of_nonneg _ (by omega)]
  rcases Int.le_total 0 x with h | h
  · exact .inl ⟨Int.ediv_nonneg h (by omega), Int.ediv_le_self _ h⟩
  · refine .inr ⟨?_, ?_⟩
    · rw [Int.le_ediv_iff_mul_le hp]
      have : x * 2 ^ n ≤ x * 1 := Int.mul_le_mul_of_nonpos_left h (by omega)
      omega
    · have := Int.ediv_le_ediv hp h
      simpa using this

theorem aInt_ok {op : BinOp} {k : IntKind} {x y : Int} (hx : k.wrap x = x) (_ : k.wrap y = y) {K : AV → Option R} (hr : aInt op k x y K = some r) (xt : TypeId) :
    ∃ av u, K av = some r ∧ (binOp op xt (.int k x) (.int k y)).run P w = .ok u w ∧ RepAV w ok ι N av u := by
  unfold aInt at hr
  split at hr
  · exact ⟨_, _, hr, by simp [binOp, Op.intArith], rep_wrap k _⟩
  · exact ⟨_, _, hr, by simp [binOp, Op.intArith], rep_wrap k _⟩
  · exact ⟨_, _, hr, by simp [binOp, Op.intArith], rep_wrap k _⟩
  · cases hb : y == 0 with
    | true => simp [hb] at hr
    | false => have e : ¬ y = 0 := by simpa using hb
               rw [hb] at hr; simp only [cond_false] at hr
               exact ⟨_, _, hr, by simp [binOp, Op.intDiv, e], rep_wrap k _⟩
  · cases hb : y == 0 with
    | true => simp [hb] at hr
    | false => have e : ¬ y = 0 := by simpa using hb
               rw [hb] at hr; simp only [cond_false] at hr
               exact ⟨_, _, hr, by simp [binOp, Op.intDiv, e], rep_int k _ (tmod_in k x y hx)⟩
  · exact ⟨_, _, hr, by simp [binOp, Op.intBits], rep_wrap k _⟩
  · exact ⟨_, _, hr, by simp [binOp, Op.intBits], rep_wrap k _⟩
  · exact ⟨_, _, hr, by simp [binOp, Op.intBits], rep_wrap k _⟩
  · exact ⟨_, _, hr, by simp [binOp, Op.intBits], rep_wrap k _⟩
  · exact ⟨_, _, hr, by simp [binOp, Op.intCmp], rep_bool _⟩
  · exact ⟨_, _, hr, by simp [binOp, Op.intCmp], rep_bool _⟩
  · exact ⟨_, _, hr, by simp [binOp, Op.intCmp], rep_bool _⟩
  · exact ⟨_, _, hr, by simp [binOp, Op.intCmp], rep_bool _⟩
  · exact ⟨_, _, hr, by simp [binOp, Op.intCmp], rep_bool _⟩
  · exact ⟨_, _, hr, by simp [binOp, Op.intCmp], rep_bool _⟩
  · cases hr

/-! ### Texts -/
theorem toNat_inj : ∀ {x y : List UInt8}, x.map (fun b => (b.toNat : Int)) = y.map (fun b => (b.toNat : Int)) → x = y
  | [], [], _ => rfl
  | a :: x, b :: y, h => by
    simp only [List.map_cons, List.cons.injEq] at h
    have : a = b := UInt8.toNat_inj.1 (by omega)
    rw [this, toNat_inj h.2]
  | [], _ :: _, h => by cases h
  | _ :: _, [], h => by cases h

theorem bytesOf_eq (s t : ByteArray) : (bytesOf s == bytesOf t) = (s.toList == t.toList) := by
  rw [ByteArray.toList_eq, ByteArray.toList_eq, Bool.eq_iff_iff]
  simp only [beq_iff_eq, bytesOf]
  exact ⟨toNat_inj, fun h => by rw [h]⟩

theorem bytesOf_append (s t : ByteArray) : bytesOf (s ++ t) = bytesOf s ++ bytesOf t := by
  simp [bytesOf]

theorem bytesOf_length (s : ByteArray) : (bytesOf s).length = s.size := by
  simp [bytesOf]

theorem aStr_ok {op : BinOp} {x y : List Int} {s t : ByteArray} (hx : bytesOf s = x) (hy : bytesOf t = y) {K : AV → Option R} (hr : aStr op x y K = some r) (xt : TypeId) :
    ∃ av u, K av = some r ∧ (binOp op xt (.string s) (.string t)).run P w = .ok u w ∧ RepAV w ok ι N av u := by
  subst hx; subst hy
  unfold aStr at hr
  split at hr
  · cases hb : Nat.ble ((bytesOf s).length + (bytesOf t).length) 140737488351232 with
    | false => simp [hb] at hr
    | true =>
      simp only [hb, cond_true] at hr
      have hl := Nat.le_of_ble_eq_true hb
      rw [bytesOf_length, bytesOf_length] at hl
      have hn : ¬ ((s.size + t.size : Nat) : Int) > IntKind.i64.max := by simp [IntKind.max, IntKind.signed, IntKind.bits]; omega
      refine ⟨_, .string (s ++ t), hr, ?_, ⟨_, rfl, bytesOf_append s t, by simp [bytesOf_length, big]; omega⟩⟩
      simp only [binOp, Op.stringOp]
      rw [if_neg hn]; rfl
  · refine ⟨_, .bool (s.toList == t.toList), hr, by simp [binOp, Op.stringOp], ?_⟩
    rw [bytesOf_eq]; exact rfl
  · refine ⟨_, .bool (!(s.toList == t.toList)), hr, by simp [binOp, Op.stringOp], ?_⟩
    rw [bytesOf_eq]; exact rfl
  · cases hr

/-! ### Equality -/
theorem scalarEq_ok {e : TypeDesc} {c d : Cell} {v u : Value} {b : Bool} (h : scalarEq e c d = some b) (hv : RepC w ok ι N c v) (hu : RepC w ok ι N d u) {t : TypeId}
    (ht : P.underlying t = some e) (n : Nat) : (Op.equalIn (n + 1) t v u).run P w = .ok b w := by
  unfold scalarEq at h
  split at h
  · rename_i k0 k x k' y
    by_cases e : k = k'
    · subst e
      simp at h
      cases (show [v] = [.int k x] from hv.1)
      cases (show [u] = [.int k y] from hu.1)
      rw [run_equalIn_int w n t k k0 x y ht, h]
    · simp [e] at h
  · rename_i x y
    cases (show [v] = [.bool x] from hv)
    cases (show [u] = [.bool y] from hu)
    cases h
    exact run_equalIn_bool' w n t x y ht
  · rename_i x y
    obtain ⟨s, hs, rfl, _⟩ := hv
    obtain ⟨s', hs', rfl, _⟩ := hu
    cases hs; cases hs'
    cases h
    rw [run_equalIn_string w n t s s' ht, bytesOf_eq]
  · cases h

theorem eqT_ok : ∀ (n : Nat) {t : TypeId} {cs ds : List Cell} {vs us : List Value} {b : Bool}, eqT P n t cs ds = some b → All2 (RepC w ok ι N) cs vs → All2 (RepC w ok ι N) ds us →
    (aggOf P t = some true → ∀ d, (Op.equalIn (d + n) t (.agg vs.toArray) (.agg us.toArray)).run P w = .ok b w) ∧
    (aggOf P t = some false → ∀ d v u, vs = [v] → us = [u] → (Op.equalIn (d + n) t v u).run P w = .ok b w)
  | 0, _, _, _, _, _, _, h, _, _ => by simp [eqT] at h
  | n + 1, t, cs, ds, vs, us, b, h, hv, hu => by
    simp only [eqT] at h
    split at h
    · rename_i fs hfs
      cases hs : P.stoodInHeld t with
      | true => simp [hs] at h
      | false =>
        simp only [hs, cond_false] at h
        refine ⟨fun _ d => ?_, fun ha => by simp [aggOf, hfs] at ha⟩
        have hft : P.fieldsOf t = fs := by simp [Program.fieldsOf, hfs]
        rw [show d + (n + 1) = (d + n) + 1 from by omega, run_equalIn_struct w (d + n) t vs.toArray us.toArray (by rw [hft]; exact hfs) hs, hft]
        clear hft hfs
        generalize fs.toList = l at h
        induction l generalizing b with
        | nil => simp [eqFs] at h; subst h; rfl
        | cons f l ih =>
          simp only [eqFs] at h
          by_cases hn : f.name = "_"
          · simp [hn] at h
          · simp only [hn, decide_false, cond_false] at h
            simp only [Op.eqFields, if_pos (show f.name ≠ "_" from hn), Sem.run_bind]
            have fin : ∀ {x y : Value} {b1 b2 : Bool}, (part f.type vs.toArray f.offset).run P w = .ok x w → (part f.type us.toArray f.offset).run P w = .ok y w →
                (Op.equalIn (d + n) f.type x y).run P w = .ok b1 w → (Op.eqFields (d + n) vs.toArray us.toArray l).run P w = .ok b2 w →
                (((part f.type vs.toArray f.offset).run P w).andThen fun a w' => ((part f.type us.toArray f.offset).run P w').andThen fun b w' => ((Op.equalIn (d + n) f.type a b).run P w').andThen fun r w' =>
                  (if (!r) = true then pure false else Op.eqFields (d + n) vs.toArray us.toArray l : Sem Bool).run P w') = .ok (b1 && b2) w := by
              intro x y b1 b2 h1 h2 h3 h4
              simp only [h1, h2, h3, Result.andThen_ok]
              cases b1 <;> simp [h4]
            split at h
            · rename_i i ha hi
              cases hb : Nat.ble (f.offset + i.size) cs.length && Nat.ble (f.offset + i.size) ds.length with
              | false => simp [hb] at h
              | true =>
                simp only [hb, cond_true] at h
                simp at hb
                split at h
                · rename_i b1 b2 h1 h2
                  cases h
                  have hp := (eqT_ok n h1 ((hv.drop f.offset).take i.size) ((hu.drop f.offset).take i.size)).1 ha d
                  have l1 : f.offset + i.size ≤ vs.length := by rw [← hv.len]; exact hb.1
                  have l2 : f.offset + i.size ≤ us.length := by rw [← hu.len]; exact hb.2
                  refine fin (x := .agg ((vs.drop f.offset).take i.size).toArray) (y := .agg ((us.drop f.offset).take i.size).toArray) ?_ ?_ hp (ih _ h2)
                  · simp [part, run_isAgg ha, run_sizeOf' hi]
                  · simp [part, run_isAgg ha, run_sizeOf' hi]
                · cases h
            · rename_i i ha hi
              split at h
              · rename_i c e hc he
                split at h
                · rename_i b1 b2 h1 h2
                  cases h
                  obtain ⟨x, hx, hxr⟩ := hv.nth hc
                  obtain ⟨y, hy, hyr⟩ := hu.nth he
                  have hp := (eqT_ok n h1 (vs := [x]) (us := [y]) ⟨hxr, trivial⟩ ⟨hyr, trivial⟩).2 ha d x y rfl rfl
                  refine fin (x := x) (y := y) ?_ ?_ hp (ih _ h2)
                  · simp [part, run_isAgg ha, hx]
                  · simp [part, run_isAgg ha, hy]
                · cases h
              · cases h
            · cases h
    · rename_i e hne he
      refine ⟨fun ha => ?_, fun _ d v u ev eu => ?_⟩
      · split at h
        · rename_i c1 d1
          exfalso
          unfold aggOf at ha
          split at ha
          · rename_i hfs; rw [he] at hfs; cases hfs; exact hne _ rfl
          · rename_i hfs; rw [he] at hfs; cases hfs
            simp [scalarEq] at h
          · cases ha
          · cases ha
        · cases h
      · subst ev; subst eu
        split at h
        · rename_i c1 d1
          exact scalarEq_ok h hv.1 hu.1 he (d + n)
        · cases h
    · cases h

end
end Go.Abs

/- Abs, part H: what each operation does, III: what leaves memory alone. -/
namespace Go.Abs
section
variable {P : Program} {R : Type} {F : Fr} {ι : Nat → Value} {ok : Nat → Nat → Prop} {N : Nat → Prop} {σ : St} {a : Act} {w : World} {o : Oper} {r : R}

theorem run_eqGuard_plain (op : BinOp) (t : TypeId) (x y : Operand) (u v : Value) (h1 : u ≠ .nilIface) (h2 : ∀ cs, u ≠ .agg cs) : (eqGuard op t x y u v).run P w = .ok () w := by
  unfold eqGuard
  cases op <;> first | rfl | skip
  all_goals
    cases u <;> first | rfl | (exact absurd rfl h1) | (exact absurd rfl (h2 _))

theorem aBin_ok {op : BinOp} {xt : TypeId} {x y : AV} {v u : Value} (hx : RepAV w ok ι N x v) (hy : RepAV w ok ι N y u) {K : AV → Option R} (hr : aBin P op xt x y K = some r) (X Y : Operand) :
    ∃ av z, K av = some r ∧ ((do eqGuard op xt X Y v u; binOp op xt v u) : Sem Value).run P w = .ok z w ∧ RepAV w ok ι N av z := by
  unfold aBin at hr
  split at hr
  · rename_i k p k' q
    cases (show [v] = [.int k p] from hx.1)
    cases (show [u] = [.int k' q] from hy.1)
    have hg : (eqGuard op xt X Y (.int k p) (.int k' q)).run P w = .ok () w := run_eqGuard_plain op xt X Y _ _ (by simp) (by simp)
    split at hr
    · by_cases hq : q < 0
      · simp [hq] at hr
      · simp only [hq, decide_false, cond_false] at hr
        refine ⟨_, _, hr, ?_, rep_wrap k _⟩
        simp [hg, binOp, Op.shift, hq]
    · by_cases hq : q < 0
      · simp [hq] at hr
      · simp only [hq, decide_false, cond_false] at hr
        refine ⟨_, _, hr, ?_, rep_int k _ (shr_in k p _ hx.2)⟩
        simp [hg, binOp, Op.shift, hq, shrOp]
    · by_cases e : k = k'
      · subst e
        simp only [decide_true, cond_true] at hr
        obtain ⟨av, z, h1, h2, h3⟩ := aInt_ok (P := P) (w := w) (ok := ok) (ι := ι) (N := N) hx.2 hy.2 hr xt
        exact ⟨av, z, h1, by simp [hg, h2], h3⟩
      · simp [e] at hr
  · rename_i p q
    obtain ⟨s, hs, h1, _⟩ := hx
    obtain ⟨t, ht, h2, _⟩ := hy
    cases hs; cases ht
    have hg : (eqGuard op xt X Y (.string s) (.string t)).run P w = .ok () w := run_eqGuard_plain op xt X Y _ _ (by simp) (by simp)
    obtain ⟨av, z, g1, g2, g3⟩ := aStr_ok (P := P) (w := w) (ok := ok) (ι := ι) (N := N) h1 h2 hr xt
    exact ⟨av, z, g1, by simp [hg, g2], g3⟩
  · rename_i p q
    cases (show [v] = [.bool p] from hx)
    cases (show [u] = [.bool q] from hy)
    have hg : (eqGuard op xt X Y (.bool p) (.bool q)).run P w = .ok () w := run_eqGuard_plain op xt X Y _ _ (by simp) (by simp)
    split at hr
    · rename_i hu
      exact ⟨_, .bool (p == q), hr, by simp [hg, run_eql_bool _ _ _ _ hu], rep_bool _⟩
    · rename_i hu
      exact ⟨_, .bool (!(p == q)), hr, by simp [hg, run_neq_bool _ _ _ _ hu], rep_bool _⟩
    · cases hr
  · rename_i cs ds
    obtain ⟨vs, rfl, hvs⟩ := hx
    obtain ⟨us, rfl, hus⟩ := hy
    cases hm : P.eqGuardType P.depth xt with
    | true => simp [hm] at hr
    | false =>
      simp only [hm, cond_false] at hr
      have hg := run_eqGuard_agg (P := P) w op xt X Y vs.toArray us.toArray hm
      split at hr
      · rename_i ag b ha hb
        have hk : (Op.equalIn 10000 xt (.agg vs.toArray) (.agg us.toArray)).run P w = .ok b w := (eqT_ok (ι := ι) (N := N) tyD hb hvs hus).1 ha 9988
        exact ⟨_, .bool b, hr, by simp [hg, run_eql_struct, hk], rep_bool _⟩
      · rename_i ag b ha hb
        have hk : (Op.equalIn 10000 xt (.agg vs.toArray) (.agg us.toArray)).run P w = .ok b w := (eqT_ok (ι := ι) (N := N) tyD hb hvs hus).1 ha 9988
        exact ⟨_, .bool (!b), hr, by simp [hg, run_neq_struct, hk], rep_bool _⟩
      · cases hr
  · cases hr

theorem aUn_ok {op : UnOp} {x : AV} {v : Value} (hx : RepAV w ok ι N x v) {K : AV → Option R} (hr : aUn op x K = some r) :
    ∃ av z, K av = some r ∧ (Op.unary op v).run P w = .ok z w ∧ RepAV w ok ι N av z := by
  unfold aUn at hr
  split at hr
  · rename_i b
    cases (show [v] = [.bool b] from hx)
    exact ⟨_, .bool (!b), hr, rfl, rep_bool _⟩
  · rename_i k n
    cases (show [v] = [.int k n] from hx.1)
    exact ⟨_, _, hr, by simp [Op.unary, Op.intArith], rep_wrap k _⟩
  · rename_i k n
    cases (show [v] = [.int k n] from hx.1)
    exact ⟨_, _, hr, by simp [Op.unary, Op.intBits], rep_wrap k _⟩
  · cases hr

theorem fieldsOf_some {s : TypeId} {fs : List Field} (h : fieldsOf P s = some fs) : ∃ a : Array Field, P.underlying s = some (.struct a) ∧ a.toList = fs := by
  unfold fieldsOf at h
  split at h
  · rename_i a ha; cases h; exact ⟨a, ha, rfl⟩
  · cases h

theorem nth_get {α : Type} : ∀ {l : List α} {i : Nat} {a : α}, nth l i = some a → l[i]? = some a
  | [], _, _, h => by cases h
  | _ :: _, 0, _, h => by cases h; rfl
  | _ :: l, i + 1, a, h => by simpa using nth_get (l := l) (i := i) h

theorem aFieldAddr_ok {s : TypeId} {x : AV} {v : Value} {f : Nat} (hx : RepAV w ok ι N x v) {K : AV → Option R} (hr : aFieldAddr P s x f K = some r) :
    ∃ av z, K av = some r ∧ (Instr.fieldAt s v f).run P w = .ok z w ∧ RepAV w ok ι N av z := by
  unfold aFieldAddr at hr
  split at hr
  · rename_i fs hfs
    obtain ⟨arr, hu, rfl⟩ := fieldsOf_some hfs
    split at hr
    · rename_i fd hfd
      have hfd' : arr[f]? = some fd := by simpa using nth_get hfd
      cases hz : Nat.beq (P.cellsOf fd.type) 0 with
      | true => simp [hz] at hr
      | false =>
        simp only [hz, cond_false] at hr
        have hpos : 0 < P.cellsOf fd.type := by
          rcases Nat.eq_zero_or_pos (P.cellsOf fd.type) with h | h
          · rw [h] at hz; cases hz
          · exact h
        obtain ⟨i, hi, his⟩ := info_of_cells hpos
        have hne : ¬ i.size = 0 := by omega
        have run : ∀ b o, (Instr.fieldAt s (.pointer (some ⟨b, o, none⟩)) f).run P w = .ok (.pointer (some ⟨b, o + fd.offset, none⟩)) w := fun b o => by
          simp [Instr.fieldAt, run_underlying hu, hfd', Instr.sureAddr, fieldPlace, run_sizeOf' hi, hne, addr_add]
        split at hr
        · obtain ⟨h1, B, hB, rfl⟩ := hx
          exact ⟨_, _, hr, run _ _, ⟨h1, B, hB, rfl⟩⟩
        · obtain ⟨b, o, us, rfl, h1⟩ := hx
          exact ⟨_, _, hr, run _ _, ⟨b, o, us, by rw [Nat.add_assoc], h1⟩⟩
        · obtain ⟨h1, b, o, n, cap, h2, rfl⟩ := hx
          exact ⟨_, _, hr, run _ _, ⟨h1, b, o, n, cap, h2, by simp only [Nat.add_assoc]⟩⟩
        · cases hr
    · cases hr
  · cases hr

theorem aField_ok {s : TypeId} {x : AV} {v : Value} {f : Nat} (hx : RepAV w ok ι N x v) {K : AV → Option R} (hr : aField P s x f K = some r) :
    ∃ av z, K av = some r ∧ (Instr.field s v f).run P w = .ok z w ∧ RepAV w ok ι N av z := by
  unfold aField at hr
  split at hr
  · rename_i fs hfs
    obtain ⟨arr, hu, rfl⟩ := fieldsOf_some hfs
    split at hr
    · rename_i fd hfd
      have hfd' : arr[f]? = some fd := by simpa using nth_get hfd
      split at hr
      · rename_i cs
        obtain ⟨vs, rfl, hvs⟩ := hx
        obtain ⟨av, u, h1, h2, h3⟩ := run_part (P := P) (w := w) (ok := ok) (ι := ι) (N := N) hr hvs
        exact ⟨av, u, h1, by simp [Instr.field, run_underlying hu, hfd', asAgg, h2], h3⟩
      · cases hr
    · cases hr
  · cases hr

theorem elemOf_some {t e : TypeId} {u : Ty} (h : elemOf P t = some (e, u)) :
    P.underlying t = some (.slice e) ∧ ∃ i, P.info? e = some i ∧ i.size = u.sz ∧ 0 < u.sz ∧ i.bytes ≤ 4096 := by
  unfold elemOf at h
  split at h
  · rename_i e' hu
    split at h
    · rename_i u' _
      cases hb : Nat.beq (P.cellsOf e') u'.sz && Nat.blt 0 u'.sz && Nat.ble (P.bytesOf e') 4096 with
      | false => simp [hb] at h
      | true =>
        simp only [hb, cond_true] at h
        cases h
        simp only [Bool.and_eq_true] at hb
        obtain ⟨⟨h1, h2⟩, h3⟩ := hb
        have e1 := Nat.eq_of_beq_eq_true h1
        have e2 : 0 < u.sz := by simpa using h2
        obtain ⟨i, hi, his⟩ := info_of_cells (P := P) (t := e) (by omega)
        refine ⟨hu, i, hi, by omega, e2, ?_⟩
        have e3 := Nat.le_of_ble_eq_true h3
        simpa [Program.bytesOf, hi] using e3
    · cases h
  · cases h

theorem ptrElem_some {t e : TypeId} (h : ptrElem P t = some e) :
    P.underlying t = some (.slice e) ∧ ∃ i z, P.info? e = some i ∧ i.size = 1 ∧ i.zero = some z ∧ z.cells.toList = [.pointer none] := by
  unfold ptrElem at h
  split at h
  · rename_i e' hu
    split at h
    · rename_i _ _ _ hz
      cases hb : Nat.beq (P.cellsOf e') 1 with
      | false => simp [hb] at h
      | true =>
        simp only [hb, cond_true] at h
        cases h
        have e1 := Nat.eq_of_beq_eq_true hb
        obtain ⟨i, hi, his⟩ := info_of_cells (P := P) (t := e) (by omega)
        unfold zeroVals at hz
        rw [hi] at hz
        dsimp only at hz
        split at hz
        · rename_i z hz2
          exact ⟨hu, i, z, hi, by omega, hz2, Option.some.inj hz⟩
        · cases hz
    · cases h
  · cases h

theorem pickN_some {i : Int} {f : Nat → Option R} : ∀ {n j : Nat}, pickN i f n j = some r → ∃ k, k < j + n ∧ i = (k : Int) ∧ f k = some r
  | 0, _, h => by cases h
  | n + 1, j, h => by
    unfold pickN at h
    cases hb : i == (j : Int) with
    | true =>
      rw [hb] at h
      exact ⟨j, by omega, by simpa using hb, h⟩
    | false =>
      rw [hb] at h
      obtain ⟨k, h1, h2, h3⟩ := pickN_some (n := n) (j := j + 1) h
      exact ⟨k, by omega, h2, h3⟩

theorem aIndexAddr_ok (h : Sim F ι ok N σ a w) {t : TypeId} {x i : AV} {v vi : Value} (hx : RepAV w ok ι N x v) (hi : RepAV w ok ι N i vi) {K : AV → Option R} (hr : aIndexAddr P t x i σ K = some r) :
    ∃ av z, K av = some r ∧ (Instr.indexAt t v vi).run P w = .ok z w ∧ RepAV w ok ι N av z := by
  unfold aIndexAddr at hr
  split at hr
  · rename_i k i
    change Int at i
    cases (show [vi] = [.int k i] from hi.1)
    split at hr
    · split at hr
      · rename_i _ _ _ e u u' xs he
        obtain ⟨hu, inf, hinf, hsz, hpos, _⟩ := elemOf_some he
        split at hr
        · rename_i ys hys
          obtain ⟨e1, e2⟩ := Ty.to_some hys
          cases e1; cases e2
          simp only [cast_eq] at hr
          cases hb : decide (0 ≤ i) && decide (i < (List.length xs : Int)) with
          | false => rw [hb] at hr; simp at hr
          | true =>
            rw [hb] at hr
            simp only [cond_true] at hr
            simp at hb
            have hb1 : (0 : Int) ≤ i := hb.1
            have hb2 : (i : Int) < (List.length xs : Int) := hb.2
            obtain ⟨A, cap, hA, l1, l2, h3⟩ := hx
            cases hA
            have hlt : i.toNat < List.length xs := by omega
            rcases h3 with h3 | ⟨b, o, rfl, us, h4, h5, h6⟩
            · subst h3; simp at hlt
            · refine ⟨_, .pointer (some ⟨b, o + i.toNat * u.sz, none⟩), hr, ?_, ?_⟩
              · simp [Instr.indexAt, run_underlying hu, asIntOf, run_sizeOf' hinf, hsz, hb1, hb2, addr_add]
              · refine ⟨b, o + i.toNat * u.sz, (us.drop (i.toNat * u.sz)).take u.sz, rfl, Reps.get (R := fun x us => RepD w ok u x us) (fun x us hr => RepD.len hr) u.zero h4 hlt, fun j v hj => ?_, fun j hj => ?_⟩
                · rw [List.getElem?_take] at hj
                  split at hj
                  · rw [List.getElem?_drop] at hj; rw [Nat.add_assoc]; exact h5 _ _ hj
                  · cases hj
                · rw [Nat.add_assoc]; refine h6 _ ?_
                  simp at hj; omega
        · cases hr
      · rename_i _ _ _ e u u' id he
        obtain ⟨hu, inf, hinf, hsz, hpos, _⟩ := elemOf_some he
        split at hr
        · rename_i u'' xs mu ho
          cases hq : mu.isSl && (u'.beq u && u''.beq u) with
          | false => simp [hq] at hr
          | true =>
            simp only [hq, cond_true] at hr
            simp at hq
            have hm := hq.1
            have e1 := Ty.eq_of_beq hq.2.1
            have e2 := Ty.eq_of_beq hq.2.2
            subst e1; subst e2
            cases hb : decide (0 ≤ i) && decide (i < (List.length xs : Int)) with
            | false => rw [hb] at hr; simp at hr
            | true =>
              rw [hb] at hr
              simp only [cond_true] at hr
              simp at hb
              have hb1 : (0 : Int) ≤ i := hb.1
              have hb2 : (i : Int) < (List.length xs : Int) := hb.2
              obtain ⟨hid, hv, _⟩ := hx
              obtain ⟨A, cap, hV, l1, l2, h3⟩ := ((h.objs id _ ho).2.1).sl hm
              have hlt : i.toNat < List.length xs := by omega
              rcases h3 with ⟨_, h3, _⟩ | ⟨b, o, rfl, h4⟩
              · subst h3; simp at hlt
              · refine ⟨_, .pointer (some ⟨b, o + i.toNat * u''.sz, none⟩), hr, ?_, ⟨hid, b, o, _, cap, hV, by simp⟩⟩
                rw [hv, hV]
                simp [Instr.indexAt, run_underlying hu, asIntOf, run_sizeOf' hinf, hsz, hb1, hb2, addr_add]
        · cases hr
      · rename_i _ _ _ id n he
        split at hr
        · rename_i e he2
          obtain ⟨hu, inf, z, hinf, hsz, _, _⟩ := ptrElem_some he2
          cases hb : Nat.ble n 64 with
          | false => simp [hb] at hr
          | true =>
            simp only [hb, cond_true] at hr
            obtain ⟨j, hj, hij, hr2⟩ := pickN_some hr
            subst hij
            obtain ⟨h1, B, hB, rfl⟩ := hx
            have hj : j < n := by omega
            refine ⟨_, .pointer (some ⟨B, j, none⟩), hr2, ?_, ⟨h1, B, hB, rfl⟩⟩
            simp [Instr.indexAt, run_underlying hu, asIntOf, run_sizeOf' hinf, hsz, hj, addr_add]
        · cases hr
      · cases hr
    · rename_i n e hu
      split at hr
      · rename_i id off
        cases hb : Nat.blt 0 (P.cellsOf e) && Nat.ble n 64 with
        | false => simp [hb] at hr
        | true =>
          simp only [hb, cond_true] at hr
          simp at hb
          obtain ⟨j, hj, hij, hr2⟩ := pickN_some hr
          subst hij
          obtain ⟨inf, hinf, hsz⟩ := info_of_cells (P := P) hb.1
          obtain ⟨h1, B, hB, rfl⟩ := hx
          refine ⟨_, .pointer (some ⟨B, off + j * P.cellsOf e, none⟩), hr2, ?_, ⟨h1, B, hB, rfl⟩⟩
          have hj : j < n := by omega
          simp [Instr.indexAt, run_underlying hu, asIntOf, Instr.sureAddr, run_sizeOf' hinf, hsz, hj, addr_add]
      · cases hr
    · cases hr
  · cases hr

theorem aIndex_ok {t : TypeId} {x i : AV} {v vi : Value} (hx : RepAV w ok ι N x v) (hi : RepAV w ok ι N i vi) {K : AV → Option R} (hr : aIndex P t x i K = some r) :
    ∃ av z, K av = some r ∧ (Instr.index t v vi).run P w = .ok z w ∧ RepAV w ok ι N av z := by
  unfold aIndex at hr
  split at hr
  · rename_i k i
    change Int at i
    cases (show [vi] = [.int k i] from hi.1)
    split at hr
    · rename_i s hu
      cases hb : decide (0 ≤ i) && decide (i < (s.length : Int)) with
      | false => rw [hb] at hr; simp at hr
      | true =>
        rw [hb] at hr
        simp only [cond_true] at hr
        simp at hb
        obtain ⟨s0, hs, rfl, _⟩ := hx
        cases hs
        rw [bytesOf_length] at hb
        have hlt : i.toNat < s0.size := by omega
        refine ⟨_, .int .u8 (s0[i.toNat]'hlt).toNat, hr, ?_, ?_⟩
        · rw [run_index_string w t s0 k i hu, dif_pos ⟨hb.1, hb.2⟩]
        · have : (bytesOf s0).getD i.toNat 0 = ((s0[i.toNat]'hlt).toNat : Int) := by
            have h2 : i.toNat < s0.data.toList.length := by simpa using hlt
            simp only [bytesOf, List.getD_eq_getElem?_getD, List.getElem?_map, List.getElem?_eq_getElem h2]
            rfl
          refine ⟨by rw [this], ?_⟩
          rw [this]
          have := (s0[i.toNat]'hlt).toNat_lt
          rw [in_iff]
          simp [IntKind.min, IntKind.max, IntKind.signed, IntKind.bits]
          omega
    · rename_i n e cs hu
      split at hr
      · rename_i j
        cases hb : Nat.blt j n with
        | false => simp [hb] at hr
        | true =>
          simp only [hb, cond_true] at hr
          simp at hb
          obtain ⟨vs, rfl, hvs⟩ := hx
          obtain ⟨av, u, h1, h2, h3⟩ := run_part (P := P) (w := w) (ok := ok) (ι := ι) (N := N) hr hvs
          have hie : ∃ inf, P.info? e = some inf := by
            unfold aPart at hr
            split at hr
            · rename_i inf hinf _; exact ⟨inf, hinf⟩
            · rename_i inf hinf _; exact ⟨inf, hinf⟩
            · cases hr
          obtain ⟨inf, hinf⟩ := hie
          refine ⟨av, u, h1, ?_, h3⟩
          have hj : j < n := hb
          rw [cellsOf_info hinf] at h2
          simp [Instr.index, run_underlying hu, asIntOf, hj, run_sizeOf' hinf, h2]
      · cases hr
    · cases hr
  · cases hr

theorem aExtract_ok {x : AV} {v : Value} {i : Nat} (hx : RepAV w ok ι N x v) {K : AV → Option R} (hr : aExtract x i K = some r) :
    ∃ av z, K av = some r ∧ (Instr.extract v i).run P w = .ok z w ∧ RepAV w ok ι N av z := by
  unfold aExtract at hr
  split at hr
  · rename_i l
    obtain ⟨vs, rfl, hvs⟩ := hx
    split at hr
    · rename_i y hy
      obtain ⟨b, hb, hrb⟩ := hvs.nth hy
      exact ⟨_, b, hr, by simp [Instr.extract, hb], hrb⟩
    · cases hr
  · cases hr

theorem len_in (n : Nat) (h : n ≤ big) : IntKind.i64.wrap (n : Int) = n := by
  rw [in_iff]; simp [IntKind.min, IntKind.max, IntKind.signed, IntKind.bits, big] at *; omega

theorem aLen_ok (h : Sim F ι ok N σ a w) {t ty : TypeId} {x : AV} {v : Value} (hx : RepAV w ok ι N x v) {K : AV → Option R} (hr : aLen P t x σ K = some r) :
    ∃ av z, K av = some r ∧ (Builtin.len_ #[t] ty #[v]).run P w = .ok z w ∧ RepAV w ok ι N av z := by
  unfold aLen at hr
  split at hr
  · rename_i s hu
    obtain ⟨s0, hs, rfl, hl⟩ := hx
    cases hs
    refine ⟨_, _, hr, run_len_string w t ty s0 hu, ?_⟩
    rw [bytesOf_length] at *
    exact rep_int _ _ (len_in _ hl)
  · rename_i u xs e hu
    obtain ⟨A, cap, hA, l1, l2, _⟩ := hx
    cases hA
    exact ⟨_, _, hr, by simp [Builtin.len_, run_underlying hu]; rfl, rep_int _ _ (len_in _ l2)⟩
  · rename_i hu
    cases (show v = _ from hx)
    exact ⟨_, _, hr, by simp [Builtin.len_, run_underlying hu]; rfl, rep_int _ _ (by decide)⟩
  · rename_i id n hu
    cases hb : Nat.ble n 64 with
    | false => simp [hb] at hr
    | true =>
      simp only [hb, cond_true] at hr
      obtain ⟨_, B, _, rfl⟩ := hx
      exact ⟨_, _, hr, by simp [Builtin.len_, run_underlying hu]; rfl, rep_int _ _ (len_in _ (by have := Nat.le_of_ble_eq_true hb; simp [big]; omega))⟩
  · rename_i u id hu
    split at hr
    · rename_i u' xs mu ho
      obtain ⟨_, hv, _⟩ := hx
      cases hm : mu.isSl with
      | false => simp [hm] at hr
      | true =>
      simp only [hm, cond_true] at hr
      obtain ⟨A, cap, hV, l1, l2, _⟩ := ((h.objs id _ ho).2.1).sl hm
      rw [hv, hV]
      exact ⟨_, _, hr, by simp [Builtin.len_, run_underlying hu]; rfl, rep_int _ _ (len_in _ l2)⟩
    · cases hr
  · rename_i n e hu
    cases hb : Nat.ble n 1000000 with
    | false => simp [hb] at hr
    | true => simp only [hb, cond_true] at hr
              exact ⟨_, _, hr, by simp [Builtin.len_, run_underlying hu]; rfl, rep_int _ _ (len_in _ (by have := Nat.le_of_ble_eq_true hb; simp [big]; omega))⟩
  · cases hr

theorem aFold_ok {f : Int → Int → Int} {g : Value → Value → Sem Value} {k : IntKind} (hf : ∀ x y, (g (.int k x) (.int k y)).run P w = .ok (.int k (f x y)) w) (hin : ∀ x y, k.wrap x = x → k.wrap y = y → k.wrap (f x y) = f x y) :
    ∀ {l : List AV} {vs : List Value} {x n : Int}, k.wrap x = x → All2 (RepAV w ok ι N) l vs → aFold f k x l = some n → (vs.foldlM g (.int k x) : Sem Value).run P w = .ok (.int k n) w ∧ k.wrap n = n
  | [], [], x, n, hx, _, h => by cases h; exact ⟨by simp, hx⟩
  | v :: l, u :: vs, x, n, hx, hl, h => by
    unfold aFold at h
    split at h
    · rename_i e; cases e
    · rename_i k' y l' e
      cases e
      by_cases ek : k = k'
      · subst ek
        simp at h
        cases (show [u] = [.int k y] from hl.1.1)
        have hy := hl.1.2
        obtain ⟨h1, h2⟩ := aFold_ok hf hin (hin x y hx hy) hl.2 h
        exact ⟨by simp [hf, h1], h2⟩
      · simp [ek] at h
    · cases h
  | [], _ :: _, _, _, _, hl, _ => hl.elim
  | _ :: _, [], _, _, _, hl, _ => hl.elim

theorem aMinMax_ok {f : Int → Int → Int} {g : Value → Value → Sem Value} (hf : ∀ k x y, (g (.int k x) (.int k y)).run P w = .ok (.int k (f x y)) w) (hin : ∀ (k : IntKind) x y, k.wrap x = x → k.wrap y = y → k.wrap (f x y) = f x y)
    {l : List AV} {vs : List Value} (hl : All2 (RepAV w ok ι N) l vs) {K : AV → Option R} (hr : aMinMax f l K = some r) :
    ∃ av z v0 rest, K av = some r ∧ vs = v0 :: rest ∧ (rest.foldlM g v0 : Sem Value).run P w = .ok z w ∧ RepAV w ok ι N av z := by
  unfold aMinMax at hr
  split at hr
  · rename_i k x l'
    cases vs with
    | nil => exact hl.elim
    | cons v vs =>
      cases (show [v] = [.int k x] from hl.1.1)
      split at hr
      · rename_i n hn
        obtain ⟨h1, h2⟩ := aFold_ok (hf k) (hin k) hl.1.2 hl.2 hn
        exact ⟨_, _, _, _, hr, rfl, h1, rep_int k n h2⟩
      · cases hr
  · cases hr

theorem mx_in (k : IntKind) (x y : Int) (hx : k.wrap x = x) (hy : k.wrap y = y) : k.wrap (mxI x y) = mxI x y := by unfold mxI; split <;> assumption
theorem mn_in (k : IntKind) (x y : Int) (hx : k.wrap x = x) (hy : k.wrap y = y) : k.wrap (mnI x y) = mnI x y := by unfold mnI; split <;> assumption

end
end Go.Abs

/- Abs, part I: what each operation does, IV: what makes or writes memory. -/
namespace Go.Abs

theorem freezeParts_frm : ∀ (ps : List (Nat × AV)) (σ : St), OpFrm σ (freezeParts σ ps)
  | [], σ => OpFrm.refl σ
  | (_, .val x) :: r, σ => (OpFrm.freeze x.cells σ).trans (freezeParts_frm r _)
  | (_, .tup _) :: r, σ => freezeParts_frm r σ

section
variable {P : Program} {R : Type} {F : Fr} {ι : Nat → Value} {ok : Nat → Nat → Prop} {N : Nat → Prop} {σ : St} {a : Act} {w : World} {o : Oper} {r : R}

theorem Sim.freezeParts : ∀ (ps : List (Nat × AV)) {ok : Nat → Nat → Prop} {σ : St}, Sim F ι ok N σ a w → ∃ ok', Sim F ι ok' N (freezeParts σ ps) a w ∧ ∀ b j, ok b j → ok' b j
  | [], ok, σ, h => ⟨ok, h, fun _ _ h => h⟩
  | (i, .val x) :: r, ok, σ, h => by
    obtain ⟨ok1, h1, l1⟩ := Sim.freeze x.cells h
    obtain ⟨ok2, h2, l2⟩ := Sim.freezeParts r h1
    exact ⟨ok2, h2, fun b j hk => l2 b j (l1 b j hk)⟩
  | (i, .tup l) :: r, ok, σ, h => Sim.freezeParts r h

theorem ext_ok {ok ok' : Nat → Nat → Prop} (h : ∀ b j, ok b j → ok' b j) : Ext w ok w ok' := fun b j hk => ⟨h b j hk, rfl⟩

/-- A new box. -/
theorem Sim.newBox (h : Sim F ι ok N σ a w) {id : Nat} (hid : ¬ N id) {cs : List Cell} {vs : List Value} (T : TypeId) (hv : All2 (RepC w ok ι N) cs vs) :
    Sim F (upd ι id (.pointer (some ⟨w.heap.size, 0, none⟩))) ok (plus N id) (σ.set id (.box cs)) a (w.alloc (.cells vs.toArray T)) ∧
      RepAV (w.alloc (.cells vs.toArray T)) ok (upd ι id (.pointer (some ⟨w.heap.size, 0, none⟩))) (plus N id) (.val (.one (.ptr id 0))) (.pointer (some ⟨w.heap.size, 0, none⟩)) := by
  refine ⟨h.alloc hid _ rfl ⟨w.heap.size, vs.toArray, T, rfl, heap_alloc_at _ _, ?_, fun j hj => ?_⟩, ⟨plus_self, w.heap.size, upd_same _ _ _, rfl⟩⟩
  · exact All2.mono (fun _ _ hc => RepC.mono (N := N) (ext_alloc h.oks _) (fun i hi => upd_other _ _ _ (fun e => hid (by rw [← e]; exact hi))) le_plus hc) (by simpa using hv)
  · have := h.oks _ _ hj; omega

/-- A new slice of our own, in a block of its own. -/
theorem Sim.newArr (h : Sim F ι ok N σ a w) {id : Nat} (hid : ¬ N id) {u : Ty} {xs : List u.den} {us more : List Value} (T : TypeId) (fz : Nat × Nat) (cap : Nat)
    (hr : Reps (RepD w ok u) xs us) (hb : xs.length ≤ big) (hl : xs.length ≤ cap) (hm : (us ++ more).length = cap * u.sz) (hf : cap * u.sz ≤ fz.1 ∨ fz.1 = fz.2) (mu : MK) (hmu : mu = .wr) :
    Sim F (upd ι id (.slice (some ⟨w.heap.size, 0, none⟩) xs.length cap)) ok (plus N id) (σ.set id (.arr u xs mu)) a (w.alloc (.cells (us ++ more).toArray T fz)) ∧
      RepAV (w.alloc (.cells (us ++ more).toArray T fz)) ok (upd ι id (.slice (some ⟨w.heap.size, 0, none⟩) xs.length cap)) (plus N id) (.val (.one (.own u id))) (.slice (some ⟨w.heap.size, 0, none⟩) xs.length cap) := by
  subst hmu
  refine ⟨h.alloc hid _ rfl (show SlRep _ _ _ _ _ _ from ⟨_, cap, rfl, hl, hb, .inr ⟨w.heap.size, 0, rfl, _, T, fz, heap_alloc_at _ _, by rw [Nat.zero_add]; exact hf, by simp at hm ⊢; omega, ⟨us, ?_, fun j v hv => ?_⟩, fun _ j hj => ?_, fun hm => by cases hm⟩⟩),
    ⟨plus_self, (upd_same _ _ _).symm, .inl ⟨_, _, _, rfl⟩⟩⟩
  · exact Reps.mono (fun _ _ hc => RepD.ext (ext_alloc h.oks _) hc) hr
  · have hj : j < us.length := by
      rcases Nat.lt_or_ge j us.length with h | h
      · exact h
      · rw [List.getElem?_eq_none h] at hv; cases hv
    rw [Nat.zero_add]
    simp only [List.getElem?_toArray]
    rw [List.getElem?_append_left hj]; exact hv
  · have := h.oks _ _ hj; omega

/-! ### alloc, box -/
theorem zeroVals_run {t : TypeId} {z : List Value} (h : zeroVals P t = some z) (w : World) : ∃ v, (zeroValue t).run P w = .ok v w ∧ v.cells.toList = z := by
  unfold zeroVals at h
  split at h
  · rename_i i hi
    split at h
    · rename_i v hv; cases h; exact ⟨v, by simp [zeroValue, typeInfo, hi, hv], rfl⟩
    · cases h
  · cases h

theorem leads_alloc (h : Sim F ι ok N σ a w) {nb : Nat} (hN : Fresh N nb) {t : TypeId} (ho : o.op = .alloc t) {K : AV → St → Option R}
    (hr : (match zeroVals P t with | some z => K (.val (.one (.ptr nb 0))) (σ.set nb (.box (z.map Cell.ofValue))) | none => none) = some r) : Leads P o F (span N nb) a w σ K r := by
  split at hr
  · rename_i z hz
    obtain ⟨v, hv, hc⟩ := zeroVals_run hz w
    obtain ⟨h1, h2⟩ := h.newBox hN.nb (cs := z.map Cell.ofValue) (vs := v.cells.toList) t (by rw [hc]; exact map_ofValue _)
    refine Leads.value ?_ h1 h2 (OpFrm.set _ _ _) hr (by first | exact plus_span | exact le_span)
    simp [execOp, ho, Instr.alloc, hv, newVar, newRow]
  · cases hr

theorem leads_box (h : Sim F ι ok N σ a w) {nb : Nat} (hN : Fresh N nb) {t : TypeId} {x : Operand} (ho : o.op = .box t x) {K : AV → St → Option R}
    (hr : (match σ.ev x with | .val v => bif storB v.cells then K (.val (.one (.ptr nb 0))) (σ.set nb (.box v.cells)) else none | _ => none) = some r) : Leads P o F (span N nb) a w σ K r := by
  have hx := h.ev x
  split at hr
  · rename_i v hv
    rw [hv] at hx
    cases hs : storB v.cells with
    | false => simp [hs] at hr
    | true =>
      simp only [hs, cond_true] at hr
      obtain ⟨g1, g2⟩ := V1.rep_cells hx hs
      obtain ⟨h1, h2⟩ := h.newBox hN.nb (vs := (a.eval x).cells.toList) t g1
      refine Leads.value ?_ h1 h2 (OpFrm.set _ _ _) hr (by first | exact plus_span | exact le_span)
      simp [execOp, ho, Instr.box, newVar, newRow]
  · cases hr

/-! ### store -/
theorem setCells_heap_other (b : Nat) : ∀ (vs : List Value) (j : Nat) (w : World) (x : Nat), x ≠ b → (w.setCells b j vs).heap[x]? = w.heap[x]?
  | [], _, _, _, _ => rfl
  | v :: r, j, w, x, h => by
    rw [World.setCells, setCells_heap_other b r _ _ x h]
    simp only [World.setCell, Array.getElem?_modify]
    rw [if_neg (by omega)]

theorem setCells_size (b : Nat) : ∀ (vs : List Value) (j : Nat) (w : World), (w.setCells b j vs).heap.size = w.heap.size
  | [], _, _ => rfl
  | v :: r, j, w => by rw [World.setCells, setCells_size b r]; simp [World.setCell]

theorem setCells_rest (b : Nat) : ∀ (vs : List Value) (j : Nat) (w : World), (w.setCells b j vs).os = w.os ∧ (w.setCells b j vs).tape = w.tape ∧ (w.setCells b j vs).output = w.output
  | [], _, _ => ⟨rfl, rfl, rfl⟩
  | v :: r, j, w => by rw [World.setCells]; exact setCells_rest b r _ (w.setCell ⟨b, j, none⟩ v)

/-- The block that was written. -/
theorem setCells_heap (b : Nat) : ∀ (vs : List Value) (j : Nat) (w : World) (c : Array Value) (T : TypeId) (fz : Nat × Nat), w.heap[b]? = some (.cells c T fz) → j + vs.length ≤ c.size →
    ∃ c', (w.setCells b j vs).heap[b]? = some (.cells c' T fz) ∧ c'.size = c.size ∧ c'.toList = c.toList.take j ++ vs ++ c.toList.drop (j + vs.length)
  | [], j, w, c, T, fz, h, hl => ⟨c, h, rfl, by simp⟩
  | v :: r, j, w, c, T, fz, h, hl => by
    have h1 : (w.setCell ⟨b, j, none⟩ v).heap[b]? = some (.cells (c.setIfInBounds j v) T fz) := by
      simp only [World.setCell, Array.getElem?_modify, if_true, h]
      rfl
    obtain ⟨c', g1, g2, g3⟩ := setCells_heap b r (j + 1) _ _ T fz h1 (by simp at hl ⊢; omega)
    refine ⟨c', g1, by simpa using g2, ?_⟩
    rw [g3]
    simp at hl
    have hj : j < c.toList.length := by simp; omega
    simp only [Array.toList_setIfInBounds, List.length_cons]
    have ht : (c.toList.take j).length = j := by simp; omega
    rw [List.set_eq_take_append_cons_drop, if_pos hj, List.take_append, ht, List.drop_append, ht]
    rw [List.take_of_length_le (by rw [ht]; omega), List.drop_eq_nil_of_le (as := c.toList.take j) (by rw [ht]; omega)]
    rw [show j + 1 - j = 1 from by omega, show j + 1 + r.length - j = r.length + 1 from by omega]
    simp only [List.take_succ_cons, List.take_zero, List.nil_append, List.drop_succ_cons, List.drop_drop, List.append_assoc, List.cons_append]
    rw [show j + 1 + r.length = j + (r.length + 1) from by omega]

theorem All2.splice {α : Type} {Q : Cell → α → Prop} {cs new : List Cell} {vs nvs : List α} (h : All2 Q cs vs) (hn : All2 Q new nvs) (off : Nat) :
    All2 Q (splice cs off new) (vs.take off ++ nvs ++ vs.drop (off + nvs.length)) := by
  unfold Abs.splice
  rw [hn.len]
  exact All2.app (All2.app (h.take off) hn) (h.drop _)

theorem splice_get {α : Type} (l vs : List α) (k : Nat) (hk : k + vs.length ≤ l.length) (j : Nat) :
    (l.take k ++ vs ++ l.drop (k + vs.length))[j]? = if k ≤ j ∧ j < k + vs.length then vs[j - k]? else l[j]? := by
  have ht : (l.take k).length = k := by simp; omega
  by_cases h1 : j < k
  · rw [if_neg (by omega), List.append_assoc, List.getElem?_append_left (by omega), List.getElem?_take, if_pos h1]
  · by_cases h2 : j < k + vs.length
    · rw [if_pos (by omega), List.append_assoc, List.getElem?_append_right (by omega), ht, List.getElem?_append_left (by omega)]
    · rw [if_neg (by omega), List.append_assoc, List.getElem?_append_right (by omega), ht, List.getElem?_append_right (by omega), List.getElem?_drop]
      congr 1; omega

theorem run_storeAt {t : TypeId} {b o : Nat} {v : Value} (hn : v.cells.toList.length = P.cellsOf t) (hp : 0 < P.cellsOf t) (h1 : ∀ u ∈ v.cells.toList, u.oneCell' = true)
    {c : Array Value} {T : TypeId} {fz : Nat × Nat} (hb : w.heap[b]? = some (.cells c T fz)) (hl : o + v.cells.toList.length ≤ c.size) (hf : ∀ j, o ≤ j → j < o + v.cells.toList.length → ¬(fz.1 ≤ j ∧ j < fz.2)) :
    (Instr.storeAt t (.pointer (some ⟨b, o, none⟩)) v).run P w = .ok () (w.setCells b o v.cells.toList) := by
  obtain ⟨i, hi, his⟩ := info_of_cells hp
  have hst := run_storeCells_cells (P := P) b o v.cells.toList 0 w (fun j hj => by
      rw [cell_in hb, Nat.add_zero]
      have : o + j < c.size := by omega
      simp [this]) (fun j hj => by
      have hn := hf (o + j) (by omega) (by omega)
      simp only [World.frozen?, hb, Nat.add_zero]
      exact Bool.eq_false_iff.2 (fun hh => hn (by simpa using hh))) h1
  have hsz : ¬ (v.cells.size ≠ i.size) := by
    rw [his, ← hn]; simp
  simp only [Nat.add_zero] at hst
  simp [Instr.storeAt, Instr.sureAddr, storeVar, run_sizeOf' hi, hsz, hst]

theorem leads_store (h : Sim F ι ok N σ a w) {nb : Nat} (_ : Fresh N nb) {t : TypeId} {x y : Operand} (ho : o.op = .store t x y) {K : AV → St → Option R}
    (hr : aStore P t (σ.ev x) (σ.ev y) σ (fun σ' => K (.val (.one .skip)) σ') = some r) : Leads P o F (span N nb) a w σ K r := by
  have hx := h.ev x
  have hy := h.ev y
  unfold aStore at hr
  split at hr
  · rename_i v hv
    rw [hv] at hy
    cases hc : Nat.beq v.cells.length (P.cellsOf t) && Nat.blt 0 (P.cellsOf t) && storB v.cells with
    | false => simp [hc] at hr
    | true =>
      simp only [hc, cond_true] at hr
      simp only [Bool.and_eq_true] at hc
      obtain ⟨⟨c1, c2⟩, c3⟩ := hc
      have c1 := Nat.eq_of_beq_eq_true c1
      have c2 : 0 < P.cellsOf t := by simpa using c2
      obtain ⟨g1, g2⟩ := V1.rep_cells hy c3
      have hlen : (a.eval y).cells.toList.length = P.cellsOf t := by rw [← g1.len]; exact c1
      split at hr
      · rename_i id off hxe
        rw [hxe] at hx
        split at hr
        · rename_i cs hob
          cases hle : Nat.ble (off + P.cellsOf t) cs.length with
          | false => simp [hle] at hr
          | true =>
            simp only [hle, cond_true] at hr
            have hle := Nat.le_of_ble_eq_true hle
            obtain ⟨_, B, hB, hxv⟩ := hx
            obtain ⟨_, ⟨B', c, T, hV, m1, m2, m3⟩, _⟩ := h.objs id _ hob
            rw [hB] at hV; cases hV
            have hsz : cs.length = c.size := by rw [m2.len]; simp
            have hrun := run_storeAt (P := P) (w := w) (o := off) hlen c2 g2 m1 (by rw [hlen]; omega) (fun j _ _ => by simp)
            obtain ⟨c', k1, k2, k3⟩ := setCells_heap B (a.eval y).cells.toList off w c T (0, 0) m1 (by rw [hlen]; omega)
            obtain ⟨s1, s2, s3⟩ := setCells_rest B (a.eval y).cells.toList off w
            have hext : Ext w ok (w.setCells B off (a.eval y).cells.toList) ok := fun b j hk => ⟨hk, cell_of_heap (setCells_heap_other B _ off w b (fun e => by subst e; exact m3 j hk)) j⟩
            have hs := h.write (o' := .box (splice cs off v.cells)) hob (B := B) (by rw [hB]; rfl) (setCells_size B _ off w) (fun b hb => setCells_heap_other B _ off w b hb) s1 s2 s3 (fun j hj => absurd hj (m3 j))
              ⟨B, c', T, hB, k1, by
                rw [k3]
                exact All2.mono (fun _ _ hc => RepC.mono hext (fun _ _ => rfl) (fun _ h => h) hc) (All2.splice m2 g1 off), m3⟩
            refine Leads.skip ?_ hs (OpFrm.set _ _ _) hr (by first | exact plus_span | exact le_span)
            simp only [execOp, ho, Sem.run_bind, hxv, hrun, Result.andThen_ok]
            rfl
        · cases hr
      · rename_i u id i off hxe
        rw [hxe] at hx
        obtain ⟨ok1, h1, l1⟩ := Sim.freeze v.cells h
        split at hr
        · rename_i u' xs hob
          cases hb : u'.beq u && Nat.ble (off + P.cellsOf t) u'.sz && Nat.blt i (List.length xs) with
          | false => simp [hb] at hr
          | true =>
            simp only [hb, cond_true] at hr
            simp only [Bool.and_eq_true] at hb
            obtain ⟨⟨b1, b2⟩, b3⟩ := hb
            have e1 := Ty.eq_of_beq b1
            subst e1
            have b2 := Nat.le_of_ble_eq_true b2
            have b3 : i < List.length xs := by simpa using b3
            split at hr
            · rename_i d hd
              obtain ⟨_, b, oo, n, cap, hV, hxv⟩ := hx
              obtain ⟨_, hob2, _⟩ := h1.objs id _ hob
              obtain ⟨A, cap', hV', q1, q2, q3⟩ := hob2
              rw [hV] at hV'; cases hV'
              rcases q3 with ⟨hA, _⟩ | ⟨b', o', hA, C, T, fz, m1, m2, m3, ⟨us, m4, m5⟩, m6, m7⟩
              · cases hA
              · cases hA
                have hul : us.length = List.length xs * u'.sz := Reps.len (fun x us hr => RepD.len hr) m4
                have hmul : i * u'.sz + u'.sz ≤ List.length xs * u'.sz := by
                  have := Nat.mul_le_mul_right u'.sz (show i + 1 ≤ List.length xs from b3)
                  rw [Nat.add_mul, Nat.one_mul] at this; exact this
                have hcap : List.length xs * u'.sz ≤ cap * u'.sz := Nat.mul_le_mul_right _ q1
                have g1' : All2 (RepC w ok1 ι N) v.cells (a.eval y).cells.toList := All2.mono (fun _ _ hc => RepC.mono (ext_ok l1) (fun _ _ => rfl) (fun _ h => h) hc) g1
                have helem := Reps.get (R := fun x us => RepD w ok1 u' x us) (fun x us hr => RepD.len hr) u'.zero m4 b3
                have hspl := All2.splice (explode_rep (ι := ι) (N := N) helem) g1' off
                obtain ⟨v1, v2, e12, r1, r2⟩ := implode_rep h1 hd hspl
                have hv2 : v2 = [] := by cases v2 with | nil => rfl | cons _ _ => exact r2.elim
                subst hv2
                rw [List.append_nil] at e12
                have hrun := run_storeAt (P := P) (w := w) (b := b) (o := oo + i * u'.sz + off) hlen c2 g2 m1 (by rw [hlen]; omega) (fun j hj1 hj2 => m2.free j (by rw [hlen] at hj2; omega))
                obtain ⟨c', k1, k2, k3⟩ := setCells_heap b (a.eval y).cells.toList (oo + i * u'.sz + off) w C T fz m1 (by rw [hlen]; omega)
                obtain ⟨s1, s2, s3⟩ := setCells_rest b (a.eval y).cells.toList (oo + i * u'.sz + off) w
                have hext : Ext w ok1 (w.setCells b (oo + i * u'.sz + off) (a.eval y).cells.toList) ok1 := fun b' j hk => ⟨hk, cell_of_heap (setCells_heap_other b _ _ w b' (fun e => by subst e; exact m6 rfl j hk)) j⟩
                have hset := Reps.set (R := fun x us => RepD w ok1 u' x us) (fun x us hr => RepD.len hr) r1 m4 b3
                have hs := h1.write (o' := .arr u' (List.set xs i d) .wr) hob (B := b) (by rw [hV]; rfl) (setCells_size b _ _ w) (fun b' hb => setCells_heap_other b _ _ w b' hb) s1 s2 s3 (fun j hj => absurd hj (m6 rfl j))
                  ⟨_, cap, by rw [hV]; simp, by simpa using q1, by simpa using q2, .inr ⟨b, oo, rfl, c', T, fz, k1, m2, by rw [k2]; exact m3, ⟨_, Reps.mono (fun _ _ hc => RepD.ext hext hc) hset, fun j z hj => ?_⟩, m6, (fun hm => by cases hm)⟩⟩
                · refine Leads.skip ?_ hs ((OpFrm.freeze _ _).trans (OpFrm.set _ _ _)) hr (by first | exact plus_span | exact le_span)
                  simp only [execOp, ho, Sem.run_bind, hxv, hrun, Result.andThen_ok]
                  rfl
                · have hel : ((us.drop (i * u'.sz)).take u'.sz).length = u'.sz := by simp; omega
                  have hv1 : v1.length = u'.sz := RepD.len r1
                  have q := splice_get us v1 (i * u'.sz) (by omega) j
                  rw [hv1] at q
                  rw [q] at hj
                  have q2 := splice_get C.toList (a.eval y).cells.toList (oo + i * u'.sz + off) (by rw [hlen]; simp; omega) (oo + j)
                  rw [← k3, hlen] at q2
                  have q3 : c'[oo + j]? = c'.toList[oo + j]? := by simp
                  rw [q3, q2]
                  split at hj
                  · rename_i hin
                    rw [← e12, splice_get _ _ off (by rw [hel, hlen]; exact b2), hlen] at hj
                    split at hj
                    · rename_i hin2
                      rw [if_pos (by omega), ← hj]
                      congr 1; omega
                    · rename_i hin2
                      rw [if_neg (by omega)]
                      rw [List.getElem?_take] at hj
                      split at hj
                      · rw [List.getElem?_drop] at hj
                        have := m5 j z (by rw [← hj]; congr 1; omega)
                        simpa using this
                      · cases hj
                  · rename_i hin
                    rw [if_neg (by omega)]
                    simpa using m5 j z hj
            · cases hr
        · cases hr
      · cases hr
  · cases hr

end
end Go.Abs

/- Abs, part J: what each operation does, V. -/
namespace Go.Abs
section
variable {P : Program} {R : Type} {F : Fr} {ι : Nat → Value} {ok : Nat → Nat → Prop} {N : Nat → Prop} {σ : St} {a : Act} {w : World} {o : Oper} {r : R}

/-- Parts, side by side. -/
def RepPs (w : World) (ok : Nat → Nat → Prop) (ι : Nat → Value) (N : Nat → Prop) : List (Nat × AV) → List (Nat × Value) → Prop :=
  All2 fun p q => p.1 = q.1 ∧ RepAV w ok ι N p.2 q.2

theorem Sim.evPs (h : Sim F ι ok N σ a w) : ∀ (l : List (Nat × Operand)), RepPs w ok ι N (evPs σ l) (l.map fun (i, x) => (i, a.eval x))
  | [] => trivial
  | (_, x) :: r => ⟨⟨rfl, h.ev x⟩, Sim.evPs h r⟩

theorem Sim.evs (h : Sim F ι ok N σ a w) : ∀ (l : List Operand), All2 (RepAV w ok ι N) (evs σ l) (l.map a.eval)
  | [] => trivial
  | x :: r => ⟨h.ev x, Sim.evs h r⟩

theorem foldl_set (off : Nat) : ∀ (vs : List Value) (j : Nat) (cs : Array Value), off + j + vs.length ≤ cs.size →
    ((vs.zipIdx j).foldl (fun cs (c, i) => cs.setIfInBounds (off + i) c) cs).toList = cs.toList.take (off + j) ++ vs ++ cs.toList.drop (off + j + vs.length) ∧
    ((vs.zipIdx j).foldl (fun cs (c, i) => cs.setIfInBounds (off + i) c) cs).size = cs.size
  | [], j, cs, h => by simp
  | v :: r, j, cs, h => by
    simp at h
    obtain ⟨g3, g4⟩ := foldl_set off r (j + 1) (cs.setIfInBounds (off + j) v) (by simp; omega)
    simp only [List.zipIdx_cons, List.foldl_cons]
    refine ⟨?_, by rw [g4]; simp⟩
    rw [g3]
    have hj : off + j < cs.toList.length := by simp; omega
    simp only [Array.toList_setIfInBounds, List.length_cons]
    have ht : (cs.toList.take (off + j)).length = off + j := by simp; omega
    rw [List.set_eq_take_append_cons_drop, if_pos hj, List.take_append, ht, List.drop_append, ht]
    rw [List.take_of_length_le (by rw [ht]; omega), List.drop_eq_nil_of_le (as := cs.toList.take (off + j)) (by rw [ht]; omega)]
    rw [show off + (j + 1) - (off + j) = 1 from by omega, show off + (j + 1) + r.length - (off + j) = r.length + 1 from by omega]
    simp only [List.take_succ_cons, List.take_zero, List.nil_append, List.drop_succ_cons, List.drop_drop, List.append_assoc, List.cons_append]
    rw [show off + j + 1 + r.length = off + j + (r.length + 1) from by omega]

theorem fillC_ok {place : Nat → Option (Nat × Nat)} : ∀ {ps : List (Nat × AV)} {qs : List (Nat × Value)} {cs cs' : List Cell} {vs : Array Value}, fillC place cs ps = some cs' → RepPs w ok ι N ps qs → All2 (RepC w ok ι N) cs vs.toList →
    ∃ vs', Instr.fill place vs qs = some vs' ∧ All2 (RepC w ok ι N) cs' vs'.toList
  | [], [], cs, cs', vs, h, _, hv => by cases h; exact ⟨vs, rfl, hv⟩
  | (i, .tup l) :: r, _ :: _, cs, cs', vs, h, _, _ => by simp [fillC] at h
  | (i, .val x) :: r, (i', u) :: qs, cs, cs', vs, h, hp, hv => by
    simp only [fillC] at h
    have e1 : i = i' := hp.1.1
    subst e1
    split at h
    · rename_i off n hpl
      cases hb : Nat.beq x.cells.length n && Nat.ble (off + n) cs.length && storB x.cells with
      | false => simp [hb] at h
      | true =>
        simp only [hb, cond_true] at h
        simp only [Bool.and_eq_true] at hb
        obtain ⟨⟨b1, b2⟩, b3⟩ := hb
        have b1 := Nat.eq_of_beq_eq_true b1
        have b2 := Nat.le_of_ble_eq_true b2
        obtain ⟨g1, g2⟩ := V1.rep_cells hp.1.2 b3
        have hl : u.cells.toList.length = n := by rw [← g1.len]; exact b1
        have hsz : u.cells.size = n := by simpa using hl
        have hcs : cs.length = vs.size := by rw [hv.len]; simp
        obtain ⟨f1, f2⟩ := foldl_set off u.cells.toList 0 vs (by rw [hl]; omega)
        have ef : u.cells.zipIdx.foldl (fun cs (c, j) => cs.setIfInBounds (off + j) c) vs = (u.cells.toList.zipIdx 0).foldl (fun cs (c, j) => cs.setIfInBounds (off + j) c) vs := by
          rw [← Array.foldl_toList, Array.toList_zipIdx]
        have hn : ¬ (u.cells.size ≠ n ∨ off + u.cells.size > vs.size) := by omega
        obtain ⟨vs', k1, k2⟩ := fillC_ok h hp.2 (vs := u.cells.zipIdx.foldl (fun cs (c, j) => cs.setIfInBounds (off + j) c) vs) (by
          rw [ef, f1, Nat.add_zero]
          exact All2.splice hv g1 off)
        refine ⟨vs', ?_, k2⟩
        simp only [Instr.fill, hpl]
        rw [if_neg (by simpa using hn)]
        exact k1
    · cases h
  | [], _ :: _, _, _, _, _, hp, _ => hp.elim
  | _ :: _, [], _, _, _, _, hp, _ => hp.elim

theorem placesOf_ok : ∀ {fs : List Field} {l : List (Nat × Nat)}, placesOf P fs = some l → fs.mapM (fun f => (P.info? f.type).map fun i => (f.offset, i.size)) = some l
  | [], l, h => by cases h; rfl
  | f :: r, l, h => by
    simp only [placesOf] at h
    split at h
    · rename_i i l' hi hl
      cases h
      simp [List.mapM_cons, hi, placesOf_ok hl]
    · cases h

theorem nth_eq {α : Type} : ∀ (l : List α) (i : Nat), nth l i = l[i]?
  | [], _ => by simp [nth]
  | _ :: _, 0 => rfl
  | _ :: l, i + 1 => by simpa [nth] using nth_eq l i

theorem aBuild_ok {t : TypeId} {ps : List (Nat × AV)} {qs : Array (Nat × Value)} (hp : RepPs w ok ι N ps qs.toList) {K : AV → Option R} (hr : aBuild P t ps K = some r) :
    ∃ av z, K av = some r ∧ (Instr.build t qs).run P w = .ok z w ∧ RepAV w ok ι N av z := by
  unfold aBuild at hr
  split at hr
  · cases hr
  · rename_i z hz
    unfold zeroVals at hz
    split at hz
    · rename_i it hit
      split at hz
      · rename_i v hv
        cases hz
        have hmap : All2 (RepC w ok ι N) (v.cells.toList.map Cell.ofValue) v.cells.toList := map_ofValue _
        split at hr
        · rename_i fs hu
          split at hr
          · rename_i pl hpl
            split at hr
            · rename_i cs hcs
              obtain ⟨vs', k1, k2⟩ := fillC_ok hcs hp hmap
              refine ⟨_, .agg vs', hr, run_build w t qs vs' ?_, ⟨vs'.toList, by simp, k2⟩⟩
              unfold Program.built
              simp only [hit, hu, hv, placesOf_ok hpl]
              have : (fun i => (pl.toArray[i]?)) = nth pl := by funext i; simp [nth_eq]
              rw [this]; exact k1
            · cases hr
          · cases hr
        · rename_i n e hu
          split at hr
          · rename_i ie hie
            split at hr
            · rename_i cs hcs
              obtain ⟨vs', k1, k2⟩ := fillC_ok hcs hp hmap
              refine ⟨_, .agg vs', hr, run_build w t qs vs' ?_, ⟨vs'.toList, by simp, k2⟩⟩
              unfold Program.built
              simp only [hit, hu, hv, hie]
              exact k1
            · cases hr
          · cases hr
        · cases hr
      · cases hz
    · cases hz

end
end Go.Abs

/- Abs, part K: what each operation does, VI: slices. -/
namespace Go.Abs
section
variable {P : Program} {R : Type} {F : Fr} {ι : Nat → Value} {ok : Nat → Nat → Prop} {N : Nat → Prop} {σ : St} {a : Act} {w : World} {o : Oper} {r : R}

theorem zeroOk_some {e : TypeId} {u : Ty} (h : zeroOk P e u = true) (w : World) (ok : Nat → Nat → Prop) : ∃ i z, P.info? e = some i ∧ i.zero = some z ∧ RepD w ok u u.zero z.cells.toList := by
  unfold zeroOk at h
  split at h
  · rename_i vs hvs
    unfold zeroVals at hvs
    split at hvs
    · rename_i i hi
      split at hvs
      · rename_i z hz
        cases hvs
        split at h
        · rename_i hm
          obtain ⟨f, e1, e2⟩ := zmatch_rep (w := w) (ok := ok) hm
          rw [List.append_nil] at e1
          exact ⟨i, z, hi, hz, by rw [e1]; exact e2⟩
        · cases h
      · cases hvs
    · cases hvs
  · cases h

/-! ### literals -/
theorem litElems_ok (h : Sim F ι ok N σ a w) {u : Ty} {n : Nat} : ∀ {ps : List (Nat × AV)} {qs : List (Nat × Value)} {k : Nat} {xs : List u.den} {cs : Array Value} {pre : List Value}, litElems σ u k ps = some xs → RepPs w ok ι N ps qs →
    cs.size = n * u.sz → k + ps.length = n → pre.length = k * u.sz → cs.toList.take (k * u.sz) = pre →
    ∃ cs' us, Instr.fill (fun i => some (i * u.sz, u.sz)) cs qs = some cs' ∧ Reps (RepD w ok u) xs us ∧ cs'.toList = pre ++ us ∧ xs.length = ps.length
  | [], [], k, xs, cs, pre, hl, _, hs, hk, hp, ht => by
    cases hl
    simp at hk; subst hk
    refine ⟨cs, [], rfl, rfl, ?_, rfl⟩
    rw [← ht, List.take_of_length_le (by simp; omega), List.append_nil]
  | (i, .tup l) :: r, _ :: _, k, xs, cs, pre, hl, _, _, _, _, _ => by simp [litElems] at hl
  | (i, .val x) :: r, (i', v) :: qs, k, xs, cs, pre, hl, hpq, hs, hk, hp, ht => by
    simp only [litElems] at hl
    have e1 : i = i' := hpq.1.1
    subst e1
    cases hb : Nat.beq i k && Nat.beq x.cells.length u.sz && storB x.cells with
    | false => simp [hb] at hl
    | true =>
      simp only [hb, cond_true] at hl
      simp only [Bool.and_eq_true] at hb
      obtain ⟨⟨b0, b1⟩, b2⟩ := hb
      have b0 := Nat.eq_of_beq_eq_true b0
      subst b0
      have b1 := Nat.eq_of_beq_eq_true b1
      split at hl
      · rename_i d hd
        split at hl
        · rename_i l hl'
          cases hl
          obtain ⟨g1, g2⟩ := V1.rep_cells hpq.1.2 b2
          obtain ⟨v1, v2, e12, r1, r2⟩ := implode_rep h hd g1
          have hv2 : v2 = [] := by cases v2 with | nil => rfl | cons _ _ => exact r2.elim
          subst hv2
          rw [List.append_nil] at e12
          have hvl : v.cells.toList.length = u.sz := by rw [← g1.len]; exact b1
          have hvs : v.cells.size = u.sz := by simpa using hvl
          simp only [List.length_cons] at hk
          have hm : i * u.sz + u.sz ≤ n * u.sz := by
            have := Nat.mul_le_mul_right u.sz (show i + 1 ≤ n by omega)
            rw [Nat.add_mul, Nat.one_mul] at this; exact this
          obtain ⟨f1, f2⟩ := foldl_set (i * u.sz) v.cells.toList 0 cs (by rw [hvl]; omega)
          have ef : v.cells.zipIdx.foldl (fun cs (c, j) => cs.setIfInBounds (i * u.sz + j) c) cs = (v.cells.toList.zipIdx 0).foldl (fun cs (c, j) => cs.setIfInBounds (i * u.sz + j) c) cs := by
            rw [← Array.foldl_toList, Array.toList_zipIdx]
          rw [Nat.add_zero] at f1
          have htk : (cs.toList.take (i * u.sz)).length = i * u.sz := by simp; omega
          obtain ⟨cs', us, k1, k2, k3, k4⟩ := litElems_ok h (pre := pre ++ v.cells.toList) hl' hpq.2 (cs := v.cells.zipIdx.foldl (fun cs (c, j) => cs.setIfInBounds (i * u.sz + j) c) cs) (by rw [ef, f2]; exact hs) (by omega)
            (by rw [List.length_append, hp, hvl, Nat.add_mul, Nat.one_mul]) (by
              rw [ef, f1, ht, show (i + 1) * u.sz = pre.length + v.cells.toList.length by rw [hp, hvl, Nat.add_mul, Nat.one_mul]]
              rw [List.take_append_of_le_length (by simp), List.take_of_length_le (by simp)])
          refine ⟨cs', v.cells.toList ++ us, ?_, ⟨v.cells.toList, us, rfl, by rw [e12]; exact r1, k2⟩, by rw [k3]; simp, by simp [k4]⟩
          have hn : ¬ (v.cells.size ≠ u.sz ∨ i * u.sz + v.cells.size > cs.size) := by omega
          simp only [Instr.fill]
          rw [if_neg (by simpa using hn)]
          exact k1
        · cases hl
      · cases hl
  | [], _ :: _, _, _, _, _, _, hpq, _, _, _, _ => hpq.elim
  | _ :: _, [], _, _, _, _, _, hpq, _, _, _, _ => hpq.elim

theorem leads_buildSlice (h : Sim F ι ok N σ a w) {nb : Nat} (hN : Fresh N nb) {t : TypeId} {n : Nat} {ps : Array (Nat × Operand)} (ho : o.op = .buildSlice t n ps) {K : AV → St → Option R}
    (hr : aBuildSlice P nb t n (evPs σ ps.toList) σ K = some r) : Leads P o F (span N nb) a w σ K r := by
  unfold aBuildSlice at hr
  split at hr
  · rename_i e u he
    obtain ⟨hu, i, hi, hsz, hpos, hby⟩ := elemOf_some he
    cases hb : Nat.ble (n * u.sz) 16777216 && zeroOk P e u && Nat.beq (evPs σ ps.toList).length n with
    | false => simp [hb] at hr
    | true =>
      simp only [hb, cond_true] at hr
      simp only [Bool.and_eq_true] at hb
      obtain ⟨⟨b1, b2⟩, b3⟩ := hb
      have b1 := Nat.le_of_ble_eq_true b1
      have b3 := Nat.eq_of_beq_eq_true b3
      split at hr
      · rename_i xs hxs
        obtain ⟨ok1, h1, l1⟩ := h.freezeParts (evPs σ ps.toList)
        have hps : RepPs w ok1 ι N (evPs σ ps.toList) (ps.toList.map fun (i, x) => (i, a.eval x)) :=
          All2.mono (fun _ _ hc => ⟨hc.1, RepAV.mono (ext_ok l1) (fun _ _ => rfl) (fun _ h => h) hc.2⟩) (h.evPs ps.toList)
        obtain ⟨i', z, hi', hz, hzr⟩ := zeroOk_some b2 w ok1
        rw [hi] at hi'; cases hi'
        have hzl : z.cells.size = u.sz := by have := RepD.len hzr; simpa using this
        obtain ⟨cs', us, k1, k2, k3, k4⟩ := litElems_ok h1 (n := n) (cs := (Array.range (n * i.size)).map (z.cells[· % z.cells.size]!)) (pre := []) hxs hps (by simp [hsz]) (by omega) (by simp) (by simp)
        have hul := Reps.len (fun x us hr => RepD.len hr) k2
        have hxl : xs.length = n := by omega
        have e1 : cs' = (us ++ []).toArray := by rw [List.append_nil, ← List.nil_append us, ← k3]
        obtain ⟨q1, q2⟩ := h1.newArr (id := nb) hN.nb (us := us) (more := []) e (0, 0) n k2 (by rw [hxl]; simp [big]; have := Nat.le_mul_of_pos_right n hpos; omega) (by omega) (by simp [hul, hxl]) (.inr rfl) .wr rfl
        refine Leads.value (v := .slice (some ⟨w.heap.size, 0, none⟩) n n) ?_ q1 (by rw [hxl] at q2; rw [hxl]; exact q2) ((freezeParts_frm _ _).trans (OpFrm.set _ _ _)) hr (by first | exact plus_span | exact le_span)
        have hn : ¬ (16777216 < n * i.size) := by rw [hsz]; omega
        have hmap : (ps.map fun (i, x) => (i, a.eval x)).toList = ps.toList.map fun (i, x) => (i, a.eval x) := by simp
        by_cases h0 : n * i.size = 0
        · have hn0 : n = 0 := by
            rcases Nat.eq_zero_or_pos n with h | h
            · exact h
            · have := Nat.mul_pos h (show 0 < i.size by omega); omega
          subst hn0
          have hpe : ps.toList = [] := by
            cases hp : ps.toList with
            | nil => rfl
            | cons p q => rw [hp] at b3; obtain ⟨_, _⟩ := p; simp [evPs] at b3
          have hpe' : ps = #[] := by cases ps; simp_all
          subst hpe'
          have : us = [] := by cases us with | nil => rfl | cons _ _ => simp [hxl] at hul
          subst this
          simp [execOp, ho, Instr.buildSlice, run_underlying hu, run_sizeOf' hi, Instr.fill, newRow]
          rw [show Array.range 0 = #[] from by simp [Array.range]]
          simp
        · rw [hsz] at k1
          simp only [execOp, ho, Instr.buildSlice, Sem.run_bind, run_underlying hu, run_sizeOf' hi, Result.andThen_ok]
          rw [if_neg (by simpa using hn), if_neg h0]
          simp [zeroValue, typeInfo, hi, hz, hsz, k1, newRow, e1]
      · cases hr
  · split at hr
    · rename_i e he
      obtain ⟨hu, i, z, hi, hsz, hz, hzc⟩ := ptrElem_some he
      cases hb : Nat.blt 0 n && Nat.ble n 64 with
      | false => simp [hb] at hr
      | true =>
        simp only [hb, cond_true] at hr
        simp only [Bool.and_eq_true] at hb
        have b1 : 0 < n := by simpa using hb.1
        have b2 := Nat.le_of_ble_eq_true hb.2
        split at hr
        · rename_i cs hcs
          have hps : RepPs w ok ι N (evPs σ ps.toList) (ps.toList.map fun (i, x) => (i, a.eval x)) := h.evPs ps.toList
          have hzs : z.cells.size = 1 := by have := congrArg List.length hzc; simpa using this
          have h0 : All2 (RepC w ok ι N) (List.replicate n Cell.nilp) ((Array.range (n * i.size)).map (z.cells[· % z.cells.size]!)).toList := by
            have e1 : ((Array.range (n * i.size)).map (z.cells[· % z.cells.size]!)).toList = List.replicate n (.pointer none) := by
              rw [hsz, Nat.mul_one, hzs]
              have hz0 : z.cells[0]! = .pointer none := by
                have : z.cells = #[.pointer none] := by apply Array.ext'; simpa using hzc
                rw [this]; rfl
              apply List.ext_getElem (by simp)
              intro j h1 h2
              simp [Nat.mod_one, hz0]
            rw [e1]
            have : ∀ k, All2 (RepC w ok ι N) (List.replicate k Cell.nilp) (List.replicate k (Value.pointer none)) := fun k => by
              induction k with
              | zero => trivial
              | succ k ih => exact ⟨rfl, ih⟩
            exact this n
          obtain ⟨vs', k1, k2⟩ := fillC_ok hcs hps h0
          obtain ⟨h1, hid, B, hB, hv⟩ := h.newBox hN.nb (cs := cs) (vs := vs'.toList) e k2
          refine Leads.value (v := .slice (some ⟨w.heap.size, 0, none⟩) n n) ?_ h1 (show RepAV _ _ _ _ (.val (.one (.bsl nb n))) (.slice (some ⟨w.heap.size, 0, none⟩) n n) from ⟨hid, B, hB, by cases hv; rfl⟩) (OpFrm.set _ _ _) hr (by first | exact plus_span | exact le_span)
          have hn : ¬ (16777216 < n * i.size) := by rw [hsz]; omega
          have hn0 : ¬ n * i.size = 0 := by rw [hsz]; omega
          simp only [execOp, ho, Instr.buildSlice, Sem.run_bind, run_underlying hu, run_sizeOf' hi, Result.andThen_ok]
          rw [if_neg (by simpa using hn), if_neg hn0]
          rw [show (fun i : Nat => some (i * 1, 1)) = (fun j : Nat => some (j * i.size, i.size)) from by rw [hsz]] at k1
          simp [zeroValue, typeInfo, hi, hz, k1, newRow]
        · cases hr
    · cases hr

end
end Go.Abs

/- Abs, part L: what each operation does, VII: slices. -/
namespace Go.Abs
section
variable {P : Program} {R : Type} {F : Fr} {ι : Nat → Value} {ok : Nat → Nat → Prop} {N : Nat → Prop} {σ : St} {a : Act} {w : World} {o : Oper} {r : R}

/-! ### make -/
theorem madeCells_eq (z : Array Value) (hz : 0 < z.size) : ∀ (c : Nat), (madeCells z (c * z.size)).toList = (List.replicate c z.toList).flatten
  | 0 => by simp [madeCells]
  | c + 1 => by
    have ih := madeCells_eq z hz c
    simp only [madeCells, Array.toList_map, Array.toList_range] at ih ⊢
    rw [Nat.add_mul, Nat.one_mul, List.range_add, List.map_append, ih, List.replicate_succ', List.flatten_append]
    congr 1
    simp only [List.map_map, List.flatten_cons, List.flatten_nil, List.append_nil]
    apply List.ext_getElem (by simp)
    intro j h1 h2
    simp at h1
    simp only [List.getElem_map, Function.comp, List.getElem_range]
    rw [Nat.mul_add_mod_of_lt h1]
    simp [h1]

theorem leads_makeSlice (h : Sim F ι ok N σ a w) {nb : Nat} (hN : Fresh N nb) {t : TypeId} {l c : Operand} (ho : o.op = .makeSlice t l c) {K : AV → St → Option R}
    (hr : aMakeSlice P nb t (σ.ev l) (σ.ev c) σ K = some r) : Leads P o F (span N nb) a w σ K r := by
  have hl := h.ev l
  have hc := h.ev c
  unfold aMakeSlice at hr
  split at hr
  · rename_i e u n m he hln hcn
    change Int at n
    change Int at m
    obtain ⟨hu, i, hi, hsz, hpos, hby⟩ := elemOf_some he
    rw [hln] at hl
    rw [hcn] at hc
    cases hb : zeroOk P e u with
    | false => simp [hb] at hr
    | true =>
      simp only [hb, cond_true] at hr
      cases hb2 : decide (0 ≤ n) && decide (n ≤ m) && decide (m ≤ 4294967296) with
      | false => rw [hb2] at hr; cases hr
      | true =>
        rw [hb2] at hr
        simp only [cond_true] at hr
        simp at hb2
        obtain ⟨⟨b1, b2⟩, b3⟩ := hb2
        obtain ⟨i', z, hi', hz, hzr⟩ := zeroOk_some hb w ok
        rw [hi] at hi'; cases hi'
        have hzl : z.cells.size = u.sz := by have := RepD.len hzr; simpa using this
        have e1 : a.eval l = .int .i64 n := by have := hl.1; simpa using this
        have e2 : a.eval c = .int .i64 m := by have := hc.1; simpa using this
        have hbm : (i.bytes : Int) * m ≤ 281474976710656 := by
          have : (i.bytes : Int) * m ≤ 4096 * 4294967296 := Int.mul_le_mul (by omega) b3 (by omega) (by omega)
          omega
        have hrun := run_make (P := P) w t e i z hu hi hz .i64 .i64 n m b1 b2 hbm (by omega)
        have hrep := Reps.replicate (R := RepD w ok u) hzr n.toNat
        have hm : (List.replicate n.toNat z.cells.toList).flatten ++ (List.replicate (m.toNat - n.toNat) z.cells.toList).flatten = (madeCells z.cells (m.toNat * i.size)).toList := by
          rw [hsz, ← hzl, madeCells_eq _ (by omega), ← List.flatten_append, List.replicate_append_replicate]
          congr 2; omega
        obtain ⟨q1, q2⟩ := h.newArr (id := nb) hN.nb (us := (List.replicate n.toNat z.cells.toList).flatten) (more := (List.replicate (m.toNat - n.toNat) z.cells.toList).flatten) e (0, 0) m.toNat hrep
          (by simp [big]; omega) (by simp; omega) (by rw [hm]; simp [size_madeCells, hsz]) (.inr rfl) .wr rfl
        rw [hm] at q1 q2
        simp only [List.length_replicate, Array.toArray_toList] at q1 q2
        refine Leads.value ?_ q1 q2 (OpFrm.set _ _ _) hr (by first | exact plus_span | exact le_span)
        simp [execOp, ho, e1, e2, hrun]
  · cases hr

/-! ### slices of slices and of texts -/
theorem run_bound (k : IntKind) (n : Int) (y : Nat) (code : BoundsCode) (h0 : 0 ≤ n) (h1 : n ≤ y) : (Instr.sliceBound (.int k n) y code).run P w = .ok n.toNat w := by
  simp [Instr.sliceBound, asIntOf, h0, h1]

/-- A bound as the machine has it. -/
def Bd (b : Option Int) (v : Option Value) : Prop := match b, v with
  | none, none => True
  | some n, some (.int _ m) => n = m
  | _, _ => False

theorem bnd_ok (h : Sim F ι ok N σ a w) {x : Option Operand} {b : Option Int} (hb : bnd σ x = some b) : Bd b (x.map a.eval) := by
  cases x with
  | none => cases hb; trivial
  | some x =>
    simp only [bnd] at hb
    have hx := h.ev x
    split at hb
    · rename_i k n he
      cases hb
      rw [he] at hx
      have : a.eval x = .int k n := by have := hx.1; simpa using this
      simp [Bd, this]
    · cases hb

theorem run_sliceBounds {len cap : Nat} (isSlice : Bool) {lo hi mx : Option Int} {vl vh vm : Option Value} (hl : Bd lo vl) (hh : Bd hi vh) (hm : Bd mx vm) (hne : ¬(hi = none ∧ mx ≠ none)) (_ : len ≤ cap)
    (h0 : 0 ≤ lo.getD 0) (h1 : lo.getD 0 ≤ hi.getD len) (h2 : hi.getD len ≤ mx.getD cap) (h3 : mx.getD cap ≤ cap) :
    (Instr.sliceBounds isSlice len cap vl vh vm).run P w = .ok ((lo.getD 0).toNat, (hi.getD len).toNat, (mx.getD cap).toNat) w := by
  unfold Instr.sliceBounds
  cases mx with
  | none =>
    cases vm with
    | some _ => exact hm.elim
    | none =>
      cases hi with
      | none =>
        cases vh with
        | some _ => exact hh.elim
        | none =>
          cases lo with
          | none =>
            cases vl with
            | some _ => exact hl.elim
            | none => simp
          | some l =>
            cases vl with
            | none => exact hl.elim
            | some vl =>
              cases vl <;> first | exact hl.elim | skip
              rename_i k l'
              cases (show l = l' from hl)
              simp at h0 h1
              simp [run_bound k l len _ h0 h1]
      | some x =>
        cases vh with
        | none => exact hh.elim
        | some vh =>
          cases vh <;> first | exact hh.elim | skip
          rename_i k x'
          cases (show x = x' from hh)
          simp at h0 h1 h2
          have hx0 : 0 ≤ x := by omega
          cases lo with
          | none =>
            cases vl with
            | some _ => exact hl.elim
            | none => simp [run_bound k x cap _ hx0 h2]
          | some l =>
            cases vl with
            | none => exact hl.elim
            | some vl =>
              cases vl <;> first | exact hl.elim | skip
              rename_i k' l'
              cases (show l = l' from hl)
              simp at h0 h1
              simp [run_bound k x cap _ hx0 h2, run_bound k' l x.toNat _ h0 (by omega)]
  | some m =>
    cases vm with
    | none => exact hm.elim
    | some vm =>
      cases vm <;> first | exact hm.elim | skip
      rename_i km m'
      cases (show m = m' from hm)
      cases hi with
      | none => exact absurd ⟨rfl, by simp⟩ hne
      | some x =>
        cases vh with
        | none => exact hh.elim
        | some vh =>
          cases vh <;> first | exact hh.elim | skip
          rename_i k x'
          cases (show x = x' from hh)
          simp at h0 h1 h2 h3
          have hx0 : 0 ≤ x := by omega
          cases lo with
          | none =>
            cases vl with
            | some _ => exact hl.elim
            | none => simp [run_bound km m cap _ (by omega) h3, run_bound k x m.toNat _ hx0 (by omega)]
          | some l =>
            cases vl with
            | none => exact hl.elim
            | some vl =>
              cases vl <;> first | exact hl.elim | skip
              rename_i k' l'
              cases (show l = l' from hl)
              simp at h0 h1
              simp [run_bound km m cap _ (by omega) h3, run_bound k x m.toNat _ hx0 (by omega), run_bound k' l x.toNat _ h0 (by omega)]

theorem sliceAt_eq {t : TypeId} {d : TypeDesc} (hu : P.underlying t = some d) (hd : ∀ n e, d ≠ .array n e) (x : Value) (lo hi mx : Option Value) :
    (Instr.sliceAt t x lo hi mx).run P w = (Instr.slice t x lo hi mx).run P w := by
  unfold Instr.sliceAt
  simp only [Sem.run_bind, run_underlying hu, Result.andThen_ok]

theorem leads_slice (h : Sim F ι ok N σ a w) {nb : Nat} (_ : Fresh N nb) {t : TypeId} {x : Operand} {lo hi mx : Option Operand} (ho : o.op = .slice t x lo hi mx) {K : AV → St → Option R}
    (hr : aSlice P t (σ.ev x) (bnd σ lo) (bnd σ hi) (bnd σ mx) σ K = some r) : Leads P o F (span N nb) a w σ K r := by
  have hx := h.ev x
  unfold aSlice at hr
  split at hr
  · rename_i bl bh bm hbl hbh hbm
    have Bl := bnd_ok h hbl
    have Bh := bnd_ok h hbh
    have Bm := bnd_ok h hbm
    split at hr
    · rename_i s hu hxe
      rw [hxe] at hx
      split at hr
      · dsimp only at hr
        obtain ⟨s0, hs0, hs1, hs2⟩ := hx
        have hs0 : a.eval x = .string s0 := by simpa using hs0
        cases hb : decide (0 ≤ bl.getD 0) && decide (bl.getD 0 ≤ bh.getD (s.length : Int)) && decide (bh.getD (s.length : Int) ≤ (s.length : Int)) with
        | false => rw [hb] at hr; cases hr
        | true =>
          rw [hb] at hr
          simp only [cond_true] at hr
          simp at hb
          obtain ⟨⟨b1, b2⟩, b3⟩ := hb
          have hlen : s.length = s0.size := by rw [← hs1, bytesOf_length]
          have hrun := run_sliceBounds (P := P) (w := w) (len := s0.size) (cap := s0.size) false Bl Bh (mx := none) (vm := none) trivial (by simp) (Nat.le_refl _) b1 (by rw [← hlen]; exact b2) (by rw [← hlen]; simpa using b3) (by simp)
          refine Leads.value (v := .string (s0.extract (bl.getD 0).toNat (bh.getD (s0.size : Int)).toNat)) ?_ h ?_ (OpFrm.refl _) hr (by first | exact plus_span | exact le_span)
          · have : mx.map a.eval = none := by
              cases mx with
              | none => rfl
              | some m => simp [Bd] at Bm
            simp only [execOp, ho, Sem.run_bind, sliceAt_eq hu (by simp), Instr.slice, run_underlying hu, Result.andThen_ok, hs0, this]
            simp [hrun]
          · refine ⟨_, rfl, ?_, ?_⟩
            · rw [← hlen, ← hs1]
              have hsz : ∀ L H : Nat, (s0.extract L H).data.toList = (s0.data.toList.take H).drop L := fun L H => by
                simp [ByteArray.data_extract, List.drop_take, List.extract_eq_take_drop]
              generalize (bh.getD ((bytesOf s0).length : Int)).toNat = H
              simp only [bytesOf, hsz, List.map_drop, List.map_take]
            · simp; omega
      · cases hr
    · rename_i e c hu hxe
      rw [hxe] at hx
      obtain ⟨ok1, h1, l1⟩ := h.freeze1 c
      split at hr
      · cases hr
      · rename_i _ _ hne
        split at hr
        · rename_i e' u he
          obtain ⟨hu', i, hi, hsz, hpos, hby⟩ := elemOf_some he
          rw [hu] at hu'; cases hu'
          split at hr
          · rename_i xs hxs
            dsimp only at hr
            have hd := h1.toDatS hxs (RepC.mono (ext_ok l1) (fun _ _ => rfl) (fun _ h => h) hx)
            cases hb : decide (0 ≤ bl.getD 0) && decide (bl.getD 0 ≤ bh.getD (List.length xs : Int)) && decide (bh.getD (List.length xs : Int) ≤ bm.getD (List.length xs : Int)) && decide (bm.getD (List.length xs : Int) ≤ (List.length xs : Int)) with
            | false => rw [hb] at hr; cases hr
            | true =>
              rw [hb] at hr
              simp only [cond_true] at hr
              simp at hb
              obtain ⟨⟨⟨b1, b2⟩, b3⟩, b4⟩ := hb
              obtain ⟨A, cap, hA, q1, q2, q3⟩ := hd
              have hA : a.eval x = .slice A (List.length xs) cap := by simpa using hA
              have hne' : ¬(bh = none ∧ bm ≠ none) := fun ⟨e1, e2⟩ => by
                cases bm with
                | none => exact e2 rfl
                | some m => exact hne m e1 rfl
              have hm1 : bm.getD (List.length xs : Int) ≤ bm.getD (cap : Int) := by
                cases bm with
                | none => simpa using q1
                | some m => simp
              have hm2 : bm.getD (cap : Int) ≤ cap := by
                cases bm with
                | none => simp
                | some m => simp at b4 ⊢; omega
              have hrun := run_sliceBounds (P := P) (w := w) (len := List.length xs) (cap := cap) true Bl Bh Bm hne' q1 b1 b2 (by omega) hm2
              refine Leads.value (v := .slice (if (bm.getD (cap : Int)).toNat = (bl.getD 0).toNat then A else A.map (·.add ((bl.getD 0).toNat * i.size))) ((bh.getD (List.length xs : Int)).toNat - (bl.getD 0).toNat) ((bm.getD (cap : Int)).toNat - (bl.getD 0).toNat)) ?_ h1 ?_ (OpFrm.freeze1 _ _) hr (by first | exact plus_span | exact le_span)
              · simp only [execOp, ho, Sem.run_bind, sliceAt_eq hu (by simp), Instr.slice, run_underlying hu, Result.andThen_ok, hA]
                simp [hrun, run_sizeOf' hi]
              · have hlen : ((List.take (bh.getD (List.length xs : Int)).toNat xs).drop (bl.getD 0).toNat).length = (bh.getD (List.length xs : Int)).toNat - (bl.getD 0).toNat := by simp; omega
                refine ⟨_, _, by rw [hlen], by rw [hlen]; omega, by rw [hlen]; omega, ?_⟩
                rcases q3 with q3 | ⟨b, oo, rfl, us, q4, q5, q6⟩
                · left; subst q3; simp
                · by_cases hz : (bh.getD (List.length xs : Int)).toNat - (bl.getD 0).toNat = 0
                  · left; exact List.eq_nil_of_length_eq_zero (by rw [hlen]; exact hz)
                  · right
                    have hul := Reps.len (fun x us hr => RepD.len hr) q4
                    rw [if_neg (by omega)]
                    refine ⟨b, oo + (bl.getD 0).toNat * u.sz, by simp [addr_add, hsz], _, Reps.drop (R := fun x us => RepD w ok1 u x us) (fun x us hr => RepD.len hr) (bl.getD 0).toNat (Reps.take (fun x us hr => RepD.len hr) (bh.getD (List.length xs : Int)).toNat q4), fun j v hj => ?_, fun j hj => ?_⟩
                    · rw [List.getElem?_drop, List.getElem?_take] at hj
                      split at hj
                      · rw [Nat.add_assoc]; exact q5 _ _ hj
                      · cases hj
                    · rw [Nat.add_assoc]; refine q6 _ ?_
                      simp at hj; omega
          · cases hr
        · cases hr
    · cases hr
  · cases hr

end
end Go.Abs

/- Abs, part M: what each operation does, VIII: conversions. -/
namespace Go.Abs
section
variable {P : Program} {R : Type} {F : Fr} {ι : Nat → Value} {ok : Nat → Nat → Prop} {N : Nat → Prop} {σ : St} {a : Act} {w : World} {o : Oper} {r : R}

theorem byte_in (b : UInt8) : IntKind.u8.wrap (b.toNat : Int) = b.toNat := by
  have := b.toNat_lt
  rw [in_iff]; simp [IntKind.min, IntKind.max, IntKind.signed, IntKind.bits]; omega

theorem reps_bytes : ∀ (l : List UInt8), Reps (RepD w ok (.int .u8)) (l.map fun b => (b.toNat : Int)) (l.map fun b => Value.int .u8 b.toNat)
  | [] => rfl
  | b :: l => ⟨[.int .u8 b.toNat], _, rfl, ⟨rfl, byte_in b⟩, reps_bytes l⟩

theorem le_grownCap (w : World) (n old : Nat) (e : TypeId) : n ≤ grownCap w n old e := by
  unfold grownCap Question.cut
  exact Nat.le_add_right _ _

/-- Bytes in memory are a text. -/
theorem reps_text : ∀ {xs : List Int} {us : List Value}, Reps (RepD w ok (.int .u8)) xs us → us = xs.map (Value.int .u8) ∧ ∃ l : List UInt8, xs = l.map fun b => (b.toNat : Int)
  | [], us, h => by cases (show us = [] from h); exact ⟨rfl, [], rfl⟩
  | x :: xs, us, ⟨v1, v2, e, h1, h2⟩ => by
    obtain ⟨g1, l, g2⟩ := reps_text h2
    have hx := h1.2
    rw [in_iff] at hx
    simp [IntKind.min, IntKind.max, IntKind.signed, IntKind.bits] at hx
    refine ⟨by rw [e, h1.1, g1]; rfl, UInt8.ofNat x.toNat :: l, ?_⟩
    rw [g2, List.map_cons]
    congr 1
    have : (UInt8.ofNat x.toNat).toNat = x.toNat := by
      rw [UInt8.toNat_ofNat']
      exact Nat.mod_eq_of_lt (by omega)
    omega

theorem listOf_ok (h : Sim F ι ok N σ a w) {u : Ty} {x : AV} {v : Value} {xs : List u.den} (hx : RepAV w ok ι N x v) (hl : listOf σ u x = some xs) : ReadL w ok u xs v := by
  unfold listOf at hl
  split at hl
  · exact h.toDat hl hx
  · cases hl

theorem rep_str {s : ByteArray} {l : List Int} (h : bytesOf s = l) (hl : l.length ≤ big) : RepAV w ok ι N (one .str l) (.string s) := ⟨s, rfl, h, hl⟩

theorem leads_convert (h : Sim F ι ok N σ a w) {nb : Nat} (hN : Fresh N nb) {s d : TypeId} {x : Operand} (ho : o.op = .convert s d x) {K : AV → St → Option R}
    (hr : aConvert P nb s d (σ.ev x) σ K = some r) : Leads P o F (span N nb) a w σ K r := by
  have hx := h.ev x
  unfold aConvert at hr
  split at hr
  · rename_i k0 k k1 n hs hd hxe
    rw [hxe] at hx
    have e1 : a.eval x = .int k1 n := by have := hx.1; simpa using this
    refine Leads.value (v := .int k (k.wrap n)) ?_ h (rep_wrap k n) (OpFrm.refl _) hr (by first | exact plus_span | exact le_span)
    simp [execOp, ho, convert, run_underlying hs, run_underlying hd, e1, Conv.intToInt]
  · rename_i n hs hd hxe
    rw [hxe] at hx
    obtain ⟨s0, e0, e2⟩ := hx
    have e1 : a.eval x = .string s0 := by simpa using e0
    refine Leads.value (v := .string s0) ?_ h (rep_str e2.1 e2.2) (OpFrm.refl _) hr (by first | exact plus_span | exact le_span)
    simp [execOp, ho, convert, run_underlying hs, run_underlying hd, e1]
  · rename_i e n hs hd hxe
    rw [hxe] at hx
    obtain ⟨s0, e0, rfl, e3⟩ := hx
    have e1 : a.eval x = .string s0 := by simpa using e0
    split at hr
    · rename_i he
      have hrun := run_bytes_of_string (P := P) w s d e s0 hs hd he
      have hge := le_grownCap w s0.size 0 e
      have hrow : (bytesRow s0 (grownCap w s0.size 0 e)).toList = s0.data.toList.map (fun b => Value.int .u8 b.toNat) ++ List.replicate (grownCap w s0.size 0 e - s0.size) (.int .u8 0) := by simp [bytesRow]
      have hsz : (bytesRow s0 (grownCap w s0.size 0 e)).size = grownCap w s0.size 0 e := by
        have := congrArg List.length hrow
        simp at this; rw [this]; omega
      have hlen : (bytesOf s0).length = s0.size := bytesOf_length s0
      obtain ⟨q1, q2⟩ := h.drew.newArr (id := nb) hN.nb (us := s0.data.toList.map (fun b => Value.int .u8 b.toNat)) (more := List.replicate (grownCap w s0.size 0 e - s0.size) (.int .u8 0)) e
        (grownCap w s0.size 0 e, grownCap w s0.size 0 e + 1) (grownCap w s0.size 0 e) (u := .int .u8) (xs := bytesOf s0) (reps_bytes _) e3 (by omega)
        (by simp [Ty.sz]; omega) (by simp [Ty.sz]) .wr rfl
      rw [← hrow, hlen] at q1 q2
      simp only [Array.toArray_toList] at q1 q2
      refine Leads.value ?_ q1 q2 (OpFrm.set _ _ _) hr (by first | exact plus_span | exact le_span)
      rw [hsz] at hrun
      simp [execOp, ho, e1, hrun]
    · cases hr
  · rename_i y e hs hd
    split at hr
    · rename_i he
      split at hr
      · rename_i xs hxs
        obtain ⟨A, cap, e1, q1, q2, q3⟩ := listOf_ok h hx hxs
        have hrun0 := run_convert_bytes_string (P := P) w s d e A xs.length cap hs he hd
        rcases q3 with q3 | ⟨b, oo, us, rfl, q4, q5⟩
        · subst q3
          refine Leads.value (v := .string .empty) ?_ h (rep_str (l := []) rfl (by simp [big])) (OpFrm.refl _) hr (by first | exact plus_span | exact le_span)
          simp only [execOp, ho, e1, Sem.run_bind, hrun0]
          cases A with
          | none => simp [Conv.bytesToString]
          | some A =>
            have hl0 : (loadCells A 0).run P w = .ok (([] : List Int).map (Value.int .u8)).toArray w := by simp [loadCells, loadCellsFrom]
            have := run_bytesToString (P := P) w A 0 cap [] hl0
            simp at this
            simp [this]
        · obtain ⟨g1, l, g2⟩ := reps_text q4
          subst g1
          have hl1 := run_loadCells_list (P := P) w ⟨b, oo, none⟩ (xs.map (Value.int .u8)) (fun j v hj => by rw [addr_add]; exact q5 j v hj)
          rw [List.length_map] at hl1
          have hrun1 := run_bytesToString (P := P) w ⟨b, oo, none⟩ xs.length cap xs hl1
          rw [g2, foldl_push_byteCells] at hrun1
          refine Leads.value (v := .string ⟨(ByteArray.empty.data ++ l.toArray)⟩) ?_ h (rep_str (l := xs) ?_ q2) (OpFrm.refl _) hr (by first | exact plus_span | exact le_span)
          · simp only [execOp, ho, e1, Sem.run_bind, hrun0]
            rw [g2, hrun1]
            rfl
          · rw [g2]; show List.map _ (ByteArray.empty.data ++ l.toArray).toList = _; simp
      · cases hr
    · cases hr
  · rename_i e' e t id hs0 hd hxe
    rw [hxe] at hx
    split at hr
    · rename_i u xs mu hsd he hob
      have hsd := Nat.eq_of_beq_eq_true hsd
      subst hsd
      obtain rfl : e' = e := by rw [hs0] at hd; cases hd; rfl
      split at hr
      · cases hr
      · rename_i y0 ys
        cases hm : mu.isSl with
        | false => simp [hm] at hr
        | true =>
        simp only [hm, cond_true] at hr
        obtain ⟨hN', hv, hv2⟩ := hx
        obtain ⟨k1, hO, k3⟩ := h.objs id _ hob
        obtain ⟨A', cap', hV, l1, l2, l3⟩ := hO.sl hm
        rcases l3 with ⟨_, hbad, _⟩ | ⟨b, oo, rfl, c, T, fz, m1, m2, m3, ⟨us, m4, m5⟩, m6, m7⟩
        · cases hbad
        · let fz' : Nat × Nat := if fz.1 == fz.2 then (c.size, c.size + 1) else (min fz.1 c.size, max fz.2 (c.size + 1))
          have hlt : b < w.heap.size := by
            rcases Nat.lt_or_ge b w.heap.size with g | g
            · exact g
            · rw [Array.getElem?_eq_none g] at m1; cases m1
          have hfr : (w.freeze ⟨b, c.size, none⟩ 1).heap[b]? = some (.cells c T fz') := by
            unfold World.freeze
            rw [if_neg (by decide)]
            show (w.heap.modify b _)[b]? = _
            rw [Array.getElem?_modify, if_pos rfl, m1]
            rfl
          have hoth : ∀ b', b' ≠ b → (w.freeze ⟨b, c.size, none⟩ 1).heap[b']? = w.heap[b']? := fun b' hne => by
            unfold World.freeze
            rw [if_neg (by decide)]
            show (w.heap.modify b _)[b']? = _
            rw [Array.getElem?_modify, if_neg (fun e => hne e.symm)]
          have hrest : (w.freeze ⟨b, c.size, none⟩ 1).heap.size = w.heap.size ∧ (w.freeze ⟨b, c.size, none⟩ 1).os = w.os ∧ (w.freeze ⟨b, c.size, none⟩ 1).tape = w.tape ∧ (w.freeze ⟨b, c.size, none⟩ 1).output = w.output := by
            unfold World.freeze
            rw [if_neg (by decide)]
            exact ⟨by simp, rfl, rfl, rfl⟩
          have hf' : FzOk fz' (oo + cap' * u.sz) := by
            have m3 := m3
            show _ ∨ _
            simp only [fz']
            by_cases e : fz.1 = fz.2
            · rw [if_pos (by simpa using e)]; left; exact m3
            · rw [if_neg (by simpa using e)]
              rcases m2 with m2 | m2
              · left; simp only []; omega
              · exact absurd m2 e
          have hcell : ∀ j, (w.freeze ⟨b, c.size, none⟩ 1).cell? ⟨b, j, none⟩ = w.cell? ⟨b, j, none⟩ := fun j => by
            rw [cell_in hfr, cell_in m1]
          have hext : Ext w ok (w.freeze ⟨b, c.size, none⟩ 1) ok := fun b' j hk => ⟨hk, by
            by_cases e : b' = b
            · subst e; exact hcell j
            · exact cell_of_heap (hoth b' e) j⟩
          have hs := h.write (o' := .arr u (y0 :: ys : List u.den) mu) hob (B := b) (by rw [hV]; rfl) hrest.1 hoth hrest.2.1 hrest.2.2.1 hrest.2.2.2 (fun j _ => hcell j)
            (ObjRep.of_sl hm ⟨_, cap', hV, l1, l2, .inr ⟨b, oo, rfl, c, T, fz', hfr, hf', m3, ⟨us, Reps.mono (fun _ _ hc => RepD.ext hext hc) m4, m5⟩, m6, m7⟩⟩)
          have e1 : a.eval x = .slice (some ⟨b, oo, none⟩) (y0 :: ys : List u.den).length cap' := by rw [hv, hV]
          refine Leads.value (av := .val (.one (.own t id))) (v := a.eval x) ?_ hs (show N id ∧ _ from ⟨hN', hv, hv2⟩) (OpFrm.set _ _ _) hr le_span
          have hsh : w.shape? b = some (T, c.size) := by simp [World.shape?, m1]
          simp [execOp, ho, convert, run_underlying hs0, run_underlying he, e1, markStringish, hsh]
    · cases hr
  · cases hr

end
end Go.Abs

/- Abs, part N: what each operation does, IX: append. -/
namespace Go.Abs
section
variable {P : Program} {R : Type} {F : Fr} {ι : Nat → Value} {ok : Nat → Nat → Prop} {N : Nat → Prop} {σ : St} {a : Act} {w : World} {o : Oper} {r : R}

/-- A block that is no object's (any more) is written; more is told of it. -/
theorem Sim.free (h : Sim F ι ok N σ a w) {B : Nat} (hF : F.w0.heap.size ≤ B ∨ B ∈ F.S) (hno : ∀ i p, σ.ob i = some p → blk (ι i) ≠ some B) {w' : World} (hlt : B < w'.heap.size)
    (hsz : w'.heap.size = w.heap.size) (hoth : ∀ b, b ≠ B → w'.heap[b]? = w.heap[b]?) (h1 : w'.os = w.os) (h2 : w'.tape = w.tape) (h3 : w'.output = w.output)
    (hok : ∀ j, ok B j → w'.cell? ⟨B, j, none⟩ = w.cell? ⟨B, j, none⟩) {ok' : Nat → Nat → Prop} (hle : ∀ b j, ok b j → ok' b j) (hot : ∀ b j, b ≠ B → ok' b j → ok b j) : Sim F ι ok' N σ a w' := by
  have hx : Ext w ok w' ok' := fun b j hk => ⟨hle b j hk, by
    by_cases e : b = B
    · subst e; exact hok j hk
    · exact cell_of_heap (hoth b e) j⟩
  refine ⟨fun t => RepAV.mono hx (fun _ _ => rfl) (fun _ h => h) (h.tms t), fun i p hp => ?_, h.apart, fun b j hk => ?_, ?_, h.size, h.defs, h.pins⟩
  · obtain ⟨k1, k2, k3⟩ := h.objs i p hp
    refine ⟨k1, ObjRep.mono hx (fun _ _ => rfl) (fun _ h => h) (fun b hb => ?_) k2, k3⟩
    have hne : b ≠ B := fun e => by subst e; exact hno i p hp hb
    exact ⟨hoth b hne, fun j hj => hot b j hne hj⟩
  · by_cases e : b = B
    · subst e; exact hlt
    · rw [hsz]; exact h.oks b j (hot b j e hk)
  · obtain ⟨k1, k2, k3, k4, k5, k6, k7⟩ := h.keep
    refine ⟨by rw [hsz]; exact k1, fun b hb hs => ?_, by rw [h1]; exact k3, by rw [h2]; exact k4, by rw [h3]; exact k5, fun b j hk => ⟨hle b j (k6 b j hk).1, ?_⟩, fun b j hk => ?_⟩
    · have hne : b ≠ B := fun e => by
        subst e
        rcases hF with hh | hh
        · omega
        · exact hs hh
      rw [hoth b hne]; exact k2 b hb hs
    · rw [(hx b j (k6 b j hk).1).2]; exact (k6 b j hk).2
    · by_cases e : b = B
      · subst e; exact .inr hF
      · exact k7 b j (hot b j e hk)

/-- A slice of our own takes its seat in a block that is nobody's. -/
theorem Sim.seat (h : Sim F ι ok N σ a w) {B : Nat} (hF : F.w0.heap.size ≤ B ∨ B ∈ F.S) (hno : ∀ i p, σ.ob i = some p → blk (ι i) ≠ some B) {id : Nat} (hid : ¬ N id) {u : Ty} {zs : List u.den} {mu : MK} (hmu : mu.isSl = true) {oo cap : Nat}
    {C : Array Value} {T : TypeId} {fz : Nat × Nat} (m1 : w.heap[B]? = some (.cells C T fz)) (m2 : FzOk fz (oo + cap * u.sz)) (m3 : oo + cap * u.sz ≤ C.size) {us : List Value}
    (m4 : Reps (RepD w ok u) zs us) (m5 : ∀ j v, us[j]? = some v → C[oo + j]? = some v) (hl : zs.length ≤ cap) (hb : zs.length ≤ big) (hk : ∀ j, ok B j → mu = .fr ∧ j < oo + zs.length * u.sz) :
    ∃ ok', Sim F (upd ι id (.slice (some ⟨B, oo, none⟩) zs.length cap)) ok' (plus N id) (σ.set id (.arr u zs mu)) a w ∧
      RepAV w ok' (upd ι id (.slice (some ⟨B, oo, none⟩) zs.length cap)) (plus N id) (.val (.one (.own u id))) (.slice (some ⟨B, oo, none⟩) zs.length cap) ∧ ∀ b j, ok b j → ok' b j := by
  have hlt : B < w.heap.size := by
    rcases Nat.lt_or_ge B w.heap.size with h | h
    · exact h
    · rw [Array.getElem?_eq_none h] at m1; cases m1
  have hrep : ∀ (ok' : Nat → Nat → Prop), RepAV w ok' (upd ι id (.slice (some ⟨B, oo, none⟩) zs.length cap)) (plus N id) (.val (.one (.own u id))) (.slice (some ⟨B, oo, none⟩) zs.length cap) :=
    fun _ => ⟨plus_self, (upd_same _ _ _).symm, .inl ⟨_, _, _, rfl⟩⟩
  cases mu with
  | mp _ _ => cases hmu
  | cp _ => cases hmu
  | wr =>
    refine ⟨ok, h.newOb hid (show SlRep _ _ _ _ _ _ from ⟨_, cap, rfl, hl, hb, .inr ⟨B, oo, rfl, C, T, fz, m1, m2, m3, ⟨us, m4, m5⟩, fun _ j hj => ?_, (fun hm => by cases hm)⟩⟩) (fun b hb => ?_), hrep ok, fun _ _ h => h⟩
    · cases (hk j hj).1
    · cases hb; exact ⟨hF, hno⟩
  | fr =>
    have h' := h.free hF hno (w' := w) hlt rfl (fun _ _ => rfl) rfl rfl rfl (fun _ _ => rfl) (ok' := fun b j => ok b j ∨ (b = B ∧ oo ≤ j ∧ j < oo + zs.length * u.sz)) (fun b j hk => .inl hk) (fun b j hne hk => by
      rcases hk with hk | hk
      · exact hk
      · exact absurd hk.1 hne)
    refine ⟨_, h'.newOb hid (show SlRep _ _ _ _ _ _ from ⟨_, cap, rfl, hl, hb, .inr ⟨B, oo, rfl, C, T, fz, m1, m2, m3, ⟨us, Reps.mono (fun _ _ hr => RepD.ext (fun b j hk => ⟨.inl hk, rfl⟩) hr) m4, m5⟩, (fun hm => by cases hm), fun _ => ⟨fun j hj => ?_, fun j hj => .inr ⟨rfl, by omega, by omega⟩⟩⟩⟩) (fun b hb => ?_), hrep _, fun b j hk => .inl hk⟩
    · rcases hj with hj | hj
      · exact (hk j hj).2
      · exact hj.2.2
    · cases hb; exact ⟨hF, hno⟩

/-! ### the machine's append -/
theorem run_append_in {ats : Array TypeId} {ty st xt e : TypeId} {i : TypeInfo} {dx : TypeDesc} (ha : ats.toList = [st, xt]) (hu : P.underlying st = some (.slice e)) (hx : P.underlying xt = some dx) (hd : ∀ k, dx ≠ .int k) (hi : P.info? e = some i)
    {base : Option Addr} {sLen sCap n : Nat} {vx : Value} {news : List Value} (hn : (Builtin.lenOf vx).run P w = .ok n w) (hf : (Builtin.firstCells i.size n vx).run P w = .ok news.toArray w) (hroom : sLen + n ≤ sCap)
    {w' : World} (hs : ∀ A, base = some A → (storeCells (A.add (sLen * i.size)) news).run P w = .ok () w') (hb : base = none → w' = w) :
    (Builtin.append_ ats ty #[.slice base sLen sCap, vx]).run P w = .ok (.slice base (sLen + n) sCap) w' := by
  have a0 : ats[0]? = some st := by rw [← Array.getElem?_toList, ha]; rfl
  have a1 : ats[1]? = some xt := by rw [← Array.getElem?_toList, ha]; rfl
  have hz : (match dx with | .int _ => true | _ => false) = false := by cases dx <;> first | rfl | exact absurd rfl (hd _)
  unfold Builtin.append_
  simp only [a0, a1, Sem.run_bind, run_underlying hu, run_underlying hx, Result.andThen_ok, run_sizeOf' hi, List.getElem?_toArray, List.getElem?_cons_zero, List.getElem?_cons_succ, Sem.run_pure]
  cases dx <;> first | exact absurd rfl (hd _) | skip
  all_goals
    simp [hn, hroom, hf]
    cases base with
    | none => simp [hb rfl]
    | some A => simp [hs A rfl]

end
end Go.Abs

/- Abs, part O: what each operation does, X: append. -/
namespace Go.Abs
section
variable {P : Program} {R : Type} {F : Fr} {ι : Nat → Value} {ok : Nat → Nat → Prop} {N : Nat → Prop} {σ : St} {a : Act} {w : World} {o : Oper} {r : R}

/-- What is put behind, as the machine has it. -/
theorem appended_ok (h : Sim F ι ok N σ a w) {u : Ty} {x : AV} {v : Value} {ys : List u.den} (hx : RepAV w ok ι N x v) (hy : appended σ u x = some ys) :
    ∃ news, Reps (RepD w ok u) ys news ∧ ys.length ≤ big ∧ ∀ (w' : World), w'.heap = w.heap → (Builtin.lenOf v).run P w' = .ok ys.length w' ∧ (Builtin.firstCells u.sz ys.length v).run P w' = .ok news.toArray w' := by
  have base : listOf σ u x = some ys → ∃ news, Reps (RepD w ok u) ys news ∧ ys.length ≤ big ∧ ∀ (w' : World), w'.heap = w.heap → (Builtin.lenOf v).run P w' = .ok ys.length w' ∧ (Builtin.firstCells u.sz ys.length v).run P w' = .ok news.toArray w' := by
    intro hl
    obtain ⟨A, cap, rfl, l1, l2, h3⟩ := listOf_ok h hx hl
    rcases h3 with h3 | ⟨b, oo, us, rfl, h4, h5⟩
    · subst h3
      refine ⟨[], rfl, l2, fun w' hw => ⟨rfl, ?_⟩⟩
      cases A with
      | none => rfl
      | some A => exact run_firstCells_some (P := P) w' u.sz 0 A 0 cap [] (by simp) (fun j v hj => by simp at hj)
    · refine ⟨us, h4, l2, fun w' hw => ⟨rfl, ?_⟩⟩
      refine run_firstCells_some (P := P) w' u.sz ys.length ⟨b, oo, none⟩ ys.length cap us (Reps.len (fun x us hr => RepD.len hr) h4) (fun j v hj => ?_)
      rw [addr_add, cell_of_heap (w := w) (w' := w') (by rw [hw])]
      exact h5 j v hj
  unfold appended at hy
  split at hy
  · rename_i s
    obtain ⟨e1, e2⟩ := Ty.to_some hy
    cases e1
    simp only [cast_eq] at e2
    subst e2
    obtain ⟨s', e, hs, hl⟩ := hx
    cases e
    subst hs
    refine ⟨s'.data.toList.map fun b => Value.int .u8 b.toNat, reps_bytes s'.data.toList, hl, fun w' hw => ⟨?_, ?_⟩⟩
    · simp [Builtin.lenOf, bytesOf]
    · have e1 : (bytesOf s').length = s'.size := by simp [bytesOf]
      rw [e1]
      simp only [Builtin.firstCells]
      have hx : (ByteArray.extract s' 0 s'.size).data = s'.data := by
        rw [ByteArray.data_extract]
        exact Array.extract_size
      rw [hx]
      simp only [Sem.run_pure]
      congr 1
      apply Array.ext'
      simp
  · exact base hy

theorem run_append_grow' {ats : Array TypeId} {ty st xt e : TypeId} {i : TypeInfo} {z : Value} {dx : TypeDesc} (ha : ats.toList = [st, xt]) (hu : P.underlying st = some (.slice e)) (hx : P.underlying xt = some dx) (hd : ∀ k, dx ≠ .int k) (hi : P.info? e = some i) (hz : i.zero = some z)
    {base : Option Addr} {sLen sCap n : Nat} {vx : Value} {olds news : List Value} (hn : (Builtin.lenOf vx).run P w = .ok n w) (hf : (Builtin.firstCells i.size n vx).run P w.drew = .ok news.toArray w.drew)
    (hfo : (Builtin.firstCells i.size sLen (.slice base sLen sCap)).run P w.drew = .ok olds.toArray w.drew)
    (hg : sCap < sLen + n) (h63 : sLen + n ≤ 9223372036854775807) (hfit : Builtin.nextslicecap (sLen + n) sCap * i.bytes ≤ 281474976710656) :
    (Builtin.append_ ats ty #[.slice base sLen sCap, vx]).run P w =
      .ok (.slice (some ⟨w.heap.size, 0, none⟩) (sLen + n) (grownCap w (sLen + n) sCap e))
        (w.drew.alloc (.cells ((olds ++ news) ++ (Builtin.zeroCells z.cells (grownCap w (sLen + n) sCap e - (sLen + n))).toList).toArray e)) := by
  have a0 : ats[0]? = some st := by rw [← Array.getElem?_toList, ha]; rfl
  have a1 : ats[1]? = some xt := by rw [← Array.getElem?_toList, ha]; rfl
  have hn' : ¬ (sLen + n ≤ sCap) := by omega
  have h63' : ¬ (9223372036854775807 < ((sLen : Int) + (n : Int))) := by omega
  have h48' : ¬ (281474976710656 < Builtin.nextslicecap (sLen + n) sCap * i.bytes) := by omega
  unfold Builtin.append_
  simp only [a0, a1, Sem.run_bind, run_underlying hu, run_underlying hx, Result.andThen_ok, run_sizeOf' hi, List.getElem?_toArray, List.getElem?_cons_zero, List.getElem?_cons_succ, Sem.run_pure]
  cases dx <;> first | exact absurd rfl (hd _) | skip
  all_goals
    simp [hn, hn', hf, hfo, typeInfo, zeroValue, hi, hz, h63', h48', Question.forced, newRow, grownCap]
    try (congr 2; apply Array.ext'; simp)

theorem zeroCells_eq (z : Array Value) (n : Nat) : Builtin.zeroCells z n = madeCells z (n * z.size) := rfl

theorem Reps.ones {u : Ty} : ∀ {xs : List u.den} {us : List Value}, Reps (RepD w ok u) xs us → ∀ v ∈ us, v.oneCell' = true
  | [], us, h, v, hv => by cases (show us = [] from h); cases hv
  | x :: r, us, ⟨v1, v2, e, h1, h2⟩, v, hv => by
    subst e
    rcases List.mem_append.1 hv with hv | hv
    · exact RepD.one h1 v hv
    · exact Reps.ones h2 v hv

theorem run_store_in {b o : Nat} {vs : List Value} (h1 : ∀ u ∈ vs, u.oneCell' = true)
    {c : Array Value} {T : TypeId} {fz : Nat × Nat} (hb : w.heap[b]? = some (.cells c T fz)) (hl : o + vs.length ≤ c.size) (hf : ∀ j, o ≤ j → j < o + vs.length → ¬(fz.1 ≤ j ∧ j < fz.2)) :
    (storeCells (⟨b, o, none⟩ : Addr) vs).run P w = .ok () (w.setCells b o vs) := by
  have hst := run_storeCells_cells (P := P) b o vs 0 w (fun j hj => by
      rw [cell_in hb, Nat.add_zero]
      have : o + j < c.size := by omega
      simp [this]) (fun j hj => by
      have hn := hf (o + j) (by omega) (by omega)
      simp only [World.frozen?, hb, Nat.add_zero]
      exact Bool.eq_false_iff.2 (fun hh => hn (by simpa using hh))) h1
  simpa only [Nat.add_zero] using hst

theorem lim_ok {e : TypeId} {i : TypeInfo} (hi : P.info? e = some i) (hby : i.bytes ≤ 4096) : lim P e ≤ 140737488351232 ∧ 2 * lim P e * i.bytes ≤ 281474976710656 := by
  have hb : P.bytesOf e = i.bytes := by simp [Program.bytesOf, hi]
  unfold lim
  rw [hb]
  cases h : Nat.ble i.bytes 1 with
  | true =>
    have := Nat.le_of_ble_eq_true h
    have h2 := Nat.mul_le_mul_left (2 * 140737488351232) this
    simp only [cond_true]
    omega
  | false =>
    have h2 := Nat.mul_le_mul_left (2 * 4294967296) hby
    simp only [cond_false]
    omega

/-- A slice of our own (or none) with more behind. -/
theorem append_core (h : Sim F ι ok N σ a w) {nb : Nat} (hN : ¬ N nb) {u : Ty} {xs ys : List u.den} {mu : MK} {A : Option Addr} {cap : Nat}
    (hl : xs.length ≤ cap) (hbase : (A = none ∧ xs = [] ∧ cap = 0) ∨ ∃ b o, A = some ⟨b, o, none⟩ ∧ ArrAt w ok u xs mu b o cap ∧ (F.w0.heap.size ≤ b ∨ b ∈ F.S) ∧ ∀ i p, σ.ob i = some p → blk (ι i) ≠ some b)
    {vx : Value} {news : List Value} (hy : Reps (RepD w ok u) ys news) (hsrc : ∀ (w' : World), w'.heap = w.heap → (Builtin.lenOf vx).run P w' = .ok ys.length w' ∧ (Builtin.firstCells u.sz ys.length vx).run P w' = .ok news.toArray w')
    {e : TypeId} (hlen : xs.length + ys.length ≤ lim P e) {ats : Array TypeId} {ty st xt : TypeId} {dx : TypeDesc} (ha : ats.toList = [st, xt]) (hx : P.underlying xt = some dx) (hd : ∀ k, dx ≠ .int k) (he : elemOf P st = some (e, u)) (hzero : zeroOk P e u = true)
    (mu' : MK) (hsl : mu'.isSl = true) (hmu : mu' = mu ∨ A = none) :
    ∃ v w' ok', (Builtin.append_ ats ty #[.slice A xs.length cap, vx]).run P w = .ok v w' ∧ Sim F (upd ι nb v) ok' (plus N nb) (σ.set nb (.arr u (xs ++ ys) mu')) a w' ∧ RepAV w' ok' (upd ι nb v) (plus N nb) (.val (.one (.own u nb))) v := by
  obtain ⟨hu, i, hi, hsz, hpos, hby⟩ := elemOf_some he
  obtain ⟨i', z, hi', hz, hzr⟩ := zeroOk_some hzero w ok
  rw [hi] at hi'; cases hi'
  have hzl : z.cells.size = u.sz := by have := RepD.len hzr; simpa using this
  have hnl : news.length = ys.length * u.sz := Reps.len (fun x us hr => RepD.len hr) hy
  obtain ⟨hlim1, hlim2⟩ := lim_ok hi hby
  by_cases hroom : xs.length + ys.length ≤ cap
  · -- in place
    rcases hbase with ⟨rfl, rfl, rfl⟩ | ⟨B, oo, rfl, ⟨C, T, fz, m1, m2, m3, ⟨us, m4, m5⟩, m6, m7⟩, hF, hno⟩
    · have hy0 : ys = [] := by cases ys with | nil => rfl | cons _ _ => simp at hroom
      subst hy0
      have hrun := run_append_in (P := P) (w := w) (w' := w) (ty := ty) (base := none) (sLen := 0) (sCap := 0) ha hu hx hd hi (hsrc w rfl).1 (by rw [hsz]; exact (hsrc w rfl).2) (by simp) (fun A hA => by cases hA) (fun _ => rfl)
      refine ⟨_, w, ok, hrun, h.newOb hN (ObjRep.of_sl hsl ⟨none, 0, rfl, by simp, by simp, .inl ⟨rfl, by simp, rfl⟩⟩) (fun b hb => by cases hb), ⟨plus_self, (upd_same _ _ _).symm, .inl ⟨_, _, _, rfl⟩⟩⟩
    · have hul : us.length = xs.length * u.sz := Reps.len (fun x us hr => RepD.len hr) m4
      have hk1 : (xs.length + ys.length) * u.sz ≤ cap * u.sz := Nat.mul_le_mul_right _ hroom
      rw [Nat.add_mul] at hk1
      have hmu' : mu' = mu := by rcases hmu with h | h <;> first | exact h | cases h
      subst hmu'
      have hst : (storeCells (⟨B, oo + xs.length * u.sz, none⟩ : Addr) news).run P w = .ok () (w.setCells B (oo + xs.length * u.sz) news) :=
        run_store_in (Reps.ones hy) m1 (by omega) (fun j h1 h2 => m2.free j (by omega))
      obtain ⟨c', k1, k2, k3⟩ := setCells_heap B news (oo + xs.length * u.sz) w C T fz m1 (by omega)
      obtain ⟨s1, s2, s3⟩ := setCells_rest B news (oo + xs.length * u.sz) w
      have hget : ∀ j, c'[j]? = if oo + xs.length * u.sz ≤ j ∧ j < oo + xs.length * u.sz + news.length then news[j - (oo + xs.length * u.sz)]? else C[j]? := fun j => by
        rw [← Array.getElem?_toList, k3, splice_get _ _ _ (by simp; omega)]
        simp
      have hkk : ∀ j, ok B j → mu' = .fr ∧ j < oo + xs.length * u.sz := fun j hj => by
        cases hm : mu' with
        | wr => exact absurd hj (m6 hm j)
        | fr => exact ⟨rfl, (m7 hm).1 j hj⟩
        | mp _ _ => rw [hm] at hsl; cases hsl
        | cp _ => rw [hm] at hsl; cases hsl
      have hokc : ∀ j, ok B j → (w.setCells B (oo + xs.length * u.sz) news).cell? ⟨B, j, none⟩ = w.cell? ⟨B, j, none⟩ := fun j hj => by
        rw [cell_in k1, cell_in m1, hget, if_neg]
        have := (hkk j hj).2
        omega
      have hlt : B < w.heap.size := by
        rcases Nat.lt_or_ge B w.heap.size with h | h
        · exact h
        · rw [Array.getElem?_eq_none h] at m1; cases m1
      have hext : Ext w ok (w.setCells B (oo + xs.length * u.sz) news) ok := fun b j hk => ⟨hk, by
        by_cases e : b = B
        · subst e; exact hokc j hk
        · exact cell_of_heap (setCells_heap_other B _ _ w b e) j⟩
      have h' := h.free (w' := w.setCells B (oo + xs.length * u.sz) news) (ok' := ok) hF hno (by rw [setCells_size]; exact hlt) (setCells_size B _ _ w) (fun b hb => setCells_heap_other B _ _ w b hb) s1 s2 s3 hokc (fun _ _ h => h) (fun _ _ _ h => h)
      have hrun := run_append_in (P := P) (w := w) (w' := w.setCells B (oo + xs.length * u.sz) news) (ty := ty) (base := some ⟨B, oo, none⟩) (sLen := xs.length) (sCap := cap) ha hu hx hd hi (hsrc w rfl).1 (by rw [hsz]; exact (hsrc w rfl).2) hroom
        (fun A hA => by cases hA; rw [addr_add, hsz]; exact hst) (fun hb => by cases hb)
      obtain ⟨ok', q1, q2, _⟩ := h'.seat hF hno hN (u := u) (zs := xs ++ ys) (mu := mu') hsl (oo := oo) (cap := cap) k1 m2 (by omega) (us := us ++ news)
        (Reps.append (Reps.mono (fun _ _ hr => RepD.ext hext hr) m4) (Reps.mono (fun _ _ hr => RepD.ext hext hr) hy))
        (fun j v hj => by
          rw [hget]
          rw [List.getElem?_append] at hj
          split at hj
          · rw [if_neg (by omega)]; exact m5 j v hj
          · have : j - us.length < news.length := by
              rcases Nat.lt_or_ge (j - us.length) news.length with h | h
              · exact h
              · rw [List.getElem?_eq_none h] at hj; cases hj
            rw [if_pos (by omega), show oo + j - (oo + xs.length * u.sz) = j - us.length from by omega]; exact hj)
        (by simpa using hroom) (by simp [big]; omega) (fun j hj => ⟨(hkk j hj).1, by have := (hkk j hj).2; simp [Nat.add_mul]; omega⟩)
      rw [List.length_append] at q1 q2
      exact ⟨_, _, ok', hrun, q1, q2⟩
  · -- in a new block
    have hfit : Builtin.nextslicecap (xs.length + ys.length) cap * i.bytes ≤ 281474976710656 := by
      have g1 := nextslicecap_le (need := xs.length + ys.length) (old := cap) (by omega)
      have g2 : Builtin.nextslicecap (xs.length + ys.length) cap * i.bytes ≤ (2 * lim P e) * i.bytes := Nat.mul_le_mul (by omega) (Nat.le_refl _)
      omega
    obtain ⟨olds, ho1, ho2⟩ : ∃ olds, Reps (RepD w ok u) xs olds ∧ (Builtin.firstCells i.size xs.length (.slice A xs.length cap)).run P w.drew = .ok olds.toArray w.drew := by
      rcases hbase with ⟨rfl, rfl, rfl⟩ | ⟨B, oo, rfl, ⟨C, T, fz, m1, m2, m3, ⟨us, m4, m5⟩, m6, m7⟩, hF, hno⟩
      · exact ⟨[], rfl, rfl⟩
      · refine ⟨us, m4, run_firstCells_some (P := P) w.drew i.size xs.length ⟨B, oo, none⟩ xs.length cap us (by rw [hsz]; exact Reps.len (fun x us hr => RepD.len hr) m4) (fun j v hj => ?_)⟩
        rw [addr_add, cell_of_heap (w := w) (w' := w.drew) rfl, cell_in m1]
        exact m5 j v hj
    have hol : olds.length = xs.length * u.sz := Reps.len (fun x us hr => RepD.len hr) ho1
    have hrun := run_append_grow' (P := P) (w := w) (ty := ty) (base := A) (sLen := xs.length) (sCap := cap) ha hu hx hd hi hz (hsrc w rfl).1 (by rw [hsz]; exact (hsrc w.drew rfl).2) ho2 (by omega) (by omega) hfit
    have hcap := le_grownCap w (xs.length + ys.length) cap e
    have hext : ∀ c : Obj, Ext w ok (w.drew.alloc c) ok := fun c b j hk => ⟨hk, cell_of_heap (heap_alloc_lt w.drew c (h.oks b j hk)) j⟩
    have hsize : (((olds ++ news) ++ (Builtin.zeroCells z.cells (grownCap w (xs.length + ys.length) cap e - (xs.length + ys.length))).toList).toArray).size = grownCap w (xs.length + ys.length) cap e * u.sz := by
      rw [zeroCells_eq]
      simp only [List.size_toArray, List.length_append, hol, hnl, Array.length_toList, size_madeCells, hzl]
      rw [← Nat.add_mul, ← Nat.add_mul]
      congr 1; omega
    obtain ⟨ok', q1, q2, _⟩ := (h.drew.alloc0 (.cells ((olds ++ news) ++ (Builtin.zeroCells z.cells (grownCap w (xs.length + ys.length) cap e - (xs.length + ys.length))).toList).toArray e)).seat (B := w.heap.size) (.inl h.keep.size)
      (fun i p hp hb => by have := (h.objs i p hp).2.1.lt hb; omega) hN (u := u) (zs := xs ++ ys) (mu := mu') hsl (oo := 0) (cap := grownCap w (xs.length + ys.length) cap e) (heap_alloc_at w.drew _) (.inr rfl) (by rw [hsize]; omega) (us := olds ++ news)
      (Reps.append (Reps.mono (fun _ _ hr => RepD.ext (hext _) hr) ho1) (Reps.mono (fun _ _ hr => RepD.ext (hext _) hr) hy))
      (fun j v hj => by
        have : j < (olds ++ news).length := by
          rcases Nat.lt_or_ge j (olds ++ news).length with h | h
          · exact h
          · rw [List.getElem?_eq_none h] at hj; cases hj
        rw [Nat.zero_add, List.getElem?_toArray, List.getElem?_append_left this]; exact hj)
      (by simpa using hcap) (by simp [big]; omega) (fun j hj => absurd (h.oks _ _ hj) (by omega))
    rw [List.length_append] at q1 q2
    exact ⟨_, _, ok', hrun, q1, q2⟩
end
end Go.Abs

/- Abs, part P: what each operation does, XI: append; the other ones. -/
namespace Go.Abs
section
variable {P : Program} {R : Type} {F : Fr} {ι : Nat → Value} {ok : Nat → Nat → Prop} {N : Nat → Prop} {σ : St} {a : Act} {w : World} {o : Oper} {r : R}

theorem evs_two {l : Array Operand} {s x : AV} (h : evs σ l.toList = [s, x]) : ∃ y z, l = #[y, z] ∧ σ.ev y = s ∧ σ.ev z = x := by
  obtain ⟨l⟩ := l
  simp only at h
  cases l with
  | nil => simp [evs] at h
  | cons y l =>
    cases l with
    | nil => simp [evs] at h
    | cons z l =>
      cases l with
      | nil => simp [evs] at h; exact ⟨y, z, rfl, h.1, h.2⟩
      | cons _ _ => simp [evs] at h

theorem evs_one {l : Array Operand} {s : AV} (h : evs σ l.toList = [s]) : ∃ y, l = #[y] ∧ σ.ev y = s := by
  obtain ⟨l⟩ := l
  simp only at h
  cases l with
  | nil => simp [evs] at h
  | cons y l =>
    cases l with
    | nil => simp [evs] at h; exact ⟨y, rfl, h⟩
    | cons z l => simp [evs] at h

theorem leads_append (h : Sim F ι ok N σ a w) {nb : Nat} (hN : Fresh N nb) {c : Call} (ho : o.op = .call c) (hc : c.callee = .builtin .append) {s x : AV} (hargs : evs σ c.args.toList = [s, x]) {K : AV → St → Option R}
    (hr : aAppend P nb c.argTypes.toList s x σ K = some r) : Leads P o F (span N nb) a w σ K r := by
  obtain ⟨ys, yx, hl, e1, e2⟩ := evs_two hargs
  have hs := h.ev ys
  have hx := h.ev yx
  rw [e1] at hs
  rw [e2] at hx
  have hexec : ∀ w, (execOp a.eval o).run P w = (do let v ← Builtin.append_ c.argTypes o.type #[a.eval ys, a.eval yx]; pure (Next.value v)).run P w := fun w => by
    simp [execOp, ho, resolve, hc, invoke, builtin, hl]
  unfold aAppend at hr
  split at hr
  · rename_i st xt hat
    split at hr
    · rename_i e u he hint
      obtain ⟨dx, hdx, hd⟩ : ∃ dx, P.underlying xt = some dx ∧ ∀ k, dx ≠ .int k := by
        split at hint
        · cases hint
        · cases hint
        · rename_i h1 h2
          cases hu : P.underlying xt with
          | none => exact absurd hu h2
          | some dx => exact ⟨dx, rfl, fun k e => h1 k (by rw [hu, e])⟩
      cases hz : zeroOk P e u with
      | false => simp [hz] at hr
      | true =>
        simp only [hz, cond_true] at hr
        split at hr
        · rename_i ys' hys
          obtain ⟨news, n1, n2, n3⟩ := appended_ok h hx hys
          split at hr
          · -- nothing of our own
            have hv : a.eval ys = .slice none 0 0 := hs
            cases hb : Nat.ble (List.length ys') (lim P e) with
            | false => simp [hb] at hr
            | true =>
              simp only [hb, cond_true] at hr
              have hb := Nat.le_of_ble_eq_true hb
              obtain ⟨v, w', ok', q1, q2, q3⟩ := append_core h hN.nb (u := u) (xs := []) (mu := .wr) (A := none) (cap := 0) (Nat.le_refl _) (.inl ⟨rfl, rfl, rfl⟩) n1 n3 (by simpa using hb) (ty := o.type) hat hdx hd he hz .wr rfl (.inl rfl)
              refine Leads.value ?_ q2 q3 (OpFrm.set _ _ _) (by simpa using hr) plus_span
              rw [hexec, hv]
              simp only [List.length_nil] at q1
              simp [q1]
          · rename_i u' id
            cases hob : σ.ob id with
            | none => simp [hob] at hr
            | some oo =>
              cases oo with
              | box _ => simp [hob] at hr
              | arr u'' xs mu =>
                simp only [hob] at hr
                cases hsl : mu.isSl with
                | false => simp [hsl] at hr
                | true =>
                cases hb : u''.beq u && u'.beq u with
                | false => simp [hb] at hr
                | true =>
                  simp only [hsl, hb, Bool.and_self, cond_true] at hr
                  split at hr
                  · rename_i xs' hxs
                    obtain ⟨t1, t2⟩ := Ty.to_some hxs
                    cases t1
                    simp only [cast_eq] at t2
                    subst t2
                    cases hb : Nat.ble (List.length xs + List.length ys') (lim P e) with
                    | false => simp [hb] at hr
                    | true =>
                      simp only [hb, cond_true] at hr
                      have hb := Nat.le_of_ble_eq_true hb
                      obtain ⟨g1, hO, g3⟩ := h.objs id _ hob
                      obtain ⟨A, cap, hV, l1, l2, h3⟩ := hO.sl hsl
                      have hv : a.eval ys = .slice A (List.length xs) cap := hs.2.1.trans hV
                      have hk := h.kill id
                      obtain ⟨v, w', ok', q1, q2, q3⟩ := append_core hk hN.nb (u := u) (xs := xs) (mu := mu) (A := A) (cap := cap) l1 (by
                        rcases h3 with h3 | ⟨b, oo, hA, h4⟩
                        · exact .inl h3
                        · refine .inr ⟨b, oo, hA, h4, g3 b (by rw [hV, hA]; rfl), fun i p hp hbi => ?_⟩
                          rw [St.ob_kill] at hp
                          split at hp
                          · cases hp
                          · rename_i hne
                            exact h.apart id i _ p b hob hp hne (by rw [hV, hA]; rfl) hbi) n1 n3 hb (ty := o.type) hat hdx hd he hz mu hsl (.inl rfl)
                      refine Leads.value ?_ q2 q3 ((OpFrm.kill _ _).trans (OpFrm.set _ _ _)) hr plus_span
                      rw [hexec, hv]
                      simp [q1]
                  · cases hr
          · cases hr
        · cases hr
    · cases hr
  · cases hr
end
end Go.Abs

