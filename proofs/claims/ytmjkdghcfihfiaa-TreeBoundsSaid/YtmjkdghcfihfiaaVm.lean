/-
  A small abstract machine over the model's own code: values without memory (a slice is its list); what a call makes itself is owned by it.
-/
import GoSem.Claim
namespace Go.Proofs.Ytmjkdghcfihfiaa.Vm
open Go

/-- A value without memory. A struct is its leaves; a slice its elements, each by its leaves. -/
inductive PV where
  | int (k : IntKind) (n : Int)
  | bool (b : Bool)
  | str (s : List UInt8)
  | sl (es : List (List PV))
  | agg (fs : List PV)
  | fn (f : FuncId) (caps : List PV)
  | iptr (cells : List PV)
  | nilIface
  | nilPtr
  | nilFn
  | nilSlc
  deriving Inhabited

/-- What a slot holds. -/
inductive AV where
  | undef
  | pv (x : PV)
  | nilSl
  | own (id : Nat)
  | part (id lo n : Nat)
  | addr (id i off : Nat)
  | tup (vs : List AV)
  | agg (fs : List AV)
  | clo (f : FuncId) (first caps : List AV)
  deriving Inhabited

inductive Obj where
  | box (cells : List AV)
  | buf (sz : Nat) (es : List (List PV))
  | bld (bs : List UInt8)
  deriving Inhabited

structure St where
  tmps : List (Nat × AV)
  objs : List (Nat × Obj)
  deriving Inhabited

/-- strings.Builder, in this program. -/
def bldTy : TypeId := 105
/-- uint8. -/
def u8Ty : TypeId := 5

/-- What is handed over at a call. -/
inductive TV where
  | pv (x : PV)
  | own (sz : Nat) (es : List (List PV))
  | ptr (cells : List TV)
  | bld (bs : List UInt8)
  deriving Inhabited

/-- How a slice is handed over: lent; for good; lent to be written. -/
inductive Mode where
  | borrow | move | mut | isNil
  deriving DecidableEq, Inhabited

inductive Ex where
  | normal
  | exit (id : Nat)
  | goto (l : Nat)
  | ret
  deriving DecidableEq, Inhabited

/-- What the machine is told besides the program: how parameters are handed over; functions with a contract of their own; the type of strings.Builder; at a loop (by its first region's number): which slots live on, which owned slices are frozen, which nil slices are rows of the call's own (a slot, or a slot that leads to a box and its leaf; the elements' cells); at a region: which owned slices are frozen ahead of it. -/
structure Cx where
  P : Program
  modes : FuncId → List Mode
  ext : FuncId → Option (List TV → Option (List TV × List TV))
  bldT : TypeId
  loops : FuncId → Nat → List Nat × List Nat × List (Nat × Option Nat × Nat)
  pre : FuncId → Nat → List Nat := fun _ _ => []

/-! ### Types -/
section types
variable (P : Program)
def sizeT (t : TypeId) : Nat := match P.info? t with | some i => i.size | none => 0
def bytesT (t : TypeId) : Nat := match P.info? t with | some i => i.bytes | none => 0
def aggT (t : TypeId) : Bool := match P.underlying t with | some (.struct _) => true | some (.array _ _) => true | _ => false
/-- Is it a type of the program? -/
def okT (t : TypeId) : Bool := (P.underlying t).isSome
def boolT (t : TypeId) : Bool := match P.underlying t with | some .bool => true | _ => false
def elemT (t : TypeId) : Option TypeId := match P.underlying t with | some (.slice e) => if okT P e ∧ 0 < sizeT P e then some e else none | _ => none
def ptrT (t : TypeId) : Option TypeId := match P.underlying t with | some (.pointer e) => some e | _ => none
def fieldT (t : TypeId) (f : Nat) : Option Field := match P.underlying t with | some (.struct fs) => fs[f]? | _ => none
/-- Are a struct's fields of types of the program? -/
def fieldsOk (t : TypeId) : Bool := match P.underlying t with | some (.struct fs) => fs.all fun f => okT P f.type | _ => false
def leafTypes : Nat → TypeId → List TypeId
  | 0, t => [t]
  | n + 1, t => match P.underlying t with
    | some (.struct fs) => fs.toList.flatMap fun f => leafTypes n f.type
    | _ => [t]
/-- The cells of a type's zero value. -/
def zeroV (t : TypeId) : Option (List Value) := match P.info? t with
  | some i => match i.zero with
    | some v => if v.cells.size = i.size then some v.cells.toList else none
    | none => none
  | none => none
/-- Does no value of this type lead to memory? -/
def flatLeaf (t : TypeId) : Bool := match P.underlying t with
  | some (.int _) | some .bool | some .string | some (.interface _) => true
  | _ => false
def flatT (t : TypeId) : Bool := (leafTypes P 8 t).all (flatLeaf P)
end types

/-! ### Slots and objects -/
def lkp {α : Type} (n : Nat) : List (Nat × α) → Option α
  | [] => none
  | (m, a) :: r => if n = m then some a else lkp n r
def del {α : Type} (n : Nat) : List (Nat × α) → List (Nat × α)
  | [] => []
  | (m, a) :: r => if n = m then del n r else (m, a) :: del n r
/-- Numbers of objects: what a destination makes (even); what a parameter leads to (odd); what a leaf of an object leads to. -/
def dstId (d : Nat) : Nat := 2 * d
def parId (d : Nat) : Nat := 2 * d + 1
def cellId (id j : Nat) : Nat := 2 * ((id + 1) * 1000 + j)
def innerId (id j : Nat) : Nat := 2 * ((id + 1) * 1000 + j) + 1

mutual
def AV.sub (g : Nat → Option Nat) : AV → AV
  | .own i => match g i with | some j => .own j | none => .undef
  | .part i k o => match g i with | some j => .part j k o | none => .undef
  | .nilSl => .nilSl
  | .addr i k o => match g i with | some j => .addr j k o | none => .undef
  | .tup vs => .tup (AV.subL g vs)
  | .agg vs => .agg (AV.subL g vs)
  | .clo f a b => .clo f (AV.subL g a) (AV.subL g b)
  | .undef => .undef
  | .pv x => .pv x
def AV.subL (g : Nat → Option Nat) : List AV → List AV
  | [] => []
  | v :: r => AV.sub g v :: AV.subL g r
end

mutual
def AV.frz (id : Nat) (es : List (List PV)) : AV → AV
  | .own i => if i = id then .pv (.sl es) else .own i
  | .part i lo n => if i = id then .pv (.sl ((es.drop lo).take n)) else .part i lo n
  | .nilSl => .nilSl
  | .addr i k o => if i = id then .undef else .addr i k o
  | .tup vs => .tup (AV.frzL id es vs)
  | .agg vs => .agg (AV.frzL id es vs)
  | .clo f a b => .clo f (AV.frzL id es a) (AV.frzL id es b)
  | .undef => .undef
  | .pv y => .pv y
def AV.frzL (id : Nat) (es : List (List PV)) : List AV → List AV
  | [] => []
  | v :: r => AV.frz id es v :: AV.frzL id es r
end

mutual
def AV.frzBox (id : Nat) (cs : List PV) : AV → AV
  | .own i => if i = id then .undef else .own i
  | .part i lo n => if i = id then .undef else .part i lo n
  | .nilSl => .nilSl
  | .addr i k o => if i = id then (if k = 0 then .pv (.iptr (cs.drop o)) else .undef) else .addr i k o
  | .tup vs => .tup (AV.frzBoxL id cs vs)
  | .agg vs => .agg (AV.frzBoxL id cs vs)
  | .clo f a b => .clo f (AV.frzBoxL id cs a) (AV.frzBoxL id cs b)
  | .undef => .undef
  | .pv y => .pv y
def AV.frzBoxL (id : Nat) (cs : List PV) : List AV → List AV
  | [] => []
  | v :: r => AV.frzBox id cs v :: AV.frzBoxL id cs r
end

def Obj.map (f : AV → AV) : Obj → Obj
  | .box cs => .box (cs.map f)
  | .buf s es => .buf s es
  | .bld bs => .bld bs

namespace St
def get (st : St) (t : Nat) : AV := match lkp t st.tmps with | some v => v | none => .undef
def obj (st : St) (id : Nat) : Option Obj := lkp id st.objs
def map (f : AV → AV) (st : St) : St :=
  ⟨st.tmps.map fun p => (p.1, f p.2), st.objs.map fun p => (p.1, p.2.map f)⟩
/-- All that leads to an object is forgotten, and it. -/
def kill (id : Nat) (st : St) : St :=
  let s := st.map (AV.sub fun i => if i = id then none else some i)
  ⟨s.tmps, del id s.objs⟩
/-- An object gets another number, that is none's. -/
def ren (a b : Nat) (st : St) : Option St :=
  match lkp b st.objs with
  | some _ => none
  | none =>
    let s := st.map (AV.sub fun i => if i = a then some b else some i)
    some ⟨s.tmps, s.objs.map fun p => if p.1 = a then (b, p.2) else p⟩
/-- An object's content is another one. -/
def upd (id : Nat) (o : Obj) (st : St) : St := ⟨st.tmps, (id, o) :: del id st.objs⟩
def put (t : Nat) (v : AV) (st : St) : St := ⟨(t, v) :: st.tmps, st.objs⟩
/-- New objects, under numbers that are none's. -/
def add : List (Nat × Obj) → St → Option St
  | [], st => some st
  | (id, o) :: r, st => match lkp id st.objs with
    | some _ => none
    | none => add r ⟨st.tmps, (id, o) :: st.objs⟩
/-- An owned slice is turned to a plain value: nobody writes it any more. -/
def freeze (id : Nat) (st : St) : Option St :=
  match st.obj id with
  | some (.buf _ es) => let s := st.map (AV.frz id es); some ⟨s.tmps, del id s.objs⟩
  | _ => none
/-- So is a box of plain leaves. -/
def freezeBox (id : Nat) (cs : List PV) (st : St) : St :=
  let s := st.map (AV.frzBox id cs); ⟨s.tmps, del id s.objs⟩
end St

/-- What an operation that only reads sees. -/
structure View where
  get : Nat → AV
  obj : Nat → Option Obj
def St.view (st : St) : View := ⟨st.get, st.obj⟩

/-! ### Values -/
def pvs : List AV → Option (List PV)
  | [] => some []
  | .nilSl :: r => match pvs r with | some l => some (.sl [] :: l) | none => none
  | .pv x :: r => match pvs r with | some l => some (x :: l) | none => none
  | _ :: _ => none
def ownIds : List AV → List Nat
  | [] => []
  | .own i :: r => i :: ownIds r
  | .part i _ _ :: r => i :: ownIds r
  | _ :: r => ownIds r
def freezeAll : List Nat → St → Option St
  | [], st => some st
  | i :: r, st => match st.obj i with
    | some (.buf _ _) => match st.freeze i with | some s => freezeAll r s | none => none
    | some (.box cs) => match pvs cs with | some l => freezeAll r (st.freezeBox i l) | none => none
    | some (.bld _) => none
    | none => freezeAll r st
def litPV : Value → Option PV
  | .int k n => some (.int k n)
  | .bool b => some (.bool b)
  | .string s => some (.str s.data.toList)
  | .slice none 0 0 => some (.sl [])
  | .nilIface => some .nilIface
  | .pointer none => some .nilPtr
  | .nilFunc => some .nilFn
  | _ => none
def litLeaf (v : Value) : Option AV :=
  match v with
  | .slice none 0 0 => some .nilSl
  | v => match litPV v with | some x => some (.pv x) | none => none
def litLeaves : List Value → Option (List AV)
  | [] => some []
  | v :: r => match litLeaf v, litLeaves r with | some x, some l => some (x :: l) | _, _ => none
def litPVs : List Value → Option (List PV)
  | [] => some []
  | v :: r => match litPV v, litPVs r with | some x, some l => some (x :: l) | _, _ => none
def litAV : Value → Option AV
  | .agg cs => match litPVs cs.toList with | some l => some (.pv (.agg l)) | none => none
  | .slice none 0 0 => some .nilSl
  | v => match litPV v with | some x => some (.pv x) | none => none
def View.eval (st : View) : Operand → Option AV
  | .tmp t => some (st.get t)
  | .const v => litAV v
  | .func f => some (.pv (.fn f []))
  | .global _ => none
/-- The leaves of a slot's value. -/
def leaves : AV → List AV
  | .pv (.agg fs) => fs.map .pv
  | .agg fs => fs
  | v => [v]
/-- Leaves that are all plain. -/
def pvs1 : List AV → Option (List PV)
  | [] => some []
  | .pv x :: r => match pvs1 r with | some l => some (x :: l) | none => none
  | _ :: _ => none
def ofLeaves (agg : Bool) (l : List AV) : AV :=
  if agg then (match pvs1 l with | some xs => .pv (.agg xs) | none => .agg l)
  else match l with | [v] => v | _ => .undef
/-- May a value be laid into memory? -/
def AV.fit : AV → Bool
  | .undef => false
  | .tup _ => false
  | _ => true
def ofCells (agg : Bool) (l : List PV) : Option AV :=
  if agg then some (.pv (.agg l)) else match l with | [x] => some (.pv x) | _ => none
def setFrom {α : Type} : Nat → List α → List α → List α
  | 0, new, l => new ++ l.drop new.length
  | n + 1, new, a :: l => a :: setFrom n new l
  | _ + 1, _, [] => []

def i64 (n : Int) : AV := .pv (.int .i64 n)

/-- Bit by bit. -/
abbrev iand (k : IntKind) (a b : Int) : Int := k.wrap (BitVec.ofInt k.bits a &&& BitVec.ofInt k.bits b).toNat
abbrev ior (k : IntKind) (a b : Int) : Int := k.wrap (BitVec.ofInt k.bits a ||| BitVec.ofInt k.bits b).toNat
abbrev ixor (k : IntKind) (a b : Int) : Int := k.wrap (BitVec.ofInt k.bits a ^^^ BitVec.ofInt k.bits b).toNat

def intOp (op : BinOp) (k : IntKind) (a b : Int) : Option PV :=
  match op with
  | .add => some (.int k (k.wrap (a + b)))
  | .sub => some (.int k (k.wrap (a - b)))
  | .mul => some (.int k (k.wrap (a * b)))
  | .quo => if b = 0 then none else some (.int k (k.wrap (a.tdiv b)))
  | .rem => if b = 0 then none else some (.int k (a.tmod b))
  | .and => some (.int k (iand k a b))
  | .or => some (.int k (ior k a b))
  | .xor => some (.int k (ixor k a b))
  | .andNot => some (.int k (k.wrap (BitVec.ofInt k.bits a &&& ~~~ BitVec.ofInt k.bits b).toNat))
  | .eql => some (.bool (a == b))
  | .neq => some (.bool (a != b))
  | .lss => some (.bool (decide (a < b)))
  | .leq => some (.bool (decide (a ≤ b)))
  | .gtr => some (.bool (decide (a > b)))
  | .geq => some (.bool (decide (a ≥ b)))
  | _ => none
def shiftOp (op : BinOp) (k : IntKind) (a b : Int) : Option PV :=
  if b < 0 then none else
  match op with
  | .shl => some (.int k (k.wrap (a * 2 ^ min b.toNat k.bits)))
  | .shr => some (.int k (a.fdiv (2 ^ min b.toNat k.bits)))
  | _ => none
def maxInt : Nat := 9223372036854775807
def strOp (op : BinOp) (a b : List UInt8) : Option PV :=
  match op with
  | .add => if a.length + b.length ≤ maxInt then some (.str (a ++ b)) else none
  | .eql => some (.bool (a == b))
  | .neq => some (.bool (!(a == b)))
  | .lss => some (.bool (Op.bytesLess a b))
  | .leq => some (.bool (Op.bytesLess a b || a == b))
  | .gtr => some (.bool (!(Op.bytesLess a b || a == b)))
  | .geq => some (.bool (!(Op.bytesLess a b)))
  | _ => none
def eqFs (P : Program) (g : TypeId → List PV → List PV → Option Bool) (xs ys : List PV) : List Field → Option Bool
  | [] => some true
  | f :: r => if f.name = "_" ∨ okT P f.type = false then none else
    match g f.type ((xs.drop f.offset).take (sizeT P f.type)) ((ys.drop f.offset).take (sizeT P f.type)), eqFs P g xs ys r with
    | some a, some b => some (a && b)
    | _, _ => none
/-- Values of a type, held against each other leaf by leaf. -/
def eqV (P : Program) : Nat → TypeId → List PV → List PV → Option Bool
  | 0, _, _, _ => none
  | n + 1, t, xs, ys => match P.underlying t with
    | some (.struct fs) => if P.stoodInHeld t then none else eqFs P (eqV P n) xs ys fs.toList
    | some (.int _) => match xs, ys with | [.int k a], [.int k' b] => if k = k' then some (a == b) else none | _, _ => none
    | some .bool => match xs, ys with | [.bool a], [.bool b] => some (a == b) | _, _ => none
    | some .string => match xs, ys with | [.str a], [.str b] => some (a == b) | _, _ => none
    | _ => none
def vbin (P : Program) (op : BinOp) (t : TypeId) (x y : AV) : Option PV :=
  match x, y with
  | .pv (.int k a), .pv (.int k' b) => match op with
    | .shl => shiftOp .shl k a b
    | .shr => shiftOp .shr k a b
    | op => if k = k' then intOp op k a b else none
  | .pv (.str a), .pv (.str b) => strOp op a b
  | .pv (.bool a), .pv (.bool b) => if boolT P t then (match op with
    | .eql => some (.bool (a == b))
    | .neq => some (.bool (!(a == b)))
    | _ => none) else none
  | .pv (.agg a), .pv (.agg b) => if P.eqGuardType P.depth t = false ∧ aggT P t then (match eqV P 8 t a b with
      | some r => match op with
        | .eql => some (.bool r)
        | .neq => some (.bool (!r))
        | _ => none
      | none => none) else none
  | .addr _ _ _, .pv .nilPtr => if (ptrT P t).isSome then (match op with
    | .eql => some (.bool false)
    | .neq => some (.bool true)
    | _ => none) else none
  | .pv .nilPtr, .pv .nilPtr => if (ptrT P t).isSome then (match op with
    | .eql => some (.bool true)
    | .neq => some (.bool false)
    | _ => none) else none
  | _, _ => none
def vun (op : UnOp) (x : AV) : Option PV :=
  match op, x with
  | .neg, .pv (.int k n) => intOp .sub k 0 n
  | .xor, .pv (.int k n) => intOp .xor k (if k.signed then -1 else k.max) n
  | .not, .pv (.bool b) => some (.bool (!b))
  | _, _ => none

/-! ### Handing over -/
/-- What an operation makes of the objects that are there: leaves of a box; an owned slice's elements; a Builder's bytes. -/
inductive Patch where
  | box (id off : Nat) (cells : List AV)
  | buf (id sz : Nat) (es : List (List PV))
  | bld (id : Nat) (bs : List UInt8)
def Patch.id : Patch → Nat
  | .box id _ _ => id
  | .buf id _ _ => id
  | .bld id _ => id
def Patch.on : Patch → Option Obj → Option Obj
  | .box _ off cells, some (.box cs) => if off + cells.length ≤ cs.length then some (.box (setFrom off cells cs)) else none
  | .buf _ sz es, some (.buf sz0 es0) => if sz = sz0 ∧ es.length = es0.length then some (.buf sz es) else none
  | .bld _ bs, some (.bld _) => some (.bld bs)
  | _, _ => none

/-- What an operation makes: the value; new objects; what is written; rows that are joined to (gone, but for who holds them already); objects that are gone; owned slices that are frozen. -/
structure Made where
  v : AV
  os : List (Nat × Obj)
  ws : List Patch
  use : List Nat
  dels : List Nat
  frz : List Nat
def Made.only (v : AV) (os : List (Nat × Obj)) : Made := ⟨v, os, [], [], [], []⟩

mutual
/-- Does a value lead to no memory? -/
def flatPV : PV → Bool
  | .int _ _ => true
  | .bool _ => true
  | .str _ => true
  | .nilIface => true
  | .nilPtr => true
  | .nilFn => true
  | .nilSlc => true
  | .agg fs => flatPVs fs
  | .sl _ => false
  | .fn _ caps => flatPVs caps
  | .iptr _ => false
def flatPVs : List PV → Bool
  | [] => true
  | x :: r => flatPV x && flatPVs r
end
mutual
/-- Does what came back lead to no memory that was there? -/
def flatTV : TV → Bool
  | .pv x => flatPV x
  | .own _ es => es.all flatPVs
  | .bld _ => true
  | .ptr cells => flatTVs cells
def flatTVs : List TV → Bool
  | [] => true
  | v :: r => flatTV v && flatTVs r
end

/-- Where what comes back goes: leaves of a box (with how they went); an owned slice; a Builder. -/
inductive Back where
  | box (id off : Nat) (leaf : List (Option Back))
  | own (id : Nat)
  | nilSl
  | bld (id : Nat)

mutual
/-- The objects that come back. -/
def Back.ids : Back → List Nat
  | .box id _ leaf => id :: Back.idsO leaf
  | .own id => [id]
  | .nilSl => []
  | .bld id => [id]
def Back.idsO : List (Option Back) → List Nat
  | [] => []
  | none :: r => Back.idsO r
  | some b :: r => Back.ids b ++ Back.idsO r
end
mutual
/-- The Builders that come back. -/
def Back.blds : Back → List Nat
  | .box _ _ leaf => Back.bldsO leaf
  | .own _ => []
  | .nilSl => []
  | .bld id => [id]
def Back.bldsO : List (Option Back) → List Nat
  | [] => []
  | none :: r => Back.bldsO r
  | some b :: r => Back.blds b ++ Back.bldsO r
end
def Back.bldsL (l : List Back) : List Nat := l.flatMap Back.blds
def Back.idsL (l : List Back) : List Nat := l.flatMap Back.ids
def nodup : List Nat → Bool
  | [] => true
  | a :: r => !r.contains a && nodup r
def freeOf : List Nat → List Nat → Bool
  | [], _ => true
  | a :: r, l => !l.contains a && freeOf r l

/-- Leaves of a box, handed over with it; which rows go with them; how they come back. -/
def leafTVs (g : AV → Option (TV × List Nat × Option Back)) : List AV → Option (List TV × List Nat × List (Option Back))
  | [] => some ([], [], [])
  | v :: r => match g v, leafTVs g r with
    | some (x, i, b), some (l, is, bs) => some (x :: l, i ++ is, b :: bs)
    | _, _ => none
def leafTV (st : View) : Nat → AV → Option (TV × List Nat × Option Back)
  | 0, v => match v with
    | .pv x => some (.pv x, [], none)
    | .nilSl => some (.pv (.sl []), [], none)
    | .own id => match st.obj id with | some (.buf sz es) => some (.own sz es, [id], none) | _ => none
    | _ => none
  | n + 1, v => match v with
    | .pv x => some (.pv x, [], none)
    | .nilSl => some (.pv (.sl []), [], none)
    | .own id => match st.obj id with | some (.buf sz es) => some (.own sz es, [id], none) | _ => none
    | .addr id 0 0 => match st.obj id with
      | some (.box cs) => match leafTVs (leafTV st n) cs with | some (l, ids, bs) => some (.ptr l, ids, some (.box id 0 bs)) | none => none
      | some (.bld bs) => some (.bld bs, [], some (.bld id))
      | _ => none
    | _ => none

def oneLeaf : PV → Bool
  | .agg _ => false
  | _ => true
/-- A plain value, or an owned slice, lent. -/
def lentTV (st : View) : AV → Option (TV × List Nat)
  | .pv x => some (.pv x, [])
  | .nilSl => some (.pv (.sl []), [])
  | .own id => match st.obj id with | some (.buf _ es) => some (.pv (.sl es), [id]) | _ => none
  | .part id lo n => match st.obj id with | some (.buf _ es) => some (.pv (.sl ((es.drop lo).take n)), [id]) | _ => none
  | .agg fs => match pvs fs with | some l => some (.pv (.agg l), []) | none => none
  | .clo f [] caps => match pvs caps with | some l => if l.all oneLeaf then some (.pv (.fn f l), []) else none | none => none
  | _ => none

/-- Arguments, handed over: values; rows that go with them; how they come back; rows that are lent. -/
structure Given where
  vs : List TV
  dels : List Nat
  bs : List Back
  lent : List Nat
def argTV (P : Program) (m : Mode) (t : TypeId) (st : View) (a : AV) : Option Given :=
  match a with
  | .addr id i off => if i = 0 then (match st.obj id with
    | some (.box cs) => match ptrT P t with
      | some e => if off + sizeT P e ≤ cs.length then
          (match leafTVs (leafTV st 4) ((cs.drop off).take (sizeT P e)) with
          | some (l, ids, bs) => some ⟨[.ptr l], ids, [.box id off bs], []⟩
          | none => none) else none
      | none => none
    | some (.bld bs) => if off = 0 then some ⟨[.bld bs], [], [.bld id], []⟩ else none
    | _ => none) else none
  | .nilSl => match m, elemT P t with
    | .move, some e => some ⟨[.own (sizeT P e) []], [], [], []⟩
    | .mut, some e => some ⟨[.own (sizeT P e) []], [], [.nilSl], []⟩
    | .borrow, _ => some ⟨[.pv (.sl [])], [], [], []⟩
    | .isNil, _ => some ⟨[.pv .nilSlc], [], [], []⟩
    | _, _ => none
  | .own id => match m, st.obj id with
    | .move, some (.buf sz es) => some ⟨[.own sz es], [id], [], []⟩
    | .mut, some (.buf sz es) => some ⟨[.own sz es], [], [.own id], []⟩
    | .borrow, some (.buf _ es) => some ⟨[.pv (.sl es)], [], [], [id]⟩
    | _, _ => none
  | v => match lentTV st v with
    | some (x, l) => some ⟨[x], [], [], l⟩
    | none => none
def argsTV (P : Program) (st : View) : List Mode → List TypeId → List AV → Option Given
  | _, _, [] => some ⟨[], [], [], []⟩
  | ms, ts, a :: as => match argTV P (ms.headD .borrow) (ts.headD 0) st a, argsTV P st ms.tail ts.tail as with
    | some g, some h => some ⟨g.vs ++ h.vs, g.dels ++ h.dels, g.bs ++ h.bs, g.lent ++ h.lent⟩
    | _, _ => none

mutual
/-- What is handed over, under a number: the slot's value, the objects. -/
def place (g : Nat → Nat → Nat) (id : Nat) : TV → AV × List (Nat × Obj)
  | .pv x => (.pv x, [])
  | .own sz es => (.own id, [(id, .buf sz es)])
  | .bld bs => (.addr id 0 0, [(id, .bld bs)])
  | .ptr cells => let r := places g id 0 cells; (.addr id 0 0, (id, .box r.1) :: r.2)
def places (g : Nat → Nat → Nat) (id j : Nat) : List TV → List AV × List (Nat × Obj)
  | [] => ([], [])
  | v :: r => let a := place g (g id j) v; let b := places g id (j + 1) r; (a.1 :: b.1, a.2 ++ b.2)
end

mutual
/-- What came back of a leaf: pointers are what they were. -/
def backLeaf (id j : Nat) : Option Back → TV → Option (AV × List Patch × List (Nat × Obj))
  | some (.box i off bs), .ptr cells => match backLeaves i off bs cells with
    | some (l, ps, os) => some (.addr i 0 0, ps ++ [.box i off l], os)
    | none => none
  | some (.bld i), .bld s => some (.addr i 0 0, [.bld i s], [])
  | none, .pv x => some (.pv x, [], [])
  | none, .own sz es => some (.own (cellId id j), [], [(cellId id j, .buf sz es)])
  | _, _ => none
def backLeaves (id j : Nat) : List (Option Back) → List TV → Option (List AV × List Patch × List (Nat × Obj))
  | [], [] => some ([], [], [])
  | b :: bs, v :: vs => match backLeaf id j b v, backLeaves id (j + 1) bs vs with
    | some (a, p, o), some (l, ps, os) => some (a :: l, p ++ ps, o ++ os)
    | _, _ => none
  | _, _ => none
end
def backTV : List Back → List TV → Option (List Patch × List (Nat × Obj))
  | [], [] => some ([], [])
  | .box id off bs :: r, .ptr cells :: vs => match backLeaves id off bs cells, backTV r vs with
    | some (l, ps, os), some (qs, rs) => some (ps ++ .box id off l :: qs, os ++ rs)
    | _, _ => none
  | .bld id :: r, .bld s :: vs => match backTV r vs with | some (qs, rs) => some (.bld id s :: qs, rs) | none => none
  | .nilSl :: r, .own _ [] :: vs => backTV r vs
  | .own id :: r, .own sz es :: vs => match backTV r vs with | some (qs, rs) => some (.buf id sz es :: qs, rs) | none => none
  | _, _ => none

/-- Results, at a destination. -/
def resTV (d : Nat) : List TV → AV × List (Nat × Obj)
  | [v] => place cellId (dstId d) v
  | vs => let r := places cellId (dstId d) 0 vs; (.tup r.1, r.2)

/-! ### Operations -/
def asInt : AV → Option Int
  | .pv (.int _ n) => some n
  | _ => none
def asList (st : View) : AV → Option (List (List PV))
  | .pv (.sl es) => some es
  | .nilSl => some []
  | .own id => match st.obj id with | some (.buf _ es) => some es | _ => none
  | .part id lo n => match st.obj id with | some (.buf _ es) => some ((es.drop lo).take n) | _ => none
  | _ => none

/-- Zero leaves in memory: an empty slice is one of its own. -/
def zeroBox (P : Program) (id : Nat) : Nat → List Value → List TypeId → Option (List AV × List (Nat × Obj))
  | _, [], _ => some ([], [])
  | j, v :: vs, ts => match litPV v, zeroBox P id (j + 1) vs ts.tail with
    | some (.sl _), some (l, os) => match elemT P (ts.headD 0) with
      | some e => some (.own (cellId id j) :: l, (cellId id j, .buf (sizeT P e) []) :: os)
      | none => none
    | some x, some (l, os) => some (.pv x :: l, os)
    | _, _ => none

/-- Have all elements this many leaves? -/
def rowOk (sz : Nat) (es : List (List PV)) : Bool := es.all fun c => c.length == sz
def u8s (s : List UInt8) : List (List PV) := s.map fun b => [.int .u8 b.toNat]
def ofU8s (es : List (List PV)) : List UInt8 := es.map fun c => match c with | [.int .u8 n] => UInt8.ofNat n.toNat | _ => 0

/-- Are all elements bytes? -/
def u8Row (es : List (List PV)) : Bool := es.all fun c => match c with | [.int .u8 _] => true | _ => false

def vconv (P : Program) (d : Nat) (src dst : TypeId) (x : AV) (st : View) : Option (AV × List (Nat × Obj)) :=
  match P.underlying dst with
  | some (.int k) => match P.underlying src, x with
    | some (.int _), .pv (.int _ n) => some (.pv (.int k (k.wrap n)), [])
    | _, _ => none
  | some .string => match P.underlying src with
    | some .string => match x with | .pv (.str s) => some (.pv (.str s), []) | _ => none
    | some (.slice e) => match P.underlying e, asList st x with
      | some (.int .u8), some es => if u8Row es then some (.pv (.str (ofU8s es)), []) else none
      | _, _ => none
    | _ => none
  | some (.slice e) => match P.underlying src, x, P.underlying e with
    | some .string, .pv (.str s), some (.int .u8) => if sizeT P e = 1 then some (.own (dstId d), [(dstId d, .buf 1 (u8s s))]) else none
    | _, _, _ => none
  | _ => none

def sliceOf (lo hi : Option AV) (len : Nat) : Option (Nat × Nat) :=
  match (match hi with | none => some (Int.ofNat len) | some h => asInt h), (match lo with | none => some 0 | some l => asInt l) with
  | some h, some l => if 0 ≤ l ∧ l ≤ h ∧ h ≤ Int.ofNat len then some (l.toNat, h.toNat) else none
  | _, _ => none

def evalAll (st : View) : List Operand → Option (List AV)
  | [] => some []
  | o :: r => match st.eval o, evalAll st r with | some v, some l => some (v :: l) | _, _ => none
def evalOpt (st : View) : Option Operand → Option (Option AV)
  | none => some none
  | some o => match st.eval o with | some v => some (some v) | none => none

def room : Nat := 140737488355328

def minmax1 (mx : Bool) (k : IntKind) : Int → List AV → Option Int
  | a, [] => some a
  | a, .pv (.int _ b) :: r => minmax1 mx k (if mx then (if b > a then b else a) else (if b < a then b else a)) r
  | _, _ => none
def minmax (mx : Bool) : List AV → Option PV
  | .pv (.int k a) :: r => match minmax1 mx k a r with | some n => some (.int k n) | none => none
  | _ => none

def buildParts (st : View) : List (Nat × Operand) → Option (List (Nat × AV))
  | [] => some []
  | (i, o) :: r => match st.eval o, buildParts st r with | some v, some l => some ((i, v) :: l) | _, _ => none
def setField (P : Program) (t : TypeId) (cells : List AV) : List (Nat × AV) → Option (List AV)
  | [] => some cells
  | (i, v) :: r => match fieldT P t i with
    | some f => if v.fit ∧ (leaves v).length = sizeT P f.type ∧ f.offset + sizeT P f.type ≤ cells.length then setField P t (setFrom f.offset (leaves v) cells) r else none
    | none => none
def setElem (n : Nat) (es : List (List PV)) : List (Nat × AV) → Option (List (List PV))
  | [] => some es
  | (i, v) :: r => match pvs (leaves v) with
    | some l => if v.fit ∧ l.length = n ∧ i < es.length then setElem n (es.set i l) r else none
    | none => none

/-- An operation that only reads, and makes what is new. 'd': the destination's number. -/
def opQ (P : Program) (bldT : TypeId) (d : Nat) (o : Op) (st : View) : Option (AV × List (Nat × Obj)) :=
  match o with
  | .move x => match st.eval x with | some v => some (v, []) | none => none
  | .assign x => match st.eval x with | some v => some (v, []) | none => none
  | .pick c a b => match st.eval c with
    | some (.pv (.bool t)) => match st.eval (if t then a else b) with | some v => some (v, []) | none => none
    | _ => none
  | .alloc t => if t = bldT then (if ¬ t = bldTy then none else match zeroV P t with | some [.pointer none, .slice none 0 0] => some (.addr (dstId d) 0 0, [(dstId d, .bld [])]) | _ => none) else
    match zeroV P t with
    | some vs => match zeroBox P (dstId d) 0 vs (leafTypes P 8 t) with
      | some (l, os) => some (.addr (dstId d) 0 0, (dstId d, .box l) :: os)
      | none => none
    | none => none
  | .box t x => match st.eval x with
    | some v => if v.fit ∧ (leaves v).length = sizeT P t then some (.addr (dstId d) 0 0, [(dstId d, .box (leaves v))]) else none
    | none => none
  | .build t parts => match zeroV P t, buildParts st parts.toList with
    | some vs, some ps => match litLeaves vs with
      | some zs => if fieldsOk P t ∧ ownIds (ps.flatMap fun p => leaves p.2) = [] then (match setField P t zs ps with
        | some l => some (ofLeaves true l, [])
        | none => none) else none
      | none => none
    | _, _ => none
  | .buildSlice t n parts => match elemT P t, buildParts st parts.toList with
    | some e, some ps => match zeroV P e with
      | some vs => match litPVs vs with
        | some zs => match setElem (sizeT P e) (List.replicate n zs) ps with
          | some es => if n * sizeT P e ≤ 16777216 then some (.own (dstId d), [(dstId d, .buf (sizeT P e) es)]) else none
          | none => none
        | none => none
      | none => none
    | _, _ => none
  | .load t a => if okT P t = false then none else match st.eval a with
    | some (.addr id i off) => match st.obj id with
      | some (.box cs) => if i = 0 ∧ off + sizeT P t ≤ cs.length then
          (if aggT P t then (if ownIds ((cs.drop off).take (sizeT P t)) = [] then some (ofLeaves true ((cs.drop off).take (sizeT P t)), []) else none)
          else match cs[off]? with | some v => some (v, []) | none => none)
        else none
      | some (.buf _ es) => match es[i]? with
        | some c => if off + sizeT P t ≤ c.length then (match ofCells (aggT P t) ((c.drop off).take (sizeT P t)) with | some v => some (v, []) | none => none) else none
        | none => none
      | _ => none
    | some (.pv (.iptr c)) => if sizeT P t ≤ c.length then (match ofCells (aggT P t) (c.take (sizeT P t)) with | some v => some (v, []) | none => none) else none
    | _ => none
  | .nilCheck x => match st.eval x with
    | some (.addr a b c) => some (.addr a b c, [])
    | some (.pv (.iptr c)) => some (.pv (.iptr c), [])
    | some (.pv (.fn f c)) => some (.pv (.fn f c), [])
    | some (.clo f a b) => some (.clo f a b, [])
    | _ => none
  | .binOp op t x y _ => match st.eval x, st.eval y with
    | some a, some b => match vbin P op t a b with | some r => some (.pv r, []) | none => none
    | _, _ => none
  | .unOp op _ x => match st.eval x with
    | some a => match vun op a with | some r => some (.pv r, []) | none => none
    | none => none
  | .convert s t x => match st.eval x with | some v => vconv P d s t v st | none => none
  | .makeFunc (.func f) first caps => match evalAll st first.toList, evalAll st caps.toList with
    | some a, some b => some (.clo f a b, [])
    | _, _ => none
  | .makeSlice t l c => match elemT P t, st.eval l, st.eval c with
    | some e, some (.pv (.int _ n)), some (.pv (.int _ m)) => if 0 ≤ n ∧ n ≤ m ∧ m ≤ maxInt ∧ m * bytesT P e ≤ room then
        (match zeroV P e with
        | some vs => match litPVs vs with | some z => some (.own (dstId d), [(dstId d, .buf (sizeT P e) (List.replicate n.toNat z))]) | none => none
        | none => none) else none
    | _, _, _ => none
  | .slice t x lo hi none => match P.underlying t, st.eval x, evalOpt st lo, evalOpt st hi with
    | some .string, some (.pv (.str s)), some l, some h => match sliceOf l h s.length with
      | some (a, b) => some (.pv (.str ((s.drop a).take (b - a))), [])
      | none => none
    | some (.slice e), some v, some l, some h => if okT P e = false then none else (match v with
      | .pv (.sl es) => if rowOk (sizeT P e) es then (match sliceOf l h es.length with
        | some (a, b) => some (.pv (.sl ((es.drop a).take (b - a))), [])
        | none => none) else none
      | .nilSl => match sliceOf l h 0 with
        | some _ => some (.nilSl, [])
        | none => none
      | .own id => match st.obj id with
        | some (.buf sz es) => if sz = sizeT P e then (match sliceOf l h es.length with
          | some (a, b) => some (.part id a (b - a), [])
          | none => none) else none
        | _ => none
      | .part id lo n => match st.obj id with
        | some (.buf sz _) => if sz = sizeT P e then (match sliceOf l h n with
          | some (a, b) => some (.part id (lo + a) (b - a), [])
          | none => none) else none
        | _ => none
      | _ => none)
    | _, _, _, _ => none
  | .fieldAddr t x f => match fieldT P t f, st.eval x with
    | some g, some (.addr id i off) => if ¬ (okT P g.type ∧ sizeT P g.type ≠ 0) then none else some (.addr id i (off + g.offset), [])
    | some g, some (.pv (.iptr c)) => if ¬ (okT P g.type ∧ sizeT P g.type ≠ 0) then none else some (.pv (.iptr (c.drop g.offset)), [])
    | _, _ => none
  | .field t x f => match fieldT P t f, st.eval x with
    | some g, some (.pv (.agg fs)) => if okT P g.type ∧ 0 < sizeT P g.type ∧ g.offset + sizeT P g.type ≤ fs.length then
        (match ofCells (aggT P g.type) ((fs.drop g.offset).take (sizeT P g.type)) with | some v => some (v, []) | none => none) else none
    | some g, some (.agg fs) => if okT P g.type ∧ 0 < sizeT P g.type ∧ g.offset + sizeT P g.type ≤ fs.length then
        some (ofLeaves (aggT P g.type) ((fs.drop g.offset).take (sizeT P g.type)), []) else none
    | _, _ => none
  | .indexAddr t x ix => match elemT P t, st.eval x, st.eval ix with
    | some e, some (.own id), some (.pv (.int _ i)) => match st.obj id with
      | some (.buf sz es) => if 0 ≤ i ∧ i < es.length ∧ sz = sizeT P e then some (.addr id i.toNat 0, []) else none
      | _ => none
    | some e, some (.part id lo n), some (.pv (.int _ i)) => match st.obj id with
      | some (.buf sz es) => if 0 ≤ i ∧ i < n ∧ lo + n ≤ es.length ∧ sz = sizeT P e then some (.addr id (lo + i.toNat) 0, []) else none
      | _ => none
    | some e, some (.pv (.sl es)), some (.pv (.int _ i)) => if 0 ≤ i then (match es[i.toNat]? with | some c => if c.length = sizeT P e then some (.pv (.iptr c), []) else none | none => none) else none
    | _, _, _ => none
  | .index t x ix => match P.underlying t, st.eval x, st.eval ix with
    | some .string, some (.pv (.str s)), some (.pv (.int _ i)) => if 0 ≤ i then (match s[i.toNat]? with | some b => some (.pv (.int .u8 b.toNat), []) | none => none) else none
    | _, _, _ => none
  | .extract x i => match st.eval x with
    | some (.tup vs) => match vs[i]? with | some v => some (v, []) | none => none
    | _ => none
  | .call { callee := .builtin b, args := as, argTypes := ts } => match b with
    | .len => match as.toList, ts.toList with
      | [x], t :: _ => match P.underlying t, st.eval x with
        | some .string, some (.pv (.str s)) => some (i64 s.length, [])
        | some (.slice _), some v => match asList st v with | some l => some (i64 l.length, []) | none => none
        | _, _ => none
      | _, _ => none
    | .max => match evalAll st as.toList with
      | some l => match minmax true l with | some x => some (.pv x, []) | none => none
      | none => none
    | .min => match evalAll st as.toList with
      | some l => match minmax false l with | some x => some (.pv x, []) | none => none
      | none => none
    | _ => none
  | _ => none

/-- A row to which something is joined: its elements, and its number if it is one of the call's own; or nil, as it is written. -/
def rowOf (sz : Nat) (st : View) : Operand → Option (List (List PV) × Option Nat)
  | x => match st.eval x with
    | some .nilSl => some ([], none)
    | some (.own id) => match st.obj id with
      | some (.buf n es) => if n = sz then some (es, some id) else none
      | _ => none
    | _ => none
/-- What is joined to it. -/
def behind (P : Program) (u : TypeId) (st : View) (y : Operand) : Option (List (List PV)) :=
  match P.underlying u, st.eval y with
  | some .string, some (.pv (.str s)) => some (u8s s)
  | some (.slice _), some v => asList st v
  | _, _ => none
/-- Joined to a row of the call's own: the row is another one from then on. -/
def opA (P : Program) (d : Nat) (o : Op) (st : View) : Option (AV × List (Nat × Obj) × Option Nat) :=
  match o with
  | .call { callee := .builtin .append, args := as, argTypes := ts } => match as.toList, ts.toList with
    | [x, y], [t, u] => match elemT P t with
      | some e => match rowOf (sizeT P e) st x, behind P u st y with
        | some (es, id), some l => if (es.length + l.length) * bytesT P e ≤ room ∧ es.length + l.length ≤ maxInt ∧ rowOk (sizeT P e) l ∧ (zeroV P e).isSome then some (.own (dstId d), [(dstId d, .buf (sizeT P e) (es ++ l))], id) else none
        | _, _ => none
      | none => none
    | _, _ => none
  | _ => none

/-- What a function value that is handed over holds: its variables' owned slices, then they themselves. -/
def capBoxes (st : View) : List AV → List Nat
  | [] => []
  | .addr id 0 0 :: r => (match st.obj id with | some (.box cs) => ownIds cs | _ => []) ++ id :: capBoxes st r
  | _ :: r => capBoxes st r
/-- Which owned slices an operation takes for plain values. -/
def prep (P : Program) (o : Op) (st : View) : List Nat :=
  match o with
  | .call { callee := .value _, args := as, argTypes := _ } => match evalAll st as.toList with
    | some l => l.flatMap fun v => match v with
      | .clo _ _ caps => capBoxes st caps
      | _ => []
    | none => []
  | .build _ parts | .buildSlice _ _ parts => match buildParts st parts.toList with
    | some ps => ownIds (ps.flatMap fun p => leaves p.2)
    | none => []
  | .load t a => if aggT P t then (match st.eval a with
    | some (.addr id _ off) => match st.obj id with | some (.box cs) => ownIds ((cs.drop off).take (sizeT P t)) | _ => []
    | _ => []) else []
  | .store _ a x => match st.eval a, st.eval x with
    | some (.addr id _ _), some v => match st.obj id with | some (.buf _ _) => ownIds (leaves v) | _ => []
    | _, _ => []
  | _ => []

/-- A row of the call's own, or a part of it, to which something is copied: its number, where it begins, how long it is, all its elements. -/
def rowIn (sz : Nat) (st : View) : AV → Option (Nat × Nat × Nat × List (List PV))
  | .own id => match st.obj id with
    | some (.buf n es) => if n = sz then some (id, 0, es.length, es) else none
    | _ => none
  | .part id lo n => match st.obj id with
    | some (.buf k es) => if k = sz ∧ lo + n ≤ es.length then some (id, lo, n, es) else none
    | _ => none
  | _ => none
/-- An operation that writes what is the call's own. -/
def opL (P : Program) (o : Op) (st : View) : Option Made :=
  match o with
  | .store t a x => match st.eval a, st.eval x with
    | some (.addr id i off), some v => if okT P t ∧ v.fit ∧ (leaves v).length = sizeT P t then (match st.obj id with
      | some (.box cs) => if i = 0 ∧ off + sizeT P t ≤ cs.length then some ⟨.tup [], [], [.box id off (leaves v)], [], [], []⟩ else none
      | some (.buf sz es) => match pvs (leaves v), es[i]? with
        | some l, some c => if off + sizeT P t ≤ c.length then some ⟨.tup [], [], [.buf id sz (es.set i (setFrom off l c))], [], [], []⟩ else none
        | _, _ => none
      | _ => none) else none
    | _, _ => none
  | .call { callee := .builtin .copy, args := as, argTypes := ts } => match as.toList, ts.toList with
    | [x, y], [t, u] => match elemT P t, st.eval x with
      | some e, some xv => match rowIn (sizeT P e) st xv, behind P u st y with
        | some (id, lo, m, es), some l => if rowOk (sizeT P e) l then some ⟨i64 (min l.length m : Nat), [], [.buf id (sizeT P e) (es.take lo ++ (l.take (min l.length m) ++ es.drop (lo + min l.length m)))], [], [], []⟩ else none
        | _, _ => none
      | _, _ => none
    | _, _ => none
  | _ => none

/-- Whom a call calls, and with what ahead of its arguments, behind them. -/
def calleeOf (st : View) : Callee → Option (FuncId × List AV × List AV)
  | .value (.func f) => some (f, [], [])
  | .value x => match st.eval x with
    | some (.pv (.fn f caps)) => some (f, [], caps.map .pv)
    | some (.clo f first caps) => some (f, first, caps)
    | _ => none
  | _ => none

def wanted (all : List Oper) (st : View) (o : Oper) : Option Bool :=
  match o.guard with
  | none => some true
  | some (j, want) => match (all[j]?).bind (·.dst) with
    | some t => match st.get t with
      | .pv (.bool b) => some (b == want)
      | .tup [] => some false
      | _ => none
    | none => none

def isCall : Op → Option Call
  | .call c => match c.callee with | .builtin _ => none | _ => some c
  | _ => none

section run
variable (C : Cx) (call : FuncId → List TV → Option (List TV × List TV))

/-- A call of a function. -/
def callM (d : Nat) (c : Call) (st : View) : Option Made :=
  match calleeOf st c.callee, evalAll st c.args.toList with
  | some (f, first, caps), some as => match C.P.funcs[f]? with
    | some fn => match argsTV C.P st (C.modes f) fn.params.toList (first ++ as ++ caps) with
      | some g => if nodup (g.dels ++ Back.idsL g.bs) && freeOf g.lent (g.dels ++ Back.idsL g.bs) then (match call f g.vs with
        | some (rs, fs) => (match backTV g.bs fs with
          | some (ws, os) =>
            let r := resTV d rs
            some ⟨r.1, r.2 ++ os, ws, [], g.dels, match g.lent with | [] => [] | l => if flatTVs rs && flatTVs fs then [] else l⟩
          | none => none)
        | none => none) else none
      | none => none
    | none => none
  | _, _ => none

def made (o : Oper) (st : View) : Option Made :=
  let d := o.dst.getD 499
  match isCall o.op with
  | some c => callM C call d c st
  | none => match opQ C.P C.bldT d o.op st with
    | some (v, os) => some (.only v os)
    | none => match opA C.P d o.op st with
      | some (v, os, id) => some ⟨v, os, [], id.toList, [], []⟩
      | none => opL C.P o.op st
/-- Which destinations are taken for plain values in their own region. -/
def elemAddrs : List Oper → List Nat → List Nat
  | [], l => l
  | o :: r, l => match o.dst, o.op with
    | some d, .indexAddr _ _ _ => elemAddrs r (d :: l)
    | some d, .fieldAddr _ (.tmp t) _ => elemAddrs r (if l.contains t then d :: l else l)
    | _, _ => elemAddrs r l
def plainDsts (ops : List Oper) : List Nat :=
  let l := elemAddrs ops []
  ops.flatMap fun o => match o.op with
    | .store _ (.tmp a) (.tmp t) => if l.contains a then [t] else []
    | .build _ ps | .buildSlice _ _ ps => ps.toList.filterMap fun p => match p.2 with | .tmp t => some t | _ => none
    | _ => []
def arrive (pl : List Nat) (o : Oper) (ob : Nat → Option Obj) (m : Made) : Made :=
  match o.dst, m.os, m.ws with
  | some d, [(i, .buf _ es)], [] => if pl.contains d && (ob i).isNone then (match m.v with | .own j => if i = j then { m with v := .pv (.sl es), os := [] } else m | _ => m) else m
  | _, _, _ => m
def putD (o : Oper) (v : AV) (st : St) : St := match o.dst with | some t => st.put t v | none => st
def patchAll : List Patch → St → Option St
  | [], st => some st
  | p :: r, st => match p.on (st.obj p.id) with
    | some o => patchAll r (st.upd p.id o)
    | none => none
def killAll : List Nat → St → St
  | [], st => st
  | i :: r, st => killAll r (st.kill i)

/-- What an operation makes, laid into the state. -/
def lay (o : Oper) (m : Made) (st : St) : Option St :=
  match freezeAll m.frz st with
  | some s => match patchAll m.ws (killAll (m.dels ++ m.use) s) with
    | some s => match s.add m.os with
      | some s => some (putD o m.v s)
      | none => none
    | none => none
  | none => none

def oper (pl : List Nat) (o : Oper) (st : St) : Option St :=
  match freezeAll (prep C.P o.op st.view) st with
  | some s => match made C call o s.view with
    | some m => lay o (arrive pl o s.obj m) s
    | none => none
  | none => none

def opers (all : List Oper) (pl : List Nat) : List Oper → St → Option St
  | [], st => some st
  | o :: r, st => match wanted all st.view o with
    | some true => match oper C call pl o st with | some s => opers all pl r s | none => none
    | some false => opers all pl r (putD o (.tup []) st)
    | none => none

/-- An operation of a region that draws its order: its number, what must stand ahead of it (bits), what it made; the numbers that were made first; the objects that it may have looked at. -/
structure Done where
  i : Nat
  b : Nat
  o : Oper
  m : Made
  raw : List Nat
  rd : List Nat
def Made.dead (m : Made) : List Nat := m.dels ++ m.use
/-- What an operation sees of those of a set. -/
def doneGet (f : Nat → Bool) (t : Nat) (base : Nat → AV) : List Done → AV
  | [] => base t
  | x :: r => if x.o.dst = some t then (if f x.i then x.m.v else doneGet f t base r) else doneGet f t base r
def doneObj (f : Nat → Bool) (id : Nat) (base : Nat → Option Obj) : List Done → Option Obj
  | [] => base id
  | x :: r => if f x.i then
      (match lkp id x.m.os with
       | some o => some o
       | none => if x.m.dead.contains id then none else x.m.ws.foldl (fun o p => if p.id = id then p.on o else o) (doneObj f id base r))
    else doneObj f id base r
def seen (f : Nat → Bool) (st : St) (done : List Done) : View := ⟨fun t => doneGet f t st.get done, fun id => doneObj f id st.obj done⟩
/-- Who stands ahead of an operation. -/
def bOf : List Done → Nat → Nat
  | [], _ => 0
  | x :: r, j => if x.i = j then x.b else bOf r j
def befOne (look : Nat → Nat) (o : Oper) : Nat := o.after.toList.foldl (fun s e => if Region.binds .any e then s ||| 2 ^ e.on ||| look e.on else s) 0
/-- Is what an operation makes there? -/
def okMade (V : View) (m : Made) : Bool :=
  m.frz.isEmpty && m.dead.all (fun i => (V.obj i).isSome) && m.ws.all fun p => !m.dead.contains p.id && (p.on (V.obj p.id)).isSome
def patchObjs : List Patch → List (Nat × Obj) → List (Nat × Obj)
  | [], l => l
  | p :: r, l => match p.on (lkp p.id l) with
    | some o => patchObjs r ((p.id, o) :: del p.id l)
    | none => patchObjs r (del p.id l)
def delAll : List Nat → List (Nat × Obj) → List (Nat × Obj)
  | [], l => l
  | i :: r, l => delAll r (del i l)
/-- What an operation of such a region leaves. -/
def stepD (o : Oper) (m : Made) (st : St) : St := putD o m.v ⟨st.tmps, m.os ++ patchObjs m.ws (delAll m.dead st.objs)⟩
/-- May it look at objects? -/
def looksObj : Op → Bool
  | .move _ | .assign _ | .pick _ _ _ | .alloc _ | .box _ _ | .build _ _ | .buildSlice _ _ _ | .nilCheck _ | .binOp _ _ _ _ _ | .unOp _ _ _ | .makeFunc _ _ _ | .makeSlice _ _ _ | .fieldAddr _ _ _ | .field _ _ _ | .index _ _ _ | .extract _ _ => false
  | _ => true
mutual
def AV.ids : AV → List Nat
  | .own i => [i]
  | .part i _ _ => [i]
  | .addr i _ _ => [i]
  | .tup vs => AV.idsL vs
  | .agg vs => AV.idsL vs
  | .clo _ a b => AV.idsL a ++ AV.idsL b
  | _ => []
def AV.idsL : List AV → List Nat
  | [] => []
  | v :: r => AV.ids v ++ AV.idsL r
end
def reach (objs : List (Nat × Obj)) : Nat → List Nat → List Nat
  | 0, l => l
  | n + 1, l => reach objs n (l ++ l.flatMap fun i => match lkp i objs with | some (.box cs) => AV.idsL cs | _ => [])
def opTmps (o : Op) : List Nat := o.operands.toList.filterMap fun | .tmp t => some t | _ => none
/-- The objects that an operation may look at. -/
def readsOf (o : Op) (st : St) : List Nat := if looksObj o then reach st.objs (match o with | .call _ => 4 | _ => 0) (AV.idsL ((opTmps o).map st.get)) else []
/-- Those objects alone. -/
def View.only (D : List Nat) (V : View) : View := ⟨V.get, fun id => if D.contains id then V.obj id else none⟩
/-- A region that draws its order, in the text's order. -/
def textR (all : List Oper) (pl : List Nat) (ob : Nat → Option Obj) : List Oper → Nat → List Done → St → Option (List Done × St)
  | [], _, done, st => some (done, st)
  | o :: r, i, done, st =>
    if befOne (bOf done) o < 2 ^ i then (match wanted all st.view o with
      | some true => if (prep C.P o.op st.view).isEmpty then (match made C call o (st.view.only (readsOf o.op st)) with
        | some m => if okMade st.view (arrive pl o ob m) then
            textR all pl ob r (i + 1) (⟨i, befOne (bOf done) o, o, arrive pl o ob m, m.os.map (·.1), readsOf o.op st⟩ :: done) (stepD o (arrive pl o ob m) st) else none
        | none => none) else none
      | some false => textR all pl ob r (i + 1) (⟨i, befOne (bOf done) o, o, .only (.tup []) [], [], []⟩ :: done) (stepD o (.only (.tup []) []) st)
      | none => none) else none
def unord (x y : Done) : Bool := x.i != y.i && !x.b.testBit y.i && !y.b.testBit x.i
def Made.writes (m : Made) : List Nat := m.dead ++ m.ws.map Patch.id
/-- The slots that an operation looks at. -/
def looks (all : List Oper) (o : Oper) : List Nat :=
  opTmps o.op ++ (match o.guard with | some (j, _) => ((all[j]?).bind (·.dst)).toList | none => [])
/-- No operation looks at a slot that one beside it writes. -/
def slotsX (all : List Oper) : List (Nat × Nat × Oper) → List (Nat × Nat × Oper) → Bool
  | _, [] => true
  | l, (i, b, o) :: r => (l.all fun y => !(i != y.1 && !b.testBit y.1 && !y.2.1.testBit i) || (match y.2.2.dst with | some t => !(looks all o).contains t | none => true)) && slotsX all l r
def befsL : List Oper → Nat → List (Nat × Nat × Oper) → List (Nat × Nat × Oper)
  | [], _, l => l
  | o :: r, i, l => befsL r (i + 1) ((i, befOne (fun j => match lkp j l with | some p => p.1 | none => 0) o, o) :: l)
def slotsT (ops : List Oper) : Bool := nodup (ops.filterMap (·.dst)) && slotsX ops (befsL ops 0 []) (befsL ops 0 [])
/-- No operation touches what one beside it writes. -/
def apart (done : List Done) : List Done → Bool
  | [] => true
  | x :: r => (done.all fun y => !unord x y || freeOf (x.rd ++ (x.m.writes ++ x.raw)) (y.m.writes ++ y.raw)) && apart done r
/-- What is gone is forgotten. -/
def forgetAll (ids : List Nat) (st : St) : St :=
  match ids with
  | [] => st
  | _ => st.map (AV.sub fun i => if ids.contains i then none else some i)

def region (ops : Array Oper) (pre : List Nat) (draw : Bool) (st : St) : Option St :=
  let pl := pre ++ plainDsts ops.toList
  if draw then
    if slotsT ops.toList then
      match textR C call ops.toList pl st.obj ops.toList 0 [] st with
      | some (done, s) =>
        if apart done done && nodup (done.flatMap Done.raw) && (done.flatMap Done.raw).all (fun i => (st.obj i).isNone) then
          some (forgetAll (done.flatMap fun x => x.m.dead) s)
        else none
      | none => none
    else none
  else opers C call ops.toList pl ops.toList st

def loopN (body : St → Option (Ex × St)) : Nat → St → Option (Ex × St)
  | 0, _ => none
  | n + 1, st => match body st with
    | some (.normal, s) => loopN body n s
    | r => r

def tag : Code → Nat
  | .region id _ _ => id
  | .seq a _ => tag a
  | .block _ b => tag b
  | .loop b => tag b
  | .scope b => tag b
  | _ => 0

def renSlots : List Nat → St → Option St
  | [], st => some st
  | t :: r, st => match st.get t with
    | .own i => if i = dstId t ∨ i % 2 = 1 then renSlots r st else (match st.ren i (dstId t) with | some s => renSlots r s | none => none)
    | _ => renSlots r st
def renCells (id : Nat) : Nat → List AV → St → Option St
  | _, [], st => some st
  | j, .own i :: r, st => if i = cellId id j ∨ i % 2 = 1 then renCells id (j + 1) r st else (match st.ren i (cellId id j) with | some s => renCells id (j + 1) r s | none => none)
  | j, _ :: r, st => renCells id (j + 1) r st
def renBoxes : List Nat → St → Option St
  | [], st => some st
  | t :: r, st => match st.get t with
    | .addr id 0 0 => match st.obj id with
      | some (.box cs) => match renCells id 0 cs st with | some s => renBoxes r s | none => none
      | _ => renBoxes r st
    | _ => renBoxes r st

/-- Is all there that is led to? -/
def closedB (st : St) : Bool :=
  (st.tmps.all fun p => (AV.ids p.2).all fun i => (lkp i st.objs).isSome) &&
  st.objs.all fun p => match p.2 with | .box cs => (AV.idsL cs).all fun i => (lkp i st.objs).isSome | _ => true
def oddIds : List (Nat × Obj) → List Nat
  | [] => []
  | (i, .box cs) :: r => if i % 2 = 1 then AV.idsL cs ++ oddIds r else oddIds r
  | _ :: r => oddIds r
def trim (ts : List Nat) (st : St) : Option St :=
  let tm := ts.filterMap fun t => (lkp t st.tmps).map fun v => (t, v)
  let ids := reach st.objs 4 (AV.idsL (tm.map (·.2)) ++ oddIds st.objs)
  let s : St := ⟨tm, st.objs.filter fun p => ids.contains p.1 || p.1 % 2 == 1⟩
  if closedB s then some s else none

def insObj (k : Nat) (o : Obj) : List (Nat × Obj) → List (Nat × Obj)
  | [] => [(k, o)]
  | (j, p) :: r => if j < k then (j, p) :: insObj k o r else (k, o) :: (j, p) :: r
def sortObjs : List (Nat × Obj) → List (Nat × Obj)
  | [] => []
  | (k, o) :: r => insObj k o (sortObjs r)
/-- The slots, and the objects, in their order. -/
def canon (ts : List Nat) (st : St) : St := ⟨ts.filterMap fun t => (lkp t st.tmps).map fun v => (t, v), sortObjs st.objs⟩

/-- A nil slice is turned to a row of the call's own. -/
def promote : List (Nat × Option Nat × Nat) → St → Option St
  | [], st => some st
  | (t, none, sz) :: r, st => if sz = 0 then none else match st.get t with
    | .nilSl => match st.add [(dstId t, .buf sz [])] with | some s => promote r (s.put t (.own (dstId t))) | none => none
    | _ => promote r st
  | (t, some j, sz) :: r, st => if sz = 0 then none else match st.get t with
    | .addr id 0 0 => match st.obj id with
      | some (.box cs) => match cs[j]? with
        | some .nilSl => match st.add [(cellId id j, .buf sz [])] with | some s => promote r (s.upd id (.box (cs.set j (.own (cellId id j))))) | none => none
        | _ => promote r st
      | _ => promote r st
    | _ => promote r st
/-- Owned slices that slots hold, frozen. -/
def freezeSlots : List Nat → St → Option St
  | [], st => some st
  | t :: r, st => match st.get t with
    | .own i => match st.freeze i with | some s => freezeSlots r s | none => none
    | .part i _ _ => match st.freeze i with | some s => freezeSlots r s | none => none
    | _ => freezeSlots r st
/-- At a loop's head: what lives on; what is frozen; numbers as they are at each head. -/
def norm (a : List Nat × List Nat × List (Nat × Option Nat × Nat)) (st : St) : Option St :=
  match trim a.1 st with
  | some s => match freezeAll (a.2.1.filterMap fun t => match st.get t with | .own i => some i | .part i _ _ => some i | _ => none) s with
    | some s => match renSlots a.1 s with
      | some s => match renBoxes a.1 s with
        | some s => match promote a.2.2 s with
          | some s => some (canon a.1 s)
          | none => none
        | none => none
      | none => none
    | none => none
  | none => none

/-- A label's number among the loops'. -/
def labelTag (l : Nat) : Nat := 100000 + l

/-- Behind a part of a scope: a jump to one of its labels goes on there. -/
def handle (f : FuncId) (again : Code → Code → St → Option (Ex × St)) (b : Code) (r : Option (Ex × St)) : Option (Ex × St) :=
  match r with
  | some (.goto l, s) => match findLabel b l, norm (C.loops f (labelTag l)) s with
    | some rest, some s => again b rest s
    | _, _ => none
  | r => r

def code (f : FuncId) (k : Nat) (again : Code → Code → St → Option (Ex × St)) : Code → St → Option (Ex × St)
  | .skip, st => some (.normal, st)
  | .label l, st => match norm (C.loops f (labelTag l)) st with | some s => some (.normal, s) | none => none
  | .region id ops draw, st => match freezeSlots (C.pre f id) st with
    | some s => match region C call ops (C.pre f id) draw s with | some s => some (.normal, s) | none => none
    | none => none
  | .seq a b, st => match code f k again a st with
    | some (.normal, s) => code f k again b s
    | r => r
  | .cond c a b, st => match st.view.eval c with
    | some (.pv (.bool t)) => if t then code f k again a st else code f k again b st
    | _ => none
  | .block id b, st => match code f k again b st with
    | some (.exit i, s) => if i = id then some (.normal, s) else some (.exit i, s)
    | r => r
  | .loop b, st => loopN (fun s => match norm (C.loops f (tag b)) s with | some s => code f k again b s | none => none) k st
  | .scope b, st => handle C f again b (code f k again b st)
  | .exit id, st => some (.exit id, st)
  | .goto l, st => some (.goto l, st)
  | .ret, st => some (.ret, st)
  | _, _ => none

def againN (f : FuncId) (k : Nat) : Nat → Code → Code → St → Option (Ex × St)
  | 0, _, _, _ => none
  | n + 1, b, rest, st => handle C f (againN f k n) b (code C call f k (againN f k n) rest st)
def bodyOf (f : FuncId) (k : Nat) (c : Code) (st : St) : Option (Ex × St) := code C call f k (againN C call f k k) c st

/-- The parameters, as the callee has them. -/
def enter (j : Nat) : List TV → St → Option St
  | [], st => some st
  | v :: r, st => match st.add (place innerId (parId j) v).2 with
    | some s => enter (j + 1) r (s.put j (place innerId (parId j) v).1)
    | none => none

/-- Owned slices that results take for plain values. -/
def resIds (st : St) : ResultVar → List Nat
  | .tmp t => match st.get t with | .part i _ _ => [i] | _ => []
  | .cell a t => match st.get a with
    | .addr id _ off => match st.obj id with
      | some (.box cs) => if aggT C.P t then ownIds ((cs.drop off).take (sizeT C.P t)) else match cs[off]? with | some (.part i _ _) => [i] | _ => []
      | _ => []
    | _ => []
def resPrep : List ResultVar → St → Option St
  | [], st => some st
  | x :: r, st => match freezeAll (resIds C st x) st with | some s => resPrep r s | none => none
def resVal (st : View) : ResultVar → Option AV
  | .tmp t => some (st.get t)
  | .cell a t => if okT C.P t = false then none else match st.get a with
    | .addr id i off => match st.obj id with
      | some (.box cs) => if i = 0 ∧ off + sizeT C.P t ≤ cs.length then
          (if aggT C.P t then (if ownIds ((cs.drop off).take (sizeT C.P t)) = [] then some (ofLeaves true ((cs.drop off).take (sizeT C.P t))) else none) else cs[off]?)
        else none
      | _ => none
    | _ => none
/-- A result, and the objects that go with it. -/
def resTV1 (st : View) : AV → Option (TV × List Nat)
  | .pv x => some (.pv x, [])
  | .nilSl => some (.pv (.sl []), [])
  | .agg fs => match pvs fs with | some l => some (.pv (.agg l), []) | none => none
  | .clo f [] caps => match pvs caps with | some l => if l.all oneLeaf then some (.pv (.fn f l), []) else none | none => none
  | .own id => match st.obj id with
    | some (.buf sz es) => some (.own sz es, [id])
    | _ => none
  | .addr id i off => match leafTV st 4 (.addr id i off) with
    | some (v, ids, ob) => some (v, ids ++ (match ob with | some b => b.ids | none => []))
    | none => none
  | _ => none
def resTVs (st : View) : List ResultVar → Option (List TV × List Nat)
  | [] => some ([], [])
  | x :: r => match resVal C st x with
    | some v => match resTV1 st v, resTVs st r with
      | some (x, i), some (l, is) => some (x :: l, i ++ is)
      | _, _ => none
    | none => none

/-- Is a pointer inside a parameter what it was? -/
def samePtr (id : Nat) : AV → Bool
  | .addr i 0 0 => i == id
  | _ => false
def isRef : TV → Bool
  | .ptr _ => true
  | .bld _ => true
  | _ => false
/-- What comes back of a leaf that is no pointer. -/
def plainFin (st : View) : AV → Option (TV × List Nat × List Nat)
  | .pv x => some (.pv x, [], [])
  | .nilSl => some (.pv (.sl []), [], [])
  | .own i => (match st.obj i with | some (.buf sz es) => some (.own sz es, [i], []) | _ => none)
  | _ => none
mutual
/-- What comes back of a parameter's object: it; whose places need not be what they were; whose are. -/
def finalTV (st : View) : Nat → TV → Option (TV × List Nat × List Nat)
  | id, .ptr cells => match st.obj id with
    | some (.box cs) => match finalTVs st id 0 cells cs with | some (l, a, b) => some (.ptr l, a, id :: b) | none => none
    | _ => none
  | id, .bld _ => match st.obj id with | some (.bld bs) => some (.bld bs, [id], []) | _ => none
  | _, _ => none
def finalTVs (st : View) : Nat → Nat → List TV → List AV → Option (List TV × List Nat × List Nat)
  | _, _, [], [] => some ([], [], [])
  | id, j, v :: vs, c :: cs => match (if isRef v then (if samePtr (innerId id j) c then finalTV st (innerId id j) v else none) else plainFin st c), finalTVs st id (j + 1) vs cs with
    | some (x, a, b), some (l, a', b') => some (x :: l, a ++ a', b ++ b')
    | _, _ => none
  | _, _, _, _ => none
end
/-- What comes back of the parameters that are handed over by reference. -/
def finals (st : View) : List Mode → Nat → List TV → Option (List TV × List Nat × List Nat)
  | _, _, [] => some ([], [], [])
  | ms, j, .pv _ :: r => finals st ms.tail (j + 1) r
  | ms, j, .own _ _ :: r => match finals st ms.tail (j + 1) r with
    | some (l, a, b) => if ms.headD .borrow = .mut then (match st.obj (parId j) with | some (.buf sz es) => some (.own sz es :: l, a, parId j :: b) | _ => none) else some (l, a, b)
    | none => none
  | ms, j, .ptr cells :: r => match finalTV st (parId j) (.ptr cells), finals st ms.tail (j + 1) r with
    | some (x, a, b), some (l, a', b') => some (x :: l, a ++ a', b ++ b')
    | _, _ => none
  | ms, j, .bld s :: r => match finalTV st (parId j) (.bld s), finals st ms.tail (j + 1) r with
    | some (x, a, b), some (l, a', b') => some (x :: l, a ++ a', b ++ b')
    | _, _ => none

/-- The end of a call. -/
def leave (f : FuncId) (rv : List ResultVar) (as : List TV) (st : St) : Option (List TV × List TV) :=
  match resPrep C rv st with
  | some s => match resTVs C s.view rv, finals s.view (C.modes f) 0 as with
    | some (rs, i1), some (fs, i2, i3) => if nodup (i1 ++ (i2 ++ i3)) then some (rs, fs) else none
    | _, _ => none
  | none => none

end run

def callN (C : Cx) : Nat → FuncId → List TV → Option (List TV × List TV)
  | 0, _, _ => none
  | k + 1, f, as => match C.ext f with
    | some g => g as
    | none => match C.P.funcs[f]? with
      | none => none
      | some fn => match fn.body with
        | none => none
        | some c => if as.length ≤ fn.ntmps then
          match enter 0 as ⟨[], []⟩ with
          | some s => match bodyOf C (callN C k) f k c s with
            | some (e, st) => if e = .normal ∨ e = .ret then leave C f fn.results.toList as st else none
            | none => none
          | none => none
        else none

end Go.Proofs.Ytmjkdghcfihfiaa.Vm
