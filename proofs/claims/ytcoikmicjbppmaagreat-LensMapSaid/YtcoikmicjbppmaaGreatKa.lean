/-
  The law LensMap: a part of its proof; no conditions.
-/
import GoSem.Claim
import Derived.WalkKit
import Derived.Below
import Derived.Lib.Strings
import Derived.Laws.StructEq
import Derived.Laws.Small
import Derived.Laws.Pointers
namespace Go.Proofs.YtcoikmicjbppmaaGreat.Vm
open Go
inductive PV where
 | int (k : IntKind) (n : Int)
 | bool (b : Bool)
 | str (s : List UInt8)
 | sl (es : List (List PV))
 | agg (fs : List PV)
 | fn (f : FuncId) (caps : List PV)
 | iptr (cells : List PV)
 | nilIface
 | nilPtr
 | nilFn
 | nilSlc
 deriving Inhabited
inductive AV where
 | undef
 | pv (x : PV)
 | nilSl
 | own (id : Nat)
 | part (id lo n : Nat)
 | addr (id i off : Nat)
 | tup (vs : List AV)
 | agg (fs : List AV)
 | clo (f : FuncId) (first caps : List AV)
 deriving Inhabited
inductive Obj where
 | box (cells : List AV)
 | buf (sz : Nat) (es : List (List PV))
 | bld (bs : List UInt8)
 deriving Inhabited
structure St where
 tmps : List (Nat × AV)
 objs : List (Nat × Obj)
 deriving Inhabited
def u0 : TypeId := 999999
def ML : TypeId := 5
inductive TV where
 | pv (x : PV)
 | own (sz : Nat) (es : List (List PV))
 | ptr (cells : List TV)
 | bld (bs : List UInt8)
 deriving Inhabited
inductive Mode where
 | borrow | move | mut | isNil
 deriving DecidableEq, Inhabited
inductive Ex where
 | normal
 | exit (id : Nat)
 | goto (l : Nat)
 | ret
 deriving DecidableEq, Inhabited
structure Cx where
 P : Program
 modes : FuncId -> List Mode
 ext : FuncId -> Option (List TV -> Option (List TV × List TV))
 bldT : TypeId
 loops : FuncId -> Nat -> List Nat × List Nat × List (Nat × Option Nat × Nat)
 pre : FuncId -> Nat -> List Nat := fun _ _ => []
section types
variable (P : Program)
def ar (t : TypeId) : Nat := match P.info? t with | some i => i.size | none => 0
def dM (t : TypeId) : Nat := match P.info? t with | some i => i.bytes | none => 0
def dC (t : TypeId) : Bool := match P.underlying t with | some (.struct _) => true | some (.array _ _) => true | _ => false
def iU (t : TypeId) : Bool := (P.underlying t).isSome
def Fk (t : TypeId) : Bool := match P.underlying t with | some .bool => true | _ => false
def ie (t : TypeId) : Option TypeId := match P.underlying t with | some (.slice e) => if iU P e /\ 0 < ar P e then some e else none | _ => none
def BZ (t : TypeId) : Option TypeId := match P.underlying t with | some (.pointer e) => some e | _ => none
def qi (t : TypeId) (f : Nat) : Option Field := match P.underlying t with | some (.struct fs) => fs[f]? | _ => none
def mJ (t : TypeId) : Bool := match P.underlying t with | some (.struct fs) => fs.all fun f => iU P f.type | _ => false
def lg : Nat -> TypeId -> List TypeId
 | 0, t => [t]
 | n + 1, t => match P.underlying t with
  | some (.struct fs) => fs.toList.flatMap fun f => lg n f.type
  | _ => [t]
def eO (t : TypeId) : Option (List Value) := match P.info? t with
 | some i => match i.zero with
  | some v => if v.cells.size = i.size then some v.cells.toList else none
  | none => none
 | none => none
end types
def cB {α : Type} (n : Nat) : List (Nat × α) -> Option α
 | [] => none
 | (m, a) :: r => if n = m then some a else cB n r
def tE {α : Type} (n : Nat) : List (Nat × α) -> List (Nat × α)
 | [] => []
 | (m, a) :: r => if n = m then tE n r else (m, a) :: tE n r
def aN (d : Nat) : Nat := 2 * d
def bJ (d : Nat) : Nat := 2 * d + 1
def bg (id j : Nat) : Nat := 2 * ((id + 1) * 1000 + j)
def bn (id j : Nat) : Nat := 2 * ((id + 1) * 1000 + j) + 1
mutual
def AV.sub (g : Nat -> Option Nat) : AV -> AV
 | .own i => match g i with | some j => .own j | none => .undef
 | .part i k o => match g i with | some j => .part j k o | none => .undef
 | .nilSl => .nilSl
 | .addr i k o => match g i with | some j => .addr j k o | none => .undef
 | .tup vs => .tup (AV.subL g vs)
 | .agg vs => .agg (AV.subL g vs)
 | .clo f a b => .clo f (AV.subL g a) (AV.subL g b)
 | .undef => .undef
 | .pv x => .pv x
def AV.subL (g : Nat -> Option Nat) : List AV -> List AV
 | [] => []
 | v :: r => AV.sub g v :: AV.subL g r
end
mutual
def AV.frz (id : Nat) (es : List (List PV)) : AV -> AV
 | .own i => if i = id then .pv (.sl es) else .own i
 | .part i lo n => if i = id then .pv (.sl ((es.drop lo).take n)) else .part i lo n
 | .nilSl => .nilSl
 | .addr i k o => if i = id then .undef else .addr i k o
 | .tup vs => .tup (AV.frzL id es vs)
 | .agg vs => .agg (AV.frzL id es vs)
 | .clo f a b => .clo f (AV.frzL id es a) (AV.frzL id es b)
 | .undef => .undef
 | .pv y => .pv y
def AV.frzL (id : Nat) (es : List (List PV)) : List AV -> List AV
 | [] => []
 | v :: r => AV.frz id es v :: AV.frzL id es r
end
mutual
def AV.frzBox (id : Nat) (cs : List PV) : AV -> AV
 | .own i => if i = id then .undef else .own i
 | .part i lo n => if i = id then .undef else .part i lo n
 | .nilSl => .nilSl
 | .addr i k o => if i = id then (if k = 0 then .pv (.iptr (cs.drop o)) else .undef) else .addr i k o
 | .tup vs => .tup (AV.frzBoxL id cs vs)
 | .agg vs => .agg (AV.frzBoxL id cs vs)
 | .clo f a b => .clo f (AV.frzBoxL id cs a) (AV.frzBoxL id cs b)
 | .undef => .undef
 | .pv y => .pv y
def AV.frzBoxL (id : Nat) (cs : List PV) : List AV -> List AV
 | [] => []
 | v :: r => AV.frzBox id cs v :: AV.frzBoxL id cs r
end
def Obj.map (f : AV -> AV) : Obj -> Obj
 | .box cs => .box (cs.map f)
 | .buf s es => .buf s es
 | .bld bs => .bld bs
namespace St
def get (st : St) (t : Nat) : AV := match cB t st.tmps with | some v => v | none => .undef
def obj (st : St) (id : Nat) : Option Obj := cB id st.objs
def map (f : AV -> AV) (st : St) : St :=
 ⟨st.tmps.map fun p => (p.1, f p.2), st.objs.map fun p => (p.1, p.2.map f)⟩
def kill (id : Nat) (st : St) : St :=
 let s := st.map (AV.sub fun i => if i = id then none else some i)
 ⟨s.tmps, tE id s.objs⟩
def ren (a b : Nat) (st : St) : Option St :=
 match cB b st.objs with
 | some _ => none
 | none =>
  let s := st.map (AV.sub fun i => if i = a then some b else some i)
  some ⟨s.tmps, s.objs.map fun p => if p.1 = a then (b, p.2) else p⟩
def upd (id : Nat) (o : Obj) (st : St) : St := ⟨st.tmps, (id, o) :: tE id st.objs⟩
def put (t : Nat) (v : AV) (st : St) : St := ⟨(t, v) :: st.tmps, st.objs⟩
def add : List (Nat × Obj) -> St -> Option St
 | [], st => some st
 | (id, o) :: r, st => match cB id st.objs with
  | some _ => none
  | none => add r ⟨st.tmps, (id, o) :: st.objs⟩
def freeze (id : Nat) (st : St) : Option St :=
 match st.obj id with
 | some (.buf _ es) => let s := st.map (AV.frz id es); some ⟨s.tmps, tE id s.objs⟩
 | _ => none
def freezeBox (id : Nat) (cs : List PV) (st : St) : St :=
 let s := st.map (AV.frzBox id cs); ⟨s.tmps, tE id s.objs⟩
end St
structure View where
 get : Nat -> AV
 obj : Nat -> Option Obj
def St.view (st : St) : View := ⟨st.get, st.obj⟩
def qT : List AV -> Option (List PV)
 | [] => some []
 | .nilSl :: r => match qT r with | some l => some (.sl [] :: l) | none => none
 | .pv x :: r => match qT r with | some l => some (x :: l) | none => none
 | _ :: _ => none
def gr : List AV -> List Nat
 | [] => []
 | .own i :: r => i :: gr r
 | .part i _ _ :: r => i :: gr r
 | _ :: r => gr r
def c7 : List Nat -> St -> Option St
 | [], st => some st
 | i :: r, st => match st.obj i with
  | some (.buf _ _) => match st.freeze i with | some s => c7 r s | none => none
  | some (.box cs) => match qT cs with | some l => c7 r (st.freezeBox i l) | none => none
  | some (.bld _) => none
  | none => c7 r st
def oM : Value -> Option PV
 | .int k n => some (.int k n)
 | .bool b => some (.bool b)
 | .string s => some (.str s.data.toList)
 | .slice none 0 0 => some (.sl [])
 | .nilIface => some .nilIface
 | .pointer none => some .nilPtr
 | .nilFunc => some .nilFn
 | _ => none
def py (v : Value) : Option AV :=
 match v with
 | .slice none 0 0 => some .nilSl
 | v => match oM v with | some x => some (.pv x) | none => none
def gR : List Value -> Option (List AV)
 | [] => some []
 | v :: r => match py v, gR r with | some x, some l => some (x :: l) | _, _ => none
def iR : List Value -> Option (List PV)
 | [] => some []
 | v :: r => match oM v, iR r with | some x, some l => some (x :: l) | _, _ => none
def vT : Value -> Option AV
 | .agg cs => match iR cs.toList with | some l => some (.pv (.agg l)) | none => none
 | .slice none 0 0 => some .nilSl
 | v => match oM v with | some x => some (.pv x) | none => none
def View.eval (st : View) : Operand -> Option AV
 | .tmp t => some (st.get t)
 | .const v => vT v
 | .func f => some (.pv (.fn f []))
 | .global _ => none
def cF : AV -> List AV
 | .pv (.agg fs) => fs.map .pv
 | .agg fs => fs
 | v => [v]
def zl : List AV -> Option (List PV)
 | [] => some []
 | .pv x :: r => match zl r with | some l => some (x :: l) | none => none
 | _ :: _ => none
def dP (agg : Bool) (l : List AV) : AV :=
 if agg then (match zl l with | some xs => .pv (.agg xs) | none => .agg l)
 else match l with | [v] => v | _ => .undef
def AV.fit : AV -> Bool
 | .undef => false
 | .tup _ => false
 | _ => true
def iJ (agg : Bool) (l : List PV) : Option AV :=
 if agg then some (.pv (.agg l)) else match l with | [x] => some (.pv x) | _ => none
def setFrom {α : Type} : Nat -> List α -> List α -> List α
 | 0, new, l => new ++ l.drop new.length
 | n + 1, new, a :: l => a :: setFrom n new l
 | _ + 1, _, [] => []
def i64 (n : Int) : AV := .pv (.int .i64 n)
abbrev Mj (k : IntKind) (a b : Int) : Int := k.wrap (BitVec.ofInt k.bits a &&& BitVec.ofInt k.bits b).toNat
abbrev MV (k : IntKind) (a b : Int) : Int := k.wrap (BitVec.ofInt k.bits a ||| BitVec.ofInt k.bits b).toNat
abbrev Mk (k : IntKind) (a b : Int) : Int := k.wrap (BitVec.ofInt k.bits a ^^^ BitVec.ofInt k.bits b).toNat
def mP (op : BinOp) (k : IntKind) (a b : Int) : Option PV :=
 match op with
 | .add => some (.int k (k.wrap (a + b)))
 | .sub => some (.int k (k.wrap (a - b)))
 | .mul => some (.int k (k.wrap (a * b)))
 | .quo => if b = 0 then none else some (.int k (k.wrap (a.tdiv b)))
 | .rem => if b = 0 then none else some (.int k (a.tmod b))
 | .and => some (.int k (Mj k a b))
 | .or => some (.int k (MV k a b))
 | .xor => some (.int k (Mk k a b))
 | .andNot => some (.int k (k.wrap (BitVec.ofInt k.bits a &&& ~~~ BitVec.ofInt k.bits b).toNat))
 | .eql => some (.bool (a == b))
 | .neq => some (.bool (a != b))
 | .lss => some (.bool (decide (a < b)))
 | .leq => some (.bool (decide (a <= b)))
 | .gtr => some (.bool (decide (a > b)))
 | .geq => some (.bool (decide (a ≥ b)))
 | _ => none
def lu (op : BinOp) (k : IntKind) (a b : Int) : Option PV :=
 if b < 0 then none else
 match op with
 | .shl => some (.int k (k.wrap (a * 2 ^ min b.toNat k.bits)))
 | .shr => some (.int k (a.fdiv (2 ^ min b.toNat k.bits)))
 | _ => none
def bz : Nat := 9223372036854775807
def yF (op : BinOp) (a b : List UInt8) : Option PV :=
 match op with
 | .add => if a.length + b.length <= bz then some (.str (a ++ b)) else none
 | .eql => some (.bool (a == b))
 | .neq => some (.bool (!(a == b)))
 | .lss => some (.bool (Op.bytesLess a b))
 | .leq => some (.bool (Op.bytesLess a b || a == b))
 | .gtr => some (.bool (!(Op.bytesLess a b || a == b)))
 | .geq => some (.bool (!(Op.bytesLess a b)))
 | _ => none
def Av (P : Program) (g : TypeId -> List PV -> List PV -> Option Bool) (xs ys : List PV) : List Field -> Option Bool
 | [] => some true
 | f :: r => if f.name = "_" ∨ iU P f.type = false then none else
  match g f.type ((xs.drop f.offset).take (ar P f.type)) ((ys.drop f.offset).take (ar P f.type)), Av P g xs ys r with
  | some a, some b => some (a && b)
  | _, _ => none
def Fw (P : Program) : Nat -> TypeId -> List PV -> List PV -> Option Bool
 | 0, _, _, _ => none
 | n + 1, t, xs, ys => match P.underlying t with
  | some (.struct fs) => if P.stoodInHeld t then none else Av P (Fw P n) xs ys fs.toList
  | some (.int _) => match xs, ys with | [.int k a], [.int k' b] => if k = k' then some (a == b) else none | _, _ => none
  | some .bool => match xs, ys with | [.bool a], [.bool b] => some (a == b) | _, _ => none
  | some .string => match xs, ys with | [.str a], [.str b] => some (a == b) | _, _ => none
  | _ => none
def uF (P : Program) (op : BinOp) (t : TypeId) (x y : AV) : Option PV :=
 match x, y with
 | .pv (.int k a), .pv (.int k' b) => match op with
  | .shl => lu .shl k a b
  | .shr => lu .shr k a b
  | op => if k = k' then mP op k a b else none
 | .pv (.str a), .pv (.str b) => yF op a b
 | .pv (.bool a), .pv (.bool b) => if Fk P t then (match op with
  | .eql => some (.bool (a == b))
  | .neq => some (.bool (!(a == b)))
  | _ => none) else none
 | .pv (.agg a), .pv (.agg b) => if P.eqGuardType P.depth t = false /\ dC P t then (match Fw P 8 t a b with
   | some r => match op with
    | .eql => some (.bool r)
    | .neq => some (.bool (!r))
    | _ => none
   | none => none) else none
 | .addr _ _ _, .pv .nilPtr => if (BZ P t).isSome then (match op with
  | .eql => some (.bool false)
  | .neq => some (.bool true)
  | _ => none) else none
 | .pv .nilPtr, .pv .nilPtr => if (BZ P t).isSome then (match op with
  | .eql => some (.bool true)
  | .neq => some (.bool false)
  | _ => none) else none
 | _, _ => none
def LN (op : UnOp) (x : AV) : Option PV :=
 match op, x with
 | .neg, .pv (.int k n) => mP .sub k 0 n
 | .xor, .pv (.int k n) => mP .xor k (if k.signed then -1 else k.max) n
 | .not, .pv (.bool b) => some (.bool (!b))
 | _, _ => none
inductive Patch where
 | box (id off : Nat) (cells : List AV)
 | buf (id sz : Nat) (es : List (List PV))
 | bld (id : Nat) (bs : List UInt8)
def Patch.id : Patch -> Nat
 | .box id _ _ => id
 | .buf id _ _ => id
 | .bld id _ => id
def Patch.on : Patch -> Option Obj -> Option Obj
 | .box _ off cells, some (.box cs) => if off + cells.length <= cs.length then some (.box (setFrom off cells cs)) else none
 | .buf _ sz es, some (.buf sz0 es0) => if sz = sz0 /\ es.length = es0.length then some (.buf sz es) else none
 | .bld _ bs, some (.bld _) => some (.bld bs)
 | _, _ => none
structure Made where
 v : AV
 os : List (Nat × Obj)
 ws : List Patch
 use : List Nat
 dels : List Nat
 frz : List Nat
def Made.only (v : AV) (os : List (Nat × Obj)) : Made := ⟨v, os, [], [], [], []⟩
mutual
def kb : PV -> Bool
 | .int _ _ => true
 | .bool _ => true
 | .str _ => true
 | .nilIface => true
 | .nilPtr => true
 | .nilFn => true
 | .nilSlc => true
 | .agg fs => flatPVs fs
 | .sl _ => false
 | .fn _ caps => flatPVs caps
 | .iptr _ => false
def flatPVs : List PV -> Bool
 | [] => true
 | x :: r => kb x && flatPVs r
end
mutual
def lP : TV -> Bool
 | .pv x => kb x
 | .own _ es => es.all flatPVs
 | .bld _ => true
 | .ptr cells => flatTVs cells
def flatTVs : List TV -> Bool
 | [] => true
 | v :: r => lP v && flatTVs r
end
inductive Back where
 | box (id off : Nat) (leaf : List (Option Back))
 | own (id : Nat)
 | nilSl
 | bld (id : Nat)
mutual
def Back.ids : Back -> List Nat
 | .box id _ leaf => id :: Back.idsO leaf
 | .own id => [id]
 | .nilSl => []
 | .bld id => [id]
def Back.idsO : List (Option Back) -> List Nat
 | [] => []
 | none :: r => Back.idsO r
 | some b :: r => Back.ids b ++ Back.idsO r
end
mutual
def Back.blds : Back -> List Nat
 | .box _ _ leaf => Back.bldsO leaf
 | .own _ => []
 | .nilSl => []
 | .bld id => [id]
def Back.bldsO : List (Option Back) -> List Nat
 | [] => []
 | none :: r => Back.bldsO r
 | some b :: r => Back.blds b ++ Back.bldsO r
end
def Back.bldsL (l : List Back) : List Nat := l.flatMap Back.blds
def Back.idsL (l : List Back) : List Nat := l.flatMap Back.ids
def nodup : List Nat -> Bool
 | [] => true
 | a :: r => !r.contains a && nodup r
def nR : List Nat -> List Nat -> Bool
 | [], _ => true
 | a :: r, l => !l.contains a && nR r l
def fP (g : AV -> Option (TV × List Nat × Option Back)) : List AV -> Option (List TV × List Nat × List (Option Back))
 | [] => some ([], [], [])
 | v :: r => match g v, fP g r with
  | some (x, i, b), some (l, is, bs) => some (x :: l, i ++ is, b :: bs)
  | _, _ => none
def gq (st : View) : Nat -> AV -> Option (TV × List Nat × Option Back)
 | 0, v => match v with
  | .pv x => some (.pv x, [], none)
  | .nilSl => some (.pv (.sl []), [], none)
  | .own id => match st.obj id with | some (.buf sz es) => some (.own sz es, [id], none) | _ => none
  | _ => none
 | n + 1, v => match v with
  | .pv x => some (.pv x, [], none)
  | .nilSl => some (.pv (.sl []), [], none)
  | .own id => match st.obj id with | some (.buf sz es) => some (.own sz es, [id], none) | _ => none
  | .addr id 0 0 => match st.obj id with
   | some (.box cs) => match fP (gq st n) cs with | some (l, ids, bs) => some (.ptr l, ids, some (.box id 0 bs)) | none => none
   | some (.bld bs) => some (.bld bs, [], some (.bld id))
   | _ => none
  | _ => none
def mV : PV -> Bool
 | .agg _ => false
 | _ => true
def jy (st : View) : AV -> Option (TV × List Nat)
 | .pv x => some (.pv x, [])
 | .nilSl => some (.pv (.sl []), [])
 | .own id => match st.obj id with | some (.buf _ es) => some (.pv (.sl es), [id]) | _ => none
 | .part id lo n => match st.obj id with | some (.buf _ es) => some (.pv (.sl ((es.drop lo).take n)), [id]) | _ => none
 | .agg fs => match qT fs with | some l => some (.pv (.agg l), []) | none => none
 | .clo f [] caps => match qT caps with | some l => if l.all mV then some (.pv (.fn f l), []) else none | none => none
 | _ => none
structure Given where
 vs : List TV
 dels : List Nat
 bs : List Back
 lent : List Nat
def mt (P : Program) (m : Mode) (t : TypeId) (st : View) (a : AV) : Option Given :=
 match a with
 | .addr id i off => if i = 0 then (match st.obj id with
  | some (.box cs) => match BZ P t with
   | some e => if off + ar P e <= cs.length then
     (match fP (gq st 4) ((cs.drop off).take (ar P e)) with
     | some (l, ids, bs) => some ⟨[.ptr l], ids, [.box id off bs], []⟩
     | none => none) else none
   | none => none
  | some (.bld bs) => if off = 0 then some ⟨[.bld bs], [], [.bld id], []⟩ else none
  | _ => none) else none
 | .nilSl => match m, ie P t with
  | .move, some e => some ⟨[.own (ar P e) []], [], [], []⟩
  | .mut, some e => some ⟨[.own (ar P e) []], [], [.nilSl], []⟩
  | .borrow, _ => some ⟨[.pv (.sl [])], [], [], []⟩
  | .isNil, _ => some ⟨[.pv .nilSlc], [], [], []⟩
  | _, _ => none
 | .own id => match m, st.obj id with
  | .move, some (.buf sz es) => some ⟨[.own sz es], [id], [], []⟩
  | .mut, some (.buf sz es) => some ⟨[.own sz es], [], [.own id], []⟩
  | .borrow, some (.buf _ es) => some ⟨[.pv (.sl es)], [], [], [id]⟩
  | _, _ => none
 | v => match jy st v with
  | some (x, l) => some ⟨[x], [], [], l⟩
  | none => none
def iO (P : Program) (st : View) : List Mode -> List TypeId -> List AV -> Option Given
 | _, _, [] => some ⟨[], [], [], []⟩
 | ms, ts, a :: as => match mt P (ms.headD .borrow) (ts.headD 0) st a, iO P st ms.tail ts.tail as with
  | some g, some h => some ⟨g.vs ++ h.vs, g.dels ++ h.dels, g.bs ++ h.bs, g.lent ++ h.lent⟩
  | _, _ => none
mutual
def bV (g : Nat -> Nat -> Nat) (id : Nat) : TV -> AV × List (Nat × Obj)
 | .pv x => (.pv x, [])
 | .own sz es => (.own id, [(id, .buf sz es)])
 | .bld bs => (.addr id 0 0, [(id, .bld bs)])
 | .ptr cells => let r := places g id 0 cells; (.addr id 0 0, (id, .box r.1) :: r.2)
def places (g : Nat -> Nat -> Nat) (id j : Nat) : List TV -> List AV × List (Nat × Obj)
 | [] => ([], [])
 | v :: r => let a := bV g (g id j) v; let b := places g id (j + 1) r; (a.1 :: b.1, a.2 ++ b.2)
end
mutual
def bw (id j : Nat) : Option Back -> TV -> Option (AV × List Patch × List (Nat × Obj))
 | some (.box i off bs), .ptr cells => match backLeaves i off bs cells with
  | some (l, ps, os) => some (.addr i 0 0, ps ++ [.box i off l], os)
  | none => none
 | some (.bld i), .bld s => some (.addr i 0 0, [.bld i s], [])
 | none, .pv x => some (.pv x, [], [])
 | none, .own sz es => some (.own (bg id j), [], [(bg id j, .buf sz es)])
 | _, _ => none
def backLeaves (id j : Nat) : List (Option Back) -> List TV -> Option (List AV × List Patch × List (Nat × Obj))
 | [], [] => some ([], [], [])
 | b :: bs, v :: vs => match bw id j b v, backLeaves id (j + 1) bs vs with
  | some (a, p, o), some (l, ps, os) => some (a :: l, p ++ ps, o ++ os)
  | _, _ => none
 | _, _ => none
end
def bZ : List Back -> List TV -> Option (List Patch × List (Nat × Obj))
 | [], [] => some ([], [])
 | .box id off bs :: r, .ptr cells :: vs => match backLeaves id off bs cells, bZ r vs with
  | some (l, ps, os), some (qs, rs) => some (ps ++ .box id off l :: qs, os ++ rs)
  | _, _ => none
 | .bld id :: r, .bld s :: vs => match bZ r vs with | some (qs, rs) => some (.bld id s :: qs, rs) | none => none
 | .nilSl :: r, .own _ [] :: vs => bZ r vs
 | .own id :: r, .own sz es :: vs => match bZ r vs with | some (qs, rs) => some (.buf id sz es :: qs, rs) | none => none
 | _, _ => none
def dQ (d : Nat) : List TV -> AV × List (Nat × Obj)
 | [v] => bV bg (aN d) v
 | vs => let r := places bg (aN d) 0 vs; (.tup r.1, r.2)
def asInt : AV -> Option Int
 | .pv (.int _ n) => some n
 | _ => none
def gl (st : View) : AV -> Option (List (List PV))
 | .pv (.sl es) => some es
 | .nilSl => some []
 | .own id => match st.obj id with | some (.buf _ es) => some es | _ => none
 | .part id lo n => match st.obj id with | some (.buf _ es) => some ((es.drop lo).take n) | _ => none
 | _ => none
def jJ (P : Program) (id : Nat) : Nat -> List Value -> List TypeId -> Option (List AV × List (Nat × Obj))
 | _, [], _ => some ([], [])
 | j, v :: vs, ts => match oM v, jJ P id (j + 1) vs ts.tail with
  | some (.sl _), some (l, os) => match ie P (ts.headD 0) with
   | some e => some (.own (bg id j) :: l, (bg id j, .buf (ar P e) []) :: os)
   | none => none
  | some x, some (l, os) => some (.pv x :: l, os)
  | _, _ => none
def cg (sz : Nat) (es : List (List PV)) : Bool := es.all fun c => c.length == sz
def yL (s : List UInt8) : List (List PV) := s.map fun b => [.int .u8 b.toNat]
def qM (es : List (List PV)) : List UInt8 := es.map fun c => match c with | [.int .u8 n] => UInt8.ofNat n.toNat | _ => 0
def yK (es : List (List PV)) : Bool := es.all fun c => match c with | [.int .u8 _] => true | _ => false
def oX (P : Program) (d : Nat) (src dst : TypeId) (x : AV) (st : View) : Option (AV × List (Nat × Obj)) :=
 match P.underlying dst with
 | some (.int k) => match P.underlying src, x with
  | some (.int _), .pv (.int _ n) => some (.pv (.int k (k.wrap n)), [])
  | _, _ => none
 | some .string => match P.underlying src with
  | some .string => match x with | .pv (.str s) => some (.pv (.str s), []) | _ => none
  | some (.slice e) => match P.underlying e, gl st x with
   | some (.int .u8), some es => if yK es then some (.pv (.str (qM es)), []) else none
   | _, _ => none
  | _ => none
 | some (.slice e) => match P.underlying src, x, P.underlying e with
  | some .string, .pv (.str s), some (.int .u8) => if ar P e = 1 then some (.own (aN d), [(aN d, .buf 1 (yL s))]) else none
  | _, _, _ => none
 | _ => none
def iK (lo hi : Option AV) (len : Nat) : Option (Nat × Nat) :=
 match (match hi with | none => some (Int.ofNat len) | some h => asInt h), (match lo with | none => some 0 | some l => asInt l) with
 | some h, some l => if 0 <= l /\ l <= h /\ h <= Int.ofNat len then some (l.toNat, h.toNat) else none
 | _, _ => none
def cU (st : View) : List Operand -> Option (List AV)
 | [] => some []
 | o :: r => match st.eval o, cU st r with | some v, some l => some (v :: l) | _, _ => none
def eX (st : View) : Option Operand -> Option (Option AV)
 | none => some none
 | some o => match st.eval o with | some v => some (some v) | none => none
def du : Nat := 140737488355328
def mT (mx : Bool) (k : IntKind) : Int -> List AV -> Option Int
 | a, [] => some a
 | a, .pv (.int _ b) :: r => mT mx k (if mx then (if b > a then b else a) else (if b < a then b else a)) r
 | _, _ => none
def ud (mx : Bool) : List AV -> Option PV
 | .pv (.int k a) :: r => match mT mx k a r with | some n => some (.int k n) | none => none
 | _ => none
def cn (st : View) : List (Nat × Operand) -> Option (List (Nat × AV))
 | [] => some []
 | (i, o) :: r => match st.eval o, cn st r with | some v, some l => some ((i, v) :: l) | _, _ => none
def jc (P : Program) (t : TypeId) (cells : List AV) : List (Nat × AV) -> Option (List AV)
 | [] => some cells
 | (i, v) :: r => match qi P t i with
  | some f => if v.fit /\ (cF v).length = ar P f.type /\ f.offset + ar P f.type <= cells.length then jc P t (setFrom f.offset (cF v) cells) r else none
  | none => none
def lq (n : Nat) (es : List (List PV)) : List (Nat × AV) -> Option (List (List PV))
 | [] => some es
 | (i, v) :: r => match qT (cF v) with
  | some l => if v.fit /\ l.length = n /\ i < es.length then lq n (es.set i l) r else none
  | none => none
def dq (P : Program) (bldT : TypeId) (d : Nat) (o : Op) (st : View) : Option (AV × List (Nat × Obj)) :=
 match o with
 | .move x => match st.eval x with | some v => some (v, []) | none => none
 | .assign x => match st.eval x with | some v => some (v, []) | none => none
 | .pick c a b => match st.eval c with
  | some (.pv (.bool t)) => match st.eval (if t then a else b) with | some v => some (v, []) | none => none
  | _ => none
 | .alloc t => if t = bldT then (if ¬ t = u0 then none else match eO P t with | some [.pointer none, .slice none 0 0] => some (.addr (aN d) 0 0, [(aN d, .bld [])]) | _ => none) else
  match eO P t with
  | some vs => match jJ P (aN d) 0 vs (lg P 8 t) with
   | some (l, os) => some (.addr (aN d) 0 0, (aN d, .box l) :: os)
   | none => none
  | none => none
 | .box t x => match st.eval x with
  | some v => if v.fit /\ (cF v).length = ar P t then some (.addr (aN d) 0 0, [(aN d, .box (cF v))]) else none
  | none => none
 | .build t parts => match eO P t, cn st parts.toList with
  | some vs, some ps => match gR vs with
   | some zs => if mJ P t /\ gr (ps.flatMap fun p => cF p.2) = [] then (match jc P t zs ps with
    | some l => some (dP true l, [])
    | none => none) else none
   | none => none
  | _, _ => none
 | .buildSlice t n parts => match ie P t, cn st parts.toList with
  | some e, some ps => match eO P e with
   | some vs => match iR vs with
    | some zs => match lq (ar P e) (List.replicate n zs) ps with
     | some es => if n * ar P e <= 16777216 then some (.own (aN d), [(aN d, .buf (ar P e) es)]) else none
     | none => none
    | none => none
   | none => none
  | _, _ => none
 | .load t a => if iU P t = false then none else match st.eval a with
  | some (.addr id i off) => match st.obj id with
   | some (.box cs) => if i = 0 /\ off + ar P t <= cs.length then
     (if dC P t then (if gr ((cs.drop off).take (ar P t)) = [] then some (dP true ((cs.drop off).take (ar P t)), []) else none)
     else match cs[off]? with | some v => some (v, []) | none => none)
    else none
   | some (.buf _ es) => match es[i]? with
    | some c => if off + ar P t <= c.length then (match iJ (dC P t) ((c.drop off).take (ar P t)) with | some v => some (v, []) | none => none) else none
    | none => none
   | _ => none
  | some (.pv (.iptr c)) => if ar P t <= c.length then (match iJ (dC P t) (c.take (ar P t)) with | some v => some (v, []) | none => none) else none
  | _ => none
 | .nilCheck x => match st.eval x with
  | some (.addr a b c) => some (.addr a b c, [])
  | some (.pv (.iptr c)) => some (.pv (.iptr c), [])
  | some (.pv (.fn f c)) => some (.pv (.fn f c), [])
  | some (.clo f a b) => some (.clo f a b, [])
  | _ => none
 | .binOp op t x y _ => match st.eval x, st.eval y with
  | some a, some b => match uF P op t a b with | some r => some (.pv r, []) | none => none
  | _, _ => none
 | .unOp op _ x => match st.eval x with
  | some a => match LN op a with | some r => some (.pv r, []) | none => none
  | none => none
 | .convert s t x => match st.eval x with | some v => oX P d s t v st | none => none
 | .makeFunc (.func f) first caps => match cU st first.toList, cU st caps.toList with
  | some a, some b => some (.clo f a b, [])
  | _, _ => none
 | .makeSlice t l c => match ie P t, st.eval l, st.eval c with
  | some e, some (.pv (.int _ n)), some (.pv (.int _ m)) => if 0 <= n /\ n <= m /\ m <= bz /\ m * dM P e <= du then
    (match eO P e with
    | some vs => match iR vs with | some z => some (.own (aN d), [(aN d, .buf (ar P e) (List.replicate n.toNat z))]) | none => none
    | none => none) else none
  | _, _, _ => none
 | .slice t x lo hi none => match P.underlying t, st.eval x, eX st lo, eX st hi with
  | some .string, some (.pv (.str s)), some l, some h => match iK l h s.length with
   | some (a, b) => some (.pv (.str ((s.drop a).take (b - a))), [])
   | none => none
  | some (.slice e), some v, some l, some h => if iU P e = false then none else (match v with
   | .pv (.sl es) => if cg (ar P e) es then (match iK l h es.length with
    | some (a, b) => some (.pv (.sl ((es.drop a).take (b - a))), [])
    | none => none) else none
   | .nilSl => match iK l h 0 with
    | some _ => some (.nilSl, [])
    | none => none
   | .own id => match st.obj id with
    | some (.buf sz es) => if sz = ar P e then (match iK l h es.length with
     | some (a, b) => some (.part id a (b - a), [])
     | none => none) else none
    | _ => none
   | .part id lo n => match st.obj id with
    | some (.buf sz _) => if sz = ar P e then (match iK l h n with
     | some (a, b) => some (.part id (lo + a) (b - a), [])
     | none => none) else none
    | _ => none
   | _ => none)
  | _, _, _, _ => none
 | .fieldAddr t x f => match qi P t f, st.eval x with
  | some g, some (.addr id i off) => if ¬ (iU P g.type /\ ar P g.type ≠ 0) then none else some (.addr id i (off + g.offset), [])
  | some g, some (.pv (.iptr c)) => if ¬ (iU P g.type /\ ar P g.type ≠ 0) then none else some (.pv (.iptr (c.drop g.offset)), [])
  | _, _ => none
 | .field t x f => match qi P t f, st.eval x with
  | some g, some (.pv (.agg fs)) => if iU P g.type /\ 0 < ar P g.type /\ g.offset + ar P g.type <= fs.length then
    (match iJ (dC P g.type) ((fs.drop g.offset).take (ar P g.type)) with | some v => some (v, []) | none => none) else none
  | some g, some (.agg fs) => if iU P g.type /\ 0 < ar P g.type /\ g.offset + ar P g.type <= fs.length then
    some (dP (dC P g.type) ((fs.drop g.offset).take (ar P g.type)), []) else none
  | _, _ => none
 | .indexAddr t x ix => match ie P t, st.eval x, st.eval ix with
  | some e, some (.own id), some (.pv (.int _ i)) => match st.obj id with
   | some (.buf sz es) => if 0 <= i /\ i < es.length /\ sz = ar P e then some (.addr id i.toNat 0, []) else none
   | _ => none
  | some e, some (.part id lo n), some (.pv (.int _ i)) => match st.obj id with
   | some (.buf sz es) => if 0 <= i /\ i < n /\ lo + n <= es.length /\ sz = ar P e then some (.addr id (lo + i.toNat) 0, []) else none
   | _ => none
  | some e, some (.pv (.sl es)), some (.pv (.int _ i)) => if 0 <= i then (match es[i.toNat]? with | some c => if c.length = ar P e then some (.pv (.iptr c), []) else none | none => none) else none
  | _, _, _ => none
 | .index t x ix => match P.underlying t, st.eval x, st.eval ix with
  | some .string, some (.pv (.str s)), some (.pv (.int _ i)) => if 0 <= i then (match s[i.toNat]? with | some b => some (.pv (.int .u8 b.toNat), []) | none => none) else none
  | _, _, _ => none
 | .extract x i => match st.eval x with
  | some (.tup vs) => match vs[i]? with | some v => some (v, []) | none => none
  | _ => none
 | .call { callee := .builtin b, args := as, argTypes := ts } => match b with
  | .len => match as.toList, ts.toList with
   | [x], t :: _ => match P.underlying t, st.eval x with
    | some .string, some (.pv (.str s)) => some (i64 s.length, [])
    | some (.slice _), some v => match gl st v with | some l => some (i64 l.length, []) | none => none
    | _, _ => none
   | _, _ => none
  | .max => match cU st as.toList with
   | some l => match ud true l with | some x => some (.pv x, []) | none => none
   | none => none
  | .min => match cU st as.toList with
   | some l => match ud false l with | some x => some (.pv x, []) | none => none
   | none => none
  | _ => none
 | _ => none
def sR (sz : Nat) (st : View) : Operand -> Option (List (List PV) × Option Nat)
 | x => match st.eval x with
  | some .nilSl => some ([], none)
  | some (.own id) => match st.obj id with
   | some (.buf n es) => if n = sz then some (es, some id) else none
   | _ => none
  | _ => none
def jp (P : Program) (u : TypeId) (st : View) (y : Operand) : Option (List (List PV)) :=
 match P.underlying u, st.eval y with
 | some .string, some (.pv (.str s)) => some (yL s)
 | some (.slice _), some v => gl st v
 | _, _ => none
def we (P : Program) (d : Nat) (o : Op) (st : View) : Option (AV × List (Nat × Obj) × Option Nat) :=
 match o with
 | .call { callee := .builtin .append, args := as, argTypes := ts } => match as.toList, ts.toList with
  | [x, y], [t, u] => match ie P t with
   | some e => match sR (ar P e) st x, jp P u st y with
    | some (es, id), some l => if (es.length + l.length) * dM P e <= du /\ es.length + l.length <= bz /\ cg (ar P e) l /\ (eO P e).isSome then some (.own (aN d), [(aN d, .buf (ar P e) (es ++ l))], id) else none
    | _, _ => none
   | none => none
  | _, _ => none
 | _ => none
def p9 (st : View) : List AV -> List Nat
 | [] => []
 | .addr id 0 0 :: r => (match st.obj id with | some (.box cs) => gr cs | _ => []) ++ id :: p9 st r
 | _ :: r => p9 st r
def Er (P : Program) (o : Op) (st : View) : List Nat :=
 match o with
 | .call { callee := .value _, args := as, argTypes := _ } => match cU st as.toList with
  | some l => l.flatMap fun v => match v with
   | .clo _ _ caps => p9 st caps
   | _ => []
  | none => []
 | .build _ parts | .buildSlice _ _ parts => match cn st parts.toList with
  | some ps => gr (ps.flatMap fun p => cF p.2)
  | none => []
 | .load t a => if dC P t then (match st.eval a with
  | some (.addr id _ off) => match st.obj id with | some (.box cs) => gr ((cs.drop off).take (ar P t)) | _ => []
  | _ => []) else []
 | .store _ a x => match st.eval a, st.eval x with
  | some (.addr id _ _), some v => match st.obj id with | some (.buf _ _) => gr (cF v) | _ => []
  | _, _ => []
 | _ => []
def nf (sz : Nat) (st : View) : AV -> Option (Nat × Nat × Nat × List (List PV))
 | .own id => match st.obj id with
  | some (.buf n es) => if n = sz then some (id, 0, es.length, es) else none
  | _ => none
 | .part id lo n => match st.obj id with
  | some (.buf k es) => if k = sz /\ lo + n <= es.length then some (id, lo, n, es) else none
  | _ => none
 | _ => none
def rJ (P : Program) (o : Op) (st : View) : Option Made :=
 match o with
 | .store t a x => match st.eval a, st.eval x with
  | some (.addr id i off), some v => if iU P t /\ v.fit /\ (cF v).length = ar P t then (match st.obj id with
   | some (.box cs) => if i = 0 /\ off + ar P t <= cs.length then some ⟨.tup [], [], [.box id off (cF v)], [], [], []⟩ else none
   | some (.buf sz es) => match qT (cF v), es[i]? with
    | some l, some c => if off + ar P t <= c.length then some ⟨.tup [], [], [.buf id sz (es.set i (setFrom off l c))], [], [], []⟩ else none
    | _, _ => none
   | _ => none) else none
  | _, _ => none
 | .call { callee := .builtin .copy, args := as, argTypes := ts } => match as.toList, ts.toList with
  | [x, y], [t, u] => match ie P t, st.eval x with
   | some e, some xv => match nf (ar P e) st xv, jp P u st y with
    | some (id, lo, m, es), some l => if cg (ar P e) l then some ⟨i64 (min l.length m : Nat), [], [.buf id (ar P e) (es.take lo ++ (l.take (min l.length m) ++ es.drop (lo + min l.length m)))], [], [], []⟩ else none
    | _, _ => none
   | _, _ => none
  | _, _ => none
 | _ => none
def g8 (st : View) : Callee -> Option (FuncId × List AV × List AV)
 | .value (.func f) => some (f, [], [])
 | .value x => match st.eval x with
  | some (.pv (.fn f caps)) => some (f, [], caps.map .pv)
  | some (.clo f first caps) => some (f, first, caps)
  | _ => none
 | _ => none
def wanted (all : List Oper) (st : View) (o : Oper) : Option Bool :=
 match o.guard with
 | none => some true
 | some (j, want) => match (all[j]?).bind (·.dst) with
  | some t => match st.get t with
   | .pv (.bool b) => some (b == want)
   | .tup [] => some false
   | _ => none
  | none => none
def ki : Op -> Option Call
 | .call c => match c.callee with | .builtin _ => none | _ => some c
 | _ => none
section run
variable (C : Cx) (call : FuncId -> List TV -> Option (List TV × List TV))
def gw (d : Nat) (c : Call) (st : View) : Option Made :=
 match g8 st c.callee, cU st c.args.toList with
 | some (f, first, caps), some as => match C.P.funcs[f]? with
  | some fn => match iO C.P st (C.modes f) fn.params.toList (first ++ as ++ caps) with
   | some g => if nodup (g.dels ++ Back.idsL g.bs) && nR g.lent (g.dels ++ Back.idsL g.bs) then (match call f g.vs with
    | some (rs, fs) => (match bZ g.bs fs with
     | some (ws, os) =>
      let r := dQ d rs
      some ⟨r.1, r.2 ++ os, ws, [], g.dels, match g.lent with | [] => [] | l => if flatTVs rs && flatTVs fs then [] else l⟩
     | none => none)
    | none => none) else none
   | none => none
  | none => none
 | _, _ => none
def fC (o : Oper) (st : View) : Option Made :=
 let d := o.dst.getD 499
 match ki o.op with
 | some c => gw C call d c st
 | none => match dq C.P C.bldT d o.op st with
  | some (v, os) => some (.only v os)
  | none => match we C.P d o.op st with
   | some (v, os, id) => some ⟨v, os, [], id.toList, [], []⟩
   | none => rJ C.P o.op st
def kU : List Oper -> List Nat -> List Nat
 | [], l => l
 | o :: r, l => match o.dst, o.op with
  | some d, .indexAddr _ _ _ => kU r (d :: l)
  | some d, .fieldAddr _ (.tmp t) _ => kU r (if l.contains t then d :: l else l)
  | _, _ => kU r l
def gU (ops : List Oper) : List Nat :=
 let l := kU ops []
 ops.flatMap fun o => match o.op with
  | .store _ (.tmp a) (.tmp t) => if l.contains a then [t] else []
  | .build _ ps | .buildSlice _ _ ps => ps.toList.filterMap fun p => match p.2 with | .tmp t => some t | _ => none
  | _ => []
def cR (pl : List Nat) (o : Oper) (ob : Nat -> Option Obj) (m : Made) : Made :=
 match o.dst, m.os, m.ws with
 | some d, [(i, .buf _ es)], [] => if pl.contains d && (ob i).isNone then (match m.v with | .own j => if i = j then { m with v := .pv (.sl es), os := [] } else m | _ => m) else m
 | _, _, _ => m
def gg (o : Oper) (v : AV) (st : St) : St := match o.dst with | some t => st.put t v | none => st
def eB : List Patch -> St -> Option St
 | [], st => some st
 | p :: r, st => match p.on (st.obj p.id) with
  | some o => eB r (st.upd p.id o)
  | none => none
def dW : List Nat -> St -> St
 | [], st => st
 | i :: r, st => dW r (st.kill i)
def Dx (o : Oper) (m : Made) (st : St) : Option St :=
 match c7 m.frz st with
 | some s => match eB m.ws (dW (m.dels ++ m.use) s) with
  | some s => match s.add m.os with
   | some s => some (gg o m.v s)
   | none => none
  | none => none
 | none => none
def wh (pl : List Nat) (o : Oper) (st : St) : Option St :=
 match c7 (Er C.P o.op st.view) st with
 | some s => match fC C call o s.view with
  | some m => Dx o (cR pl o s.obj m) s
  | none => none
 | none => none
def i7 (all : List Oper) (pl : List Nat) : List Oper -> St -> Option St
 | [], st => some st
 | o :: r, st => match wanted all st.view o with
  | some true => match wh C call pl o st with | some s => i7 all pl r s | none => none
  | some false => i7 all pl r (gg o (.tup []) st)
  | none => none
structure Done where
 i : Nat
 b : Nat
 o : Oper
 m : Made
 raw : List Nat
 rd : List Nat
def Made.dead (m : Made) : List Nat := m.dels ++ m.use
def dV (f : Nat -> Bool) (t : Nat) (base : Nat -> AV) : List Done -> AV
 | [] => base t
 | x :: r => if x.o.dst = some t then (if f x.i then x.m.v else dV f t base r) else dV f t base r
def c5 (f : Nat -> Bool) (id : Nat) (base : Nat -> Option Obj) : List Done -> Option Obj
 | [] => base id
 | x :: r => if f x.i then
   (match cB id x.m.os with
    | some o => some o
    | none => if x.m.dead.contains id then none else x.m.ws.foldl (fun o p => if p.id = id then p.on o else o) (c5 f id base r))
  else c5 f id base r
def dF (f : Nat -> Bool) (st : St) (done : List Done) : View := ⟨fun t => dV f t st.get done, fun id => c5 f id st.obj done⟩
def wU : List Done -> Nat -> Nat
 | [], _ => 0
 | x :: r, j => if x.i = j then x.b else wU r j
def g7 (look : Nat -> Nat) (o : Oper) : Nat := o.after.toList.foldl (fun s e => if Region.binds .any e then s ||| 2 ^ e.on ||| look e.on else s) 0
def lZ (V : View) (m : Made) : Bool :=
 m.frz.isEmpty && m.dead.all (fun i => (V.obj i).isSome) && m.ws.all fun p => !m.dead.contains p.id && (p.on (V.obj p.id)).isSome
def ee : List Patch -> List (Nat × Obj) -> List (Nat × Obj)
 | [], l => l
 | p :: r, l => match p.on (cB p.id l) with
  | some o => ee r ((p.id, o) :: tE p.id l)
  | none => ee r (tE p.id l)
def j4 : List Nat -> List (Nat × Obj) -> List (Nat × Obj)
 | [], l => l
 | i :: r, l => j4 r (tE i l)
def rj (o : Oper) (m : Made) (st : St) : St := gg o m.v ⟨st.tmps, m.os ++ ee m.ws (j4 m.dead st.objs)⟩
def BA : Op -> Bool
 | .move _ | .assign _ | .pick _ _ _ | .alloc _ | .box _ _ | .build _ _ | .buildSlice _ _ _ | .nilCheck _ | .binOp _ _ _ _ _ | .unOp _ _ _ | .makeFunc _ _ _ | .makeSlice _ _ _ | .fieldAddr _ _ _ | .field _ _ _ | .index _ _ _ | .extract _ _ => false
 | _ => true
mutual
def AV.ids : AV -> List Nat
 | .own i => [i]
 | .part i _ _ => [i]
 | .addr i _ _ => [i]
 | .tup vs => AV.idsL vs
 | .agg vs => AV.idsL vs
 | .clo _ a b => AV.idsL a ++ AV.idsL b
 | _ => []
def AV.idsL : List AV -> List Nat
 | [] => []
 | v :: r => AV.ids v ++ AV.idsL r
end
def yy (objs : List (Nat × Obj)) : Nat -> List Nat -> List Nat
 | 0, l => l
 | n + 1, l => yy objs n (l ++ l.flatMap fun i => match cB i objs with | some (.box cs) => AV.idsL cs | _ => [])
def xw (o : Op) : List Nat := o.operands.toList.filterMap fun | .tmp t => some t | _ => none
def pD (o : Op) (st : St) : List Nat := if BA o then yy st.objs (match o with | .call _ => 4 | _ => 0) (AV.idsL ((xw o).map st.get)) else []
def View.only (D : List Nat) (V : View) : View := ⟨V.get, fun id => if D.contains id then V.obj id else none⟩
def iL (all : List Oper) (pl : List Nat) (ob : Nat -> Option Obj) : List Oper -> Nat -> List Done -> St -> Option (List Done × St)
 | [], _, done, st => some (done, st)
 | o :: r, i, done, st =>
  if g7 (wU done) o < 2 ^ i then (match wanted all st.view o with
   | some true => if (Er C.P o.op st.view).isEmpty then (match fC C call o (st.view.only (pD o.op st)) with
    | some m => if lZ st.view (cR pl o ob m) then
      iL all pl ob r (i + 1) (⟨i, g7 (wU done) o, o, cR pl o ob m, m.os.map (·.1), pD o.op st⟩ :: done) (rj o (cR pl o ob m) st) else none
    | none => none) else none
   | some false => iL all pl ob r (i + 1) (⟨i, g7 (wU done) o, o, .only (.tup []) [], [], []⟩ :: done) (rj o (.only (.tup []) []) st)
   | none => none) else none
def nv (x y : Done) : Bool := x.i != y.i && !x.b.testBit y.i && !y.b.testBit x.i
def Made.writes (m : Made) : List Nat := m.dead ++ m.ws.map Patch.id
def oN (all : List Oper) (o : Oper) : List Nat :=
 xw o.op ++ (match o.guard with | some (j, _) => ((all[j]?).bind (·.dst)).toList | none => [])
def uA (all : List Oper) : List (Nat × Nat × Oper) -> List (Nat × Nat × Oper) -> Bool
 | _, [] => true
 | l, (i, b, o) :: r => (l.all fun y => !(i != y.1 && !b.testBit y.1 && !y.2.1.testBit i) || (match y.2.2.dst with | some t => !(oN all o).contains t | none => true)) && uA all l r
def p6 : List Oper -> Nat -> List (Nat × Nat × Oper) -> List (Nat × Nat × Oper)
 | [], _, l => l
 | o :: r, i, l => p6 r (i + 1) ((i, g7 (fun j => match cB j l with | some p => p.1 | none => 0) o, o) :: l)
def xK (ops : List Oper) : Bool := nodup (ops.filterMap (·.dst)) && uA ops (p6 ops 0 []) (p6 ops 0 [])
def apart (done : List Done) : List Done -> Bool
 | [] => true
 | x :: r => (done.all fun y => !nv x y || nR (x.rd ++ (x.m.writes ++ x.raw)) (y.m.writes ++ y.raw)) && apart done r
def dv (ids : List Nat) (st : St) : St :=
 match ids with
 | [] => st
 | _ => st.map (AV.sub fun i => if ids.contains i then none else some i)
def region (ops : Array Oper) (pre : List Nat) (draw : Bool) (st : St) : Option St :=
 let pl := pre ++ gU ops.toList
 if draw then
  if xK ops.toList then
   match iL C call ops.toList pl st.obj ops.toList 0 [] st with
   | some (done, s) =>
    if apart done done && nodup (done.flatMap Done.raw) && (done.flatMap Done.raw).all (fun i => (st.obj i).isNone) then
     some (dv (done.flatMap fun x => x.m.dead) s)
    else none
   | none => none
  else none
 else i7 C call ops.toList pl ops.toList st
def jQ (body : St -> Option (Ex × St)) : Nat -> St -> Option (Ex × St)
 | 0, _ => none
 | n + 1, st => match body st with
  | some (.normal, s) => jQ body n s
  | r => r
def DA : Code -> Nat
 | .region id _ _ => id
 | .seq a _ => DA a
 | .block _ b => DA b
 | .loop b => DA b
 | .scope b => DA b
 | _ => 0
def iq : List Nat -> St -> Option St
 | [], st => some st
 | t :: r, st => match st.get t with
  | .own i => if i = aN t ∨ i % 2 = 1 then iq r st else (match st.ren i (aN t) with | some s => iq r s | none => none)
  | _ => iq r st
def ip (id : Nat) : Nat -> List AV -> St -> Option St
 | _, [], st => some st
 | j, .own i :: r, st => if i = bg id j ∨ i % 2 = 1 then ip id (j + 1) r st else (match st.ren i (bg id j) with | some s => ip id (j + 1) r s | none => none)
 | j, _ :: r, st => ip id (j + 1) r st
def io : List Nat -> St -> Option St
 | [], st => some st
 | t :: r, st => match st.get t with
  | .addr id 0 0 => match st.obj id with
   | some (.box cs) => match ip id 0 cs st with | some s => io r s | none => none
   | _ => io r st
  | _ => io r st
def tx (st : St) : Bool :=
 (st.tmps.all fun p => (AV.ids p.2).all fun i => (cB i st.objs).isSome) &&
 st.objs.all fun p => match p.2 with | .box cs => (AV.idsL cs).all fun i => (cB i st.objs).isSome | _ => true
def qL : List (Nat × Obj) -> List Nat
 | [] => []
 | (i, .box cs) :: r => if i % 2 = 1 then AV.idsL cs ++ qL r else qL r
 | _ :: r => qL r
def IM (ts : List Nat) (st : St) : Option St :=
 let tm := ts.filterMap fun t => (cB t st.tmps).map fun v => (t, v)
 let ids := yy st.objs 4 (AV.idsL (tm.map (·.2)) ++ qL st.objs)
 let s : St := ⟨tm, st.objs.filter fun p => ids.contains p.1 || p.1 % 2 == 1⟩
 if tx s then some s else none
def qv (k : Nat) (o : Obj) : List (Nat × Obj) -> List (Nat × Obj)
 | [] => [(k, o)]
 | (j, p) :: r => if j < k then (j, p) :: qv k o r else (k, o) :: (j, p) :: r
def nj : List (Nat × Obj) -> List (Nat × Obj)
 | [] => []
 | (k, o) :: r => qv k o (nj r)
def mw (ts : List Nat) (st : St) : St := ⟨ts.filterMap fun t => (cB t st.tmps).map fun v => (t, v), nj st.objs⟩
def fk : List (Nat × Option Nat × Nat) -> St -> Option St
 | [], st => some st
 | (t, none, sz) :: r, st => if sz = 0 then none else match st.get t with
  | .nilSl => match st.add [(aN t, .buf sz [])] with | some s => fk r (s.put t (.own (aN t))) | none => none
  | _ => fk r st
 | (t, some j, sz) :: r, st => if sz = 0 then none else match st.get t with
  | .addr id 0 0 => match st.obj id with
   | some (.box cs) => match cs[j]? with
    | some .nilSl => match st.add [(bg id j, .buf sz [])] with | some s => fk r (s.upd id (.box (cs.set j (.own (bg id j))))) | none => none
    | _ => fk r st
   | _ => fk r st
  | _ => fk r st
def dS : List Nat -> St -> Option St
 | [], st => some st
 | t :: r, st => match st.get t with
  | .own i => match st.freeze i with | some s => dS r s | none => none
  | .part i _ _ => match st.freeze i with | some s => dS r s | none => none
  | _ => dS r st
def od (a : List Nat × List Nat × List (Nat × Option Nat × Nat)) (st : St) : Option St :=
 match IM a.1 st with
 | some s => match c7 (a.2.1.filterMap fun t => match st.get t with | .own i => some i | .part i _ _ => some i | _ => none) s with
  | some s => match iq a.1 s with
   | some s => match io a.1 s with
    | some s => match fk a.2.2 s with
     | some s => some (mw a.1 s)
     | none => none
    | none => none
   | none => none
  | none => none
 | none => none
def mR (l : Nat) : Nat := 100000 + l
def kh (f : FuncId) (again : Code -> Code -> St -> Option (Ex × St)) (b : Code) (r : Option (Ex × St)) : Option (Ex × St) :=
 match r with
 | some (.goto l, s) => match findLabel b l, od (C.loops f (mR l)) s with
  | some rest, some s => again b rest s
  | _, _ => none
 | r => r
def code (f : FuncId) (k : Nat) (again : Code -> Code -> St -> Option (Ex × St)) : Code -> St -> Option (Ex × St)
 | .skip, st => some (.normal, st)
 | .label l, st => match od (C.loops f (mR l)) st with | some s => some (.normal, s) | none => none
 | .region id ops draw, st => match dS (C.pre f id) st with
  | some s => match region C call ops (C.pre f id) draw s with | some s => some (.normal, s) | none => none
  | none => none
 | .seq a b, st => match code f k again a st with
  | some (.normal, s) => code f k again b s
  | r => r
 | .cond c a b, st => match st.view.eval c with
  | some (.pv (.bool t)) => if t then code f k again a st else code f k again b st
  | _ => none
 | .block id b, st => match code f k again b st with
  | some (.exit i, s) => if i = id then some (.normal, s) else some (.exit i, s)
  | r => r
 | .loop b, st => jQ (fun s => match od (C.loops f (DA b)) s with | some s => code f k again b s | none => none) k st
 | .scope b, st => kh C f again b (code f k again b st)
 | .exit id, st => some (.exit id, st)
 | .goto l, st => some (.goto l, st)
 | .ret, st => some (.ret, st)
 | _, _ => none
def eP (f : FuncId) (k : Nat) : Nat -> Code -> Code -> St -> Option (Ex × St)
 | 0, _, _, _ => none
 | n + 1, b, rest, st => kh C f (eP f k n) b (code C call f k (eP f k n) rest st)
def p8 (f : FuncId) (k : Nat) (c : Code) (st : St) : Option (Ex × St) := code C call f k (eP C call f k k) c st
def enter (j : Nat) : List TV -> St -> Option St
 | [], st => some st
 | v :: r, st => match st.add (bV bn (bJ j) v).2 with
  | some s => enter (j + 1) r (s.put j (bV bn (bJ j) v).1)
  | none => none
def H3 (st : St) : ResultVar -> List Nat
 | .tmp t => match st.get t with | .part i _ _ => [i] | _ => []
 | .cell a t => match st.get a with
  | .addr id _ off => match st.obj id with
   | some (.box cs) => if dC C.P t then gr ((cs.drop off).take (ar C.P t)) else match cs[off]? with | some (.part i _ _) => [i] | _ => []
   | _ => []
  | _ => []
def m9 : List ResultVar -> St -> Option St
 | [], st => some st
 | x :: r, st => match c7 (H3 C st x) st with | some s => m9 r s | none => none
def up (st : View) : ResultVar -> Option AV
 | .tmp t => some (st.get t)
 | .cell a t => if iU C.P t = false then none else match st.get a with
  | .addr id i off => match st.obj id with
   | some (.box cs) => if i = 0 /\ off + ar C.P t <= cs.length then
     (if dC C.P t then (if gr ((cs.drop off).take (ar C.P t)) = [] then some (dP true ((cs.drop off).take (ar C.P t))) else none) else cs[off]?)
    else none
   | _ => none
  | _ => none
def xD (st : View) : AV -> Option (TV × List Nat)
 | .pv x => some (.pv x, [])
 | .nilSl => some (.pv (.sl []), [])
 | .agg fs => match qT fs with | some l => some (.pv (.agg l), []) | none => none
 | .clo f [] caps => match qT caps with | some l => if l.all mV then some (.pv (.fn f l), []) else none | none => none
 | .own id => match st.obj id with
  | some (.buf sz es) => some (.own sz es, [id])
  | _ => none
 | .addr id i off => match gq st 4 (.addr id i off) with
  | some (v, ids, ob) => some (v, ids ++ (match ob with | some b => b.ids | none => []))
  | none => none
 | _ => none
def qV (st : View) : List ResultVar -> Option (List TV × List Nat)
 | [] => some ([], [])
 | x :: r => match up C st x with
  | some v => match xD st v, qV st r with
   | some (x, i), some (l, is) => some (x :: l, i ++ is)
   | _, _ => none
  | none => none
def uu (id : Nat) : AV -> Bool
 | .addr i 0 0 => i == id
 | _ => false
def FE : TV -> Bool
 | .ptr _ => true
 | .bld _ => true
 | _ => false
def qS (st : View) : AV -> Option (TV × List Nat × List Nat)
 | .pv x => some (.pv x, [], [])
 | .nilSl => some (.pv (.sl []), [], [])
 | .own i => (match st.obj i with | some (.buf sz es) => some (.own sz es, [i], []) | _ => none)
 | _ => none
mutual
def fN (st : View) : Nat -> TV -> Option (TV × List Nat × List Nat)
 | id, .ptr cells => match st.obj id with
  | some (.box cs) => match finalTVs st id 0 cells cs with | some (l, a, b) => some (.ptr l, a, id :: b) | none => none
  | _ => none
 | id, .bld _ => match st.obj id with | some (.bld bs) => some (.bld bs, [id], []) | _ => none
 | _, _ => none
def finalTVs (st : View) : Nat -> Nat -> List TV -> List AV -> Option (List TV × List Nat × List Nat)
 | _, _, [], [] => some ([], [], [])
 | id, j, v :: vs, c :: cs => match (if FE v then (if uu (bn id j) c then fN st (bn id j) v else none) else qS st c), finalTVs st id (j + 1) vs cs with
  | some (x, a, b), some (l, a', b') => some (x :: l, a ++ a', b ++ b')
  | _, _ => none
 | _, _, _, _ => none
end
def ii (st : View) : List Mode -> Nat -> List TV -> Option (List TV × List Nat × List Nat)
 | _, _, [] => some ([], [], [])
 | ms, j, .pv _ :: r => ii st ms.tail (j + 1) r
 | ms, j, .own _ _ :: r => match ii st ms.tail (j + 1) r with
  | some (l, a, b) => if ms.headD .borrow = .mut then (match st.obj (bJ j) with | some (.buf sz es) => some (.own sz es :: l, a, bJ j :: b) | _ => none) else some (l, a, b)
  | none => none
 | ms, j, .ptr cells :: r => match fN st (bJ j) (.ptr cells), ii st ms.tail (j + 1) r with
  | some (x, a, b), some (l, a', b') => some (x :: l, a ++ a', b ++ b')
  | _, _ => none
 | ms, j, .bld s :: r => match fN st (bJ j) (.bld s), ii st ms.tail (j + 1) r with
  | some (x, a, b), some (l, a', b') => some (x :: l, a ++ a', b ++ b')
  | _, _ => none
def sA (f : FuncId) (rv : List ResultVar) (as : List TV) (st : St) : Option (List TV × List TV) :=
 match m9 C rv st with
 | some s => match qV C s.view rv, ii s.view (C.modes f) 0 as with
  | some (rs, i1), some (fs, i2, i3) => if nodup (i1 ++ (i2 ++ i3)) then some (rs, fs) else none
  | _, _ => none
 | none => none
end run
def cS (C : Cx) : Nat -> FuncId -> List TV -> Option (List TV × List TV)
 | 0, _, _ => none
 | k + 1, f, as => match C.ext f with
  | some g => g as
  | none => match C.P.funcs[f]? with
   | none => none
   | some fn => match fn.body with
    | none => none
    | some c => if as.length <= fn.ntmps then
     match enter 0 as ⟨[], []⟩ with
     | some s => match p8 C (cS C k) f k c s with
      | some (e, st) => if e = .normal ∨ e = .ret then sA C f fn.results.toList as st else none
      | none => none
     | none => none
    else none
end Go.Proofs.YtcoikmicjbppmaaGreat.Vm
namespace Go.Proofs.YtcoikmicjbppmaaGreat.Vm
open Go
abbrev ay := Nat -> Nat -> Prop
def at_ (w : World) (b o : Nat) : Option Value := w.cell? ⟨b, o, none⟩
def cK (w : World) (b o : Nat) : Bool := w.frozen? ⟨b, o, none⟩
def Holds (w : World) (M : ay) (b o : Nat) (vs : List Value) : Prop :=
 ∀ (j : Nat) (c : Value), vs[j]? = some c -> at_ w b (o + j) = some c /\ ¬ M b (o + j)
mutual
def bp (w : World) (M : ay) : PV -> Value -> Prop
 | .int k n, c => c = .int k n
 | .bool b, c => c = .bool b
 | .str s, c => c = .string ⟨s.toArray⟩
 | .sl es, c => ∃ (A : Option Addr) (cap : Nat), c = .slice A es.length cap /\ es.length <= cap /\ (A = none -> cap = 0) /\ (∀ a, A = some a -> es ≠ [] -> a.spot = none) /\ ∃ sz, RepRow w M A sz 0 es
 | .agg fs, c => ∃ cs : Array Value, c = .agg cs /\ RepS w M fs cs.toList
 | .fn f caps, c => ∃ cs : Array Value, c = .func (.func f) #[] cs /\ RepS w M caps cs.toList
 | .iptr cs, c => ∃ b o vs, c = .pointer (some ⟨b, o, none⟩) /\ RepS w M cs vs /\ Holds w M b o vs
 | .nilIface, c => c = .nilIface
 | .nilPtr, c => c = .pointer none
 | .nilFn, c => c = .nilFunc
 | .nilSlc, c => c = .slice none 0 0
def RepS (w : World) (M : ay) : List PV -> List Value -> Prop
 | [], vs => vs = []
 | x :: xs, vs => ∃ c r, vs = c :: r /\ c.oneCell' = true /\ bp w M x c /\ RepS w M xs r
def RepRow (w : World) (M : ay) (A : Option Addr) (sz : Nat) : Nat -> List (List PV) -> Prop
 | _, [] => True
 | i, e :: es => (∃ a vs, A = some a /\ e.length = sz /\ RepS w M e vs /\ Holds w M a.block (a.off + i * sz) vs) /\ RepRow w M A sz (i + 1) es
end
section mono
variable {w w' : World} {M M' : ay}
theorem Holds.mono (h : ∀ b o v, at_ w b o = some v -> ¬ M b o -> at_ w' b o = some v /\ ¬ M' b o) {b o : Nat} {vs : List Value} (k : Holds w M b o vs) : Holds w' M' b o vs :=
 fun j c hj => h _ _ _ (k j c hj).1 (k j c hj).2
mutual
theorem bp.mono (h : ∀ b o v, at_ w b o = some v -> ¬ M b o -> at_ w' b o = some v /\ ¬ M' b o) : ∀ (x : PV) (c : Value), bp w M x c -> bp w' M' x c
 | .int _ _, _, k => by simpa only [bp] using k
 | .bool _, _, k => by simpa only [bp] using k
 | .str _, _, k => by simpa only [bp] using k
 | .sl es, c, k => by
  simp only [bp] at k ⊢
  obtain ⟨A, cap, h1, h2, h3, h4, sz, h5⟩ := k
  exact ⟨A, cap, h1, h2, h3, h4, sz, RepRow.mono h A sz es 0 h5⟩
 | .agg fs, c, k => by
  simp only [bp] at k ⊢
  obtain ⟨cs, h1, h2⟩ := k
  exact ⟨cs, h1, RepS.mono h fs _ h2⟩
 | .fn f caps, c, k => by
  simp only [bp] at k ⊢
  obtain ⟨cs, h1, h2⟩ := k
  exact ⟨cs, h1, RepS.mono h caps _ h2⟩
 | .iptr cs, c, k => by
  simp only [bp] at k ⊢
  obtain ⟨b, o, vs, h1, h2, h3⟩ := k
  exact ⟨b, o, vs, h1, RepS.mono h cs _ h2, h3.mono h⟩
 | .nilIface, _, k => by simpa only [bp] using k
 | .nilPtr, _, k => by simpa only [bp] using k
 | .nilFn, _, k => by simpa only [bp] using k
 | .nilSlc, _, k => by simpa only [bp] using k
theorem RepS.mono (h : ∀ b o v, at_ w b o = some v -> ¬ M b o -> at_ w' b o = some v /\ ¬ M' b o) : ∀ (xs : List PV) (vs : List Value), RepS w M xs vs -> RepS w' M' xs vs
 | [], _, k => by simpa only [RepS] using k
 | x :: xs, vs, k => by
  simp only [RepS] at k ⊢
  obtain ⟨c, r, h1, h2, h3, h4⟩ := k
  exact ⟨c, r, h1, h2, bp.mono h x c h3, RepS.mono h xs r h4⟩
theorem RepRow.mono (h : ∀ b o v, at_ w b o = some v -> ¬ M b o -> at_ w' b o = some v /\ ¬ M' b o) (A : Option Addr) (sz : Nat) : ∀ (es : List (List PV)) (i : Nat), RepRow w M A sz i es -> RepRow w' M' A sz i es
 | [], _, _ => by simp only [RepRow]
 | e :: es, i, k => by
  simp only [RepRow] at k ⊢
  obtain ⟨⟨a, vs, h1, h2, h3, h4⟩, h5⟩ := k
  exact ⟨⟨a, vs, h1, h2, RepS.mono h e vs h3, h4.mono h⟩, RepRow.mono h A sz es (i + 1) h5⟩
end
end mono
theorem RepS.length {w : World} {M : ay} : ∀ {xs : List PV} {vs : List Value}, RepS w M xs vs -> vs.length = xs.length
 | [], _, k => by simp only [RepS] at k; simp [k]
 | _ :: xs, _, k => by
  simp only [RepS] at k
  obtain ⟨c, r, rfl, _, _, h⟩ := k
  simp [RepS.length h]
theorem RepS.get {w : World} {M : ay} : ∀ {xs : List PV} {vs : List Value}, RepS w M xs vs -> ∀ (j : Nat) (x : PV), xs[j]? = some x -> ∃ c, vs[j]? = some c /\ c.oneCell' = true /\ bp w M x c
 | [], _, _, j, x, h => by simp at h
 | y :: xs, _, k, j, x, h => by
  simp only [RepS] at k
  obtain ⟨c, r, rfl, h1, h2, h3⟩ := k
  cases j with
  | zero => simp at h; subst h; exact ⟨c, rfl, h1, h2⟩
  | succ j => simpa using RepS.get h3 j x (by simpa using h)
theorem RepS.append {w : World} {M : ay} : ∀ {xs ys : List PV} {vs us : List Value}, RepS w M xs vs -> RepS w M ys us -> RepS w M (xs ++ ys) (vs ++ us)
 | [], _, _, _, h, k => by simp only [RepS] at h; subst h; simpa using k
 | x :: xs, ys, _, us, h, k => by
  simp only [RepS] at h
  obtain ⟨c, r, rfl, h1, h2, h3⟩ := h
  simp only [List.cons_append, RepS]
  exact ⟨c, r ++ us, rfl, h1, h2, RepS.append h3 k⟩
theorem RepS.drop {w : World} {M : ay} : ∀ (n : Nat) {xs : List PV} {vs : List Value}, RepS w M xs vs -> RepS w M (xs.drop n) (vs.drop n)
 | 0, _, _, h => by simpa using h
 | n + 1, [], _, h => by simp only [RepS] at h; subst h; simp [RepS]
 | n + 1, x :: xs, _, h => by
  simp only [RepS] at h
  obtain ⟨c, r, rfl, _, _, h3⟩ := h
  simpa using RepS.drop n h3
theorem RepS.take {w : World} {M : ay} : ∀ (n : Nat) {xs : List PV} {vs : List Value}, RepS w M xs vs -> RepS w M (xs.take n) (vs.take n)
 | 0, _, _, h => by simp [RepS]
 | n + 1, [], _, h => by simp only [RepS] at h; subst h; simp [RepS]
 | n + 1, x :: xs, _, h => by
  simp only [RepS] at h
  obtain ⟨c, r, rfl, h1, h2, h3⟩ := h
  simp only [List.take_succ_cons, RepS]
  exact ⟨c, r.take n, rfl, h1, h2, RepS.take n h3⟩
theorem RepS.one {w : World} {M : ay} : ∀ {xs : List PV} {vs : List Value}, RepS w M xs vs -> ∀ c ∈ vs, c.oneCell' = true
 | [], _, h, c, hc => by simp only [RepS] at h; subst h; simp at hc
 | x :: xs, _, h, c, hc => by
  simp only [RepS] at h
  obtain ⟨d, r, rfl, h1, _, h3⟩ := h
  rcases List.mem_cons.1 hc with rfl | hc
  ·exact h1
  ·exact RepS.one h3 c hc
theorem RepRow.get {w : World} {M : ay} {A : Option Addr} {sz : Nat} : ∀ {es : List (List PV)} {i : Nat}, RepRow w M A sz i es -> ∀ (j : Nat) (e : List PV), es[j]? = some e →
  ∃ a vs, A = some a /\ e.length = sz /\ RepS w M e vs /\ Holds w M a.block (a.off + (i + j) * sz) vs
 | [], _, _, j, e, h => by simp at h
 | f :: es, i, k, j, e, h => by
  simp only [RepRow] at k
  cases j with
  | zero => simp at h; subst h; simpa using k.1
  | succ j =>
   have := RepRow.get k.2 j e (by simpa using h)
   rwa [show i + 1 + j = i + (j + 1) from by omega] at this
theorem RepRow.of {w : World} {M : ay} {A : Option Addr} {sz : Nat} : ∀ {es : List (List PV)} {i : Nat}, (∀ (j : Nat) (e : List PV), es[j]? = some e →
  ∃ a vs, A = some a /\ e.length = sz /\ RepS w M e vs /\ Holds w M a.block (a.off + (i + j) * sz) vs) -> RepRow w M A sz i es
 | [], _, _ => by simp only [RepRow]
 | f :: es, i, k => by
  simp only [RepRow]
  refine ⟨by simpa using k 0 f rfl, RepRow.of fun j e h => ?_⟩
  have := k (j + 1) e (by simpa using h)
  rwa [show i + (j + 1) = i + 1 + j from by omega] at this
structure Loc where
 base : Option (Nat × Nat)
 len : Nat
 cap : Nat
 sz : Nat
 k : Nat
 ext : Option (Nat × Nat)
def Loc.F (l : Loc) : ay := fun b j => (∃ o, l.base = some (b, o) /\ o <= j /\ j < o + l.k) ∨ (∃ n, l.ext = some (b, n) /\ j < n)
def Loc.hdr (l : Loc) : Value := match l.base with
 | none => .slice none 0 0
 | some (b, o) => .slice (some ⟨b, o, none⟩) l.len l.cap
def Loc.same (l l' : Loc) : Prop := l'.base = l.base /\ l'.len = l.len /\ l'.cap = l.cap /\ l'.sz = l.sz
theorem Loc.same_of {l l' : Loc} (h : l' = l) : Loc.same l l' := by subst h; exact ⟨rfl, rfl, rfl, rfl⟩
theorem Loc.same.hdr {l l' : Loc} (h : Loc.same l l') : l'.hdr = l.hdr := by
 obtain ⟨h1, h2, h3, h4⟩ := h
 simp only [Loc.hdr, h1, h2, h3]
theorem Loc.same.trans {l l' l'' : Loc} (h : Loc.same l l') (k : Loc.same l' l'') : Loc.same l l'' :=
 ⟨k.1.trans h.1, k.2.1.trans h.2.1, k.2.2.1.trans h.2.2.1, k.2.2.2.trans h.2.2.2⟩
mutual
def aL (β : Nat -> Loc) (w : World) (M : ay) : AV -> Value -> Prop
 | .undef, _ => True
 | .pv x, c => bp w M x c
 | .nilSl, c => c = .slice none 0 0
 | .own id, c => c = (β id).hdr
 | .part id lo n, c => ∃ (A : Option Addr) (cap : Nat), c = .slice A n cap /\ n <= cap /\ (A = none -> cap = 0) /\ (∀ a, A = some a -> a.spot = none) /\ lo + n <= (β id).len ∧
   (0 < n -> ∃ b o, (β id).base = some (b, o) /\ A = some ⟨b, o + lo * (β id).sz, none⟩)
 | .addr id i off, c => ∃ b o, (β id).base = some (b, o) /\ c = .pointer (some ⟨b, o + i * (β id).sz + off, none⟩)
 | .tup vs, c => ∃ cs : Array Value, c = .tuple cs /\ AVRs β w M vs cs.toList
 | .agg vs, c => ∃ cs : Array Value, c = .agg cs /\ AVRs β w M vs cs.toList /\ ∀ d ∈ cs.toList, d.oneCell' = true
 | .clo f a b, c => ∃ x y : Array Value, c = .func (.func f) x y /\ AVRs β w M a x.toList /\ AVRs β w M b y.toList
def AVRs (β : Nat -> Loc) (w : World) (M : ay) : List AV -> List Value -> Prop
 | [], vs => vs = []
 | x :: xs, vs => ∃ c r, vs = c :: r /\ aL β w M x c /\ AVRs β w M xs r
end
mutual
def AV.refs : AV -> List Nat
 | .own i => [i]
 | .part i _ _ => [i]
 | .addr i _ _ => [i]
 | .tup vs => AV.refsL vs
 | .agg vs => AV.refsL vs
 | .clo _ a b => AV.refsL a ++ AV.refsL b
 | .undef => []
 | .pv _ => []
 | .nilSl => []
def AV.refsL : List AV -> List Nat
 | [] => []
 | v :: r => AV.refs v ++ AV.refsL r
end
section mono
variable {w w' : World} {M M' : ay} {β β' : Nat -> Loc}
mutual
theorem aL.mono (h : ∀ b o v, at_ w b o = some v -> ¬ M b o -> at_ w' b o = some v /\ ¬ M' b o) : ∀ (x : AV) (c : Value), (∀ i ∈ x.refs, (β i).same (β' i)) -> aL β w M x c -> aL β' w' M' x c
 | .undef, _, _, _ => by simp only [aL]
 | .pv x, c, _, k => by simp only [aL] at k ⊢; exact bp.mono h x c k
 | .nilSl, _, _, k => by simpa only [aL] using k
 | .own i, c, hb, k => by simp only [aL] at k ⊢; rw [(hb i (by simp [AV.refs])).hdr]; exact k
 | .part i lo n, c, hb, k => by
  simp only [aL] at k ⊢
  obtain ⟨h1, h2, h3, h4⟩ := hb i (by simp [AV.refs])
  rw [h1, h2, h4]; exact k
 | .addr i a b, c, hb, k => by
  simp only [aL] at k ⊢
  obtain ⟨h1, h2, h3, h4⟩ := hb i (by simp [AV.refs])
  rw [h1, h4]; exact k
 | .tup vs, c, hb, k => by
  simp only [aL] at k ⊢
  obtain ⟨cs, h1, h2⟩ := k
  exact ⟨cs, h1, AVRs.mono h vs _ (fun i hi => hb i (by simpa only [AV.refs] using hi)) h2⟩
 | .agg vs, c, hb, k => by
  simp only [aL] at k ⊢
  obtain ⟨cs, h1, h2, h3⟩ := k
  exact ⟨cs, h1, AVRs.mono h vs _ (fun i hi => hb i (by simpa only [AV.refs] using hi)) h2, h3⟩
 | .clo f a b, c, hb, k => by
  simp only [aL] at k ⊢
  obtain ⟨x, y, h1, h2, h3⟩ := k
  exact ⟨x, y, h1, AVRs.mono h a _ (fun i hi => hb i (by simp only [AV.refs, List.mem_append]; exact .inl hi)) h2, AVRs.mono h b _ (fun i hi => hb i (by simp only [AV.refs, List.mem_append]; exact .inr hi)) h3⟩
theorem AVRs.mono (h : ∀ b o v, at_ w b o = some v -> ¬ M b o -> at_ w' b o = some v /\ ¬ M' b o) : ∀ (xs : List AV) (cs : List Value), (∀ i ∈ AV.refsL xs, (β i).same (β' i)) -> AVRs β w M xs cs -> AVRs β' w' M' xs cs
 | [], _, _, k => by simpa only [AVRs] using k
 | x :: xs, cs, hb, k => by
  simp only [AVRs] at k ⊢
  obtain ⟨c, r, h1, h2, h3⟩ := k
  exact ⟨c, r, h1, aL.mono h x c (fun i hi => hb i (by simp only [AV.refsL, List.mem_append]; exact .inl hi)) h2, AVRs.mono h xs r (fun i hi => hb i (by simp only [AV.refsL, List.mem_append]; exact .inr hi)) h3⟩
end
end mono
def LQ (w : World) (g cap n : Nat) : Prop := 0 < cap /\ ∃ (cur : Array Value) (lo hi : Nat), w.heap[g]? = some (.cells cur ML (lo, hi)) /\ cur.size = cap /\ (lo = hi ∨ hi <= n)
def tn (w : World) (l : Loc) (bs : List UInt8) : Prop :=
 ∃ b o A cap p, l.base = some (b, o) /\ (l.k = 2 /\ o = 0 /\ w.shape? b = some (u0, 2)) /\ at_ w b o = some p /\ cK w b o = false /\ (p = .pointer none ∨ p = .pointer (some ⟨b, o, none⟩)) ∧
  at_ w b (o + 1) = some (.slice A bs.length cap) /\ cK w b (o + 1) = false ∧
  ((A = none /\ bs = [] /\ cap = 0 /\ l.ext = none) ∨ ∃ g, A = some ⟨g, 0, none⟩ /\ l.ext = some (g, cap) /\ (bs.length <= cap /\ LQ w g cap bs.length) ∧
   (∀ j, j < cap -> ∃ n : Int, at_ w g j = some (.int .u8 n)) /\ (∀ j, bs.length <= j -> j < cap -> cK w g j = false) ∧
   (∀ j c, bs[j]? = some c -> at_ w g j = some (.int .u8 c.toNat)))
def zQ (w : World) (b : Nat) : Prop := ∃ T n, w.shape? b = some (T, n) /\ cK w b n = false
def cJ (β : Nat -> Loc) (w : World) (M : ay) (l : Loc) : Obj -> Prop
 | .box cs => ∃ b o, l.base = some (b, o) /\ l.k = cs.length /\ l.ext = none ∧
   ∀ j v, cs[j]? = some v -> ∃ c, at_ w b (o + j) = some c /\ cK w b (o + j) = false /\ c.oneCell' = true /\ aL β w M v c
 | .buf sz es => l.sz = sz /\ 0 < sz /\ l.len = es.length /\ l.len <= l.cap /\ l.k = l.cap * sz /\ (l.ext = none /\ ∀ b o, l.base = some (b, o) -> 2 <= sz -> zQ w b) /\ (l.base = none -> l.cap = 0) ∧
   (∀ e ∈ es, e.length = sz) /\ ∀ b o, l.base = some (b, o) →
    (∀ j, j < l.k -> (∃ c, at_ w b (o + j) = some c) /\ cK w b (o + j) = false) ∧
    ∀ i e, es[i]? = some e -> ∃ vs, RepS w M e vs /\ ∀ j c, vs[j]? = some c -> at_ w b (o + i * sz + j) = some c
 | .bld bs => tn w l bs
structure VR (M0 M : ay) (β : Nat -> Loc) (V : View) (tm : Array Value) (w : World) : Prop where
 sup : ∀ b j, M0 b j -> M b j
 old : ∀ b j, M b j -> b < w.heap.size
 slots : ∀ t, aL β w M (V.get t) (tm.getD t undef)
 objs : ∀ id o, V.obj id = some o -> cJ β w M (β id) o
 own : ∀ id o, V.obj id = some o -> ∀ b j, (β id).F b j -> M b j /\ ¬ M0 b j
 disj : ∀ id id' o o', V.obj id = some o -> V.obj id' = some o' -> id ≠ id' -> ∀ b j, (β id).F b j -> ¬ (β id').F b j
def Obj.refs : Obj -> List Nat
 | .box cs => AV.refsL cs
 | _ => []
structure Fr (D : ay) (w w' : World) : Prop where
 os : w'.os = w.os
 tape : w'.tape = w.tape
 output : w'.output = w.output
 size : w.heap.size <= w'.heap.size
 block : ∀ b, b < w.heap.size -> (∀ j v, at_ w b j = some v -> ¬ D b j) -> w'.heap[b]? = w.heap[b]?
 cell : ∀ b j, b < w.heap.size -> ¬ D b j -> at_ w' b j = at_ w b j /\ cK w' b j = cK w b j
 shape : ∀ b T, w.shape? b = some T -> w'.shape? b = some T
 mark : ∀ b T n, w.shape? b = some (T, n) -> cK w b n = false -> cK w' b n = false
theorem Fr.unm {D : ay} {w w' : World} (h : Fr D w w') {b : Nat} (k : zQ w b) : zQ w' b := by
 obtain ⟨T, n, h1, h2⟩ := k
 exact ⟨T, n, h.shape _ _ h1, h.mark _ _ _ h1 h2⟩
theorem DF {w w' : World} {b : Nat} (h : w'.heap[b]? = w.heap[b]?) (j : Nat) : at_ w' b j = at_ w b j := by
 unfold at_ World.cell?
 simp only [h]
theorem Fr.refl (D : ay) (w : World) : Fr D w w := ⟨rfl, rfl, rfl, Nat.le_refl _, fun _ _ _ => rfl, fun _ _ _ _ => ⟨rfl, rfl⟩, fun _ _ h => h, fun _ _ _ _ h => h⟩
theorem Fr.trans {D E G : ay} {a b c : World} (h : Fr D a b) (k : Fr E b c) (hD : ∀ x j, D x j -> G x j) (hE : ∀ x j, E x j -> G x j ∨ a.heap.size <= x) : Fr G a c where
 os := k.os.trans h.os
 tape := k.tape.trans h.tape
 output := k.output.trans h.output
 size := Nat.le_trans h.size k.size
 block x hx hn := by
  have h1 := h.block x hx (fun j v hv hj => hn j v hv (hD x j hj))
  refine (k.block x (Nat.lt_of_lt_of_le hx h.size) (fun j v hv hj => ?_)).trans h1
  rw [DF h1] at hv
  exact (hE x j hj).elim (hn j v hv) (fun hh => by omega)
 cell x j hx hn := by
  have h1 := h.cell x j hx (fun hj => hn (hD x j hj))
  have h2 := k.cell x j (Nat.lt_of_lt_of_le hx h.size) (fun hj => (hE x j hj).elim hn (fun hh => by omega))
  exact ⟨h2.1.trans h1.1, h2.2.trans h1.2⟩
 shape x T hx := k.shape x T (h.shape x T hx)
 mark x T n hx hz := k.mark x T n (h.shape _ _ hx) (h.mark x T n hx hz)
theorem Fr.mono {D E : ay} {a b : World} (h : Fr D a b) (hD : ∀ x j, D x j -> E x j) : Fr E a b :=
 h.trans (Fr.refl D b) hD (fun x j hj => .inl (hD x j hj))
theorem oC {w : World} {b o : Nat} {v : Value} (h : at_ w b o = some v) : b < w.heap.size := World.block_lt_of_cell? w ⟨b, o, none⟩ h
theorem Fr.keeps {D : ay} {w w' : World} (h : Fr D w w') {b o : Nat} {v : Value} (hv : at_ w b o = some v) (hd : ¬ D b o) : at_ w' b o = some v /\ cK w' b o = cK w b o := by
 have := h.cell b o (oC hv) hd
 exact ⟨this.1.trans hv, this.2⟩
theorem jd {w : World} {b : Nat} {T : TypeId × Nat} (h : w.shape? b = some T) : b < w.heap.size := by
 unfold World.shape? at h
 rcases Nat.lt_or_ge b w.heap.size with h1 | h1
 ·exact h1
 ·rw [Array.getElem?_eq_none h1] at h; exact absurd h (by simp)
theorem rM {w : World} {p : Addr} {v : Value} {b : Nat} {T : TypeId × Nat} (h : w.shape? b = some T) : (w.setCell p v).shape? b = some T := by
 unfold World.shape? at h ⊢
 simp only [World.setCell, Array.getElem?_modify]
 by_cases e : p.block = b
 ·simp only [e, if_true]
  cases hb : w.heap[b]? with
  | none => rw [hb] at h; exact absurd h (by simp)
  | some o => rw [hb] at h; cases o <;> simp at h ⊢; rw [<- h]; split <;> simp
 ·simp only [e, if_false]; exact h
theorem Fr.alloc (w : World) (c : Array Value) (t : TypeId) (D : ay) : Fr D w (w.alloc (.cells c t)) where
 os := rfl
 tape := rfl
 output := rfl
 size := by simp
 block b hb _ := Go.RowKit.Below.heap_alloc _ _ _ hb
 cell b j hb _ := ⟨World.cell?_alloc_lt _ _ _ hb, World.frozen?_alloc_old _ _ _ (Nat.ne_of_lt hb)⟩
 shape b T hT := by
  have hb : b < w.heap.size := jd hT
  have := Go.RowKit.Below.heap_alloc w (.cells c t) _ hb
  unfold World.shape? at hT ⊢
  rw [this]; exact hT
 mark b T n hT hz := by
  have hb : b < w.heap.size := jd hT
  exact (World.frozen?_alloc_old _ _ _ (Nat.ne_of_lt hb)).trans hz
theorem fK (w : World) (c : Array Value) (t : TypeId) : zQ (w.alloc (.cells c t)) w.heap.size :=
 ⟨t, c.size, by unfold World.shape?; rw [heap_alloc_new], by simp [cK]⟩
theorem Fr.drew (w : World) (D : ay) : Fr D w w.drew := ⟨rfl, rfl, rfl, Nat.le_refl _, fun _ _ _ => rfl, fun _ _ _ _ => ⟨rfl, rfl⟩, fun _ _ h => h, fun _ _ _ _ h => h⟩
theorem mO {w : World} {b o : Nat} {v : Value} (h : ∀ u, at_ w b o ≠ some u) : (w.setCell ⟨b, o, none⟩ v).heap[b]? = w.heap[b]? := by
 simp only [World.setCell, Array.getElem?_modify, if_true]
 cases hb : w.heap[b]? with
 | none => rfl
 | some ob =>
  cases ob <;> simp
  rename_i cs t fz
  refine Array.setIfInBounds_eq_of_size_le ?_
  rcases Nat.lt_or_ge o cs.size with h1 | h1
  ·have h2 := h cs[o]
   simp only [at_, World.cell?, hb] at h2
   simp [h1] at h2
  ·exact h1
theorem Fr.setCell (w : World) {D : ay} {b o : Nat} (h : D b o) (v : Value) : Fr D w (w.setCell ⟨b, o, none⟩ v) where
 os := rfl
 tape := rfl
 output := rfl
 size := by simp
 block x hx hn := by
  by_cases e : x = b
  ·subst e
   exact mO (fun u hu => hn o u hu h)
  ·exact Go.RowKit.Below.heap_setCell _ _ _ _ e
 cell x j hx hn := by
  refine ⟨World.cell?_setCell_other _ _ _ _ ?_, World.frozen?_setCell _ _ _ _⟩
  intro e
  injection e with e1 e2
  subst e1; subst e2; exact hn h
 shape x T hT := rM hT
 mark x T n hT hz := (World.frozen?_setCell ..).trans hz
theorem VR.world {M0 M : ay} {β : Nat -> Loc} {V : View} {tm : Array Value} {w w' : World} (h : VR M0 M β V tm w) (hf : Fr (fun _ _ => False) w w') : VR M0 M β V tm w' := by
 have hk : ∀ b o v, at_ w b o = some v -> ¬ M b o -> at_ w' b o = some v /\ ¬ M b o := fun b o v hv hm => ⟨(hf.keeps hv (fun x => x)).1, hm⟩
 refine ⟨h.sup, fun b j hb => Nat.lt_of_lt_of_le (h.old b j hb) hf.size, fun t => aL.mono hk _ _ (fun _ _ => Loc.same_of rfl) (h.slots t), fun id o ho => ?_, h.own, h.disj⟩
 have := h.objs id o ho
 cases o with
 | box cs =>
  obtain ⟨b, o, h1, h2, h3, h4⟩ := this
  refine ⟨b, o, h1, h2, h3, fun j v hj => ?_⟩
  obtain ⟨c, k1, k2, k3, k4⟩ := h4 j v hj
  have kk := hf.keeps k1 (fun x => x)
  exact ⟨c, kk.1, kk.2.trans k2, k3, aL.mono hk _ _ (fun _ _ => Loc.same_of rfl) k4⟩
 | buf sz es =>
  obtain ⟨h1, h2, h3, h4, h5, h6, h7, h8, h9⟩ := this
  refine ⟨h1, h2, h3, h4, h5, ⟨h6.1, fun b o hb hz => hf.unm (h6.2 b o hb hz)⟩, h7, h8, fun b o hb => ?_⟩
  obtain ⟨k1, k2⟩ := h9 b o hb
  refine ⟨fun j hj => ?_, fun i e he => ?_⟩
  ·obtain ⟨⟨c, hc⟩, hz⟩ := k1 j hj
   have kk := hf.keeps hc (fun x => x)
   exact ⟨⟨c, kk.1⟩, kk.2.trans hz⟩
  ·obtain ⟨vs, hr, hc⟩ := k2 i e he
   exact ⟨vs, RepS.mono hk _ _ hr, fun j c hj => (hf.keeps (hc j c hj) (fun x => x)).1⟩
 | bld bs =>
  obtain ⟨b, o, A, cap, p, h1, h2, h3, h4, h5, h6, h7, h8⟩ := this
  have k1 := hf.keeps h3 (fun x => x)
  have k2 := hf.keeps h6 (fun x => x)
  refine ⟨b, o, A, cap, p, h1, ⟨h2.1, h2.2.1, hf.shape _ _ h2.2.2⟩, k1.1, k1.2.trans h4, h5, k2.1, k2.2.trans h7, ?_⟩
  rcases h8 with h8 | ⟨g, g1, g2, g3, g4, g5, g6⟩
  ·exact .inl h8
  ·have hgl : g < w.heap.size := by
    obtain ⟨n, hn⟩ := g4 0 g3.2.1
    exact oC hn
   refine .inr ⟨g, g1, g2, ⟨g3.1, by unfold LQ; rw [hf.block g hgl (fun _ _ _ h => h)]; exact g3.2⟩, fun j hj => ?_, fun j hj hj' => ?_, fun j c hj => (hf.keeps (g6 j c hj) (fun x => x)).1⟩
   ·obtain ⟨n, hn⟩ := g4 j hj; exact ⟨n, (hf.keeps hn (fun x => x)).1⟩
   ·obtain ⟨n, hn⟩ := g4 j hj'; exact (hf.keeps hn (fun x => x)).2.trans (g5 j hj hj')
end Go.Proofs.YtcoikmicjbppmaaGreat.Vm
namespace Go.Proofs.YtcoikmicjbppmaaGreat.Vm
open Go
set_option linter.unusedVariables false
set_option linter.unusedSimpArgs false
theorem im {w : World} {M : ay} {v : Value} {x : PV} (h : oM v = some x) : v.oneCell' = true /\ bp w M x v := by
 unfold oM at h
 split at h <;> try (first | (injection h with h; subst h) | (exact absurd h (by simp)))
 ·exact ⟨rfl, by simp only [bp]⟩
 ·exact ⟨rfl, by simp only [bp]⟩
 ·exact ⟨rfl, by simp only [bp]⟩
 ·refine ⟨rfl, ?_⟩
  simp only [bp]
  exact ⟨none, 0, rfl, Nat.le_refl _, fun _ => rfl, fun a ha => by simp at ha, 1, by simp only [RepRow]⟩
 ·exact ⟨rfl, by simp only [bp]⟩
 ·exact ⟨rfl, by simp only [bp]⟩
 ·exact ⟨rfl, by simp only [bp]⟩
theorem li {w : World} {M : ay} : ∀ {vs : List Value} {xs : List PV}, iR vs = some xs -> RepS w M xs vs
 | [], xs, h => by simp only [iR, Option.some.injEq] at h; subst h; simp only [RepS]
 | v :: vs, xs, h => by
  simp only [iR] at h
  split at h
  ·rename_i x l hx hl
   injection h with h; subst h
   simp only [RepS]
   exact ⟨v, vs, rfl, (im (w := w) (M := M) hx).1, (im hx).2, li hl⟩
  ·exact absurd h (by simp)
theorem Bu {β : Nat -> Loc} {w : World} {M : ay} {v : Value} {x : AV} (h : vT v = some x) : aL β w M x v := by
 unfold vT at h
 split at h
 ·split at h
  ·rename_i l hl
   injection h with h; subst h
   simp only [aL, bp]
   exact ⟨_, rfl, li hl⟩
  ·exact absurd h (by simp)
 ·injection h with h; subst h; simp only [aL]
 ·split at h
  ·rename_i y hy
   injection h with h; subst h
   simp only [aL]; exact (im hy).2
  ·exact absurd h (by simp)
theorem xo {β : Nat -> Loc} {w : World} {M : ay} {v : Value} {x : AV} (h : py v = some x) : v.oneCell' = true /\ aL β w M x v := by
 unfold py at h
 split at h
 ·injection h with h; subst h; exact ⟨rfl, by simp only [aL]⟩
 ·split at h
  ·rename_i y hy
   injection h with h; subst h
   exact ⟨(im (w := w) (M := M) hy).1, by simp only [aL]; exact (im hy).2⟩
  ·exact absurd h (by simp)
theorem xn {v : Value} {x : AV} (h : vT v = some x) : x.refs = [] := by
 unfold vT at h
 split at h
 ·split at h
  ·injection h with h; subst h; simp only [AV.refs]
  ·exact absurd h (by simp)
 ·injection h with h; subst h; simp only [AV.refs]
 ·split at h
  ·injection h with h; subst h; simp only [AV.refs]
  ·exact absurd h (by simp)
def pK (β : Nat -> Loc) (w : World) (M : ay) (xs : List AV) (vs : List Value) : Prop :=
 xs.length = vs.length /\ ∀ (j : Nat) (x : AV) (v : Value), xs[j]? = some x -> vs[j]? = some v -> v.oneCell' = true /\ aL β w M x v
section base
variable {β : Nat -> Loc} {w : World} {M : ay}
theorem AVRs.length : ∀ {xs : List AV} {vs : List Value}, AVRs β w M xs vs -> vs.length = xs.length
 | [], _, k => by simp only [AVRs] at k; simp [k]
 | _ :: xs, _, k => by
  simp only [AVRs] at k
  obtain ⟨c, r, rfl, _, h⟩ := k
  simp [AVRs.length h]
theorem AVRs.get : ∀ {xs : List AV} {vs : List Value}, AVRs β w M xs vs -> ∀ (j : Nat) (x : AV) (v : Value), xs[j]? = some x -> vs[j]? = some v -> aL β w M x v
 | [], _, _, j, x, v, h, _ => by simp at h
 | y :: xs, _, k, j, x, v, h, hv => by
  simp only [AVRs] at k
  obtain ⟨c, r, rfl, h1, h2⟩ := k
  cases j with
  | zero => simp at h hv; subst h; subst hv; exact h1
  | succ j => exact AVRs.get h2 j x v (by simpa using h) (by simpa using hv)
theorem AVRs.of : ∀ {xs : List AV} {vs : List Value}, xs.length = vs.length -> (∀ (j : Nat) (x : AV) (v : Value), xs[j]? = some x -> vs[j]? = some v -> aL β w M x v) -> AVRs β w M xs vs
 | [], vs, h, _ => by simp only [AVRs]; exact List.length_eq_zero_iff.1 h.symm
 | x :: xs, [], h, _ => by simp at h
 | x :: xs, v :: vs, h, k => by
  simp only [AVRs]
  exact ⟨v, vs, rfl, k 0 x v rfl rfl, AVRs.of (by simpa using h) fun j a b ha hb => k (j + 1) a b (by simpa using ha) (by simpa using hb)⟩
theorem RepS.avs {xs : List PV} {vs : List Value} (h : RepS w M xs vs) : pK β w M (xs.map AV.pv) vs := by
 refine ⟨by rw [List.length_map, h.length], fun j x v hx hv => ?_⟩
 rw [List.getElem?_map] at hx
 cases hj : xs[j]? with
 | none => rw [hj] at hx; simp at hx
 | some y =>
  rw [hj] at hx; simp at hx; subst hx
  obtain ⟨c, h1, h2, h3⟩ := h.get j y hj
  rw [hv] at h1; injection h1 with h1; subst h1
  exact ⟨h2, by simp only [aL]; exact h3⟩
theorem mc : ∀ {xs : List AV} {vs : List Value} {l : List PV}, pK β w M xs vs -> qT xs = some l -> RepS w M l vs
 | [], vs, l, h, k => by
  simp only [qT, Option.some.injEq] at k; subst k
  simp only [RepS]; exact List.length_eq_zero_iff.1 h.1.symm
 | x :: xs, [], l, h, k => by simp [pK] at h
 | x :: xs, v :: vs, l, h, k => by
  have ht : pK β w M xs vs := ⟨by simpa using h.1, fun j a b ha hb => h.2 (j + 1) a b (by simpa using ha) (by simpa using hb)⟩
  have h0 := h.2 0 x v rfl rfl
  cases x <;> simp only [qT] at k <;> try (exact absurd k (by simp))
  ·split at k
   ·rename_i y l' hl
    injection k with k; subst k
    simp only [RepS]
    exact ⟨v, vs, rfl, h0.1, by simpa only [aL] using h0.2, mc ht hl⟩
   ·exact absurd k (by simp)
  ·split at k
   ·rename_i l' hl
    injection k with k; subst k
    simp only [RepS]
    refine ⟨v, vs, rfl, h0.1, ?_, mc ht hl⟩
    have h1 := h0.2
    simp only [aL] at h1
    subst h1
    simp only [bp]
    exact ⟨none, 0, rfl, Nat.le_refl _, fun _ => rfl, fun a ha => by simp at ha, 1, by simp only [RepRow]⟩
   ·exact absurd k (by simp)
theorem wo : ∀ {xs : List AV} {l : List PV}, zl xs = some l -> qT xs = some l
 | [], l, h => by simpa only [zl, qT] using h
 | x :: xs, l, h => by
  cases x <;> simp only [zl] at h <;> try (exact absurd h (by simp))
  simp only [qT]
  split at h
  ·rename_i y l' hl
   rw [wo hl]; exact h
  ·exact absurd h (by simp)
theorem lh {v : AV} {c : Value} (h : aL β w M v c) (hf : v.fit = true) : pK β w M (cF v) c.cells.toList := by
 have one : ∀ (x : AV), aL β w M x c -> c.oneCell' = true -> pK β w M [x] c.cells.toList := by
  intro x hx h1
  have : c.cells = #[c] := by cases c <;> simp [Value.oneCell', Value.cells] at h1 ⊢
  rw [this]
  refine ⟨rfl, fun j y v hy hv => ?_⟩
  cases j with
  | zero => simp at hy hv; subst hy; subst hv; exact ⟨h1, hx⟩
  | succ j => simp at hy
 cases v with
 | undef => simp [AV.fit] at hf
 | tup _ => simp [AV.fit] at hf
 | pv x =>
  have h' := h
  simp only [aL] at h'
  cases x with
  | agg fs =>
   simp only [bp] at h'
   obtain ⟨cs, rfl, h2⟩ := h'
   exact h2.avs
  | sl es => simp only [bp] at h'; obtain ⟨_, _, rfl, _⟩ := h'; exact one _ h rfl
  | fn f caps => simp only [bp] at h'; obtain ⟨_, rfl, _⟩ := h'; exact one _ h rfl
  | iptr cs => simp only [bp] at h'; obtain ⟨_, _, _, rfl, _⟩ := h'; exact one _ h rfl
  | int _ _ => simp only [bp] at h'; subst h'; exact one _ h rfl
  | bool _ => simp only [bp] at h'; subst h'; exact one _ h rfl
  | str _ => simp only [bp] at h'; subst h'; exact one _ h rfl
  | nilIface => simp only [bp] at h'; subst h'; exact one _ h rfl
  | nilPtr => simp only [bp] at h'; subst h'; exact one _ h rfl
  | nilFn => simp only [bp] at h'; subst h'; exact one _ h rfl
  | nilSlc => simp only [bp] at h'; subst h'; exact one _ h rfl
 | agg fs =>
  simp only [aL] at h
  obtain ⟨cs, rfl, h, h1⟩ := h
  exact ⟨(AVRs.length h).symm, fun j x v hx hv => ⟨h1 v (List.mem_of_getElem? hv), AVRs.get h j x v hx hv⟩⟩
 | nilSl => refine one _ h ?_; simp only [aL] at h; subst h; rfl
 | own id => refine one _ h ?_; simp only [aL, Loc.hdr] at h; split at h <;> (subst h; rfl)
 | part id lo n => refine one _ h ?_; simp only [aL] at h; obtain ⟨_, _, rfl, _⟩ := h; rfl
 | addr id i o => refine one _ h ?_; simp only [aL] at h; obtain ⟨_, _, _, rfl⟩ := h; rfl
 | clo f x y => refine one _ h ?_; simp only [aL] at h; obtain ⟨_, _, rfl, _⟩ := h; rfl
end base
def dG (P : Program) (ρ : Operand -> Value) (o : Op) (w : World) (c : Value) (w' : World) : Prop :=
 ∀ oo : Oper, oo.op = o -> (execOp ρ oo).run P w = .ok (.value c) w'
section ops
variable {P : Program} {M0 M : ay} {β : Nat -> Loc} {V : View} {a : Act} {w : World}
theorem aP (hV : VR M0 M β V a.tmps w) {x : Operand} {v : AV} (h : V.eval x = some v) : aL β w M v (a.eval x) := by
 cases x with
 | tmp t => simp only [View.eval, Option.some.injEq] at h; subst h; exact hV.slots t
 | const c => simp only [View.eval] at h; exact Bu h
 | func f =>
  simp only [View.eval, Option.some.injEq] at h; subst h
  simp only [aL, bp, Act.eval]
  exact ⟨#[], rfl, by simp only [RepS]⟩
 | global g => simp [View.eval] at h
theorem ig (hV : VR M0 M β V a.tmps w) : ∀ {xs : List Operand} {vs : List AV}, cU V xs = some vs -> AVRs β w M vs (xs.map a.eval)
 | [], vs, h => by simp only [cU, Option.some.injEq] at h; subst h; simp only [AVRs, List.map_nil]
 | x :: xs, vs, h => by
  simp only [cU] at h
  split at h
  ·rename_i v l hv hl
   injection h with h; subst h
   simp only [AVRs, List.map_cons]
   exact ⟨_, _, rfl, aP hV hv, ig hV hl⟩
  ·exact absurd h (by simp)
theorem xh {x : Operand} (ρ : Operand -> Value) : dG P ρ (.move x) w (ρ x) w := fun oo h => by simp [execOp, h]
theorem tX {x : Operand} (ρ : Operand -> Value) : dG P ρ (.assign x) w (ρ x) w := fun oo h => by simp [execOp, h]
theorem xi {c x y : Operand} {t : Bool} {ρ : Operand -> Value} (h : ρ c = .bool t) : dG P ρ (.pick c x y) w (ρ (if t then x else y)) w :=
 fun oo ho => by cases t <;> simp [execOp, ho, h, asBool]
theorem kg {x : Operand} {ρ : Operand -> Value} {p : Addr} (h : ρ x = .pointer (some p)) : dG P ρ (.nilCheck x) w (.pointer (some p)) w :=
 fun oo ho => by simp [execOp, ho, h]
theorem gA {x : Operand} {ρ : Operand -> Value} {f : FuncId} {p q : Array Value} (h : ρ x = .func (.func f) p q) : dG P ρ (.nilCheck x) w (.func (.func f) p q) w :=
 fun oo ho => by simp [execOp, ho, h]
theorem rG {x : Operand} {ρ : Operand -> Value} {cs : Array Value} {i : Nat} {c : Value} (h : ρ x = .tuple cs) (hc : cs[i]? = some c) : dG P ρ (.extract x i) w c w :=
 fun oo ho => by simp [execOp, ho, h, Instr.extract, hc]
theorem qt {f : FuncId} {p q : Array Operand} (ρ : Operand -> Value) : dG P ρ (.makeFunc (.func f) p q) w (.func (.func f) (p.map ρ) (q.map ρ)) w :=
 fun oo ho => by simp [execOp, ho, Instr.makeFunc]
theorem xj {op : UnOp} {t : TypeId} {x : Operand} {ρ : Operand -> Value} {c : Value} (h : (Op.unary op (ρ x)).run P w = .ok c w) : dG P ρ (.unOp op t x) w c w :=
 fun oo ho => by simp [execOp, ho, h]
theorem EX {op : UnOp} {x : AV} {r : PV} {c : Value} (h : LN op x = some r) (hx : aL β w M x c) : ∃ d, (Op.unary op c).run P w = .ok d w /\ bp w M r d := by
 unfold LN at h
 split at h
 ·simp only [aL, bp] at hx; subst hx
  simp only [mP, Option.some.injEq] at h; subst h
  exact ⟨_, rfl, by simp only [bp]⟩
 ·simp only [aL, bp] at hx; subst hx
  simp only [mP, Option.some.injEq] at h; subst h
  exact ⟨_, rfl, by simp only [bp]⟩
 ·simp only [aL, bp] at hx; subst hx
  simp only [Option.some.injEq] at h; subst h
  exact ⟨_, rfl, by simp only [bp]⟩
 ·exact absurd h (by simp)
theorem zb {s : List UInt8} {i : Int} {k : IntKind} {b : UInt8} {t : TypeId} (ht : P.underlying t = some .string) (h0 : 0 <= i) (hb : s[i.toNat]? = some b) :
  (Instr.index t (.string ⟨s.toArray⟩) (.int k i)).run P w = .ok (.int .u8 b.toNat) w := by
 have : (⟨s.toArray⟩ : ByteArray)[i.toNat]? = some b := by
  rw [<- hb]
  show (if h : i.toNat < (⟨s.toArray⟩ : ByteArray).size then _ else _) = _
  split
  ·rename_i h
   have h' : i.toNat < s.length := by simpa [ByteArray.size] using h
   rw [List.getElem?_eq_getElem h']; rfl
  ·rename_i h
   have h' : s.length <= i.toNat := by simpa [ByteArray.size] using h
   rw [List.getElem?_eq_none h']
 simp [Instr.index, asIntOf, run_underlying ht, h0, this]
theorem Bj {op : BinOp} {k : IntKind} {x y : Int} {r : PV} (t : TypeId) (hs : op ≠ .shl /\ op ≠ .shr) (h : mP op k x y = some r) :
  ∃ d, (Go.binOp op t (.int k x) (.int k y)).run P w = .ok d w /\ bp w M r d := by
 cases op <;> simp only [mP] at h
 case quo =>
  split at h
  ·exact absurd h (by simp)
  ·rename_i hy
   injection h with h; subst h
   exact ⟨.int k (k.wrap (x.tdiv y)), by simp [Go.binOp, Op.intDiv, hy], by simp only [bp]⟩
 case rem =>
  split at h
  ·exact absurd h (by simp)
  ·rename_i hy
   injection h with h; subst h
   exact ⟨.int k (x.tmod y), by simp [Go.binOp, Op.intDiv, hy], by simp only [bp]⟩
 case shl => exact absurd rfl hs.1
 case shr => exact absurd rfl hs.2
 all_goals (injection h with h; subst h)
 case add => exact ⟨.int k (k.wrap (x + y)), by simp [Go.binOp, Op.intArith], by simp only [bp]⟩
 case sub => exact ⟨.int k (k.wrap (x - y)), by simp [Go.binOp, Op.intArith], by simp only [bp]⟩
 case mul => exact ⟨.int k (k.wrap (x * y)), by simp [Go.binOp, Op.intArith], by simp only [bp]⟩
 case and => exact ⟨.int k (k.wrap (BitVec.ofInt k.bits x &&& BitVec.ofInt k.bits y).toNat), by simp only [Go.binOp, ne_eq, not_true, if_false]; rfl, by simp only [bp]⟩
 case or => exact ⟨.int k (k.wrap (BitVec.ofInt k.bits x ||| BitVec.ofInt k.bits y).toNat), by simp only [Go.binOp, ne_eq, not_true, if_false]; rfl, by simp only [bp]⟩
 case xor => exact ⟨.int k (k.wrap (BitVec.ofInt k.bits x ^^^ BitVec.ofInt k.bits y).toNat), by simp only [Go.binOp, ne_eq, not_true, if_false]; rfl, by simp only [bp]⟩
 case andNot => exact ⟨.int k (k.wrap (BitVec.ofInt k.bits x &&& ~~~ BitVec.ofInt k.bits y).toNat), by simp only [Go.binOp, ne_eq, not_true, if_false]; rfl, by simp only [bp]⟩
 case eql => exact ⟨.bool (x == y), by simp only [Go.binOp, ne_eq, not_true, if_false]; rfl, by simp only [bp]⟩
 case neq => exact ⟨.bool (x != y), by simp only [Go.binOp, ne_eq, not_true, if_false]; rfl, by simp only [bp]⟩
 case lss => exact ⟨.bool (decide (x < y)), by simp only [Go.binOp, ne_eq, not_true, if_false]; rfl, by simp only [bp]⟩
 case leq => exact ⟨.bool (decide (x <= y)), by simp only [Go.binOp, ne_eq, not_true, if_false]; rfl, by simp only [bp]⟩
 case gtr => exact ⟨.bool (decide (x > y)), by simp only [Go.binOp, ne_eq, not_true, if_false]; rfl, by simp only [bp]⟩
 case geq => exact ⟨.bool (decide (x ≥ y)), by simp only [Go.binOp, ne_eq, not_true, if_false]; rfl, by simp only [bp]⟩
theorem rb {op : BinOp} {k k' : IntKind} {x y : Int} {r : PV} (t : TypeId) (hs : op = .shl ∨ op = .shr) (h : lu op k x y = some r) :
  ∃ d, (Go.binOp op t (.int k x) (.int k' y)).run P w = .ok d w /\ bp w M r d := by
 unfold lu at h
 split at h
 ·exact absurd h (by simp)
 ·rename_i hy
  rcases hs with rfl | rfl
  ·injection h with h; subst h
   exact ⟨.int k (k.wrap (x * 2 ^ min y.toNat k.bits)), by simp [Go.binOp, Op.shift, hy], by simp only [bp]⟩
  ·injection h with h; subst h
   exact ⟨.int k (x.fdiv (2 ^ min y.toNat k.bits)), by simp [Go.binOp, Op.shift, hy], by simp only [bp]⟩
theorem kP (s : List UInt8) : (⟨s.toArray⟩ : ByteArray).toList = s := ByteArray.toList_mk s
theorem CR {op : BinOp} {x y : List UInt8} {r : PV} (t : TypeId) (h : yF op x y = some r) :
  ∃ d, (Go.binOp op t (.string ⟨x.toArray⟩) (.string ⟨y.toArray⟩)).run P w = .ok d w /\ bp w M r d := by
 have hx := kP x
 have hy := kP y
 have hb : Go.binOp op t (.string ⟨x.toArray⟩) (.string ⟨y.toArray⟩) = Op.stringOp op ⟨x.toArray⟩ ⟨y.toArray⟩ := by cases op <;> rfl
 rw [hb]
 cases op <;> simp only [yF] at h
 any_goals (cases h; done)
 case add =>
  split at h
  ·rename_i hl
   injection h with h; subst h
   refine ⟨.string ⟨(x ++ y).toArray⟩, ?_, by simp only [bp]⟩
   have : ¬ (((⟨x.toArray⟩ : ByteArray).size + (⟨y.toArray⟩ : ByteArray).size : Nat) : Int) > IntKind.i64.max := by
    simp only [ByteArray.size, List.size_toArray]
    unfold bz at hl
    have : IntKind.i64.max = 9223372036854775807 := by decide
    rw [this]; omega
   simp only [Op.stringOp]
   rw [if_neg this]
   have e : (⟨x.toArray⟩ : ByteArray) ++ (⟨y.toArray⟩ : ByteArray) = ⟨(x ++ y).toArray⟩ := by
    apply ByteArray.ext; simp
   rw [e]; rfl
  ·exact absurd h (by simp)
 all_goals (injection h with h; subst h; simp only [Op.stringOp, hx, hy]; exact ⟨_, rfl, by simp only [bp]⟩)
theorem D7 {t : TypeId} (h : iU P t = true) : ∃ i, P.info? t = some i := by
 unfold iU Program.underlying at h
 split at h
 ·rename_i i _; exact ⟨_, ‹_›⟩
 ·exact ⟨_, ‹_›⟩
 ·exact absurd h (by simp)
theorem eL {t : TypeId} (h : iU P t = true) (w : World) : (sizeOf t).run P w = .ok (ar P t) w := by
 obtain ⟨i, hi⟩ := D7 h
 simp [sizeOf, typeInfo, ar, hi]
theorem qW {t : TypeId} (h : iU P t = true) (w : World) : (isAgg t).run P w = .ok (dC P t) w := by
 unfold iU at h
 obtain ⟨d, hd⟩ := Option.isSome_iff_exists.1 h
 simp only [isAgg, Sem.run_bind, run_underlying hd, Result.andThen_ok, dC, hd]
 cases d <;> rfl
theorem dx (b o n : Nat) : (⟨b, o, none⟩ : Addr).add n = ⟨b, o + n, none⟩ := by
 unfold Addr.add; split <;> simp_all
theorem oQ {t : TypeId} (h : iU P t = true) {b o : Nat} {vs : List Value} (hl : vs.length = ar P t) (hc : ∀ j c, vs[j]? = some c -> at_ w b (o + j) = some c)
  (h1 : dC P t = true) : (loadVar t ⟨b, o, none⟩).run P w = .ok (.agg vs.toArray) w := by
 have := run_loadCells_list (P := P) w ⟨b, o, none⟩ vs (fun j v hj => by rw [dx]; exact hc j v hj)
 simp only [loadVar, Sem.run_bind, qW h, Result.andThen_ok, h1, if_true, eL h, <- hl, this, Sem.run_pure]
theorem nh {t : TypeId} (h : iU P t = true) {b o : Nat} {c : Value} (hc : at_ w b o = some c) (h1 : dC P t = false) :
  (loadVar t ⟨b, o, none⟩).run P w = .ok c w := by
 have hc' : w.cell? ⟨b, o, none⟩ = some c := hc
 simp [loadVar, qW h, h1, hc']
theorem lT {t : TypeId} {x : Operand} {ρ : Operand -> Value} {p : Addr} {c : Value} (h : ρ x = .pointer (some p)) (hl : (loadVar t p).run P w = .ok c w) : dG P ρ (.load t x) w c w :=
 fun oo ho => by simp [execOp, ho, h, Instr.loadAt, Instr.sureAddr, hl]
theorem qD {t : TypeId} (h : iU P t = true) {b o : Nat} {xs : List PV} {vs : List Value} {v : AV} (hr : RepS w M xs vs) (hc : ∀ j c, vs[j]? = some c -> at_ w b (o + j) = some c)
  (hl : xs.length = ar P t) (hv : iJ (dC P t) xs = some v) : ∃ c, (loadVar t ⟨b, o, none⟩).run P w = .ok c w /\ aL β w M v c /\ v.refs = [] := by
 unfold iJ at hv
 cases hg : dC P t with
 | true =>
  rw [hg] at hv; simp only [if_true, Option.some.injEq] at hv; subst hv
  refine ⟨_, oQ h (by rw [hr.length, hl]) hc hg, ?_, rfl⟩
  simp only [aL, bp]
  exact ⟨_, rfl, by simpa using hr⟩
 | false =>
  rw [hg] at hv
  simp only [Bool.false_eq_true, if_false] at hv
  split at hv
  ·rename_i x
   injection hv with hv; subst hv
   obtain ⟨c, h1, h2, h3⟩ := hr.get 0 x rfl
   exact ⟨c, nh h (by simpa using hc 0 c h1) hg, by simp only [aL]; exact h3, rfl⟩
  ·exact absurd hv (by simp)
theorem bj : ∀ {l : List AV} {i : Nat}, i ∈ AV.refsL l ↔ ∃ v ∈ l, i ∈ v.refs
 | [], i => by simp [AV.refsL]
 | v :: l, i => by simp [AV.refsL, bj]
theorem B3 : ∀ {xs : List AV} {vs : List Value} {l : List PV}, pK β w M xs vs -> zl xs = some l -> RepS w M l vs :=
 fun h k => mc h (wo k)
theorem ku {l : List AV} {vs : List Value} (h : pK β w M l vs) : aL β w M (dP true l) (.agg vs.toArray) /\ ∀ i ∈ (dP true l).refs, i ∈ AV.refsL l := by
 unfold dP
 simp only [if_true]
 split
 ·rename_i xs hx
  refine ⟨?_, fun i hi => by simp [AV.refs] at hi⟩
  simp only [aL, bp]
  exact ⟨_, rfl, by simpa using B3 h hx⟩
 ·refine ⟨?_, fun i hi => by simpa only [AV.refs] using hi⟩
  simp only [aL]
  refine ⟨_, rfl, ?_, fun d hd => ?_⟩
  ·exact AVRs.of (by simpa using h.1) (fun j x v hx hv => (h.2 j x v hx (by simpa using hv)).2)
  ·obtain ⟨j, hj⟩ := List.mem_iff_getElem?.1 (by simpa using hd)
   have hlt : j < l.length := by
    rw [h.1]
    exact (List.getElem?_eq_some_iff.1 hj).1
   exact (h.2 j l[j] d (List.getElem?_eq_getElem hlt) hj).1
theorem rV {l : Loc} {cs : List AV} (h : cJ β w M l (.box cs)) : ∃ b o vs, l.base = some (b, o) /\ l.k = cs.length /\ pK β w M cs vs /\ ∀ j c, vs[j]? = some c -> at_ w b (o + j) = some c /\ cK w b (o + j) = false := by
 obtain ⟨b, o, h1, h2, _, h4⟩ := h
 refine ⟨b, o, (List.range cs.length).map fun j => (at_ w b (o + j)).getD undef, h1, h2, ⟨by simp, fun j x v hx hv => ?_⟩, fun j c hj => ?_⟩
 ·obtain ⟨c, k1, k2, k3, k4⟩ := h4 j x hx
  have hlt : j < cs.length := (List.getElem?_eq_some_iff.1 hx).1
  simp [List.getElem?_map, List.getElem?_range hlt, k1] at hv
  subst hv
  exact ⟨k3, k4⟩
 ·have hlt : j < cs.length := by
   have := (List.getElem?_eq_some_iff.1 hj).1
   simpa using this
  obtain ⟨c', k1, k2, k3, k4⟩ := h4 j cs[j] (List.getElem?_eq_getElem hlt)
  simp [List.getElem?_map, List.getElem?_range hlt, k1] at hj
  subst hj
  exact ⟨k1, k2⟩
theorem pK.drop {xs : List AV} {vs : List Value} (h : pK β w M xs vs) (n : Nat) : pK β w M (xs.drop n) (vs.drop n) :=
 ⟨by simp [h.1], fun j x v hx hv => h.2 (n + j) x v (by simpa using hx) (by simpa using hv)⟩
theorem pK.take {xs : List AV} {vs : List Value} (h : pK β w M xs vs) (n : Nat) : pK β w M (xs.take n) (vs.take n) := by
 refine ⟨by simp [h.1], fun j x v hx hv => ?_⟩
 rw [List.getElem?_take] at hx hv
 split at hx
 ·rename_i hj
  rw [if_pos hj] at hv
  exact h.2 j x v hx hv
 ·exact absurd hx (by simp)
theorem vW {t : TypeId} (ht : iU P t = true) {l : Loc} {cs : List AV} (h : cJ β w M l (.box cs)) {b o off : Nat} (hb : l.base = some (b, o)) (hl : off + ar P t <= cs.length) {v : AV}
  (hv : (if dC P t then (if gr ((cs.drop off).take (ar P t)) = [] then some (dP true ((cs.drop off).take (ar P t)), ([] : List (Nat × Obj))) else none)
     else match cs[off]? with | some v => some (v, []) | none => none) = some (v, [])) :
  ∃ c, (loadVar t ⟨b, o + off, none⟩).run P w = .ok c w /\ aL β w M v c /\ ∀ i ∈ v.refs, i ∈ AV.refsL cs := by
 obtain ⟨b', o', vs, h1, h2, h3, h4⟩ := rV h
 rw [hb] at h1; injection h1 with h1; injection h1 with e1 e2; subst e1; subst e2
 cases hg : dC P t with
 | true =>
  rw [hg] at hv
  simp only [if_true] at hv
  split at hv
  ·simp only [Option.some.injEq, Prod.mk.injEq, and_true] at hv; subst hv
   have hs := (h3.drop off).take (ar P t)
   obtain ⟨k1, k2⟩ := ku hs
   refine ⟨_, oQ ht (vs := (vs.drop off).take (ar P t)) (by simp [<- h3.1]; omega) (fun j c hj => ?_) hg, k1, fun i hi => ?_⟩
   ·rw [List.getElem?_take] at hj
    split at hj
    ·rw [List.getElem?_drop] at hj
     have := (h4 _ _ hj).1
     rwa [Nat.add_assoc]
    ·exact absurd hj (by simp)
   ·obtain ⟨v, hv, hi⟩ := bj.1 (k2 i hi)
    exact bj.2 ⟨v, List.mem_of_mem_drop (List.mem_of_mem_take hv), hi⟩
  ·exact absurd hv (by simp)
 | false =>
  rw [hg] at hv
  simp only [Bool.false_eq_true, if_false] at hv
  split at hv
  ·rename_i x hx
   simp only [Option.some.injEq, Prod.mk.injEq, and_true] at hv; subst hv
   have hlt : off < vs.length := by rw [<- h3.1]; exact (List.getElem?_eq_some_iff.1 hx).1
   have hc := List.getElem?_eq_getElem hlt
   exact ⟨_, nh ht (h4 _ _ hc).1 hg, (h3.2 off x _ hx hc).2, fun i hi => bj.2 ⟨x, List.mem_of_getElem? hx, hi⟩⟩
  ·exact absurd hv (by simp)
theorem pe (isSlice : Bool) {len cap : Nat} {lo hi : Option Value} {l h : Nat} (hhi : match hi with | none => h = len | some v => ∃ k, v = .int k (h : Int)) (hlo : match lo with | none => l = 0 | some v => ∃ k, v = .int k (l : Int))
  (hlh : l <= h) (hhc : h <= cap) : (Instr.sliceBounds isSlice len cap lo hi none).run P w = .ok (l, h, cap) w := by
 have key : ∀ (v : Value) (k : IntKind) (n y : Nat) (code : BoundsCode), v = .int k (n : Int) -> n <= y -> (Instr.sliceBound v y code).run P w = .ok n w := by
  intro v k n y code hv hn
  subst hv
  simp [Instr.sliceBound, asIntOf, hn]
 unfold Instr.sliceBounds
 cases hi with
 | none =>
  simp only at hhi; subst hhi
  cases lo with
  | none => simp only at hlo; subst hlo; simp
  | some v => obtain ⟨k, hk⟩ := hlo; simp [key v k l h _ hk hlh]
 | some u =>
  obtain ⟨k', hk'⟩ := hhi
  cases lo with
  | none => simp only at hlo; subst hlo; simp [key u k' h cap _ hk' hhc]
  | some v => obtain ⟨k, hk⟩ := hlo; simp [key u k' h cap _ hk' hhc, key v k l h _ hk hlh]
theorem uX {v : AV} {c : Value} {n : Int} (h : aL β w M v c) (hn : asInt v = some n) : ∃ k, c = .int k n := by
 unfold asInt at hn
 split at hn
 ·injection hn with hn; subst hn
  simp only [aL, bp] at h
  exact ⟨_, h⟩
 ·exact absurd hn (by simp)
theorem qf (hV : VR M0 M β V a.tmps w) {o : Option Operand} {v : Option AV} (h : eX V o = some v) :
  (o = none /\ v = none) ∨ ∃ x y, o = some x /\ v = some y /\ aL β w M y (a.eval x) := by
 cases o with
 | none => simp only [eX, Option.some.injEq] at h; exact .inl ⟨rfl, h.symm⟩
 | some x =>
  simp only [eX] at h
  split at h
  ·rename_i y hy
   injection h with h
   exact .inr ⟨x, y, rfl, h.symm, aP hV hy⟩
  ·exact absurd h (by simp)
theorem iu (hV : VR M0 M β V a.tmps w) {lo hi : Option Operand} {vl vh : Option AV} (hl : eX V lo = some vl) (hh : eX V hi = some vh) {len l h cap : Nat} (hs : iK vl vh len = some (l, h)) (hc : len <= cap) (isSlice : Bool) :
  l <= h /\ h <= len /\ (Instr.sliceBounds isSlice len cap (lo.map a.eval) (hi.map a.eval) none).run P w = .ok (l, h, cap) w := by
 unfold iK at hs
 split at hs
 ·rename_i x y hx hy
  split at hs
  ·rename_i hb
   injection hs with hs; injection hs with e1 e2; subst e1; subst e2
   have h1 : y.toNat <= x.toNat := by omega
   have h2 : x.toNat <= len := by have := hb.2.2; simp at this; omega
   refine ⟨h1, h2, pe isSlice ?_ ?_ h1 (by omega)⟩
   ·rcases qf hV hh with ⟨rfl, rfl⟩ | ⟨p, q, rfl, rfl, hq⟩
    ·simp at hx; subst hx; simp
    ·obtain ⟨k, hk⟩ := uX hq hx
     exact ⟨k, by show a.eval p = _; rw [hk]; congr 1; omega⟩
   ·rcases qf hV hl with ⟨rfl, rfl⟩ | ⟨p, q, rfl, rfl, hq⟩
    ·simp at hy; subst hy; simp
    ·obtain ⟨k, hk⟩ := uX hq hy
     exact ⟨k, by show a.eval p = _; rw [hk]; congr 1; omega⟩
  ·exact absurd hs (by simp)
 ·exact absurd hs (by simp)
theorem qh (s : List UInt8) (l h : Nat) : (⟨s.toArray⟩ : ByteArray).extract l h = ⟨((s.drop l).take (h - l)).toArray⟩ := by
 have := Go.Lib.extract_data (⟨s.toArray⟩ : ByteArray) l h
 apply ByteArray.ext
 rw [<- Array.toArray_toList (xs := ((⟨s.toArray⟩ : ByteArray).extract l h).data), this]
theorem RepRow.cut {A : Option Addr} {sz : Nat} {es : List (List PV)} (h : RepRow w M A sz 0 es) (l n : Nat) (b : Option Addr)
  (hb : 0 < n -> ∃ p : Addr, A = some p /\ b = some ⟨p.block, p.off + l * sz, none⟩) : RepRow w M b sz 0 ((es.drop l).take n) := by
 refine RepRow.of fun j e hj => ?_
 rw [List.getElem?_take] at hj
 split at hj
 ·rename_i hjn
  rw [List.getElem?_drop] at hj
  obtain ⟨p, vs, h1, h2, h3, h4⟩ := h.get (l + j) e hj
  obtain ⟨q, hq, hb'⟩ := hb (by omega)
  rw [h1] at hq; injection hq with hq; subst hq
  refine ⟨_, vs, hb', h2, h3, ?_⟩
  show Holds w M p.block (p.off + l * sz + (0 + j) * sz) vs
  rw [show p.off + l * sz + (0 + j) * sz = p.off + (0 + (l + j)) * sz by rw [Nat.zero_add, Nat.zero_add, Nat.add_mul]; omega]
  exact h4
 ·exact absurd hj (by simp)
theorem eY {t e : TypeId} (ht : P.underlying t = some (.slice e)) (he : iU P e = true) {A : Option Addr} {n cap l h : Nat} {lo hi : Option Value}
  (hb : (Instr.sliceBounds true n cap lo hi none).run P w = .ok (l, h, cap) w) :
  (Instr.sliceAt t (.slice A n cap) lo hi none).run P w = .ok (.slice (if cap = l then A else A.map (·.add (l * ar P e))) (h - l) (cap - l)) w := by
 simp [Instr.sliceAt, Instr.slice, run_underlying ht, hb, eL he]
theorem oj {t : TypeId} (ht : P.underlying t = some .string) {s : ByteArray} {l h : Nat} {lo hi : Option Value}
  (hb : (Instr.sliceBounds false s.size s.size lo hi none).run P w = .ok (l, h, s.size) w) :
  (Instr.sliceAt t (.string s) lo hi none).run P w = .ok (.string (s.extract l h)) w := by
 simp [Instr.sliceAt, Instr.slice, run_underlying ht, hb]
theorem gf {t : TypeId} {x : Operand} {lo hi : Option Operand} {ρ : Operand -> Value} {c : Value} (h : (Instr.sliceAt t (ρ x) (lo.map ρ) (hi.map ρ) none).run P w = .ok c w) :
  dG P ρ (.slice t x lo hi none) w c w :=
 fun oo ho => by simp [execOp, ho, h]
theorem qY {f : Field} (hf : iU P f.type = true) (h0 : ar P f.type ≠ 0) (b o : Nat) : (fieldPlace ⟨b, o, none⟩ f).run P w = .ok ⟨b, o + f.offset, none⟩ w := by
 simp [fieldPlace, eL hf, h0, dx]
theorem jP {t : TypeId} {x : Operand} {f : Nat} {fs : Array Field} {g : Field} {ρ : Operand -> Value} (ht : P.underlying t = some (.struct fs)) (hg : fs[f]? = some g) (hk : iU P g.type = true) (h0 : ar P g.type ≠ 0)
  {b o : Nat} (h : ρ x = .pointer (some ⟨b, o, none⟩)) : dG P ρ (.fieldAddr t x f) w (.pointer (some ⟨b, o + g.offset, none⟩)) w :=
 fun oo ho => by simp [execOp, ho, h, Instr.fieldAt, run_underlying ht, hg, Instr.sureAddr, qY hk h0]
theorem iX {t : TypeId} {f : Nat} {g : Field} (h : qi P t f = some g) : ∃ fs : Array Field, P.underlying t = some (.struct fs) /\ fs[f]? = some g := by
 unfold qi at h
 split at h
 ·exact ⟨_, ‹_›, h⟩
 ·exact absurd h (by simp)
theorem eT {t e : TypeId} (h : ie P t = some e) : P.underlying t = some (.slice e) /\ iU P e = true /\ 0 < ar P e := by
 unfold ie at h
 split at h
 ·split at h
  ·rename_i hc
   injection h with h; subst h; exact ⟨by assumption, hc.1, hc.2⟩
  ·exact absurd h (by simp)
 ·exact absurd h (by simp)
theorem qZ {t : TypeId} (ht : iU P t = true) {cs : Array Value} {off : Nat} :
  (part t cs off).run P w = if dC P t then .ok (.agg (cs.extract off (off + ar P t))) w else (match cs[off]? with | some v => .ok v w | none => .halt (.stuck "part: no such cell") w) := by
 simp only [part, Sem.run_bind, qW ht, Result.andThen_ok]
 cases dC P t
 ·simp only [Bool.false_eq_true, if_false]
  cases cs[off]? <;> simp
 ·simp only [if_true, Sem.run_bind, eL ht, Result.andThen_ok, Sem.run_pure]
theorem oJ {t : TypeId} {x : Operand} {f : Nat} {fs : Array Field} {g : Field} {ρ : Operand -> Value} (ht : P.underlying t = some (.struct fs)) (hg : fs[f]? = some g) {cs : Array Value} (h : ρ x = .agg cs) {c : Value}
  (hp : (part g.type cs g.offset).run P w = .ok c w) : dG P ρ (.field t x f) w c w :=
 fun oo ho => by simp [execOp, ho, h, Instr.field, run_underlying ht, hg, asAgg, hp]
theorem AA {t : TypeId} (ht : iU P t = true) {cs : Array Value} {fs : List PV} (h : RepS w M fs cs.toList) {off : Nat} {v : AV} (hv : iJ (dC P t) ((fs.drop off).take (ar P t)) = some v) :
  ∃ c, (part t cs off).run P w = .ok c w /\ aL β w M v c /\ v.refs = [] := by
 have hd := RepS.take (ar P t) (RepS.drop off h)
 unfold iJ at hv
 rw [qZ ht]
 cases hg : dC P t with
 | true =>
  rw [hg] at hv; simp only [if_true, Option.some.injEq] at hv; subst hv
  refine ⟨_, rfl, ?_, rfl⟩
  simp only [aL, bp]
  refine ⟨_, rfl, ?_⟩
  simpa [Array.toList_extract, List.extract_eq_take_drop] using hd
 | false =>
  rw [hg] at hv
  simp only [Bool.false_eq_true, if_false] at hv ⊢
  split at hv
  ·rename_i x hx
   injection hv with hv; subst hv
   obtain ⟨c, h1, h2, h3⟩ := hd.get 0 x (by rw [hx]; rfl)
   have : cs[off]? = some c := by
    rw [List.getElem?_take] at h1
    split at h1
    ·rw [List.getElem?_drop] at h1
     simpa using h1
    ·exact absurd h1 (by simp)
   exact ⟨c, by rw [this], by simp only [aL]; exact h3, rfl⟩
  ·exact absurd hv (by simp)
theorem yY {t : TypeId} (ht : iU P t = true) {cs : Array Value} {fs : List AV} (h : pK β w M fs cs.toList) {off : Nat} (h0 : 0 < ar P t) (hl : off + ar P t <= fs.length) :
  ∃ c, (part t cs off).run P w = .ok c w /\ aL β w M (dP (dC P t) ((fs.drop off).take (ar P t))) c /\ ∀ i ∈ (dP (dC P t) ((fs.drop off).take (ar P t))).refs, i ∈ AV.refsL fs := by
 have hd := (h.drop off).take (ar P t)
 have sub : ∀ i, i ∈ AV.refsL ((fs.drop off).take (ar P t)) -> i ∈ AV.refsL fs := fun i hi => by
  obtain ⟨v, hv, hi⟩ := bj.1 hi
  exact bj.2 ⟨v, List.mem_of_mem_drop (List.mem_of_mem_take hv), hi⟩
 rw [qZ ht]
 cases hg : dC P t with
 | true =>
  obtain ⟨k1, k2⟩ := ku hd
  refine ⟨_, rfl, ?_, fun i hi => sub i (k2 i hi)⟩
  have e : (Value.agg (cs.extract off (off + ar P t))) = .agg ((cs.toList.drop off).take (ar P t)).toArray := by
   congr 1
   apply Array.ext'
   simp [Array.toList_extract, List.extract_eq_take_drop]
  rw [e]; exact k1
 | false =>
  simp only [Bool.false_eq_true, if_false]
  have hlt : off < cs.toList.length := by rw [<- h.1]; omega
  have hlt' : off < fs.length := by omega
  have hc : cs[off]? = some (cs.toList[off]) := by
   rw [<- Array.getElem?_toList, List.getElem?_eq_getElem hlt]
  rw [hc]
  refine ⟨_, rfl, ?_, fun i hi => ?_⟩
  ·simp only [dP, Bool.false_eq_true, if_false]
   split
   ·rename_i v hv
    have e : fs[off]? = some v := by
     have : ((fs.drop off).take (ar P t))[0]? = some v := by rw [hv]; rfl
     rw [List.getElem?_take, if_pos h0, List.getElem?_drop] at this
     simpa using this
    exact (h.2 off v _ e (List.getElem?_eq_getElem hlt)).2
   ·simp only [aL]
  ·simp only [dP, Bool.false_eq_true, if_false] at hi
   split at hi
   ·rename_i v hv
    refine sub i ?_
    rw [hv]
    simpa [AV.refsL] using hi
   ·simp [AV.refs] at hi
theorem kE {t e : TypeId} (ht : P.underlying t = some (.slice e)) (he : iU P e = true) {b o n cap : Nat} {k : IntKind} {i : Int} (h0 : 0 <= i) (hi : i < n) :
  (Instr.indexAt t (.slice (some ⟨b, o, none⟩) n cap) (.int k i)).run P w = .ok (.pointer (some ⟨b, o + i.toNat * ar P e, none⟩)) w := by
 simp [Instr.indexAt, asIntOf, run_underlying ht, h0, hi, eL he, dx]
theorem gp {t : TypeId} {x ix : Operand} {ρ : Operand -> Value} {c : Value} (h : (Instr.indexAt t (ρ x) (ρ ix)).run P w = .ok c w) : dG P ρ (.indexAddr t x ix) w c w :=
 fun oo ho => by simp [execOp, ho, h]
theorem vH {t : TypeId} {x ix : Operand} {ρ : Operand -> Value} {c : Value} (h : (Instr.index t (ρ x) (ρ ix)).run P w = .ok c w) : dG P ρ (.index t x ix) w c w :=
 fun oo ho => by simp [execOp, ho, h]
theorem so {x : Operand} {t : TypeId} {ts : List TypeId} {ρ : Operand -> Value} {n : Nat}
  (h : (P.underlying t = some .string /\ ∃ s : ByteArray, ρ x = .string s /\ s.size = n) ∨ (∃ e, P.underlying t = some (.slice e)) /\ ∃ A c, ρ x = .slice A n c) :
  dG P ρ (.call { callee := .builtin .len, args := #[x], argTypes := (t :: ts).toArray }) w (.int .i64 n) w := by
 intro oo ho
 rcases h with ⟨ht, s, hs, hn⟩ | ⟨⟨e, ht⟩, A, c, hs⟩
 ·subst hn
  simp [execOp, ho, resolve, invoke, Go.builtin, Builtin.len_, run_underlying ht, hs, goInt]
 ·simp [execOp, ho, resolve, invoke, Go.builtin, Builtin.len_, run_underlying ht, hs, goInt]
theorem cW {α : Type} : ∀ (off : Nat) (new l : List α), off + new.length <= l.length -> (setFrom off new l).length = l.length
 | 0, new, l, h => by simp [setFrom]; omega
 | n + 1, new, [], h => by simp at h
 | n + 1, new, a :: l, h => by simp [setFrom, cW n new l (by simp at h; omega)]
theorem ch {α : Type} : ∀ (off : Nat) (new l : List α), off + new.length <= l.length -> ∀ j, (setFrom off new l)[j]? = if off <= j /\ j < off + new.length then new[j - off]? else l[j]?
 | 0, new, l, h, j => by
  simp only [setFrom, Nat.zero_le, Nat.zero_add, true_and, Nat.sub_zero]
  rw [List.getElem?_append]
  split
  ·rfl
  ·rw [List.getElem?_drop]; congr 1; omega
 | n + 1, new, [], h, j => by simp at h
 | n + 1, new, a :: l, h, j => by
  cases j with
  | zero => simp [setFrom]
  | succ j =>
   simp only [setFrom, List.getElem?_cons_succ]
   rw [ch n new l (by simp at h; omega) j]
   by_cases hc : n <= j /\ j < n + new.length
   ·rw [if_pos hc, if_pos ⟨by omega, by omega⟩]; congr 1; omega
   ·rw [if_neg hc, if_neg (by omega)]
theorem se : ∀ (new : List Value) (off k : Nat) (cs : Array Value), off + k + new.length <= cs.size →
  ((new.zipIdx k).foldl (fun (cs : Array Value) (p : Value × Nat) => cs.setIfInBounds (off + p.2) p.1) cs).toList = setFrom (off + k) new cs.toList
 | [], off, k, cs, h => by
  simp only [List.zipIdx_nil, List.foldl_nil]
  apply List.ext_getElem?
  intro j
  rw [ch _ _ _ (by simpa using h)]
  rw [if_neg (by rintro ⟨h1, h2⟩; simp at h2; omega)]
 | v :: new, off, k, cs, h => by
  simp only [List.zipIdx_cons, List.foldl_cons]
  have h' : off + k + (new.length + 1) <= cs.size := by simpa using h
  rw [se new off (k + 1) _ (by simp; omega)]
  apply List.ext_getElem?
  intro j
  rw [ch _ _ _ (by simp; omega), ch _ _ _ (by simpa using h')]
  by_cases h1 : off + (k + 1) <= j /\ j < off + (k + 1) + new.length
  ·rw [if_pos h1, if_pos ⟨by omega, by simp; omega⟩, show j - (off + k) = (j - (off + (k + 1))) + 1 by omega]; rfl
  ·rw [if_neg h1]
   by_cases h2 : j = off + k
   ·subst h2
    rw [if_pos ⟨Nat.le_refl _, by simp⟩]
    simp [List.getElem?_set]
    omega
   ·rw [if_neg (by simp; omega)]
    rw [Array.toList_setIfInBounds, List.getElem?_set, if_neg (by omega)]
theorem sa {bV : Nat -> Option (Nat × Nat)} {cells : Array Value} {i : Nat} {v : Value} {r : List (Nat × Value)} {off size : Nat} (hp : bV i = some (off, size)) (hs : v.cells.size = size) (hl : off + size <= cells.size) :
  Instr.fill bV cells ((i, v) :: r) = Instr.fill bV (setFrom off v.cells.toList cells.toList).toArray r := by
 simp only [Instr.fill, hp]
 rw [if_neg (by simp [hs]; omega)]
 congr 1
 apply Array.ext'
 have := se v.cells.toList off 0 cells (by simp [hs]; omega)
 rw [<- Array.foldl_toList, Array.toList_zipIdx]
 simpa using this
structure NewOK (M : ay) (β : Nat -> Loc) (w : World) (os : List (Nat × Obj)) (M' : ay) (β' : Nat -> Loc) (w' : World) : Prop where
 keep : ∀ id, id ∉ os.map (·.1) -> β' id = β id
 grow : ∀ b j, M' b j ↔ M b j ∨ ∃ id ∈ os.map (·.1), (β' id).F b j
 fresh : ∀ id ∈ os.map (·.1), ∀ b j, (β' id).F b j -> w.heap.size <= b /\ b < w'.heap.size
 objs : ∀ p ∈ os, cJ β' w' M' (β' p.1) p.2
 disj : ∀ id ∈ os.map (·.1), ∀ id' ∈ os.map (·.1), id ≠ id' -> ∀ b j, (β' id).F b j -> ¬ (β' id').F b j
 fr : Fr (fun _ _ => False) w w'
theorem NewOK.none (M : ay) (β : Nat -> Loc) (w : World) : NewOK M β w [] M β w :=
 ⟨fun _ _ => rfl, fun b j => by simp, fun id h => by simp at h, fun p h => by simp at h, fun id h => by simp at h, Fr.refl _ _⟩
theorem NewOK.step {M : ay} {β : Nat -> Loc} {w : World} {os : List (Nat × Obj)} {M' : ay} {β' : Nat -> Loc} {w' : World} (h : NewOK M β w os M' β' w') :
  ∀ b o v, at_ w b o = some v -> ¬ M b o -> at_ w' b o = some v /\ ¬ M' b o := fun b o v hv hm => by
 refine ⟨(h.fr.keeps hv (fun x => x)).1, fun hm' => ?_⟩
 rcases (h.grow b o).1 hm' with h1 | ⟨id, hid, hF⟩
 ·exact hm h1
 ·have := (h.fresh id hid b o hF).1
  have := oC hv
  omega
def el (w : World) (M : ay) (sz : Nat) (es : List (List PV)) (vs : List Value) : Prop :=
 es.length * sz <= vs.length /\ ∀ (i : Nat) (e : List PV), es[i]? = some e -> e.length = sz /\ RepS w M e ((vs.drop (i * sz)).take sz)
theorem lY {id sz cap : Nat} {es : List (List PV)} {vs : List Value} {w' : World} (hold : ∀ b j, M b j -> b < w.heap.size) (h0 : 0 < sz) (hr : el w M sz es vs) (hl : vs.length = cap * sz) (hc : es.length <= cap)
  (hat : ∀ j : Nat, at_ w' w.heap.size j = vs[j]?) (hz : ∀ j, j < vs.length -> cK w' w.heap.size j = false) (hfr : Fr (fun _ _ => False) w w') (hs : w'.heap.size = w.heap.size + 1) (hu : 2 <= sz -> zQ w' w.heap.size) :
  ∃ β' M', NewOK M β w [(id, .buf sz es)] M' β' w' /\ (β' id).hdr = .slice (some ⟨w.heap.size, 0, none⟩) es.length cap /\ (∀ b j, M' b j -> b < w.heap.size + 1) := by
 let l : Loc := { base := some (w.heap.size, 0), len := es.length, cap := cap, sz := sz, k := cap * sz, ext := none }
 let β' : Nat -> Loc := fun i => if i = id then l else β i
 let M' : ay := fun b j => M b j ∨ l.F b j
 have hβ : β' id = l := by simp [β']
 have hF : ∀ b j, l.F b j -> b = w.heap.size /\ j < cap * sz := by
  rintro b j (⟨o, h1, h2, h3⟩ | ⟨n, h1, _⟩)
  ·simp only [l, Option.some.injEq, Prod.mk.injEq] at h1
   obtain ⟨rfl, rfl⟩ := h1
   exact ⟨rfl, by simpa using h3⟩
  ·simp [l] at h1
 have hk : ∀ b o v, at_ w b o = some v -> ¬ M b o -> at_ w' b o = some v /\ ¬ M' b o := fun b o v hv hm => by
  refine ⟨(hfr.keeps hv (fun x => x)).1, ?_⟩
  rintro (h | h)
  ·exact hm h
  ·have := (hF b o h).1
   have := oC hv
   omega
 refine ⟨β', M', ⟨fun i hi => ?_, fun b j => ?_, fun i hi b j hb => ?_, fun p hp => ?_, fun i hi i' hi' hne => ?_, hfr⟩, by rw [hβ]; rfl, ?_⟩
 ·simp at hi; simp [β', hi]
 ·simp [M', hβ]
 ·simp at hi; subst hi; rw [hβ] at hb; have := (hF b j hb).1; subst this; rw [hs]; exact ⟨Nat.le_refl _, Nat.lt_succ_self _⟩
 ·simp at hp; subst hp
  rw [hβ]
  refine ⟨rfl, h0, rfl, hc, rfl, ⟨rfl, fun b o hb => by simp only [l, Option.some.injEq, Prod.mk.injEq] at hb; rw [<- hb.1]; exact hu⟩, fun h => by simp [l] at h, fun e he => ?_, fun b o hb => ?_⟩
  ·obtain ⟨i, hi⟩ := List.mem_iff_getElem?.1 he
   exact (hr.2 i e hi).1
  ·simp only [l, Option.some.injEq, Prod.mk.injEq] at hb
   obtain ⟨rfl, rfl⟩ := hb
   refine ⟨fun j hj => ⟨⟨vs[j]'(by rw [hl]; exact hj), by rw [Nat.zero_add, hat]; exact List.getElem?_eq_getElem _⟩, by rw [Nat.zero_add]; exact hz j (by rw [hl]; exact hj)⟩, fun i e he => ?_⟩
   obtain ⟨k1, k2⟩ := hr.2 i e he
   refine ⟨_, RepS.mono hk e _ k2, fun j c hj => ?_⟩
   rw [List.getElem?_take] at hj
   split at hj
   ·rw [List.getElem?_drop] at hj
    rw [Nat.zero_add, hat]; exact hj
   ·exact absurd hj (by simp)
 ·simp at hi hi'; omega
 ·rintro b j (h | h)
  ·have := hold b j h; omega
  ·have := (hF b j h).1; omega
theorem yp {t : TypeId} {id sz cap : Nat} {es : List (List PV)} {vs : List Value} (hold : ∀ b j, M b j -> b < w.heap.size) (h0 : 0 < sz) (hr : el w M sz es vs) (hl : vs.length = cap * sz) (hc : es.length <= cap) :
  ∃ β' M', NewOK M β w [(id, .buf sz es)] M' β' (w.alloc (.cells vs.toArray t)) /\ (β' id).hdr = .slice (some ⟨w.heap.size, 0, none⟩) es.length cap /\ (∀ b j, M' b j -> b < w.heap.size + 1) :=
 lY hold h0 hr hl hc (fun j => by simp [at_]) (fun j _ => by simp [cK]) (Fr.alloc ..) (by simp) (fun _ => fK ..)
theorem Ei {t : TypeId} {id : Nat} {cs : List AV} {vs : List Value} (hold : ∀ b j, M b j -> b < w.heap.size) (hr : pK β w M cs vs) (hn : id ∉ AV.refsL cs) :
  ∃ β' M', NewOK M β w [(id, .box cs)] M' β' (w.alloc (.cells vs.toArray t)) /\ (β' id).base = some (w.heap.size, 0) /\ (∀ b j, M' b j -> b < w.heap.size + 1) := by
 let l : Loc := { base := some (w.heap.size, 0), len := 0, cap := 0, sz := 0, k := cs.length, ext := none }
 let β' : Nat -> Loc := fun i => if i = id then l else β i
 let M' : ay := fun b j => M b j ∨ l.F b j
 have hβ : β' id = l := by simp [β']
 have hF : ∀ b j, l.F b j -> b = w.heap.size := by
  rintro b j (⟨o, h1, h2, h3⟩ | ⟨n, h1, _⟩)
  ·simp only [l, Option.some.injEq, Prod.mk.injEq] at h1
   exact h1.1.symm
  ·simp [l] at h1
 have hk : ∀ b o v, at_ w b o = some v -> ¬ M b o -> at_ (w.alloc (.cells vs.toArray t)) b o = some v /\ ¬ M' b o := fun b o v hv hm => by
  refine ⟨((Fr.alloc w vs.toArray t (fun _ _ => False)).keeps hv (fun x => x)).1, ?_⟩
  rintro (h | h)
  ·exact hm h
  ·have := hF b o h
   have := oC hv
   omega
 have hat : ∀ j : Nat, at_ (w.alloc (.cells vs.toArray t)) w.heap.size j = vs[j]? := fun j => by simp [at_]
 refine ⟨β', M', ⟨fun i hi => ?_, fun b j => ?_, fun i hi b j hb => ?_, fun p hp => ?_, fun i hi i' hi' hne => ?_, Fr.alloc _ _ _ _⟩, by rw [hβ], ?_⟩
 ·simp at hi; simp [β', hi]
 ·simp [M', hβ]
 ·simp at hi; subst hi; rw [hβ] at hb; have := hF b j hb; subst this; simp
 ·simp at hp; subst hp
  rw [hβ]
  refine ⟨w.heap.size, 0, rfl, rfl, rfl, fun j v hj => ?_⟩
  have hlt : j < vs.length := by rw [<- hr.1]; exact (List.getElem?_eq_some_iff.1 hj).1
  have hv := List.getElem?_eq_getElem hlt
  obtain ⟨k1, k2⟩ := hr.2 j v _ hj hv
  refine ⟨_, by rw [Nat.zero_add, hat]; exact hv, by simp [cK], k1, aL.mono hk _ _ (fun i hi => ?_) k2⟩
  have : i ≠ id := fun e => hn (bj.2 ⟨v, List.mem_of_getElem? hj, e ▸ hi⟩)
  exact Loc.same_of (by simp [β', this])
 ·simp at hi hi'; omega
 ·rintro b j (h | h)
  ·have := hold b j h; omega
  ·have := hF b j h; omega
theorem ec {t : TypeId} {vs : List Value} (h : eO P t = some vs) : ∃ i z, P.info? t = some i /\ i.zero = some z /\ z.cells.toList = vs /\ vs.length = ar P t := by
 unfold eO at h
 split at h
 ·rename_i i hi
  split at h
  ·rename_i z hz
   split at h
   ·rename_i hs
    injection h with h; subst h
    exact ⟨i, z, hi, hz, rfl, by simp [ar, hi, hs]⟩
   ·exact absurd h (by simp)
  ·exact absurd h (by simp)
 ·exact absurd h (by simp)
theorem fX {t : TypeId} {i : TypeInfo} {z : Value} (hi : P.info? t = some i) (hz : i.zero = some z) (w : World) : (zeroValue t).run P w = .ok z w := by
 simp [zeroValue, typeInfo, hi, hz]
theorem zF {zs : List Value} {n j : Nat} (hj : j < n * zs.length) : ((Array.range (n * zs.length)).map (fun i => zs.toArray[i % zs.toArray.size]!)).toList[j]? = zs[j % zs.length]? := by
 have h0 : 0 < zs.length := by
  rcases Nat.eq_zero_or_pos zs.length with h | h
  ·rw [h] at hj; omega
  ·exact h
 have hlt : j % zs.length < zs.length := Nat.mod_lt _ h0
 simp [List.getElem?_map, List.getElem?_range hj, hlt]
theorem tk {zs : List Value} {z : List PV} (hz : RepS w M z zs) (n m : Nat) (hm : m <= n) :
  el w M zs.length (List.replicate m z) ((Array.range (n * zs.length)).map (fun i => zs.toArray[i % zs.toArray.size]!)).toList := by
 refine ⟨by simpa using Nat.mul_le_mul_right _ hm, fun i e he => ?_⟩
 rw [List.getElem?_replicate] at he
 split at he
 ·rename_i hi
  injection he with he; subst he
  refine ⟨hz.length.symm, ?_⟩
  have : ((((Array.range (n * zs.length)).map (fun i => zs.toArray[i % zs.toArray.size]!)).toList.drop (i * zs.length)).take zs.length) = zs := by
   apply List.ext_getElem?
   intro j
   rw [List.getElem?_take]
   split
   ·rename_i hj
    have hij : i * zs.length + j < n * zs.length := by
     have : (i + 1) * zs.length <= n * zs.length := Nat.mul_le_mul_right _ (by omega)
     rw [Nat.add_mul] at this; omega
    rw [List.getElem?_drop, zF hij, Nat.mul_comm i, Nat.mul_add_mod, Nat.mod_eq_of_lt hj]
   ·rename_i hj
    rw [List.getElem?_eq_none (by omega)]
  rw [this]; exact hz
 ·exact absurd he (by simp)
theorem D4 : IntKind.i64.max = 9223372036854775807 := by decide
theorem vJ {n : Int} (h0 : 0 <= n) (h : n <= 9223372036854775807) : IntKind.i64.wrap n = n := by
 have := D4
 simp only [IntKind.wrap, IntKind.signed, IntKind.bits]
 simp
 omega
theorem qF (f : Nat -> Value) : Array.map f (Array.range 0) = #[] := by simp
theorem pc {t e : TypeId} {x y : Operand} {ρ : Operand -> Value} {kx ky : IntKind} {n m : Int} (ht : P.underlying t = some (.slice e)) (he : iU P e = true) (hx : ρ x = .int kx n) (hy : ρ y = .int ky m)
  (h0 : 0 <= n) (hn : n <= m) (hm : m <= 9223372036854775807) (hb : m * (dM P e : Nat) <= (140737488355328 : Int)) {zs : List Value} (hz : eO P e = some zs) :
  dG P ρ (.makeSlice t x y) w (.slice (some ⟨w.heap.size, 0, none⟩) n.toNat m.toNat)
   (w.alloc (.cells ((Array.range (m.toNat * zs.length)).map (fun i => zs.toArray[i % zs.toArray.size]!)) e)) := by
 intro oo ho
 obtain ⟨i, z, hi, hzz, rfl, hl⟩ := ec hz
 have hbt : dM P e = i.bytes := by simp [dM, hi]
 have hst : ar P e = i.size := by simp [ar, hi]
 rw [hbt] at hb
 have hwn := vJ h0 (by omega)
 have hwm := vJ (n := m) (by omega) hm
 have hbm : (i.bytes : Int) * m <= 140737488355328 := by rw [Int.mul_comm]; exact hb
 have hzl : z.cells.size = i.size := by rw [<- hst, <- hl]; simp
 have g1 : ¬ (m < 0) := by omega
 have g2 : ¬ ((281474976710656:Int) < (i.bytes : Int) * m) := by omega
 have g3 : ¬ (n < 0) := by omega
 have g4 : ¬ (m < n) := by omega
 have hlt : z.cells.toList.length = i.size := by simpa using hzl
 have ga : ∀ W : World, (Go.asInt (Value.int kx n)).run P W = .ok n W := fun W => by simp [Go.asInt, asIntOf]
 have gb : ∀ W : World, (Go.asInt (Value.int ky m)).run P W = .ok m W := fun W => by simp [Go.asInt, asIntOf]
 by_cases h00 : m.toNat * i.size = 0
 ·have e0 : ((Array.range (m.toNat * z.cells.toList.length)).map (fun j => z.cells.toList.toArray[j % z.cells.toList.toArray.size]!)) = #[] := by
   rw [hlt, h00]; simp
  rw [e0]
  simp [execOp, ho, Instr.makeSlice, run_underlying ht, hx, hy, ga, gb, typeInfo, hi, hwn, hwm, g1, g2, g3, g4, sizeOf, h00, newRow, qF]
 ·simp [execOp, ho, Instr.makeSlice, run_underlying ht, hx, hy, ga, gb, typeInfo, hi, hwn, hwm, g1, g2, g3, g4, sizeOf, h00, newRow, fX hi hzz, hzl]
theorem za {t : TypeId} {x : Operand} {ρ : Operand -> Value} : dG P ρ (.box t x) w (.pointer (some ⟨w.heap.size, 0, none⟩)) (w.alloc (.cells (ρ x).cells t)) :=
 fun oo ho => by simp [execOp, ho, Instr.box, newVar, newRow]
theorem oI {t : TypeId} {ρ : Operand -> Value} {i : TypeInfo} {z : Value} (hi : P.info? t = some i) (hz : i.zero = some z) : dG P ρ (.alloc t) w (.pointer (some ⟨w.heap.size, 0, none⟩)) (w.alloc (.cells z.cells t)) :=
 fun oo ho => by simp [execOp, ho, Instr.alloc, fX hi hz, newVar, newRow]
theorem nU {t e : TypeId} {n : Nat} {parts : Array (Nat × Operand)} {ρ : Operand -> Value} {cells : Array Value} {zs : List Value} (ht : P.underlying t = some (.slice e)) (he : iU P e = true) (hz : eO P e = some zs)
  (hn : n * ar P e <= 16777216) (hf : Instr.fill (fun i => some (i * ar P e, ar P e)) ((Array.range (n * zs.length)).map (fun i => zs.toArray[i % zs.toArray.size]!)) (parts.toList.map fun p => (p.1, ρ p.2)) = some cells) :
  dG P ρ (.buildSlice t n parts) w (.slice (some ⟨w.heap.size, 0, none⟩) n n) (w.alloc (.cells cells e)) := by
 intro oo ho
 obtain ⟨i, z, hi, hzz, rfl, hl⟩ := ec hz
 have hst : ar P e = i.size := by simp [ar, hi]
 have hzl : z.cells.size = i.size := by rw [<- hst, <- hl]; simp
 have hnn : ¬ (16777216 < n * i.size) := by rw [hst] at hn; omega
 have hpl : (parts.map fun (x : Nat × Operand) => (x.1, ρ x.2)).toList = parts.toList.map fun p => (p.1, ρ p.2) := by simp
 rw [hst] at hf
 by_cases h0 : n * i.size = 0
 ·have e0 : ((Array.range (n * z.cells.toList.length)).map (fun j => z.cells.toList.toArray[j % z.cells.toList.toArray.size]!)) = #[] := by
   have hlt : z.cells.toList.length = i.size := by simpa using hzl
   rw [hlt, h0]; simp
  rw [e0] at hf
  simp [execOp, ho, Instr.buildSlice, run_underlying ht, sizeOf, typeInfo, hi, hnn, h0, newRow, qF, hf]
 ·have e1 : ((Array.range (n * z.cells.toList.length)).map (fun j => z.cells.toList.toArray[j % z.cells.toList.toArray.size]!)) = (Array.range (n * i.size)).map (fun x => z.cells[x % z.cells.size]!) := by
   have hlt : z.cells.toList.length = i.size := by simpa using hzl
   rw [hlt]
  rw [e1] at hf
  simp [execOp, ho, Instr.buildSlice, run_underlying ht, sizeOf, typeInfo, hi, hnn, h0, newRow, fX hi hzz, hf]
theorem lJ {α γ : Type} {f : α -> Sem γ} {g : α -> γ} : ∀ (l : List α), (∀ x ∈ l, ∀ w, (f x).run P w = .ok (g x) w) -> ∀ (w : World), (l.mapM f).run P w = .ok (l.map g) w
 | [], _, w => by simp
 | x :: l, h, w => by simp [List.mapM_cons, h x (by simp) w, lJ l (fun y hy => h y (by simp [hy])) w]
theorem pW {α γ : Type} {f : α -> Sem γ} {g : α -> γ} {xs : Array α} (h : ∀ x ∈ xs.toList, ∀ w, (f x).run P w = .ok (g x) w) (w : World) : (xs.mapM f).run P w = .ok (xs.map g) w := by
 rw [Array.mapM_eq_mapM_toList]
 simp [lJ xs.toList h w]
 apply Array.ext'; simp
theorem yZ {t : TypeId} (h : mJ P t = true) : ∃ fs : Array Field, P.underlying t = some (.struct fs) /\ ∀ f ∈ fs.toList, iU P f.type = true := by
 unfold mJ at h
 split at h
 ·rename_i fs hfs
  refine ⟨fs, hfs, fun f hf => ?_⟩
  rw [Array.all_eq_true_iff_forall_mem] at h
  exact h f (by simpa using hf)
 ·exact absurd h (by simp)
theorem oH {t : TypeId} {fs : Array Field} (ht : P.underlying t = some (.struct fs)) (ρ : Operand -> Value) : ∀ (ps : List (Nat × Operand)) (qs : List (Nat × AV)) (cs : List AV) (vs : List Value) (out : List AV),
  (ps.map (·.1) = qs.map (·.1)) -> (∀ (j : Nat) (p : Nat × Operand) (q : Nat × AV), ps[j]? = some p -> qs[j]? = some q -> aL β w M q.2 (ρ p.2)) -> pK β w M cs vs -> jc P t cs qs = some out →
  ∃ us, Instr.fill (fun i => (fs.map fun f => (f.offset, ar P f.type))[i]?) vs.toArray (ps.map fun p => (p.1, ρ p.2)) = some us.toArray /\ pK β w M out us /\ ∀ i ∈ AV.refsL out, i ∈ AV.refsL cs ∨ ∃ q ∈ qs, i ∈ q.2.refs
 | [], [], cs, vs, out, _, _, h, hs => by
  simp only [jc, Option.some.injEq] at hs; subst hs
  exact ⟨vs, rfl, h, fun i hi => .inl hi⟩
 | [], q :: qs, cs, vs, out, hp, _, h, hs => by simp at hp
 | p :: ps, [], cs, vs, out, hp, _, h, hs => by simp at hp
 | p :: ps, (i, v) :: qs, cs, vs, out, hp, hr, h, hs => by
  have hpi : p.1 = i := by simp at hp; exact hp.1
  simp only [jc] at hs
  split at hs
  ·rename_i f hf
   split at hs
   ·rename_i hc
    obtain ⟨hfit, hlen, hoff⟩ := hc
    have hv : aL β w M v (ρ p.2) := hr 0 p (i, v) rfl rfl
    have hl := lh hv hfit
    obtain ⟨fs', ht', hfi⟩ := iX hf
    rw [ht] at ht'; injection ht' with ht'; injection ht' with ht'; subst ht'
    have hplace : (fun i => (fs.map fun f => (f.offset, ar P f.type))[i]?) p.1 = some (f.offset, ar P f.type) := by
     simp [hpi, hfi]
    have hsz : (ρ p.2).cells.size = ar P f.type := by
     have := hl.1; rw [hlen] at this; simpa using this.symm
    have hvs : vs.length = cs.length := h.1.symm
    have hnew : pK β w M (setFrom f.offset (cF v) cs) (setFrom f.offset (ρ p.2).cells.toList vs) := by
     refine ⟨by rw [cW _ _ _ (by omega), cW _ _ _ (by simp [hsz]; omega), hvs], fun j x u hx hu => ?_⟩
     rw [ch _ _ _ (by omega)] at hx
     rw [ch _ _ _ (by simp [hsz]; omega)] at hu
     by_cases hj : f.offset <= j /\ j < f.offset + (cF v).length
     ·rw [if_pos hj] at hx
      rw [if_pos (by simp [hsz]; omega)] at hu
      exact hl.2 _ x u hx hu
     ·rw [if_neg hj] at hx
      rw [if_neg (by simp [hsz]; omega)] at hu
      exact h.2 j x u hx hu
    obtain ⟨us, k1, k2, k3⟩ := oH ht ρ ps qs _ _ out (by simp at hp; exact hp.2) (fun j a b ha hb => hr (j + 1) a b (by simpa using ha) (by simpa using hb)) hnew hs
    refine ⟨us, ?_, k2, fun r hr' => ?_⟩
    ·rw [List.map_cons, sa hplace hsz (by simp; omega)]
     exact k1
    ·rcases k3 r hr' with h1 | ⟨q, hq, h1⟩
     ·obtain ⟨x, hx, hxr⟩ := bj.1 h1
      obtain ⟨j, hj⟩ := List.mem_iff_getElem?.1 hx
      rw [ch _ _ _ (by omega)] at hj
      split at hj
      ·refine .inr ⟨(i, v), by simp, ?_⟩
       have hm := List.mem_of_getElem? hj
       cases v with
       | pv y =>
        cases y <;> first
         | (simp only [cF, List.mem_map] at hm; obtain ⟨z, _, rfl⟩ := hm; simp [AV.refs] at hxr)
         | (simp only [cF, List.mem_singleton] at hm; subst hm; simp [AV.refs] at hxr)
       | agg l => simp only [cF] at hm; simp only [AV.refs]; exact bj.2 ⟨x, hm, hxr⟩
       | _ => (simp only [cF, List.mem_singleton] at hm; subst hm; exact hxr)
      ·exact .inl (bj.2 ⟨x, List.mem_of_getElem? hj, hxr⟩)
     ·exact .inr ⟨q, by simp [hq], h1⟩
   ·exact absurd hs (by simp)
  ·exact absurd hs (by simp)
theorem vG {t : TypeId} {fs : Array Field} {parts : Array (Nat × Operand)} {ρ : Operand -> Value} (ht : P.underlying t = some (.struct fs)) (hfs : ∀ f ∈ fs.toList, iU P f.type = true) {zs us : List Value} (hz : eO P t = some zs)
  (hf : Instr.fill (fun i => (fs.map fun f => (f.offset, ar P f.type))[i]?) zs.toArray (parts.toList.map fun p => (p.1, ρ p.2)) = some us.toArray) :
  dG P ρ (.build t parts) w (.agg us.toArray) w := by
 intro oo ho
 obtain ⟨i, z, hi, hzz, rfl, hl⟩ := ec hz
 have hm : ∀ W : World, (fs.mapM fun f => (do pure (f.offset, <- sizeOf f.type) : Sem (Nat × Nat))).run P W = .ok (fs.map fun f => (f.offset, ar P f.type)) W :=
  fun W => pW (fun f hf' W' => by simp [eL (hfs f hf')]) W
 have hpl : (parts.map fun (x : Nat × Operand) => (x.1, ρ x.2)).toList = parts.toList.map fun p => (p.1, ρ p.2) := by simp
 simp only [execOp, ho, Instr.build, Sem.run_bind, fX hi hzz, Result.andThen_ok, run_underlying ht, hm, hpl]
 simp only [Array.toArray_toList] at hf
 rw [hf]
 simp
theorem qj {sz : Nat} (h0 : 0 < sz) (ρ : Operand -> Value) : ∀ (ps : List (Nat × Operand)) (qs : List (Nat × AV)) (es : List (List PV)) (vs : List Value) (out : List (List PV)),
  (ps.map (·.1) = qs.map (·.1)) -> (∀ (j : Nat) (p : Nat × Operand) (q : Nat × AV), ps[j]? = some p -> qs[j]? = some q -> aL β w M q.2 (ρ p.2)) -> vs.length = es.length * sz -> el w M sz es vs -> lq sz es qs = some out →
  ∃ us, Instr.fill (fun i => some (i * sz, sz)) vs.toArray (ps.map fun p => (p.1, ρ p.2)) = some us.toArray /\ us.length = vs.length /\ out.length = es.length /\ el w M sz out us
 | [], [], es, vs, out, _, _, hl, h, hs => by
  simp only [lq, Option.some.injEq] at hs; subst hs
  exact ⟨vs, rfl, rfl, rfl, h⟩
 | [], q :: qs, es, vs, out, hp, _, _, h, hs => by simp at hp
 | p :: ps, [], es, vs, out, hp, _, _, h, hs => by simp at hp
 | p :: ps, (i, v) :: qs, es, vs, out, hp, hr, hl, h, hs => by
  have hpi : p.1 = i := by simp at hp; exact hp.1
  simp only [lq] at hs
  split at hs
  ·rename_i l hpv
   split at hs
   ·rename_i hc
    obtain ⟨hfit, hlen, hi⟩ := hc
    have hv : aL β w M v (ρ p.2) := hr 0 p (i, v) rfl rfl
    have hlv := lh hv hfit
    have hrep := mc hlv hpv
    have hsz : (ρ p.2).cells.size = sz := by have := hrep.length; rw [hlen] at this; simpa using this
    have hb : i * sz + sz <= vs.length := by
     rw [hl]
     have : (i + 1) * sz <= es.length * sz := Nat.mul_le_mul_right _ hi
     rw [Nat.add_mul] at this; omega
    have hvl : (ρ p.2).cells.toList.length = sz := by simpa using hsz
    have hnew : el w M sz (es.set i l) (setFrom (i * sz) (ρ p.2).cells.toList vs) := by
     refine ⟨by rw [List.length_set, cW _ _ _ (by rw [hvl]; exact hb)]; exact h.1, fun j e he => ?_⟩
     by_cases hj : j = i
     ·subst hj
      rw [List.getElem?_set_self hi] at he
      injection he with he; subst he
      refine ⟨hlen, ?_⟩
      have : ((setFrom (j * sz) (ρ p.2).cells.toList vs).drop (j * sz)).take sz = (ρ p.2).cells.toList := by
       apply List.ext_getElem?
       intro k
       rw [List.getElem?_take]
       split
       ·rename_i hk
        rw [List.getElem?_drop, ch _ _ _ (by rw [hvl]; exact hb), if_pos ⟨by omega, by rw [hvl]; omega⟩]
        congr 1; omega
       ·rw [List.getElem?_eq_none (by rw [hvl]; omega)]
      rw [this]; exact hrep
     ·rw [List.getElem?_set_ne (fun e => hj e.symm)] at he
      obtain ⟨k1, k2⟩ := h.2 j e he
      refine ⟨k1, ?_⟩
      have : ((setFrom (i * sz) (ρ p.2).cells.toList vs).drop (j * sz)).take sz = (vs.drop (j * sz)).take sz := by
       apply List.ext_getElem?
       intro k
       rw [List.getElem?_take, List.getElem?_take]
       split
       ·rename_i hk
        rw [List.getElem?_drop, List.getElem?_drop, ch _ _ _ (by rw [hvl]; exact hb), if_neg]
        rw [hvl]
        rintro ⟨h1, h2⟩
        rcases Nat.lt_or_gt_of_ne hj with hlt | hgt
        ·have : (j + 1) * sz <= i * sz := Nat.mul_le_mul_right _ hlt
         rw [Nat.add_mul] at this; omega
        ·have : (i + 1) * sz <= j * sz := Nat.mul_le_mul_right _ hgt
         rw [Nat.add_mul] at this; omega
       ·rfl
      rw [this]; exact k2
    obtain ⟨us, k1, k2, k3, k4⟩ := qj h0 ρ ps qs _ _ out (by simp at hp; exact hp.2) (fun j a b ha hb => hr (j + 1) a b (by simpa using ha) (by simpa using hb))
     (by rw [List.length_set, cW _ _ _ (by rw [hvl]; exact hb)]; exact hl) hnew hs
    refine ⟨us, ?_, ?_, by rw [k3, List.length_set], k4⟩
    ·rw [List.map_cons, sa (off := i * sz) (size := sz) (by rw [hpi]) hsz (by simp; omega)]
     exact k1
    ·rw [k2, cW _ _ _ (by rw [hvl]; exact hb)]
   ·exact absurd hs (by simp)
  ·exact absurd hs (by simp)
theorem iQ (hV : VR M0 M β V a.tmps w) : ∀ {ps : List (Nat × Operand)} {qs : List (Nat × AV)}, cn V ps = some qs →
  ps.map (·.1) = qs.map (·.1) /\ ∀ (j : Nat) (p : Nat × Operand) (q : Nat × AV), ps[j]? = some p -> qs[j]? = some q -> aL β w M q.2 (a.eval p.2)
 | [], qs, h => by simp only [cn, Option.some.injEq] at h; subst h; exact ⟨rfl, fun j p q hp => by simp at hp⟩
 | (i, o) :: ps, qs, h => by
  simp only [cn] at h
  split at h
  ·rename_i v l hv hl
   injection h with h; subst h
   obtain ⟨k1, k2⟩ := iQ hV hl
   refine ⟨by simp [k1], fun j p q hp hq => ?_⟩
   cases j with
   | zero => simp at hp hq; subst hp; subst hq; exact aP hV hv
   | succ j => exact k2 j p q (by simpa using hp) (by simpa using hq)
  ·exact absurd h (by simp)
theorem vF {op : BinOp} {t ty : TypeId} {x y : Operand} {ρ : Operand -> Value} {c : Value} (hg : (eqGuard op t x y (ρ x) (ρ y)).run P w = .ok () w) (h : (Go.binOp op t (ρ x) (ρ y)).run P w = .ok c w) :
  dG P ρ (.binOp op t x y ty) w c w :=
 fun oo ho => by simp [execOp, ho, hg, h]
theorem ik {op : BinOp} {t : TypeId} {x y : Operand} {c d : Value} (h : (∀ cs, c ≠ .agg cs) /\ c ≠ .nilIface) : (eqGuard op t x y c d).run P w = .ok () w := by
 unfold eqGuard
 cases c
 case agg cs => exact absurd rfl (h.1 cs)
 case nilIface => exact absurd rfl h.2
 all_goals (cases op <;> simp)
theorem x6 {g : TypeId -> List PV -> List PV -> Option Bool} {d : Nat} {xs ys : List PV} {vs us : Array Value} (hx : RepS w M xs vs.toList) (hy : RepS w M ys us.toList)
  (hg : ∀ (t : TypeId) (as bs : List PV) (r : Bool) (a b : Value), iU P t = true -> g t as bs = some r -> (∃ l : List Value, RepS w M as l /\ (if dC P t then a = .agg l.toArray else l = [a])) →
   (∃ l : List Value, RepS w M bs l /\ (if dC P t then b = .agg l.toArray else l = [b])) -> (Op.equalIn d t a b).run P w = .ok r w)
  (hl : ∀ (t : TypeId) (as bs : List PV) (r : Bool), g t as bs = some r -> dC P t = false -> as.length = 1 /\ bs.length = 1) :
  ∀ (fs : List Field) (r : Bool), Av P g xs ys fs = some r -> (Op.eqFields d vs us fs).run P w = .ok r w
 | [], r, h => by simp only [Av, Option.some.injEq] at h; subst h; simp [Op.eqFields]
 | f :: fs, r, h => by
  simp only [Av] at h
  split at h
  ·exact absurd h (by simp)
  ·rename_i hc
   have hn : ¬ f.name = "_" := fun e => hc (.inl e)
   have ht : iU P f.type = true := by
    cases e : iU P f.type
    ·exact absurd (.inr e) hc
    ·rfl
   split at h
   ·rename_i p q hp hq
    injection h with h; subst h
    have ih := x6 hx hy hg hl fs q hq
    have part1 : ∀ (as : List PV) (cs : Array Value), RepS w M as cs.toList -> (dC P f.type = false -> ((as.drop f.offset).take (ar P f.type)).length = 1) →
      ∃ c, (part f.type cs f.offset).run P w = .ok c w /\ ∃ l : List Value, RepS w M ((as.drop f.offset).take (ar P f.type)) l /\ (if dC P f.type then c = .agg l.toArray else l = [c]) := by
     intro as cs hr hone
     have hd := RepS.take (ar P f.type) (RepS.drop f.offset hr)
     rw [qZ ht]
     cases e : dC P f.type with
     | true =>
      refine ⟨_, rfl, _, hd, ?_⟩
      simp only [if_true]
      congr 1
      apply Array.ext'
      simp [Array.toList_extract, List.extract_eq_take_drop]
     | false =>
      have h1 : ((cs.toList.drop f.offset).take (ar P f.type)).length = 1 := by rw [hd.length]; exact hone e
      obtain ⟨c, hc⟩ := List.length_eq_one_iff.1 h1
      have hc0 : cs[f.offset]? = some c := by
       have : ((cs.toList.drop f.offset).take (ar P f.type))[0]? = some c := by rw [hc]; rfl
       rw [List.getElem?_take] at this
       split at this
       ·rw [List.getElem?_drop] at this; simpa using this
       ·exact absurd this (by simp)
      simp only [Bool.false_eq_true, if_false, hc0]
      exact ⟨c, rfl, _, hd, hc⟩
    obtain ⟨a, a1, a2⟩ := part1 xs vs hx (fun e => (hl _ _ _ _ hp e).1)
    obtain ⟨b, b1, b2⟩ := part1 ys us hy (fun e => (hl _ _ _ _ hp e).2)
    have he := hg f.type _ _ p a b ht hp a2 b2
    simp only [Op.eqFields, hn, ne_eq, not_false_eq_true, if_true, Sem.run_bind, a1, b1, he, Result.andThen_ok]
    cases p
    ·simp
    ·simpa using ih
   ·exact absurd h (by simp)
theorem DR : ∀ (n : Nat) (t : TypeId) (as bs : List PV) (r : Bool), Fw P n t as bs = some r -> dC P t = false -> as.length = 1 /\ bs.length = 1
 | 0, _, _, _, _, h, _ => by simp [Fw] at h
 | n + 1, t, as, bs, r, h, ha => by
  simp only [Fw] at h
  split at h
  ·rename_i fs hfs
   simp [dC, hfs] at ha
  ·split at h
   ·exact ⟨rfl, rfl⟩
   ·exact absurd h (by simp)
  ·split at h
   ·exact ⟨rfl, rfl⟩
   ·exact absurd h (by simp)
  ·split at h
   ·exact ⟨rfl, rfl⟩
   ·exact absurd h (by simp)
  ·exact absurd h (by simp)
theorem Aw : ∀ (n d : Nat) (t : TypeId) (as bs : List PV) (r : Bool) (a b : Value), Fw P n t as bs = some r -> (∃ l : List Value, RepS w M as l /\ (if dC P t then a = .agg l.toArray else l = [a])) →
   (∃ l : List Value, RepS w M bs l /\ (if dC P t then b = .agg l.toArray else l = [b])) -> (Op.equalIn (d + n) t a b).run P w = .ok r w
 | 0, d, t, as, bs, r, a, b, h, _, _ => by simp [Fw] at h
 | n + 1, d, t, as, bs, r, a, b, h, ⟨l, hl, hla⟩, ⟨m, hm, hmb⟩ => by
  simp only [Fw] at h
  have one : ∀ {x : PV} {l : List Value} {c : Value}, RepS w M [x] l -> l = [c] -> bp w M x c := by
   intro x l c h1 h2
   subst h2
   simp only [RepS] at h1
   obtain ⟨d, r, h3, _, h4, _⟩ := h1
   injection h3 with h3; subst h3; exact h4
  split at h
  ·rename_i fs hfs
   split at h
   ·exact absurd h (by simp)
   ·rename_i hs
    have ha : dC P t = true := by simp [dC, hfs]
    rw [ha] at hla hmb
    simp only [if_true] at hla hmb
    subst hla; subst hmb
    have hf : P.fieldsOf t = fs := by simp [Program.fieldsOf, hfs]
    rw [show d + (n + 1) = (d + n) + 1 from rfl, run_equalIn_struct w (d + n) t _ _ (by rw [hf]; exact hfs) (by simpa using hs), hf]
    exact x6 (by simpa using hl) (by simpa using hm) (fun t as bs r a b _ hg ha hb => Aw n d t as bs r a b hg ha hb) (DR n) _ _ h
  ·rename_i k hk
   have ha : dC P t = false := by simp [dC, hk]
   rw [ha] at hla hmb
   simp only [Bool.false_eq_true, if_false] at hla hmb
   split at h
   ·split at h
    ·rename_i e
     subst e
     injection h with h; subst h
     have h1 := one hl hla
     have h2 := one hm hmb
     simp only [bp] at h1 h2
     subst h1; subst h2
     exact run_equalIn_int w (d + n) t _ k _ _ hk
    ·exact absurd h (by simp)
   ·exact absurd h (by simp)
  ·rename_i hk
   have ha : dC P t = false := by simp [dC, hk]
   rw [ha] at hla hmb
   simp only [Bool.false_eq_true, if_false] at hla hmb
   split at h
   ·injection h with h; subst h
    have h1 := one hl hla
    have h2 := one hm hmb
    simp only [bp] at h1 h2
    subst h1; subst h2
    exact run_equalIn_bool w (d + n) t _ _ hk
   ·exact absurd h (by simp)
  ·rename_i hk
   have ha : dC P t = false := by simp [dC, hk]
   rw [ha] at hla hmb
   simp only [Bool.false_eq_true, if_false] at hla hmb
   split at h
   ·injection h with h; subst h
    have h1 := one hl hla
    have h2 := one hm hmb
    simp only [bp] at h1 h2
    subst h1; subst h2
    rename_i p q
    have := run_equalIn_string (P := P) w (d + n) t ⟨p.toArray⟩ ⟨q.toArray⟩ hk
    rw [kP, kP] at this
    exact this
   ·exact absurd h (by simp)
  ·exact absurd h (by simp)
theorem mZ {t e : TypeId} (h : BZ P t = some e) : P.underlying t = some (.pointer (P.pointee t)) := by
 unfold BZ at h
 split at h
 ·rename_i d hd
  simp [Program.pointee, hd]
 ·exact absurd h (by simp)
theorem EY {op : BinOp} {t : TypeId} {x y : Operand} {av bv : AV} {r : PV} {c d : Value} (h : uF P op t av bv = some r) (hx : aL β w M av c) (hy : aL β w M bv d) :
  (eqGuard op t x y c d).run P w = .ok () w /\ ∃ e, (Go.binOp op t c d).run P w = .ok e w /\ bp w M r e := by
 unfold uF at h
 split at h
 ·rename_i k a k' b
  simp only [aL, bp] at hx hy
  subst hx; subst hy
  refine ⟨ik ⟨fun cs e => by simp at e, by simp⟩, ?_⟩
  split at h
  ·exact rb t (.inl rfl) h
  ·exact rb t (.inr rfl) h
  ·rename_i h1 h2
   split at h
   ·rename_i e; subst e
    exact Bj t ⟨fun e => h1 e, fun e => h2 e⟩ h
   ·exact absurd h (by simp)
 ·simp only [aL, bp] at hx hy
  subst hx; subst hy
  exact ⟨ik ⟨fun cs e => by simp at e, by simp⟩, CR t h⟩
 ·simp only [aL, bp] at hx hy
  subst hx; subst hy
  refine ⟨ik ⟨fun cs e => by simp at e, by simp⟩, ?_⟩
  split at h
  ·rename_i ht
   have ht : P.underlying t = some .bool := by
    unfold Fk at ht
    split at ht
    ·assumption
    ·exact absurd ht (by simp)
   have he := fun a b => run_equalIn_bool (P := P) w 9999 t a b ht
   split at h
   ·injection h with h; subst h
    rename_i p q hh _
    refine ⟨.bool (p == q), ?_, by simp only [bp]⟩
    simp [Go.binOp, Op.equal, Op.maxDepth, he]
   ·injection h with h; subst h
    rename_i p q hh _
    refine ⟨.bool (!(p == q)), ?_, by simp only [bp]⟩
    simp [Go.binOp, Op.equal, Op.maxDepth, he]
   ·exact absurd h (by simp)
  ·exact absurd h (by simp)
 ·simp only [aL, bp] at hx hy
  obtain ⟨cs, rfl, hx⟩ := hx
  obtain ⟨ds, rfl, hy⟩ := hy
  split at h
  ·rename_i hc
   refine ⟨run_eqGuard_agg w op t x y cs ds hc.1, ?_⟩
   split at h
   ·rename_i r' hr
    have he := Aw (w := w) (M := M) (P := P) 8 9992 t _ _ _ (.agg cs) (.agg ds) hr ⟨_, hx, by simp [hc.2]⟩ ⟨_, hy, by simp [hc.2]⟩
    split at h
    ·injection h with h; subst h
     refine ⟨.bool r', ?_, by simp only [bp]⟩
     rw [run_eql_struct, he]; rfl
    ·injection h with h; subst h
     refine ⟨.bool (!r'), ?_, by simp only [bp]⟩
     rw [run_neq_struct, he]; rfl
    ·exact absurd h (by simp)
   ·exact absurd h (by simp)
  ·exact absurd h (by simp)
 ·simp only [aL, bp] at hx hy
  obtain ⟨b, o, _, rfl⟩ := hx
  subst hy
  refine ⟨ik ⟨fun cs e => by simp at e, by simp⟩, ?_⟩
  split at h
  ·rename_i ht
   obtain ⟨e, he⟩ := Option.isSome_iff_exists.1 ht
   have hu : P.underlying t = some (.pointer (P.pointee t)) := mZ he
   split at h
   ·injection h with h; subst h
    exact ⟨.bool false, run_eql_pointer_nil w t _ hu, by simp only [bp]⟩
   ·injection h with h; subst h
    exact ⟨.bool true, run_neq_pointer_nil w t _ hu, by simp only [bp]⟩
   ·exact absurd h (by simp)
  ·exact absurd h (by simp)
 ·simp only [aL, bp] at hx hy
  subst hx; subst hy
  refine ⟨ik ⟨fun cs e => by simp at e, by simp⟩, ?_⟩
  split at h
  ·rename_i ht
   obtain ⟨e, he⟩ := Option.isSome_iff_exists.1 ht
   have hu : P.underlying t = some (.pointer (P.pointee t)) := mZ he
   split at h
   ·injection h with h; subst h
    exact ⟨.bool true, run_eql_pointer_nil w t _ hu, by simp only [bp]⟩
   ·injection h with h; subst h
    exact ⟨.bool false, run_neq_pointer_nil w t _ hu, by simp only [bp]⟩
   ·exact absurd h (by simp)
  ·exact absurd h (by simp)
 ·exact absurd h (by simp)
end ops
abbrev LP := List (List PV)
abbrev BS := List UInt8
abbrev pI (n : Int) : PV := .int .i64 n
abbrev pT (s : BS) : PV := .str s
abbrev pB (b : Bool) : PV := .bool b
abbrev pS (l : LP) : PV := .sl l
abbrev bU (o : Int) (a b : BS) (n : Bool) (v : LP) (m : Bool) (w t u k : LP) : List PV := [pI o, pT a, pT b, pB n, pS v, pB m, pS w, pS t, pS u, pS k]
abbrev r9 (o a b : Int) (n : Bool) (v : LP) (m : Bool) (w t k : LP) : List PV := [pI o, pI a, pI b, pB n, pS v, pB m, pS w, pS t, pS k]
abbrev RT := List TV × List TV
abbrev QT := List TV × List TV -> Prop
abbrev tI (n : Int) : TV := .pv (.int .i64 n)
abbrev tT (s : BS) : TV := .pv (.str s)
abbrev tB (b : Bool) : TV := .pv (.bool b)
abbrev tS (l : LP) : TV := .pv (.sl l)
abbrev eR (n : Int) : RT := ([tS [], tI n], [])
abbrev aI (n : Int) : AV := .pv (.int .i64 n)
abbrev aT (s : BS) : AV := .pv (.str s)
abbrev aB (b : Bool) : AV := .pv (.bool b)
abbrev aS (l : LP) : AV := .pv (.sl l)
abbrev gC (o : Int) (a b : BS) (n : Bool) (v : LP) (m : Bool) (w t u k : LP) : List AV := [aI o, aT a, aT b, aB n, aS v, aB m, aS w, aS t, aS u, aS k]
end Go.Proofs.YtcoikmicjbppmaaGreat.Vm
