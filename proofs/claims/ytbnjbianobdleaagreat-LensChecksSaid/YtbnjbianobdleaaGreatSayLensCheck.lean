/-
  Lenses checked, in the machine.
-/
import Derived.Test.YtbnjbianobdleaaGreatSayLensOf
import Derived.Test.YtbnjbianobdleaaGreatSayTreeCheck
namespace Go.Proofs.YtbnjbianobdleaaGreat.Vm
open Go Go.RowKit
set_option linter.unusedVariables false
set_option linter.unusedSimpArgs false
set_option maxRecDepth 100000

/-! ### What is asked of a part -/
/-- Where the first name stands that is too long, counted from a number on; none: -1. -/
def ixL : List (List UInt8) → Int → Int
  | [], _ => -1
  | s :: l, i => if decide ((s.length : Int) > 80) = true then i else ixL l (i + 1)
/-- Is a name too long? -/
def longF (l : List (List PV)) : Bool := (unstr l).any fun s => decide (80 < s.length)
/-- What is wrong with a set. -/
def wideF (l : List (List PV)) : Int := if 20 < l.length then 4 else if longF l = true then 5 else 0
/-- What is wrong with a part's sets. -/
def setF (o : Int) (l m : List (List PV)) : Int := if o = 6 ∨ o = 7 then (if wideF l = 0 ∧ o = 7 then wideF m else wideF l) else 0
/-- What is wrong with a part's trees. -/
noncomputable def treF (o : Int) (t u : List (List PV)) : Int := if o = 2 then (if chkE t 1 0 = 0 then chkE u 1 0 else chkE t 1 0) else 0

/-- A part: what it does, its names, sets, trees. -/
structure LD where
  o : Int
  a : List UInt8
  b : List UInt8
  n : Bool
  nl : List (List UInt8)
  m : Bool
  ml : List (List UInt8)
  t : Tr
  u : Tr
/-- Parts: the first one, its kids, those behind it. -/
inductive Ls where
  | nil
  | cons (d : LD) (k r : Ls)
def LD.row (d : LD) (k : List (List PV)) : List PV := [.int .i64 d.o, .str d.a, .str d.b, .bool d.n, .sl (d.nl.map strRow), .bool d.m, .sl (d.ml.map strRow), .sl d.t.rows, .sl d.u.rows, .sl k]
def Ls.rows : Ls → List (List PV)
  | .nil => []
  | .cons d k r => d.row k.rows :: r.rows
def Ls.len : Ls → Nat
  | .nil => 0
  | .cons _ _ r => r.len + 1

def kidLo (o : Int) : Int := if o = 8 then 1 else if o = 7 then 2 else if o = 9 then 1 else 0
def kidHi (o : Int) : Int := if o = 8 then 1 else if o = 7 then 2 else if o = 9 then 8 else 0
def kidB (o n : Int) : Bool := decide (kidLo o ≤ n ∧ n ≤ kidHi o)

/-- What is wrong with a part itself, the c-th, so deep. -/
noncomputable def errL (p : LD) (n : Nat) (c d : Int) : Int :=
  if 40 < c then 4 else if 12 < d then 11 else if ¬ (1 ≤ p.o ∧ p.o ≤ 9) then 3 else if kidB p.o n = false then 1 else if 80 < p.a.length ∨ 80 < p.b.length then 5 else if p.o = 3 ∧ p.a = p.b then 1
  else if setF p.o (p.nl.map strRow) (p.ml.map strRow) ≠ 0 then setF p.o (p.nl.map strRow) (p.ml.map strRow) else treF p.o p.t.rows p.u.rows
/-- How many parts were counted, what was wrong. -/
noncomputable def walkF : Ls → Int → Int → Int × Int
  | .nil, c, d => (c, 0)
  | .cons p k r, c, d => if errL p k.len (c + 1) d ≠ 0 then (c + 1, errL p k.len (c + 1) d) else if (walkF k (c + 1) (d + 1)).2 ≠ 0 then walkF k (c + 1) (d + 1) else walkF r (walkF k (c + 1) (d + 1)).1 d
def Ls.deep : Ls → Nat
  | .nil => 0
  | .cons _ k r => max (k.deep + 1) r.deep
/-- Trees, sets of a size that can be. -/
def Ls.ok : Ls → Prop
  | .nil => True
  | .cons p k r => (p.t.nodes < 4000000 ∧ p.u.nodes < 4000000 ∧ p.nl.length ≤ 4000000 ∧ p.ml.length ≤ 4000000 ∧ k.len ≤ 4000000) ∧ k.ok ∧ r.ok
noncomputable def unls (a : List (List PV)) : Ls := @dite _ (∃ l : Ls, a = l.rows) (Classical.propDecidable _) (fun h => h.choose) (fun _ => .nil)
noncomputable def mayN (row : List PV) (c d : Int) : Int := (walkF (unls [row]) c d).1
noncomputable def mayE (row : List PV) (c d : Int) : Int := (walkF (unls [row]) c d).2
def lensO (N : Nat) (row : List PV) : Prop := ∃ (p : LD) (k : Ls), row = p.row k.rows ∧ k.deep < N ∧ (Ls.cons p k .nil).ok

theorem st1_w (s : List UInt8) (Q : List TV × List TV → Prop) : (wFun C noSpec 101 [.pv (.str s)] Q) (H.auto) = (Q ([TV.pv (PV.bool (decide ((↑(List.length s) : Int) > (80 : Int))))], [])) := by kernel_rfl

def g_st1 : List TV → Option Alts
  | [.pv (.str s)] => one True ([.pv (.bool (decide ((s.length : Int) > 80)))], [])
  | _ => none

def S_ixf : Specs := specL [(101, g_st1)]

theorem ixf_w (l : List (List PV)) (Q : List TV × List TV → Prop) : (wFun C S_ixf 116 [.pv (.sl l), .pv (.fn 101 [])] Q) (H.auto) = (LoopAt C (116 : FuncId) (CP.dn (CP.dn (CP.dn (CP.dn CP.top (1 : Nat)) (0 : Nat)) (1 : Nat)) (0 : Nat)) (St.mk [((0 : Nat), AV.pv (PV.sl l)), ((1 : Nat), AV.pv (PV.fn (101 : FuncId) [])), ((7 : Nat), AV.pv (PV.int IntKind.i64 (↑(List.length l) : Int))), ((8 : Nat), AV.pv (PV.int IntKind.i64 (0 : Int)))] []) (exK (blockK (0 : Nat) (seqK (wAt C S_ixf (116 : FuncId) (99998 : Nat) (CP.dn (CP.dn CP.top (1 : Nat)) (1 : Nat))) (retK C (116 : FuncId) [TV.pv (PV.sl l), TV.pv (PV.fn (101 : FuncId) [])] Q))))) := by kernel_rfl

def ixf_c0 : CP := (CP.dn (CP.dn (CP.dn (CP.dn CP.top (1 : Nat)) (0 : Nat)) (1 : Nat)) (0 : Nat))

def ixf_h0 (t0 : List (List PV)) (t7 : Int) (t8 : Int) : St := (St.mk [((0 : Nat), AV.pv (PV.sl t0)), ((1 : Nat), AV.pv (PV.fn (101 : FuncId) [])), ((7 : Nat), AV.pv (PV.int IntKind.i64 t7)), ((8 : Nat), AV.pv (PV.int IntKind.i64 t8))] [])

theorem ixf_l0 (l : List (List PV)) (t0 : List (List PV)) (t7 : Int) (t8 : Int)  (J0 : St → Prop) (Q : List TV × List TV → Prop) : (wAt C S_ixf 116 1000 (ixf_c0.dn 0) (ixf_h0 t0 t7 t8) (loopK C 116 ixf_c0 J0 (exK (blockK (0 : Nat) (seqK (wAt C S_ixf (116 : FuncId) (99998 : Nat) (CP.dn (CP.dn CP.top (1 : Nat)) (1 : Nat))) (retK C (116 : FuncId) [TV.pv (PV.sl l), TV.pv (PV.fn (101 : FuncId) [])] Q)))))) (H.b (H.s (H.s (H.b H.auto H.auto))) H.auto) = ((decide (t8 < t7) = true → (0 : Int) ≤ t8 ∧ ∃ (s : List UInt8), t0[Int.toNat t8]? = some [PV.str s] ∧ True ∧ (decide ((↑(List.length s) : Int) > (80 : Int)) = true → ∃ (h : H), Q ([TV.pv (PV.int IntKind.i64 t8)], [])) ∧ (decide ((↑(List.length s) : Int) > (80 : Int)) = false → J0 (St.mk [((0 : Nat), AV.pv (PV.sl t0)), ((1 : Nat), AV.pv (PV.fn (101 : FuncId) [])), ((7 : Nat), AV.pv (PV.int IntKind.i64 t7)), ((8 : Nat), AV.pv (PV.int IntKind.i64 (IntKind.wrap IntKind.i64 (t8 + (1 : Int)))))] []))) ∧ (decide (t8 < t7) = false → ∃ (h : H), Q ([TV.pv (PV.int IntKind.i64 (-1 : Int))], []))) := by kernel_rfl

theorem wid_w (b : Bool) (l : List (List PV)) (Q : List TV × List TV → Prop) : (wFun C noSpec 83 [.pv (.agg [.bool b, .sl l])] Q) (H.b H.auto H.auto) = ((decide ((↑(List.length l) : Int) > (20 : Int)) = true → Q ([TV.pv (PV.int IntKind.i64 (4 : Int))], [])) ∧ (decide ((↑(List.length l) : Int) > (20 : Int)) = false → LoopAt C (83 : FuncId) (CP.dn (CP.dn (CP.dn (CP.dn (CP.dn CP.top (1 : Nat)) (1 : Nat)) (0 : Nat)) (1 : Nat)) (0 : Nat)) (St.mk [((1 : Nat), AV.addr (2 : Nat) (0 : Nat) (0 : Nat)), ((3 : Nat), AV.pv (PV.int IntKind.i64 (0 : Int)))] [((2 : Nat), Obj.box [AV.pv (PV.bool b), AV.pv (PV.sl l)])]) (exK (blockK (0 : Nat) (seqK (wAt C noSpec (83 : FuncId) (99997 : Nat) (CP.dn (CP.dn (CP.dn CP.top (1 : Nat)) (1 : Nat)) (1 : Nat))) (retK C (83 : FuncId) [TV.pv (PV.agg [PV.bool b, PV.sl l])] Q)))))) := by kernel_rfl

def wid_c0 : CP := (CP.dn (CP.dn (CP.dn (CP.dn (CP.dn CP.top (1 : Nat)) (1 : Nat)) (0 : Nat)) (1 : Nat)) (0 : Nat))

def wid_h0 (t3 : Int) (o2 : Bool) (o2b : List (List PV)) : St := (St.mk [((1 : Nat), AV.addr (2 : Nat) (0 : Nat) (0 : Nat)), ((3 : Nat), AV.pv (PV.int IntKind.i64 t3))] [((2 : Nat), Obj.box [AV.pv (PV.bool o2), AV.pv (PV.sl o2b)])])

theorem wid_l0 (b : Bool) (l : List (List PV)) (t3 : Int) (o2 : Bool) (o2b : List (List PV))  (J0 : St → Prop) (Q : List TV × List TV → Prop) : (wAt C noSpec 83 1000 (wid_c0.dn 0) (wid_h0 t3 o2 o2b) (loopK C 83 wid_c0 J0 (exK (blockK (0 : Nat) (seqK (wAt C noSpec (83 : FuncId) (99997 : Nat) (CP.dn (CP.dn (CP.dn CP.top (1 : Nat)) (1 : Nat)) (1 : Nat))) (retK C (83 : FuncId) [TV.pv (PV.agg [PV.bool b, PV.sl l])] Q)))))) (H.b (H.s (H.s (H.b H.auto H.auto))) H.auto) = ((decide (t3 < (↑(List.length o2b) : Int)) = true → (0 : Int) ≤ t3 ∧ ∃ (s : List UInt8), o2b[Int.toNat t3]? = some [PV.str s] ∧ (decide ((↑(List.length s) : Int) > (80 : Int)) = true → ∃ (h : H), Q ([TV.pv (PV.int IntKind.i64 (5 : Int))], [])) ∧ (decide ((↑(List.length s) : Int) > (80 : Int)) = false → J0 (St.mk [((1 : Nat), AV.addr (2 : Nat) (0 : Nat) (0 : Nat)), ((3 : Nat), AV.pv (PV.int IntKind.i64 (IntKind.wrap IntKind.i64 (t3 + (1 : Int)))))] [((2 : Nat), Obj.box [AV.pv (PV.bool o2), AV.pv (PV.sl o2b)])]))) ∧ (decide (t3 < (↑(List.length o2b) : Int)) = false → ∃ (h : H), Q ([TV.pv (PV.int IntKind.i64 (0 : Int))], []))) := by kernel_rfl

def strO (l : List (List PV)) : Prop := ∃ q : List (List UInt8), l = q.map strRow ∧ q.length ≤ 4000000
def g_ixf : List TV → Option Alts
  | [.pv (.sl l), .pv (.fn f [])] => one (f = 101 ∧ strO l) ([.pv (.int .i64 (ixL (unstr l) 0))], [])
  | _ => none

def S_ctf : Specs := specL [(116, g_ixf)]

theorem ctf_w (l : List (List PV)) (Q : List TV × List TV → Prop) : (wFun C S_ctf 100 [.pv (.sl l), .pv (.fn 101 [])] Q) (H.auto) = (((101 : FuncId) = (101 : FuncId) ∧ ∃ (q : List (List UInt8)), l = List.map strRow q ∧ List.length q ≤ (4000000 : Nat)) ∧ Q ([TV.pv (PV.bool (decide (ixL (unstr l) (0 : Int) ≥ (0 : Int))))], [])) := by kernel_rfl

def g_ctf : List TV → Option Alts
  | [.pv (.sl l), .pv (.fn f [])] => one (f = 101 ∧ strO l) ([.pv (.bool (longF l))], [])
  | _ => none

def S_set : Specs := specL [(100, g_ctf)]

theorem set_w (b : Bool) (l : List (List PV)) (Q : List TV × List TV → Prop) : (wFun C S_set 82 [.pv (.agg [.bool b, .sl l])] Q) (H.b H.auto (H.b H.auto H.auto)) = ((decide ((↑(List.length l) : Int) > (20 : Int)) = true → Q ([TV.pv (PV.int IntKind.i64 (4 : Int))], [])) ∧ (decide ((↑(List.length l) : Int) > (20 : Int)) = false → ((101 : Nat) = (101 : FuncId) ∧ ∃ (q : List (List UInt8)), l = List.map strRow q ∧ List.length q ≤ (4000000 : Nat)) ∧ (longF l = true → Q ([TV.pv (PV.int IntKind.i64 (5 : Int))], [])) ∧ (longF l = false → Q ([TV.pv (PV.int IntKind.i64 (0 : Int))], [])))) := by kernel_rfl

def g_wide : List TV → Option Alts
  | [.pv (.agg [.bool b, .sl l])] => one (strO l) ([.pv (.int .i64 (wideF l))], [])
  | _ => none

def S_sets : Specs := specL [(82, g_wide)]

theorem sts_w (o : Int) (a b : List UInt8) (n : Bool) (nl : List (List PV)) (m : Bool) (ml t u k : List (List PV)) (Q : List TV × List TV → Prop) : (wFun C S_sets 53 [.pv (.agg [.int .i64 o, .str a, .str b, .bool n, .sl nl, .bool m, .sl ml, .sl t, .sl u, .sl k])] Q) (H.b (H.n (4 : Nat) (H.b (H.n (3 : Nat) (H.b H.auto H.auto)) H.auto)) (H.n (3 : Nat) (H.b (H.b (H.n (3 : Nat) (H.b H.auto H.auto)) H.auto) (H.n (4 : Nat) (H.b H.auto H.auto))))) = (((o == (6 : Int)) = true → (∃ (q : List (List UInt8)), nl = List.map strRow q ∧ List.length q ≤ (4000000 : Nat)) ∧ ((wideF nl == (0 : Int)) = true → ((o == (7 : Int)) = true → (∃ (q : List (List UInt8)), ml = List.map strRow q ∧ List.length q ≤ (4000000 : Nat)) ∧ Q ([TV.pv (PV.int IntKind.i64 (wideF ml))], [])) ∧ ((o == (7 : Int)) = false → Q ([TV.pv (PV.int IntKind.i64 (wideF nl))], []))) ∧ ((wideF nl == (0 : Int)) = false → Q ([TV.pv (PV.int IntKind.i64 (wideF nl))], []))) ∧ ((o == (6 : Int)) = false → ((o == (7 : Int)) = true → (∃ (q : List (List UInt8)), nl = List.map strRow q ∧ List.length q ≤ (4000000 : Nat)) ∧ ((wideF nl == (0 : Int)) = true → ((o == (7 : Int)) = true → (∃ (q : List (List UInt8)), ml = List.map strRow q ∧ List.length q ≤ (4000000 : Nat)) ∧ Q ([TV.pv (PV.int IntKind.i64 (wideF ml))], [])) ∧ ((o == (7 : Int)) = false → Q ([TV.pv (PV.int IntKind.i64 (wideF nl))], []))) ∧ ((wideF nl == (0 : Int)) = false → Q ([TV.pv (PV.int IntKind.i64 (wideF nl))], []))) ∧ ((o == (7 : Int)) = false → ((o == (7 : Int)) = true → (∃ (q : List (List UInt8)), ml = List.map strRow q ∧ List.length q ≤ (4000000 : Nat)) ∧ Q ([TV.pv (PV.int IntKind.i64 (wideF ml))], [])) ∧ ((o == (7 : Int)) = false → Q ([TV.pv (PV.int IntKind.i64 (0 : Int))], []))))) := by kernel_rfl

noncomputable def S_tre : Specs := specL [(58, g_check)]

theorem tre_w (o : Int) (a b : List UInt8) (n : Bool) (nl : List (List PV)) (m : Bool) (ml t u k : List (List PV)) (Q : List TV × List TV → Prop) : (wFun C S_tre 54 [.pv (.agg [.int .i64 o, .str a, .str b, .bool n, .sl nl, .bool m, .sl ml, .sl t, .sl u, .sl k])] Q) (H.b H.auto (H.b H.auto H.auto)) = (((o != (2 : Int)) = true → Q ([TV.pv (PV.int IntKind.i64 (0 : Int))], [])) ∧ ((o != (2 : Int)) = false → (∃ (t_1 : Tr), t = Tr.rows t_1 ∧ Tr.nodes t_1 < (4000000 : Nat)) ∧ ((chkE t (1 : Int) (0 : Int) != (0 : Int)) = true → Q ([TV.pv (PV.int IntKind.i64 (chkE t (1 : Int) (0 : Int)))], [])) ∧ ((chkE t (1 : Int) (0 : Int) != (0 : Int)) = false → (∃ (t : Tr), u = Tr.rows t ∧ Tr.nodes t < (4000000 : Nat)) ∧ Q ([TV.pv (PV.int IntKind.i64 (chkE u (1 : Int) (0 : Int)))], [])))) := by kernel_rfl

noncomputable def S_rsts : Specs := specL [(83, g_wide), (75, g_check)]

theorem rsts_w (o : Int) (a b : List UInt8) (n : Bool) (nl : List (List PV)) (m : Bool) (ml t u k : List (List PV)) (Q : List TV × List TV → Prop) : (wFun C S_rsts 56 [.pv (.agg [.int .i64 o, .str a, .str b, .bool n, .sl nl, .bool m, .sl ml, .sl t, .sl u, .sl k])] Q) (H.b (H.n (4 : Nat) (H.b (H.n (3 : Nat) (H.b (H.b (H.n (3 : Nat) (H.b (H.b H.auto H.auto) H.auto)) H.auto) (H.b (H.n (3 : Nat) (H.b (H.b H.auto H.auto) H.auto)) H.auto))) (H.n (4 : Nat) (H.b (H.n (3 : Nat) (H.b (H.b H.auto H.auto) H.auto)) H.auto)))) (H.n (3 : Nat) (H.b (H.b (H.n (3 : Nat) (H.b (H.b (H.n (3 : Nat) (H.b (H.b H.auto H.auto) H.auto)) H.auto) (H.b (H.n (3 : Nat) (H.b (H.b H.auto H.auto) H.auto)) H.auto))) (H.n (4 : Nat) (H.b (H.n (3 : Nat) (H.b (H.b H.auto H.auto) H.auto)) H.auto))) (H.n (4 : Nat) (H.b (H.b (H.n (3 : Nat) (H.b (H.b H.auto H.auto) H.auto)) H.auto) (H.n (4 : Nat) (H.b (H.b H.auto H.auto) H.auto))))))) = (((o == (6 : Int)) = true → (∃ (q : List (List UInt8)), nl = List.map strRow q ∧ List.length q ≤ (4000000 : Nat)) ∧ ((wideF nl == (0 : Int)) = true → ((o == (7 : Int)) = true → (∃ (q : List (List UInt8)), ml = List.map strRow q ∧ List.length q ≤ (4000000 : Nat)) ∧ ((wideF ml == (0 : Int)) = true → ((o == (2 : Int)) = true → (∃ (t_1 : Tr), t = Tr.rows t_1 ∧ Tr.nodes t_1 < (4000000 : Nat)) ∧ ((chkE t (1 : Int) (0 : Int) == (0 : Int)) = true → (∃ (t : Tr), u = Tr.rows t ∧ Tr.nodes t < (4000000 : Nat)) ∧ Q ([TV.pv (PV.int IntKind.i64 (chkE u (1 : Int) (0 : Int)))], [])) ∧ ((chkE t (1 : Int) (0 : Int) == (0 : Int)) = false → Q ([TV.pv (PV.int IntKind.i64 (chkE t (1 : Int) (0 : Int)))], []))) ∧ ((o == (2 : Int)) = false → Q ([TV.pv (PV.int IntKind.i64 (wideF ml))], []))) ∧ ((wideF ml == (0 : Int)) = false → Q ([TV.pv (PV.int IntKind.i64 (wideF ml))], []))) ∧ ((o == (7 : Int)) = false → ((wideF nl == (0 : Int)) = true → ((o == (2 : Int)) = true → (∃ (t_1 : Tr), t = Tr.rows t_1 ∧ Tr.nodes t_1 < (4000000 : Nat)) ∧ ((chkE t (1 : Int) (0 : Int) == (0 : Int)) = true → (∃ (t : Tr), u = Tr.rows t ∧ Tr.nodes t < (4000000 : Nat)) ∧ Q ([TV.pv (PV.int IntKind.i64 (chkE u (1 : Int) (0 : Int)))], [])) ∧ ((chkE t (1 : Int) (0 : Int) == (0 : Int)) = false → Q ([TV.pv (PV.int IntKind.i64 (chkE t (1 : Int) (0 : Int)))], []))) ∧ ((o == (2 : Int)) = false → Q ([TV.pv (PV.int IntKind.i64 (wideF nl))], []))) ∧ ((wideF nl == (0 : Int)) = false → Q ([TV.pv (PV.int IntKind.i64 (wideF nl))], [])))) ∧ ((wideF nl == (0 : Int)) = false → ((wideF nl == (0 : Int)) = true → ((o == (2 : Int)) = true → (∃ (t_1 : Tr), t = Tr.rows t_1 ∧ Tr.nodes t_1 < (4000000 : Nat)) ∧ ((chkE t (1 : Int) (0 : Int) == (0 : Int)) = true → (∃ (t : Tr), u = Tr.rows t ∧ Tr.nodes t < (4000000 : Nat)) ∧ Q ([TV.pv (PV.int IntKind.i64 (chkE u (1 : Int) (0 : Int)))], [])) ∧ ((chkE t (1 : Int) (0 : Int) == (0 : Int)) = false → Q ([TV.pv (PV.int IntKind.i64 (chkE t (1 : Int) (0 : Int)))], []))) ∧ ((o == (2 : Int)) = false → Q ([TV.pv (PV.int IntKind.i64 (wideF nl))], []))) ∧ ((wideF nl == (0 : Int)) = false → Q ([TV.pv (PV.int IntKind.i64 (wideF nl))], [])))) ∧ ((o == (6 : Int)) = false → ((o == (7 : Int)) = true → (∃ (q : List (List UInt8)), nl = List.map strRow q ∧ List.length q ≤ (4000000 : Nat)) ∧ ((wideF nl == (0 : Int)) = true → ((o == (7 : Int)) = true → (∃ (q : List (List UInt8)), ml = List.map strRow q ∧ List.length q ≤ (4000000 : Nat)) ∧ ((wideF ml == (0 : Int)) = true → ((o == (2 : Int)) = true → (∃ (t_1 : Tr), t = Tr.rows t_1 ∧ Tr.nodes t_1 < (4000000 : Nat)) ∧ ((chkE t (1 : Int) (0 : Int) == (0 : Int)) = true → (∃ (t : Tr), u = Tr.rows t ∧ Tr.nodes t < (4000000 : Nat)) ∧ Q ([TV.pv (PV.int IntKind.i64 (chkE u (1 : Int) (0 : Int)))], [])) ∧ ((chkE t (1 : Int) (0 : Int) == (0 : Int)) = false → Q ([TV.pv (PV.int IntKind.i64 (chkE t (1 : Int) (0 : Int)))], []))) ∧ ((o == (2 : Int)) = false → Q ([TV.pv (PV.int IntKind.i64 (wideF ml))], []))) ∧ ((wideF ml == (0 : Int)) = false → Q ([TV.pv (PV.int IntKind.i64 (wideF ml))], []))) ∧ ((o == (7 : Int)) = false → ((wideF nl == (0 : Int)) = true → ((o == (2 : Int)) = true → (∃ (t_1 : Tr), t = Tr.rows t_1 ∧ Tr.nodes t_1 < (4000000 : Nat)) ∧ ((chkE t (1 : Int) (0 : Int) == (0 : Int)) = true → (∃ (t : Tr), u = Tr.rows t ∧ Tr.nodes t < (4000000 : Nat)) ∧ Q ([TV.pv (PV.int IntKind.i64 (chkE u (1 : Int) (0 : Int)))], [])) ∧ ((chkE t (1 : Int) (0 : Int) == (0 : Int)) = false → Q ([TV.pv (PV.int IntKind.i64 (chkE t (1 : Int) (0 : Int)))], []))) ∧ ((o == (2 : Int)) = false → Q ([TV.pv (PV.int IntKind.i64 (wideF nl))], []))) ∧ ((wideF nl == (0 : Int)) = false → Q ([TV.pv (PV.int IntKind.i64 (wideF nl))], [])))) ∧ ((wideF nl == (0 : Int)) = false → ((wideF nl == (0 : Int)) = true → ((o == (2 : Int)) = true → (∃ (t_1 : Tr), t = Tr.rows t_1 ∧ Tr.nodes t_1 < (4000000 : Nat)) ∧ ((chkE t (1 : Int) (0 : Int) == (0 : Int)) = true → (∃ (t : Tr), u = Tr.rows t ∧ Tr.nodes t < (4000000 : Nat)) ∧ Q ([TV.pv (PV.int IntKind.i64 (chkE u (1 : Int) (0 : Int)))], [])) ∧ ((chkE t (1 : Int) (0 : Int) == (0 : Int)) = false → Q ([TV.pv (PV.int IntKind.i64 (chkE t (1 : Int) (0 : Int)))], []))) ∧ ((o == (2 : Int)) = false → Q ([TV.pv (PV.int IntKind.i64 (wideF nl))], []))) ∧ ((wideF nl == (0 : Int)) = false → Q ([TV.pv (PV.int IntKind.i64 (wideF nl))], [])))) ∧ ((o == (7 : Int)) = false → ((o == (7 : Int)) = true → (∃ (q : List (List UInt8)), ml = List.map strRow q ∧ List.length q ≤ (4000000 : Nat)) ∧ ((wideF ml == (0 : Int)) = true → ((o == (2 : Int)) = true → (∃ (t_1 : Tr), t = Tr.rows t_1 ∧ Tr.nodes t_1 < (4000000 : Nat)) ∧ ((chkE t (1 : Int) (0 : Int) == (0 : Int)) = true → (∃ (t : Tr), u = Tr.rows t ∧ Tr.nodes t < (4000000 : Nat)) ∧ Q ([TV.pv (PV.int IntKind.i64 (chkE u (1 : Int) (0 : Int)))], [])) ∧ ((chkE t (1 : Int) (0 : Int) == (0 : Int)) = false → Q ([TV.pv (PV.int IntKind.i64 (chkE t (1 : Int) (0 : Int)))], []))) ∧ ((o == (2 : Int)) = false → Q ([TV.pv (PV.int IntKind.i64 (wideF ml))], []))) ∧ ((wideF ml == (0 : Int)) = false → Q ([TV.pv (PV.int IntKind.i64 (wideF ml))], []))) ∧ ((o == (7 : Int)) = false → ((o == (2 : Int)) = true → (∃ (t_1 : Tr), t = Tr.rows t_1 ∧ Tr.nodes t_1 < (4000000 : Nat)) ∧ ((chkE t (1 : Int) (0 : Int) == (0 : Int)) = true → (∃ (t : Tr), u = Tr.rows t ∧ Tr.nodes t < (4000000 : Nat)) ∧ Q ([TV.pv (PV.int IntKind.i64 (chkE u (1 : Int) (0 : Int)))], [])) ∧ ((chkE t (1 : Int) (0 : Int) == (0 : Int)) = false → Q ([TV.pv (PV.int IntKind.i64 (chkE t (1 : Int) (0 : Int)))], []))) ∧ ((o == (2 : Int)) = false → Q ([TV.pv (PV.int IntKind.i64 (0 : Int))], [])))))) := by kernel_rfl

theorem kds_w (o : Int) (Q : List TV × List TV → Prop) : (wFun C noSpec 52 [.pv (.int .i64 o)] Q) (H.b H.auto (H.b H.auto (H.b H.auto H.auto))) = (((o == (8 : Int)) = true → Q ([TV.pv (PV.agg [PV.int IntKind.i64 (1 : Int), PV.int IntKind.i64 (1 : Int)])], [])) ∧ ((o == (8 : Int)) = false → ((o == (7 : Int)) = true → Q ([TV.pv (PV.agg [PV.int IntKind.i64 (2 : Int), PV.int IntKind.i64 (2 : Int)])], [])) ∧ ((o == (7 : Int)) = false → ((o == (9 : Int)) = true → Q ([TV.pv (PV.agg [PV.int IntKind.i64 (1 : Int), PV.int IntKind.i64 (8 : Int)])], [])) ∧ ((o == (9 : Int)) = false → Q ([TV.pv (PV.agg [PV.int IntKind.i64 (0 : Int), PV.int IntKind.i64 (0 : Int)])], []))))) := by kernel_rfl

theorem rkds_w (o n : Int) (Q : List TV × List TV → Prop) : (wFun C noSpec 55 [.pv (.int .i64 o), .pv (.int .i64 n)] Q) (H.b H.auto (H.b H.auto (H.b (H.b H.auto H.auto) H.auto))) = (((o == (8 : Int)) = true → Q ([TV.pv (PV.bool (n == (1 : Int)))], [])) ∧ ((o == (8 : Int)) = false → ((o == (7 : Int)) = true → Q ([TV.pv (PV.bool (n == (2 : Int)))], [])) ∧ ((o == (7 : Int)) = false → ((o == (9 : Int)) = true → (decide (n ≥ (1 : Int)) = true → Q ([TV.pv (PV.bool (decide (n ≤ (8 : Int))))], [])) ∧ (decide (n ≥ (1 : Int)) = false → Q ([TV.pv (PV.bool false)], []))) ∧ ((o == (9 : Int)) = false → Q ([TV.pv (PV.bool (n == (0 : Int)))], []))))) := by kernel_rfl

theorem shas_w (a b n : Int) (Q : List TV × List TV → Prop) : (wFun C noSpec 51 [.pv (.agg [.int .i64 a, .int .i64 b]), .pv (.int .i64 n)] Q) (H.b H.auto H.auto) = ((decide (n ≥ a) = true → Q ([TV.pv (PV.bool (decide (n ≤ b)))], [])) ∧ (decide (n ≥ a) = false → Q ([TV.pv (PV.bool false)], []))) := by kernel_rfl

def treO (t : List (List PV)) : Prop := ∃ x : Tr, t = x.rows ∧ x.nodes < 4000000
noncomputable def g_sts : List TV → Option Alts
  | [.pv (.agg [.int .i64 o, .str a, .str b, .bool n, .sl nl, .bool m, .sl ml, .sl t, .sl u, .sl k])] => one (strO nl ∧ strO ml) ([.pv (.int .i64 (setF o nl ml))], [])
  | _ => none
noncomputable def g_tre : List TV → Option Alts
  | [.pv (.agg [.int .i64 o, .str a, .str b, .bool n, .sl nl, .bool m, .sl ml, .sl t, .sl u, .sl k])] => one (treO t ∧ treO u) ([.pv (.int .i64 (treF o t u))], [])
  | _ => none
noncomputable def g_rsts : List TV → Option Alts
  | [.pv (.agg [.int .i64 o, .str a, .str b, .bool n, .sl nl, .bool m, .sl ml, .sl t, .sl u, .sl k])] => one ((strO nl ∧ strO ml) ∧ treO t ∧ treO u) ([.pv (.int .i64 (if setF o nl ml = 0 then treF o t u else setF o nl ml))], [])
  | _ => none
def g_kds : List TV → Option Alts
  | [.pv (.int .i64 o)] => one True ([.pv (.agg [.int .i64 (kidLo o), .int .i64 (kidHi o)])], [])
  | _ => none
def g_rkds : List TV → Option Alts
  | [.pv (.int .i64 o), .pv (.int .i64 n)] => one True ([.pv (.bool (kidB o n))], [])
  | _ => none
def g_shas : List TV → Option Alts
  | [.pv (.agg [.int .i64 a, .int .i64 b]), .pv (.int .i64 n)] => one True ([.pv (.bool (decide (a ≤ n ∧ n ≤ b)))], [])
  | _ => none
noncomputable def g_may (N : Nat) : List TV → Option Alts
  | [.pv (.agg [.int .i64 o, .str a, .str b, .bool n, .sl nl, .bool m, .sl ml, .sl t, .sl u, .sl k]), .ptr [.pv (.int .i64 c)], .pv (.int .i64 d)] => one (lensO N [.int .i64 o, .str a, .str b, .bool n, .sl nl, .bool m, .sl ml, .sl t, .sl u, .sl k] ∧ (0 ≤ c ∧ c ≤ 40) ∧ 0 ≤ d ∧ d ≤ 13) ([.pv (.int .i64 (mayE [.int .i64 o, .str a, .str b, .bool n, .sl nl, .bool m, .sl ml, .sl t, .sl u, .sl k] c d))], [.ptr [.pv (.int .i64 (mayN [.int .i64 o, .str a, .str b, .bool n, .sl nl, .bool m, .sl ml, .sl t, .sl u, .sl k] c d))]])
  | _ => none

noncomputable def S_may (N : Nat) : Specs := specL [(53, g_sts), (54, g_tre), (52, g_kds), (51, g_shas), (33, g_may N)]

theorem may_w (N : Nat) (o : Int) (a b : List UInt8) (n : Bool) (nl : List (List PV)) (m : Bool) (ml t u k : List (List PV)) (c d : Int) (Q : List TV × List TV → Prop) : (wFun C (S_may N) 33 [.pv (.agg [.int .i64 o, .str a, .str b, .bool n, .sl nl, .bool m, .sl ml, .sl t, .sl u, .sl k]), .ptr [.pv (.int .i64 c)], .pv (.int .i64 d)] Q) (H.b H.auto (H.b H.auto (H.b H.auto (H.b H.auto (H.b H.auto (H.n (4 : Nat) (H.b H.auto (H.b (H.n (5 : Nat) (H.b H.auto (H.b H.auto (H.b H.auto H.auto)))) (H.n (6 : Nat) (H.b H.auto (H.b H.auto H.auto))))))))))) = ((decide (IntKind.wrap IntKind.i64 (c + (1 : Int)) > (40 : Int)) = true → Q ([TV.pv (PV.int IntKind.i64 (4 : Int))], [TV.ptr [TV.pv (PV.int IntKind.i64 (IntKind.wrap IntKind.i64 (c + (1 : Int))))]])) ∧ (decide (IntKind.wrap IntKind.i64 (c + (1 : Int)) > (40 : Int)) = false → (decide (d > (12 : Int)) = true → Q ([TV.pv (PV.int IntKind.i64 (11 : Int))], [TV.ptr [TV.pv (PV.int IntKind.i64 (IntKind.wrap IntKind.i64 (c + (1 : Int))))]])) ∧ (decide (d > (12 : Int)) = false → True ∧ ((!decide ((1 : Int) ≤ o ∧ o ≤ (9 : Int))) = true → Q ([TV.pv (PV.int IntKind.i64 (3 : Int))], [TV.ptr [TV.pv (PV.int IntKind.i64 (IntKind.wrap IntKind.i64 (c + (1 : Int))))]])) ∧ ((!decide ((1 : Int) ≤ o ∧ o ≤ (9 : Int))) = false → True ∧ True ∧ ((!decide (kidLo o ≤ (↑(List.length k) : Int) ∧ (↑(List.length k) : Int) ≤ kidHi o)) = true → Q ([TV.pv (PV.int IntKind.i64 (1 : Int))], [TV.ptr [TV.pv (PV.int IntKind.i64 (IntKind.wrap IntKind.i64 (c + (1 : Int))))]])) ∧ ((!decide (kidLo o ≤ (↑(List.length k) : Int) ∧ (↑(List.length k) : Int) ≤ kidHi o)) = false → (decide ((↑(List.length a) : Int) > (80 : Int)) = true → Q ([TV.pv (PV.int IntKind.i64 (5 : Int))], [TV.ptr [TV.pv (PV.int IntKind.i64 (IntKind.wrap IntKind.i64 (c + (1 : Int))))]])) ∧ (decide ((↑(List.length a) : Int) > (80 : Int)) = false → (decide ((↑(List.length b) : Int) > (80 : Int)) = true → Q ([TV.pv (PV.int IntKind.i64 (5 : Int))], [TV.ptr [TV.pv (PV.int IntKind.i64 (IntKind.wrap IntKind.i64 (c + (1 : Int))))]])) ∧ (decide ((↑(List.length b) : Int) > (80 : Int)) = false → ((o == (3 : Int)) = true → ((a == b) = true → Q ([TV.pv (PV.int IntKind.i64 (1 : Int))], [TV.ptr [TV.pv (PV.int IntKind.i64 (IntKind.wrap IntKind.i64 (c + (1 : Int))))]])) ∧ ((a == b) = false → ((∃ (q : List (List UInt8)), nl = List.map strRow q ∧ List.length q ≤ (4000000 : Nat)) ∧ ∃ (q : List (List UInt8)), ml = List.map strRow q ∧ List.length q ≤ (4000000 : Nat)) ∧ ((setF o nl ml != (0 : Int)) = true → Q ([TV.pv (PV.int IntKind.i64 (setF o nl ml))], [TV.ptr [TV.pv (PV.int IntKind.i64 (IntKind.wrap IntKind.i64 (c + (1 : Int))))]])) ∧ ((setF o nl ml != (0 : Int)) = false → ((∃ (x : Tr), t = Tr.rows x ∧ Tr.nodes x < (4000000 : Nat)) ∧ ∃ (x : Tr), u = Tr.rows x ∧ Tr.nodes x < (4000000 : Nat)) ∧ ((treF o t u != (0 : Int)) = true → Q ([TV.pv (PV.int IntKind.i64 (treF o t u))], [TV.ptr [TV.pv (PV.int IntKind.i64 (IntKind.wrap IntKind.i64 (c + (1 : Int))))]])) ∧ ((treF o t u != (0 : Int)) = false → LoopAt C (33 : FuncId) (CP.dn (CP.dn (CP.dn (CP.dn (CP.dn (CP.dn (CP.dn (CP.dn (CP.dn CP.top (1 : Nat)) (1 : Nat)) (1 : Nat)) (1 : Nat)) (1 : Nat)) (1 : Nat)) (0 : Nat)) (1 : Nat)) (0 : Nat)) (St.mk [((1 : Nat), AV.addr (3 : Nat) (0 : Nat) (0 : Nat)), ((2 : Nat), AV.pv (PV.int IntKind.i64 d)), ((76 : Nat), AV.pv (PV.sl k)), ((77 : Nat), AV.pv (PV.int IntKind.i64 (↑(List.length k) : Int))), ((78 : Nat), AV.pv (PV.int IntKind.i64 (0 : Int)))] [((3 : Nat), Obj.box [AV.pv (PV.int IntKind.i64 (IntKind.wrap IntKind.i64 (c + (1 : Int))))])]) (exK (blockK (1 : Nat) (seqK (wAt C (S_may N) (33 : FuncId) (99993 : Nat) (CP.dn (CP.dn (CP.dn (CP.dn (CP.dn (CP.dn (CP.dn CP.top (1 : Nat)) (1 : Nat)) (1 : Nat)) (1 : Nat)) (1 : Nat)) (1 : Nat)) (1 : Nat))) (retK C (33 : FuncId) [TV.pv (PV.agg [PV.int IntKind.i64 o, PV.str a, PV.str b, PV.bool n, PV.sl nl, PV.bool m, PV.sl ml, PV.sl t, PV.sl u, PV.sl k]), TV.ptr [TV.pv (PV.int IntKind.i64 c)], TV.pv (PV.int IntKind.i64 d)] Q)))))))) ∧ ((o == (3 : Int)) = false → ((∃ (q : List (List UInt8)), nl = List.map strRow q ∧ List.length q ≤ (4000000 : Nat)) ∧ ∃ (q : List (List UInt8)), ml = List.map strRow q ∧ List.length q ≤ (4000000 : Nat)) ∧ ((setF o nl ml != (0 : Int)) = true → Q ([TV.pv (PV.int IntKind.i64 (setF o nl ml))], [TV.ptr [TV.pv (PV.int IntKind.i64 (IntKind.wrap IntKind.i64 (c + (1 : Int))))]])) ∧ ((setF o nl ml != (0 : Int)) = false → ((∃ (x : Tr), t = Tr.rows x ∧ Tr.nodes x < (4000000 : Nat)) ∧ ∃ (x : Tr), u = Tr.rows x ∧ Tr.nodes x < (4000000 : Nat)) ∧ ((treF o t u != (0 : Int)) = true → Q ([TV.pv (PV.int IntKind.i64 (treF o t u))], [TV.ptr [TV.pv (PV.int IntKind.i64 (IntKind.wrap IntKind.i64 (c + (1 : Int))))]])) ∧ ((treF o t u != (0 : Int)) = false → LoopAt C (33 : FuncId) (CP.dn (CP.dn (CP.dn (CP.dn (CP.dn (CP.dn (CP.dn (CP.dn (CP.dn CP.top (1 : Nat)) (1 : Nat)) (1 : Nat)) (1 : Nat)) (1 : Nat)) (1 : Nat)) (0 : Nat)) (1 : Nat)) (0 : Nat)) (St.mk [((1 : Nat), AV.addr (3 : Nat) (0 : Nat) (0 : Nat)), ((2 : Nat), AV.pv (PV.int IntKind.i64 d)), ((76 : Nat), AV.pv (PV.sl k)), ((77 : Nat), AV.pv (PV.int IntKind.i64 (↑(List.length k) : Int))), ((78 : Nat), AV.pv (PV.int IntKind.i64 (0 : Int)))] [((3 : Nat), Obj.box [AV.pv (PV.int IntKind.i64 (IntKind.wrap IntKind.i64 (c + (1 : Int))))])]) (exK (blockK (1 : Nat) (seqK (wAt C (S_may N) (33 : FuncId) (99993 : Nat) (CP.dn (CP.dn (CP.dn (CP.dn (CP.dn (CP.dn (CP.dn CP.top (1 : Nat)) (1 : Nat)) (1 : Nat)) (1 : Nat)) (1 : Nat)) (1 : Nat)) (1 : Nat))) (retK C (33 : FuncId) [TV.pv (PV.agg [PV.int IntKind.i64 o, PV.str a, PV.str b, PV.bool n, PV.sl nl, PV.bool m, PV.sl ml, PV.sl t, PV.sl u, PV.sl k]), TV.ptr [TV.pv (PV.int IntKind.i64 c)], TV.pv (PV.int IntKind.i64 d)] Q)))))))))))))) := by kernel_rfl

def may_c0 : CP := (CP.dn (CP.dn (CP.dn (CP.dn (CP.dn (CP.dn (CP.dn (CP.dn (CP.dn CP.top (1 : Nat)) (1 : Nat)) (1 : Nat)) (1 : Nat)) (1 : Nat)) (1 : Nat)) (0 : Nat)) (1 : Nat)) (0 : Nat))

def may_h0 (t2 : Int) (t76 : List (List PV)) (t77 : Int) (t78 : Int) (o3 : Int) : St := (St.mk [((1 : Nat), AV.addr (3 : Nat) (0 : Nat) (0 : Nat)), ((2 : Nat), AV.pv (PV.int IntKind.i64 t2)), ((76 : Nat), AV.pv (PV.sl t76)), ((77 : Nat), AV.pv (PV.int IntKind.i64 t77)), ((78 : Nat), AV.pv (PV.int IntKind.i64 t78))] [((3 : Nat), Obj.box [AV.pv (PV.int IntKind.i64 o3)])])

theorem may_l0 (N : Nat) (o : Int) (a b : List UInt8) (n : Bool) (nl : List (List PV)) (m : Bool) (ml t u k : List (List PV)) (c d : Int) (t2 : Int) (t76 : List (List PV)) (t77 : Int) (t78 : Int) (o3 : Int)  (J0 : St → Prop) (Q : List TV × List TV → Prop) : (wAt C (S_may N) 33 1000 (may_c0.dn 0) (may_h0 t2 t76 t77 t78 o3) (loopK C 33 may_c0 J0 (exK (blockK (1 : Nat) (seqK (wAt C (S_may N) (33 : FuncId) (99993 : Nat) (CP.dn (CP.dn (CP.dn (CP.dn (CP.dn (CP.dn (CP.dn CP.top (1 : Nat)) (1 : Nat)) (1 : Nat)) (1 : Nat)) (1 : Nat)) (1 : Nat)) (1 : Nat))) (retK C (33 : FuncId) [TV.pv (PV.agg [PV.int IntKind.i64 o, PV.str a, PV.str b, PV.bool n, PV.sl nl, PV.bool m, PV.sl ml, PV.sl t, PV.sl u, PV.sl k]), TV.ptr [TV.pv (PV.int IntKind.i64 c)], TV.pv (PV.int IntKind.i64 d)] Q)))))) (H.b (H.s (H.s (H.b H.auto H.auto))) H.auto) = ((decide (t78 < t77) = true → (0 : Int) ≤ t78 ∧ ∃ (n : Int), ∃ (s : List UInt8), ∃ (s_1 : List UInt8), ∃ (b : Bool), ∃ (es : List (List PV)), ∃ (b_1 : Bool), ∃ (es_1 : List (List PV)), ∃ (es_2 : List (List PV)), ∃ (es_3 : List (List PV)), ∃ (es_4 : List (List PV)), t76[Int.toNat t78]? = some [PV.int IntKind.i64 n, PV.str s, PV.str s_1, PV.bool b, PV.sl es, PV.bool b_1, PV.sl es_1, PV.sl es_2, PV.sl es_3, PV.sl es_4] ∧ (lensO N [PV.int IntKind.i64 n, PV.str s, PV.str s_1, PV.bool b, PV.sl es, PV.bool b_1, PV.sl es_1, PV.sl es_2, PV.sl es_3, PV.sl es_4] ∧ ((0 : Int) ≤ o3 ∧ o3 ≤ (40 : Int)) ∧ (0 : Int) ≤ IntKind.wrap IntKind.i64 (t2 + (1 : Int)) ∧ IntKind.wrap IntKind.i64 (t2 + (1 : Int)) ≤ (13 : Int)) ∧ ((mayE [PV.int IntKind.i64 n, PV.str s, PV.str s_1, PV.bool b, PV.sl es, PV.bool b_1, PV.sl es_1, PV.sl es_2, PV.sl es_3, PV.sl es_4] o3 (IntKind.wrap IntKind.i64 (t2 + (1 : Int))) != (0 : Int)) = true → ∃ (h : H), Q ([TV.pv (PV.int IntKind.i64 (mayE [PV.int IntKind.i64 n, PV.str s, PV.str s_1, PV.bool b, PV.sl es, PV.bool b_1, PV.sl es_1, PV.sl es_2, PV.sl es_3, PV.sl es_4] o3 (IntKind.wrap IntKind.i64 (t2 + (1 : Int)))))], [TV.ptr [TV.pv (PV.int IntKind.i64 (mayN [PV.int IntKind.i64 n, PV.str s, PV.str s_1, PV.bool b, PV.sl es, PV.bool b_1, PV.sl es_1, PV.sl es_2, PV.sl es_3, PV.sl es_4] o3 (IntKind.wrap IntKind.i64 (t2 + (1 : Int)))))]])) ∧ ((mayE [PV.int IntKind.i64 n, PV.str s, PV.str s_1, PV.bool b, PV.sl es, PV.bool b_1, PV.sl es_1, PV.sl es_2, PV.sl es_3, PV.sl es_4] o3 (IntKind.wrap IntKind.i64 (t2 + (1 : Int))) != (0 : Int)) = false → J0 (St.mk [((1 : Nat), AV.addr (3 : Nat) (0 : Nat) (0 : Nat)), ((2 : Nat), AV.pv (PV.int IntKind.i64 t2)), ((76 : Nat), AV.pv (PV.sl t76)), ((77 : Nat), AV.pv (PV.int IntKind.i64 t77)), ((78 : Nat), AV.pv (PV.int IntKind.i64 (IntKind.wrap IntKind.i64 (t78 + (1 : Int)))))] [((3 : Nat), Obj.box [AV.pv (PV.int IntKind.i64 (mayN [PV.int IntKind.i64 n, PV.str s, PV.str s_1, PV.bool b, PV.sl es, PV.bool b_1, PV.sl es_1, PV.sl es_2, PV.sl es_3, PV.sl es_4] o3 (IntKind.wrap IntKind.i64 (t2 + (1 : Int)))))])]))) ∧ (decide (t78 < t77) = false → ∃ (h : H), Q ([TV.pv (PV.int IntKind.i64 (0 : Int))], [TV.ptr [TV.pv (PV.int IntKind.i64 o3)]]))) := by kernel_rfl

noncomputable def g_lwk (N : Nat) : List TV → Option Alts
  | [.ptr [.pv (.int .i64 c), .pv (.int .i64 e)], .pv (.agg [.int .i64 o, .str a, .str b, .bool n, .sl nl, .bool m, .sl ml, .sl t, .sl u, .sl k]), .pv (.int .i64 d)] => one (lensO N [.int .i64 o, .str a, .str b, .bool n, .sl nl, .bool m, .sl ml, .sl t, .sl u, .sl k] ∧ (e = 0 ∧ 0 ≤ c ∧ c ≤ 40) ∧ 0 ≤ d ∧ d ≤ 13) ([], [.ptr [.pv (.int .i64 (mayN [.int .i64 o, .str a, .str b, .bool n, .sl nl, .bool m, .sl ml, .sl t, .sl u, .sl k] c d)), .pv (.int .i64 (mayE [.int .i64 o, .str a, .str b, .bool n, .sl nl, .bool m, .sl ml, .sl t, .sl u, .sl k] c d))]])
  | _ => none

noncomputable def S_lwk (N : Nat) : Specs := specL [(56, g_rsts), (55, g_rkds), (35, g_lwk N)]

theorem lwk_w (N : Nat) (o : Int) (a b : List UInt8) (n : Bool) (nl : List (List PV)) (m : Bool) (ml t u k : List (List PV)) (c d : Int) (Q : List TV × List TV → Prop) : (wFun C (S_lwk N) 35 [.ptr [.pv (.int .i64 c), .pv (.int .i64 0)], .pv (.agg [.int .i64 o, .str a, .str b, .bool n, .sl nl, .bool m, .sl ml, .sl t, .sl u, .sl k]), .pv (.int .i64 d)] Q) (H.b H.auto (H.b H.auto (H.b H.auto (H.n (3 : Nat) (H.b H.auto (H.b H.auto (H.b H.auto (H.n (4 : Nat) (H.b H.auto (H.b (H.n (5 : Nat) (H.b H.auto H.auto)) H.auto)))))))))) = ((decide (IntKind.wrap IntKind.i64 (c + (1 : Int)) > (40 : Int)) = true → LoopAt C (35 : FuncId) (CP.dn (CP.dn (CP.dn (CP.dn (CP.dn CP.top (1 : Nat)) (1 : Nat)) (1 : Nat)) (1 : Nat)) (0 : Nat)) (St.mk [((0 : Nat), AV.addr (1 : Nat) (0 : Nat) (0 : Nat)), ((2 : Nat), AV.pv (PV.int IntKind.i64 d)), ((4 : Nat), AV.addr (8 : Nat) (0 : Nat) (0 : Nat)), ((6 : Nat), AV.pv (PV.int IntKind.i64 (0 : Int)))] [((1 : Nat), Obj.box [AV.pv (PV.int IntKind.i64 (IntKind.wrap IntKind.i64 (c + (1 : Int)))), AV.pv (PV.int IntKind.i64 (4 : Int))]), ((8 : Nat), Obj.box [AV.pv (PV.int IntKind.i64 o), AV.pv (PV.str a), AV.pv (PV.str b), AV.pv (PV.bool n), AV.pv (PV.sl nl), AV.pv (PV.bool m), AV.pv (PV.sl ml), AV.pv (PV.sl t), AV.pv (PV.sl u), AV.pv (PV.sl k)])]) (exK (blockK (1 : Nat) (retK C (35 : FuncId) [TV.ptr [TV.pv (PV.int IntKind.i64 c), TV.pv (PV.int IntKind.i64 (0 : Int))], TV.pv (PV.agg [PV.int IntKind.i64 o, PV.str a, PV.str b, PV.bool n, PV.sl nl, PV.bool m, PV.sl ml, PV.sl t, PV.sl u, PV.sl k]), TV.pv (PV.int IntKind.i64 d)] Q)))) ∧ (decide (IntKind.wrap IntKind.i64 (c + (1 : Int)) > (40 : Int)) = false → (decide (d > (12 : Int)) = true → LoopAt C (35 : FuncId) (CP.dn (CP.dn (CP.dn (CP.dn (CP.dn CP.top (1 : Nat)) (1 : Nat)) (1 : Nat)) (1 : Nat)) (0 : Nat)) (St.mk [((0 : Nat), AV.addr (1 : Nat) (0 : Nat) (0 : Nat)), ((2 : Nat), AV.pv (PV.int IntKind.i64 d)), ((4 : Nat), AV.addr (8 : Nat) (0 : Nat) (0 : Nat)), ((6 : Nat), AV.pv (PV.int IntKind.i64 (0 : Int)))] [((1 : Nat), Obj.box [AV.pv (PV.int IntKind.i64 (IntKind.wrap IntKind.i64 (c + (1 : Int)))), AV.pv (PV.int IntKind.i64 (11 : Int))]), ((8 : Nat), Obj.box [AV.pv (PV.int IntKind.i64 o), AV.pv (PV.str a), AV.pv (PV.str b), AV.pv (PV.bool n), AV.pv (PV.sl nl), AV.pv (PV.bool m), AV.pv (PV.sl ml), AV.pv (PV.sl t), AV.pv (PV.sl u), AV.pv (PV.sl k)])]) (exK (blockK (1 : Nat) (retK C (35 : FuncId) [TV.ptr [TV.pv (PV.int IntKind.i64 c), TV.pv (PV.int IntKind.i64 (0 : Int))], TV.pv (PV.agg [PV.int IntKind.i64 o, PV.str a, PV.str b, PV.bool n, PV.sl nl, PV.bool m, PV.sl ml, PV.sl t, PV.sl u, PV.sl k]), TV.pv (PV.int IntKind.i64 d)] Q)))) ∧ (decide (d > (12 : Int)) = false → (decide (o < (1 : Int)) = true → LoopAt C (35 : FuncId) (CP.dn (CP.dn (CP.dn (CP.dn (CP.dn CP.top (1 : Nat)) (1 : Nat)) (1 : Nat)) (1 : Nat)) (0 : Nat)) (St.mk [((0 : Nat), AV.addr (1 : Nat) (0 : Nat) (0 : Nat)), ((2 : Nat), AV.pv (PV.int IntKind.i64 d)), ((4 : Nat), AV.addr (8 : Nat) (0 : Nat) (0 : Nat)), ((6 : Nat), AV.pv (PV.int IntKind.i64 (0 : Int)))] [((1 : Nat), Obj.box [AV.pv (PV.int IntKind.i64 (IntKind.wrap IntKind.i64 (c + (1 : Int)))), AV.pv (PV.int IntKind.i64 (3 : Int))]), ((8 : Nat), Obj.box [AV.pv (PV.int IntKind.i64 o), AV.pv (PV.str a), AV.pv (PV.str b), AV.pv (PV.bool n), AV.pv (PV.sl nl), AV.pv (PV.bool m), AV.pv (PV.sl ml), AV.pv (PV.sl t), AV.pv (PV.sl u), AV.pv (PV.sl k)])]) (exK (blockK (1 : Nat) (retK C (35 : FuncId) [TV.ptr [TV.pv (PV.int IntKind.i64 c), TV.pv (PV.int IntKind.i64 (0 : Int))], TV.pv (PV.agg [PV.int IntKind.i64 o, PV.str a, PV.str b, PV.bool n, PV.sl nl, PV.bool m, PV.sl ml, PV.sl t, PV.sl u, PV.sl k]), TV.pv (PV.int IntKind.i64 d)] Q)))) ∧ (decide (o < (1 : Int)) = false → (decide (o > (9 : Int)) = true → LoopAt C (35 : FuncId) (CP.dn (CP.dn (CP.dn (CP.dn (CP.dn CP.top (1 : Nat)) (1 : Nat)) (1 : Nat)) (1 : Nat)) (0 : Nat)) (St.mk [((0 : Nat), AV.addr (1 : Nat) (0 : Nat) (0 : Nat)), ((2 : Nat), AV.pv (PV.int IntKind.i64 d)), ((4 : Nat), AV.addr (8 : Nat) (0 : Nat) (0 : Nat)), ((6 : Nat), AV.pv (PV.int IntKind.i64 (0 : Int)))] [((1 : Nat), Obj.box [AV.pv (PV.int IntKind.i64 (IntKind.wrap IntKind.i64 (c + (1 : Int)))), AV.pv (PV.int IntKind.i64 (3 : Int))]), ((8 : Nat), Obj.box [AV.pv (PV.int IntKind.i64 o), AV.pv (PV.str a), AV.pv (PV.str b), AV.pv (PV.bool n), AV.pv (PV.sl nl), AV.pv (PV.bool m), AV.pv (PV.sl ml), AV.pv (PV.sl t), AV.pv (PV.sl u), AV.pv (PV.sl k)])]) (exK (blockK (1 : Nat) (retK C (35 : FuncId) [TV.ptr [TV.pv (PV.int IntKind.i64 c), TV.pv (PV.int IntKind.i64 (0 : Int))], TV.pv (PV.agg [PV.int IntKind.i64 o, PV.str a, PV.str b, PV.bool n, PV.sl nl, PV.bool m, PV.sl ml, PV.sl t, PV.sl u, PV.sl k]), TV.pv (PV.int IntKind.i64 d)] Q)))) ∧ (decide (o > (9 : Int)) = false → True ∧ ((!kidB o (↑(List.length k) : Int)) = true → LoopAt C (35 : FuncId) (CP.dn (CP.dn (CP.dn (CP.dn (CP.dn CP.top (1 : Nat)) (1 : Nat)) (1 : Nat)) (1 : Nat)) (0 : Nat)) (St.mk [((0 : Nat), AV.addr (1 : Nat) (0 : Nat) (0 : Nat)), ((2 : Nat), AV.pv (PV.int IntKind.i64 d)), ((4 : Nat), AV.addr (8 : Nat) (0 : Nat) (0 : Nat)), ((6 : Nat), AV.pv (PV.int IntKind.i64 (0 : Int)))] [((1 : Nat), Obj.box [AV.pv (PV.int IntKind.i64 (IntKind.wrap IntKind.i64 (c + (1 : Int)))), AV.pv (PV.int IntKind.i64 (1 : Int))]), ((8 : Nat), Obj.box [AV.pv (PV.int IntKind.i64 o), AV.pv (PV.str a), AV.pv (PV.str b), AV.pv (PV.bool n), AV.pv (PV.sl nl), AV.pv (PV.bool m), AV.pv (PV.sl ml), AV.pv (PV.sl t), AV.pv (PV.sl u), AV.pv (PV.sl k)])]) (exK (blockK (1 : Nat) (retK C (35 : FuncId) [TV.ptr [TV.pv (PV.int IntKind.i64 c), TV.pv (PV.int IntKind.i64 (0 : Int))], TV.pv (PV.agg [PV.int IntKind.i64 o, PV.str a, PV.str b, PV.bool n, PV.sl nl, PV.bool m, PV.sl ml, PV.sl t, PV.sl u, PV.sl k]), TV.pv (PV.int IntKind.i64 d)] Q)))) ∧ ((!kidB o (↑(List.length k) : Int)) = false → (decide ((↑(List.length a) : Int) > (80 : Int)) = true → LoopAt C (35 : FuncId) (CP.dn (CP.dn (CP.dn (CP.dn (CP.dn CP.top (1 : Nat)) (1 : Nat)) (1 : Nat)) (1 : Nat)) (0 : Nat)) (St.mk [((0 : Nat), AV.addr (1 : Nat) (0 : Nat) (0 : Nat)), ((2 : Nat), AV.pv (PV.int IntKind.i64 d)), ((4 : Nat), AV.addr (8 : Nat) (0 : Nat) (0 : Nat)), ((6 : Nat), AV.pv (PV.int IntKind.i64 (0 : Int)))] [((1 : Nat), Obj.box [AV.pv (PV.int IntKind.i64 (IntKind.wrap IntKind.i64 (c + (1 : Int)))), AV.pv (PV.int IntKind.i64 (5 : Int))]), ((8 : Nat), Obj.box [AV.pv (PV.int IntKind.i64 o), AV.pv (PV.str a), AV.pv (PV.str b), AV.pv (PV.bool n), AV.pv (PV.sl nl), AV.pv (PV.bool m), AV.pv (PV.sl ml), AV.pv (PV.sl t), AV.pv (PV.sl u), AV.pv (PV.sl k)])]) (exK (blockK (1 : Nat) (retK C (35 : FuncId) [TV.ptr [TV.pv (PV.int IntKind.i64 c), TV.pv (PV.int IntKind.i64 (0 : Int))], TV.pv (PV.agg [PV.int IntKind.i64 o, PV.str a, PV.str b, PV.bool n, PV.sl nl, PV.bool m, PV.sl ml, PV.sl t, PV.sl u, PV.sl k]), TV.pv (PV.int IntKind.i64 d)] Q)))) ∧ (decide ((↑(List.length a) : Int) > (80 : Int)) = false → (decide ((↑(List.length b) : Int) > (80 : Int)) = true → LoopAt C (35 : FuncId) (CP.dn (CP.dn (CP.dn (CP.dn (CP.dn CP.top (1 : Nat)) (1 : Nat)) (1 : Nat)) (1 : Nat)) (0 : Nat)) (St.mk [((0 : Nat), AV.addr (1 : Nat) (0 : Nat) (0 : Nat)), ((2 : Nat), AV.pv (PV.int IntKind.i64 d)), ((4 : Nat), AV.addr (8 : Nat) (0 : Nat) (0 : Nat)), ((6 : Nat), AV.pv (PV.int IntKind.i64 (0 : Int)))] [((1 : Nat), Obj.box [AV.pv (PV.int IntKind.i64 (IntKind.wrap IntKind.i64 (c + (1 : Int)))), AV.pv (PV.int IntKind.i64 (5 : Int))]), ((8 : Nat), Obj.box [AV.pv (PV.int IntKind.i64 o), AV.pv (PV.str a), AV.pv (PV.str b), AV.pv (PV.bool n), AV.pv (PV.sl nl), AV.pv (PV.bool m), AV.pv (PV.sl ml), AV.pv (PV.sl t), AV.pv (PV.sl u), AV.pv (PV.sl k)])]) (exK (blockK (1 : Nat) (retK C (35 : FuncId) [TV.ptr [TV.pv (PV.int IntKind.i64 c), TV.pv (PV.int IntKind.i64 (0 : Int))], TV.pv (PV.agg [PV.int IntKind.i64 o, PV.str a, PV.str b, PV.bool n, PV.sl nl, PV.bool m, PV.sl ml, PV.sl t, PV.sl u, PV.sl k]), TV.pv (PV.int IntKind.i64 d)] Q)))) ∧ (decide ((↑(List.length b) : Int) > (80 : Int)) = false → ((o == (3 : Int)) = true → ((a == b) = true → LoopAt C (35 : FuncId) (CP.dn (CP.dn (CP.dn (CP.dn (CP.dn CP.top (1 : Nat)) (1 : Nat)) (1 : Nat)) (1 : Nat)) (0 : Nat)) (St.mk [((0 : Nat), AV.addr (1 : Nat) (0 : Nat) (0 : Nat)), ((2 : Nat), AV.pv (PV.int IntKind.i64 d)), ((4 : Nat), AV.addr (8 : Nat) (0 : Nat) (0 : Nat)), ((6 : Nat), AV.pv (PV.int IntKind.i64 (0 : Int)))] [((1 : Nat), Obj.box [AV.pv (PV.int IntKind.i64 (IntKind.wrap IntKind.i64 (c + (1 : Int)))), AV.pv (PV.int IntKind.i64 (1 : Int))]), ((8 : Nat), Obj.box [AV.pv (PV.int IntKind.i64 o), AV.pv (PV.str a), AV.pv (PV.str b), AV.pv (PV.bool n), AV.pv (PV.sl nl), AV.pv (PV.bool m), AV.pv (PV.sl ml), AV.pv (PV.sl t), AV.pv (PV.sl u), AV.pv (PV.sl k)])]) (exK (blockK (1 : Nat) (retK C (35 : FuncId) [TV.ptr [TV.pv (PV.int IntKind.i64 c), TV.pv (PV.int IntKind.i64 (0 : Int))], TV.pv (PV.agg [PV.int IntKind.i64 o, PV.str a, PV.str b, PV.bool n, PV.sl nl, PV.bool m, PV.sl ml, PV.sl t, PV.sl u, PV.sl k]), TV.pv (PV.int IntKind.i64 d)] Q)))) ∧ ((a == b) = false → (((∃ (q : List (List UInt8)), nl = List.map strRow q ∧ List.length q ≤ (4000000 : Nat)) ∧ ∃ (q : List (List UInt8)), ml = List.map strRow q ∧ List.length q ≤ (4000000 : Nat)) ∧ (∃ (x : Tr), t = Tr.rows x ∧ Tr.nodes x < (4000000 : Nat)) ∧ ∃ (x : Tr), u = Tr.rows x ∧ Tr.nodes x < (4000000 : Nat)) ∧ LoopAt C (35 : FuncId) (CP.dn (CP.dn (CP.dn (CP.dn (CP.dn CP.top (1 : Nat)) (1 : Nat)) (1 : Nat)) (1 : Nat)) (0 : Nat)) (St.mk [((0 : Nat), AV.addr (1 : Nat) (0 : Nat) (0 : Nat)), ((2 : Nat), AV.pv (PV.int IntKind.i64 d)), ((4 : Nat), AV.addr (8 : Nat) (0 : Nat) (0 : Nat)), ((6 : Nat), AV.pv (PV.int IntKind.i64 (0 : Int)))] [((1 : Nat), Obj.box [AV.pv (PV.int IntKind.i64 (IntKind.wrap IntKind.i64 (c + (1 : Int)))), AV.pv (PV.int IntKind.i64 (if setF o nl ml = (0 : Int) then treF o t u else setF o nl ml))]), ((8 : Nat), Obj.box [AV.pv (PV.int IntKind.i64 o), AV.pv (PV.str a), AV.pv (PV.str b), AV.pv (PV.bool n), AV.pv (PV.sl nl), AV.pv (PV.bool m), AV.pv (PV.sl ml), AV.pv (PV.sl t), AV.pv (PV.sl u), AV.pv (PV.sl k)])]) (exK (blockK (1 : Nat) (retK C (35 : FuncId) [TV.ptr [TV.pv (PV.int IntKind.i64 c), TV.pv (PV.int IntKind.i64 (0 : Int))], TV.pv (PV.agg [PV.int IntKind.i64 o, PV.str a, PV.str b, PV.bool n, PV.sl nl, PV.bool m, PV.sl ml, PV.sl t, PV.sl u, PV.sl k]), TV.pv (PV.int IntKind.i64 d)] Q))))) ∧ ((o == (3 : Int)) = false → (((∃ (q : List (List UInt8)), nl = List.map strRow q ∧ List.length q ≤ (4000000 : Nat)) ∧ ∃ (q : List (List UInt8)), ml = List.map strRow q ∧ List.length q ≤ (4000000 : Nat)) ∧ (∃ (x : Tr), t = Tr.rows x ∧ Tr.nodes x < (4000000 : Nat)) ∧ ∃ (x : Tr), u = Tr.rows x ∧ Tr.nodes x < (4000000 : Nat)) ∧ LoopAt C (35 : FuncId) (CP.dn (CP.dn (CP.dn (CP.dn (CP.dn CP.top (1 : Nat)) (1 : Nat)) (1 : Nat)) (1 : Nat)) (0 : Nat)) (St.mk [((0 : Nat), AV.addr (1 : Nat) (0 : Nat) (0 : Nat)), ((2 : Nat), AV.pv (PV.int IntKind.i64 d)), ((4 : Nat), AV.addr (8 : Nat) (0 : Nat) (0 : Nat)), ((6 : Nat), AV.pv (PV.int IntKind.i64 (0 : Int)))] [((1 : Nat), Obj.box [AV.pv (PV.int IntKind.i64 (IntKind.wrap IntKind.i64 (c + (1 : Int)))), AV.pv (PV.int IntKind.i64 (if setF o nl ml = (0 : Int) then treF o t u else setF o nl ml))]), ((8 : Nat), Obj.box [AV.pv (PV.int IntKind.i64 o), AV.pv (PV.str a), AV.pv (PV.str b), AV.pv (PV.bool n), AV.pv (PV.sl nl), AV.pv (PV.bool m), AV.pv (PV.sl ml), AV.pv (PV.sl t), AV.pv (PV.sl u), AV.pv (PV.sl k)])]) (exK (blockK (1 : Nat) (retK C (35 : FuncId) [TV.ptr [TV.pv (PV.int IntKind.i64 c), TV.pv (PV.int IntKind.i64 (0 : Int))], TV.pv (PV.agg [PV.int IntKind.i64 o, PV.str a, PV.str b, PV.bool n, PV.sl nl, PV.bool m, PV.sl ml, PV.sl t, PV.sl u, PV.sl k]), TV.pv (PV.int IntKind.i64 d)] Q)))))))))))) := by kernel_rfl

def lwk_c0 : CP := (CP.dn (CP.dn (CP.dn (CP.dn (CP.dn CP.top (1 : Nat)) (1 : Nat)) (1 : Nat)) (1 : Nat)) (0 : Nat))

def lwk_h0 (t2 : Int) (t6 : Int) (o1 : Int) (o1b : Int) (o8 : Int) (o8b : List UInt8) (o8c : List UInt8) (o8d : Bool) (o8e : List (List PV)) (o8f : Bool) (o8g : List (List PV)) (o8h : List (List PV)) (o8i : List (List PV)) (o8j : List (List PV)) : St := (St.mk [((0 : Nat), AV.addr (1 : Nat) (0 : Nat) (0 : Nat)), ((2 : Nat), AV.pv (PV.int IntKind.i64 t2)), ((4 : Nat), AV.addr (8 : Nat) (0 : Nat) (0 : Nat)), ((6 : Nat), AV.pv (PV.int IntKind.i64 t6))] [((1 : Nat), Obj.box [AV.pv (PV.int IntKind.i64 o1), AV.pv (PV.int IntKind.i64 o1b)]), ((8 : Nat), Obj.box [AV.pv (PV.int IntKind.i64 o8), AV.pv (PV.str o8b), AV.pv (PV.str o8c), AV.pv (PV.bool o8d), AV.pv (PV.sl o8e), AV.pv (PV.bool o8f), AV.pv (PV.sl o8g), AV.pv (PV.sl o8h), AV.pv (PV.sl o8i), AV.pv (PV.sl o8j)])])

theorem lwk_l0 (N : Nat) (o : Int) (a b : List UInt8) (n : Bool) (nl : List (List PV)) (m : Bool) (ml t u k : List (List PV)) (c d : Int) (t2 : Int) (t6 : Int) (o1 : Int) (o1b : Int) (o8 : Int) (o8b : List UInt8) (o8c : List UInt8) (o8d : Bool) (o8e : List (List PV)) (o8f : Bool) (o8g : List (List PV)) (o8h : List (List PV)) (o8i : List (List PV)) (o8j : List (List PV))  (J0 : St → Prop) (Q : List TV × List TV → Prop) : (wAt C (S_lwk N) 35 1000 (lwk_c0.dn 0) (lwk_h0 t2 t6 o1 o1b o8 o8b o8c o8d o8e o8f o8g o8h o8i o8j) (loopK C 35 lwk_c0 J0 (exK (blockK (1 : Nat) (retK C (35 : FuncId) [TV.ptr [TV.pv (PV.int IntKind.i64 c), TV.pv (PV.int IntKind.i64 (0 : Int))], TV.pv (PV.agg [PV.int IntKind.i64 o, PV.str a, PV.str b, PV.bool n, PV.sl nl, PV.bool m, PV.sl ml, PV.sl t, PV.sl u, PV.sl k]), TV.pv (PV.int IntKind.i64 d)] Q))))) (H.b (H.n (5 : Nat) (H.b (H.s (H.s H.auto)) H.auto)) H.auto) = ((decide (t6 < (↑(List.length o8j) : Int)) = true → ((o1b == (0 : Int)) = true → (0 : Int) ≤ t6 ∧ ∃ (n : Int), ∃ (s : List UInt8), ∃ (s_1 : List UInt8), ∃ (b : Bool), ∃ (es : List (List PV)), ∃ (b_1 : Bool), ∃ (es_1 : List (List PV)), ∃ (es_2 : List (List PV)), ∃ (es_3 : List (List PV)), ∃ (es_4 : List (List PV)), o8j[Int.toNat t6]? = some [PV.int IntKind.i64 n, PV.str s, PV.str s_1, PV.bool b, PV.sl es, PV.bool b_1, PV.sl es_1, PV.sl es_2, PV.sl es_3, PV.sl es_4] ∧ (lensO N [PV.int IntKind.i64 n, PV.str s, PV.str s_1, PV.bool b, PV.sl es, PV.bool b_1, PV.sl es_1, PV.sl es_2, PV.sl es_3, PV.sl es_4] ∧ (o1b = (0 : Int) ∧ (0 : Int) ≤ o1 ∧ o1 ≤ (40 : Int)) ∧ (0 : Int) ≤ IntKind.wrap IntKind.i64 (t2 + (1 : Int)) ∧ IntKind.wrap IntKind.i64 (t2 + (1 : Int)) ≤ (13 : Int)) ∧ J0 (St.mk [((0 : Nat), AV.addr (1 : Nat) (0 : Nat) (0 : Nat)), ((2 : Nat), AV.pv (PV.int IntKind.i64 t2)), ((4 : Nat), AV.addr (8 : Nat) (0 : Nat) (0 : Nat)), ((6 : Nat), AV.pv (PV.int IntKind.i64 (IntKind.wrap IntKind.i64 (t6 + (1 : Int)))))] [((1 : Nat), Obj.box [AV.pv (PV.int IntKind.i64 (mayN [PV.int IntKind.i64 n, PV.str s, PV.str s_1, PV.bool b, PV.sl es, PV.bool b_1, PV.sl es_1, PV.sl es_2, PV.sl es_3, PV.sl es_4] o1 (IntKind.wrap IntKind.i64 (t2 + (1 : Int))))), AV.pv (PV.int IntKind.i64 (mayE [PV.int IntKind.i64 n, PV.str s, PV.str s_1, PV.bool b, PV.sl es, PV.bool b_1, PV.sl es_1, PV.sl es_2, PV.sl es_3, PV.sl es_4] o1 (IntKind.wrap IntKind.i64 (t2 + (1 : Int)))))]), ((8 : Nat), Obj.box [AV.pv (PV.int IntKind.i64 o8), AV.pv (PV.str o8b), AV.pv (PV.str o8c), AV.pv (PV.bool o8d), AV.pv (PV.sl o8e), AV.pv (PV.bool o8f), AV.pv (PV.sl o8g), AV.pv (PV.sl o8h), AV.pv (PV.sl o8i), AV.pv (PV.sl o8j)])])) ∧ ((o1b == (0 : Int)) = false → ∃ (h : H), Q ([], [TV.ptr [TV.pv (PV.int IntKind.i64 o1), TV.pv (PV.int IntKind.i64 o1b)]]))) ∧ (decide (t6 < (↑(List.length o8j) : Int)) = false → ∃ (h : H), Q ([], [TV.ptr [TV.pv (PV.int IntKind.i64 o1), TV.pv (PV.int IntKind.i64 o1b)]]))) := by kernel_rfl

/-! ### Proofs: sets, trees, kids -/
theorem st1_ok : ∀ ag al, g_st1 ag = some al → ∀ a ∈ al, a.1 → Ev C 101 ag a.2 := by
  intro ag al hl x hx hp
  unfold g_st1 at hl
  split at hl
  · have e := one_mem hl hx; subst e
    exact ev_w noSpec_ok (st1_w _ _) rfl
  · exact absurd hl (by simp)
theorem ixf_ok : ∀ ag al, g_ixf ag = some al → ∀ a ∈ al, a.1 → Ev C 116 ag a.2 := by
  intro ag al hl x hx hp
  unfold g_ixf at hl
  split at hl
  · have e := one_mem hl hx; subst e
    obtain ⟨rfl, q, rfl, hq⟩ := hp
    rw [unstr_map]
    have hS : SpecOK C S_ixf := specL_ok (specs_cons st1_ok specs_nil)
    refine ev_w hS (ixf_w _ _) ?_
    refine loop_rule hS (by kernel_rfl) 1000 (fun m st => ∃ i : Nat, st = ixf_h0 (q.map strRow) q.length i ∧ i ≤ q.length ∧ ixL q 0 = ixL (q.drop i) i ∧ m = q.length - i) ?_ (n := q.length) ⟨0, by rw [List.length_map]; rfl, by omega, rfl, by omega⟩
    rintro m st ⟨i, rfl, hi, hx, rfl⟩
    refine ex_w (ixf_l0 _ _ _ _ _ _) ⟨fun g => ?_, fun g => ?_⟩
    · simp only [decide_eq_true_eq] at g
      have hi' : i < q.length := by omega
      rw [List.drop_eq_getElem_cons hi', ixL] at hx
      refine ⟨by omega, q[i], srow_get q hi', trivial, fun h => ⟨.auto, ?_⟩, fun h => ⟨q.length - (i + 1), by omega, i + 1, by rw [w64s (by omega)]; rfl, by omega, ?_, rfl⟩⟩
      · rw [hx, if_pos h]
      · rw [hx, if_neg (by rw [h]; simp)]; rfl
    · simp only [decide_eq_false_iff_not] at g
      have : i = q.length := by omega
      subst this
      rw [List.drop_length] at hx
      exact ⟨.auto, by rw [hx]; rfl⟩
  · exact absurd hl (by simp)
theorem ixL_any : ∀ (q : List (List UInt8)) (i : Int), 0 ≤ i → decide (ixL q i ≥ 0) = q.any fun s => decide (80 < s.length)
  | [], i, _ => by simp [ixL]
  | s :: q, i, h => by
    rw [ixL, List.any_cons]
    by_cases hs : (s.length : Int) > 80
    · rw [if_pos (by simpa using hs), decide_eq_true (by omega : 80 < s.length), Bool.true_or, decide_eq_true h]
    · rw [if_neg (by simpa using hs), decide_eq_false (by omega : ¬ 80 < s.length), Bool.false_or]
      exact ixL_any q (i + 1) (by omega)
theorem longF_map (q : List (List UInt8)) : longF (q.map strRow) = q.any fun s => decide (80 < s.length) := by unfold longF; rw [unstr_map]
theorem ctf_ok : ∀ ag al, g_ctf ag = some al → ∀ a ∈ al, a.1 → Ev C 100 ag a.2 := by
  intro ag al hl x hx hp
  unfold g_ctf at hl
  split at hl
  · have e := one_mem hl hx; subst e
    obtain ⟨rfl, h⟩ := hp
    refine ev_w (specL_ok (specs_cons ixf_ok specs_nil)) (ctf_w _ _) ⟨⟨rfl, h⟩, ?_⟩
    obtain ⟨q, rfl, hq⟩ := h
    rw [unstr_map, longF_map, ixL_any q 0 (by omega)]
  · exact absurd hl (by simp)
theorem set_ok : ∀ ag al, g_wide ag = some al → ∀ a ∈ al, a.1 → Ev C 82 ag a.2 := by
  intro ag al hl x hx hp
  unfold g_wide at hl
  split at hl
  · have e := one_mem hl hx; subst e
    refine ev_w (specL_ok (specs_cons ctf_ok specs_nil)) (set_w _ _ _) ⟨fun h => ?_, fun h => ⟨⟨rfl, hp⟩, fun h2 => ?_, fun h2 => ?_⟩⟩
    · simp only [decide_eq_true_eq] at h
      unfold wideF; rw [if_pos (by omega)]
    · simp only [decide_eq_false_iff_not] at h
      unfold wideF; rw [if_neg (by omega), if_pos h2]
    · simp only [decide_eq_false_iff_not] at h
      unfold wideF; rw [if_neg (by omega), if_neg (by rw [h2]; simp)]
  · exact absurd hl (by simp)
theorem wid_ok : ∀ ag al, g_wide ag = some al → ∀ a ∈ al, a.1 → Ev C 83 ag a.2 := by
  intro ag al hl x hx hp
  unfold g_wide at hl
  split at hl
  · rename_i b l
    have e := one_mem hl hx; subst e
    obtain ⟨q, rfl, hq⟩ := hp
    have hlen : (q.map strRow).length = q.length := List.length_map _
    refine ev_w noSpec_ok (wid_w _ _ _) ?_
    unfold wideF
    rw [longF_map, hlen]
    refine ⟨fun h => ?_, fun h => ?_⟩
    · simp only [decide_eq_true_eq] at h
      rw [if_pos (by omega)]
    · simp only [decide_eq_false_iff_not] at h
      rw [if_neg (by omega)]
      refine loop_rule noSpec_ok (by kernel_rfl) 1000 (fun m st => ∃ i : Nat, st = wid_h0 i b (q.map strRow) ∧ i ≤ q.length ∧ (∀ s ∈ q.take i, ¬ 80 < s.length) ∧ m = q.length - i) ?_ (n := q.length) ⟨0, rfl, by omega, by simp, by omega⟩
      rintro m st ⟨i, rfl, hi, hn, rfl⟩
      refine ex_w (wid_l0 _ _ _ _ _ _ _) ?_
      rw [hlen]
      refine ⟨fun g => ?_, fun g => ?_⟩
      · simp only [decide_eq_true_eq] at g
        have hi' : i < q.length := by omega
        refine ⟨by omega, q[i], srow_get q hi', fun h => ⟨.auto, ?_⟩, fun h => ⟨q.length - (i + 1), by omega, i + 1, by rw [w64s (by omega)]; rfl, by omega, ?_, rfl⟩⟩
        · simp only [decide_eq_true_eq] at h
          rw [if_pos (List.any_eq_true.2 ⟨q[i], List.getElem_mem hi', by simp only [decide_eq_true_eq]; omega⟩)]
        · simp only [decide_eq_false_iff_not] at h
          intro s hs
          rw [List.take_succ_eq_append_getElem hi', List.mem_append, List.mem_singleton] at hs
          rcases hs with hs | rfl
          · exact hn s hs
          · omega
      · simp only [decide_eq_false_iff_not] at g
        have : i = q.length := by omega
        subst this
        rw [List.take_length] at hn
        refine ⟨.auto, ?_⟩
        rw [if_neg]
        intro h
        obtain ⟨s, hs, h2⟩ := List.any_eq_true.1 h
        simp only [decide_eq_true_eq] at h2
        exact hn s hs h2
  · exact absurd hl (by simp)
theorem sts_ok : ∀ ag al, g_sts ag = some al → ∀ a ∈ al, a.1 → Ev C 53 ag a.2 := by
  intro ag al hl x hx hp
  unfold g_sts at hl
  split at hl
  · rename_i o a b n nl m ml t u k
    have e := one_mem hl hx; subst e
    refine ev_w (specL_ok (specs_cons set_ok specs_nil)) (sts_w _ _ _ _ _ _ _ _ _ _ _) ?_
    obtain ⟨h1, h2⟩ := hp
    unfold strO at h1 h2
    by_cases h6 : o = 6 <;> by_cases h7 : o = 7 <;> by_cases hw : wideF nl = 0 <;> simp [setF, h6, h7, hw, h1, h2]
  · exact absurd hl (by simp)
theorem tre_ok : ∀ ag al, g_tre ag = some al → ∀ a ∈ al, a.1 → Ev C 54 ag a.2 := by
  intro ag al hl x hx hp
  unfold g_tre at hl
  split at hl
  · rename_i o a b n nl m ml t u k
    have e := one_mem hl hx; subst e
    refine ev_w (specL_ok (specs_cons check_ok specs_nil)) (tre_w _ _ _ _ _ _ _ _ _ _ _) ?_
    obtain ⟨h1, h2⟩ := hp
    unfold treO at h1 h2
    by_cases h6 : o = 2 <;> by_cases hw : chkE t 1 0 = 0 <;> simp [treF, h6, hw, h1, h2]
  · exact absurd hl (by simp)
theorem rsts_ok : ∀ ag al, g_rsts ag = some al → ∀ a ∈ al, a.1 → Ev C 56 ag a.2 := by
  intro ag al hl x hx hp
  unfold g_rsts at hl
  split at hl
  · rename_i o a b n nl m ml t u k
    have e := one_mem hl hx; subst e
    refine ev_w (specL_ok (specs_cons wid_ok (specs_cons rcheck_ok specs_nil))) (rsts_w _ _ _ _ _ _ _ _ _ _ _) ?_
    obtain ⟨⟨h1, h2⟩, h3, h4⟩ := hp
    unfold strO at h1 h2
    unfold treO at h3 h4
    by_cases h6 : o = 6 <;> by_cases h7 : o = 7 <;> by_cases h8 : o = 2 <;> by_cases hw : wideF nl = 0 <;> by_cases hv : wideF ml = 0 <;> by_cases hc : chkE t 1 0 = 0 <;> simp [setF, treF, h6, h7, h8, hw, hv, hc, h1, h2, h3, h4]
  · exact absurd hl (by simp)
theorem kds_ok : ∀ ag al, g_kds ag = some al → ∀ a ∈ al, a.1 → Ev C 52 ag a.2 := by
  intro ag al hl x hx hp
  unfold g_kds at hl
  split at hl
  · rename_i o
    have e := one_mem hl hx; subst e
    refine ev_w noSpec_ok (kds_w _ _) ?_
    by_cases h7 : o = 7 <;> by_cases h8 : o = 8 <;> by_cases h9 : o = 9 <;> simp [kidLo, kidHi, h7, h8, h9]
  · exact absurd hl (by simp)
theorem rkds_ok : ∀ ag al, g_rkds ag = some al → ∀ a ∈ al, a.1 → Ev C 55 ag a.2 := by
  intro ag al hl x hx hp
  unfold g_rkds at hl
  split at hl
  · rename_i o n
    have e := one_mem hl hx; subst e
    refine ev_w noSpec_ok (rkds_w _ _ _) ?_
    have e1 : ∀ j : Int, (n == j) = decide (j ≤ n ∧ n ≤ j) := fun j => by
      rw [Bool.eq_iff_iff, beq_iff_eq, decide_eq_true_eq]; omega
    have e2 : decide (n ≥ 1) = true → decide (n ≤ 8) = decide (1 ≤ n ∧ n ≤ 8) := fun h => by
      simp only [decide_eq_true_eq] at h
      rw [decide_eq_decide]; omega
    have e3 : decide (n ≥ 1) = false → false = decide (1 ≤ n ∧ n ≤ 8) := fun h => by
      simp only [decide_eq_false_iff_not] at h
      symm; rw [decide_eq_false_iff_not]; omega
    refine ⟨fun h => ?_, fun h => ⟨fun h2 => ?_, fun h2 => ⟨fun h3 => ⟨fun h4 => ?_, fun h4 => ?_⟩, fun h3 => ?_⟩⟩⟩
    all_goals simp only [beq_iff_eq, beq_eq_false_iff_ne] at *
    · subst h; rw [e1]; rfl
    · subst h2; rw [e1]; rfl
    · subst h3; rw [e2 (by simpa using h4)]; rfl
    · subst h3; rw [e3 (by simpa using h4)]; rfl
    · rw [e1]
      unfold kidB kidLo kidHi
      rw [if_neg h, if_neg h2, if_neg h3, if_neg h, if_neg h2, if_neg h3]
  · exact absurd hl (by simp)
theorem shas_ok : ∀ ag al, g_shas ag = some al → ∀ a ∈ al, a.1 → Ev C 51 ag a.2 := by
  intro ag al hl x hx hp
  unfold g_shas at hl
  split at hl
  · rename_i a b n
    have e := one_mem hl hx; subst e
    refine ev_w noSpec_ok (shas_w _ _ _ _) ⟨fun h => ?_, fun h => ?_⟩
    · simp only [decide_eq_true_eq] at h
      have : decide (n ≤ b) = decide (a ≤ n ∧ n ≤ b) := by rw [decide_eq_decide]; omega
      rw [this]
    · simp only [decide_eq_false_iff_not] at h
      have : decide (a ≤ n ∧ n ≤ b) = false := by rw [decide_eq_false_iff_not]; omega
      rw [this]
  · exact absurd hl (by simp)

end Go.Proofs.YtbnjbianobdleaaGreat.Vm
