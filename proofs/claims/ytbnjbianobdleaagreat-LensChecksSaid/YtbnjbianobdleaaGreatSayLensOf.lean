/-
  Edges whose names are in a set, and the others; in the machine.
-/
import Derived.Test.YtbnjbianobdleaaGreatSayNamesLaw
import Derived.Test.YtbnjbianobdleaaGreatSayTreePlain
namespace Go.Proofs.YtbnjbianobdleaaGreat.Vm
open Go Go.RowKit
set_option linter.unusedVariables false
set_option linter.unusedSimpArgs false
set_option maxRecDepth 100000

/-- Where a name stands first, counted from a number on; none: -1. -/
def ixF : List (List UInt8) → List UInt8 → Int → Int
  | [], _, _ => -1
  | x :: l, s, i => if (s == x) = true then i else ixF l s (i + 1)

def memR (l : List (List PV)) (s : List UInt8) : Bool := decide (s ∈ unstr l)
def hasR (b : Bool) (l : List (List PV)) (s : List UInt8) : Bool := memR l s != b
noncomputable def inR (b : Bool) (l a : List (List PV)) : List (List PV) := (Tr.of ((unrow a).list.filter fun e => hasR b l e.1)).rows
noncomputable def outR (b : Bool) (l a : List (List PV)) : List (List PV) := (Tr.of ((unrow a).list.filter fun e => !hasR b l e.1)).rows

theorem rin_w (l : List (List PV)) (s : List UInt8) (Q : List TV × List TV → Prop) : (wFun C noSpec 57 [.pv (.sl l), .pv (.str s)] Q) (H.auto) = (LoopAt C (57 : FuncId) (CP.dn (CP.dn (CP.dn (CP.dn CP.top (1 : Nat)) (0 : Nat)) (1 : Nat)) (0 : Nat)) (St.mk [((0 : Nat), AV.pv (PV.sl l)), ((1 : Nat), AV.pv (PV.str s)), ((5 : Nat), AV.pv (PV.int IntKind.i64 (0 : Int)))] []) (exK (blockK (0 : Nat) (seqK (wAt C noSpec (57 : FuncId) (99998 : Nat) (CP.dn (CP.dn CP.top (1 : Nat)) (1 : Nat))) (retK C (57 : FuncId) [TV.pv (PV.sl l), TV.pv (PV.str s)] Q))))) := by kernel_rfl

def rin_c0 : CP := (CP.dn (CP.dn (CP.dn (CP.dn CP.top (1 : Nat)) (0 : Nat)) (1 : Nat)) (0 : Nat))

def rin_h0 (t0 : List (List PV)) (t1 : List UInt8) (t5 : Int) : St := (St.mk [((0 : Nat), AV.pv (PV.sl t0)), ((1 : Nat), AV.pv (PV.str t1)), ((5 : Nat), AV.pv (PV.int IntKind.i64 t5))] [])

theorem rin_l0 (l : List (List PV)) (s : List UInt8) (t0 : List (List PV)) (t1 : List UInt8) (t5 : Int)  (J0 : St → Prop) (Q : List TV × List TV → Prop) : (wAt C noSpec 57 1000 (rin_c0.dn 0) (rin_h0 t0 t1 t5) (loopK C 57 rin_c0 J0 (exK (blockK (0 : Nat) (seqK (wAt C noSpec (57 : FuncId) (99998 : Nat) (CP.dn (CP.dn CP.top (1 : Nat)) (1 : Nat))) (retK C (57 : FuncId) [TV.pv (PV.sl l), TV.pv (PV.str s)] Q)))))) (H.b (H.s (H.s (H.b H.auto H.auto))) H.auto) = ((decide (t5 < (↑(List.length t0) : Int)) = true → (0 : Int) ≤ t5 ∧ ∃ (s : List UInt8), t0[Int.toNat t5]? = some [PV.str s] ∧ ((s == t1) = true → ∃ (h : H), Q ([TV.pv (PV.bool true)], [])) ∧ ((s == t1) = false → J0 (St.mk [((0 : Nat), AV.pv (PV.sl t0)), ((1 : Nat), AV.pv (PV.str t1)), ((5 : Nat), AV.pv (PV.int IntKind.i64 (IntKind.wrap IntKind.i64 (t5 + (1 : Int)))))] []))) ∧ (decide (t5 < (↑(List.length t0) : Int)) = false → ∃ (h : H), Q ([TV.pv (PV.bool false)], []))) := by kernel_rfl

def g_rin : List TV → Option Alts
  | [.pv (.sl l), .pv (.str s)] => one (∃ q : List (List UInt8), l = q.map strRow ∧ q.length ≤ 4000000) ([.pv (.bool (memR l s))], [])
  | _ => none

def S_rhas : Specs := specL [(57, g_rin)]

theorem rhas_w (b : Bool) (l : List (List PV)) (s : List UInt8) (Q : List TV × List TV → Prop) : (wFun C S_rhas 40 [.pv (.agg [.bool b, .sl l]), .pv (.str s)] Q) (H.auto) = ((∃ (q : List (List UInt8)), l = List.map strRow q ∧ List.length q ≤ (4000000 : Nat)) ∧ Q ([TV.pv (PV.bool !memR l s == b)], [])) := by kernel_rfl

def g_has : List TV → Option Alts
  | [.pv (.agg [.bool b, .sl l]), .pv (.str s)] => one (∃ q : List (List UInt8), l = q.map strRow ∧ q.length ≤ 4000000) ([.pv (.bool (hasR b l s))], [])
  | _ => none

def S_rof : Specs := specL [(40, g_has)]

theorem rof_w (a : List (List PV)) (b : Bool) (l : List (List PV)) (Q : List TV × List TV → Prop) : (wFun C S_rof 17 [.pv (.sl a), .pv (.agg [.bool b, .sl l])] Q) (H.auto) = (LoopAt C (17 : FuncId) (CP.dn (CP.dn (CP.dn (CP.dn (CP.dn CP.top (1 : Nat)) (1 : Nat)) (0 : Nat)) (1 : Nat)) (0 : Nat)) (St.mk [((0 : Nat), AV.pv (PV.sl a)), ((3 : Nat), AV.addr (6 : Nat) (0 : Nat) (0 : Nat)), ((6 : Nat), AV.own (12 : Nat)), ((7 : Nat), AV.own (14 : Nat)), ((8 : Nat), AV.pv (PV.int IntKind.i64 (0 : Int)))] [((6 : Nat), Obj.box [AV.pv (PV.bool b), AV.pv (PV.sl l)]), ((12 : Nat), Obj.buf (2 : Nat) []), ((14 : Nat), Obj.buf (2 : Nat) [])]) (exK (blockK (0 : Nat) (seqK (wAt C S_rof (17 : FuncId) (99997 : Nat) (CP.dn (CP.dn (CP.dn CP.top (1 : Nat)) (1 : Nat)) (1 : Nat))) (retK C (17 : FuncId) [TV.pv (PV.sl a), TV.pv (PV.agg [PV.bool b, PV.sl l])] Q))))) := by kernel_rfl

def rof_c0 : CP := (CP.dn (CP.dn (CP.dn (CP.dn (CP.dn CP.top (1 : Nat)) (1 : Nat)) (0 : Nat)) (1 : Nat)) (0 : Nat))

def rof_h0 (t0 : List (List PV)) (t8 : Int) (o6 : Bool) (o6b : List (List PV)) (o12 : List (List PV)) (o14 : List (List PV)) : St := (St.mk [((0 : Nat), AV.pv (PV.sl t0)), ((3 : Nat), AV.addr (6 : Nat) (0 : Nat) (0 : Nat)), ((6 : Nat), AV.own (12 : Nat)), ((7 : Nat), AV.own (14 : Nat)), ((8 : Nat), AV.pv (PV.int IntKind.i64 t8))] [((6 : Nat), Obj.box [AV.pv (PV.bool o6), AV.pv (PV.sl o6b)]), ((12 : Nat), Obj.buf (2 : Nat) o12), ((14 : Nat), Obj.buf (2 : Nat) o14)])

theorem rof_l0 (a : List (List PV)) (b : Bool) (l : List (List PV)) (t0 : List (List PV)) (t8 : Int) (o6 : Bool) (o6b : List (List PV)) (o12 : List (List PV)) (o14 : List (List PV))  (J0 : St → Prop) (Q : List TV × List TV → Prop) : (wAt C S_rof 17 1000 (rof_c0.dn 0) (rof_h0 t0 t8 o6 o6b o12 o14) (loopK C 17 rof_c0 J0 (exK (blockK (0 : Nat) (seqK (wAt C S_rof (17 : FuncId) (99997 : Nat) (CP.dn (CP.dn (CP.dn CP.top (1 : Nat)) (1 : Nat)) (1 : Nat))) (retK C (17 : FuncId) [TV.pv (PV.sl a), TV.pv (PV.agg [PV.bool b, PV.sl l])] Q)))))) (H.b (H.s (H.s (H.b (H.s (H.s (H.s H.auto))) (H.s (H.s (H.s H.auto)))))) H.auto) = ((decide (t8 < (↑(List.length t0) : Int)) = true → (0 : Int) ≤ t8 ∧ ∃ (s : List UInt8), ∃ (es : List (List PV)), t0[Int.toNat t8]? = some [PV.str s, PV.sl es] ∧ (∃ (q : List (List UInt8)), o6b = List.map strRow q ∧ List.length q ≤ (4000000 : Nat)) ∧ (hasR o6 o6b s = true → (0 : Int) ≤ t8 ∧ ∃ (s : List UInt8), ∃ (es : List (List PV)), t0[Int.toNat t8]? = some [PV.str s, PV.sl es] ∧ ((List.length o12 + (1 : Nat)) * (40 : Nat) ≤ room ∧ List.length o12 + (1 : Nat) ≤ maxInt) ∧ J0 (St.mk [((0 : Nat), AV.pv (PV.sl t0)), ((3 : Nat), AV.addr (6 : Nat) (0 : Nat) (0 : Nat)), ((6 : Nat), AV.own (12 : Nat)), ((7 : Nat), AV.own (14 : Nat)), ((8 : Nat), AV.pv (PV.int IntKind.i64 (IntKind.wrap IntKind.i64 (t8 + (1 : Int)))))] [((6 : Nat), Obj.box [AV.pv (PV.bool o6), AV.pv (PV.sl o6b)]), ((12 : Nat), Obj.buf (2 : Nat) (o12 ++ [[PV.str s, PV.sl es]])), ((14 : Nat), Obj.buf (2 : Nat) o14)])) ∧ (hasR o6 o6b s = false → (0 : Int) ≤ t8 ∧ ∃ (s : List UInt8), ∃ (es : List (List PV)), t0[Int.toNat t8]? = some [PV.str s, PV.sl es] ∧ ((List.length o14 + (1 : Nat)) * (40 : Nat) ≤ room ∧ List.length o14 + (1 : Nat) ≤ maxInt) ∧ J0 (St.mk [((0 : Nat), AV.pv (PV.sl t0)), ((3 : Nat), AV.addr (6 : Nat) (0 : Nat) (0 : Nat)), ((6 : Nat), AV.own (12 : Nat)), ((7 : Nat), AV.own (14 : Nat)), ((8 : Nat), AV.pv (PV.int IntKind.i64 (IntKind.wrap IntKind.i64 (t8 + (1 : Int)))))] [((6 : Nat), Obj.box [AV.pv (PV.bool o6), AV.pv (PV.sl o6b)]), ((12 : Nat), Obj.buf (2 : Nat) o12), ((14 : Nat), Obj.buf (2 : Nat) (o14 ++ [[PV.str s, PV.sl es]]))]))) ∧ (decide (t8 < (↑(List.length t0) : Int)) = false → ∃ (h : H), Q ([TV.own (2 : Nat) o12, TV.own (2 : Nat) o14], []))) := by kernel_rfl

theorem ixs_w (l : List (List PV)) (s : List UInt8) (Q : List TV × List TV → Prop) : (wFun C noSpec 119 [.pv (.sl l), .pv (.str s)] Q) (H.auto) = (LoopAt C (119 : FuncId) (CP.dn (CP.dn (CP.dn (CP.dn CP.top (1 : Nat)) (0 : Nat)) (1 : Nat)) (0 : Nat)) (St.mk [((0 : Nat), AV.pv (PV.sl l)), ((1 : Nat), AV.pv (PV.str s)), ((7 : Nat), AV.pv (PV.int IntKind.i64 (↑(List.length l) : Int))), ((8 : Nat), AV.pv (PV.int IntKind.i64 (0 : Int)))] []) (exK (blockK (0 : Nat) (seqK (wAt C noSpec (119 : FuncId) (99998 : Nat) (CP.dn (CP.dn CP.top (1 : Nat)) (1 : Nat))) (retK C (119 : FuncId) [TV.pv (PV.sl l), TV.pv (PV.str s)] Q))))) := by kernel_rfl

def ixs_c0 : CP := (CP.dn (CP.dn (CP.dn (CP.dn CP.top (1 : Nat)) (0 : Nat)) (1 : Nat)) (0 : Nat))

def ixs_h0 (t0 : List (List PV)) (t1 : List UInt8) (t7 : Int) (t8 : Int) : St := (St.mk [((0 : Nat), AV.pv (PV.sl t0)), ((1 : Nat), AV.pv (PV.str t1)), ((7 : Nat), AV.pv (PV.int IntKind.i64 t7)), ((8 : Nat), AV.pv (PV.int IntKind.i64 t8))] [])

theorem ixs_l0 (l : List (List PV)) (s : List UInt8) (t0 : List (List PV)) (t1 : List UInt8) (t7 : Int) (t8 : Int)  (J0 : St → Prop) (Q : List TV × List TV → Prop) : (wAt C noSpec 119 1000 (ixs_c0.dn 0) (ixs_h0 t0 t1 t7 t8) (loopK C 119 ixs_c0 J0 (exK (blockK (0 : Nat) (seqK (wAt C noSpec (119 : FuncId) (99998 : Nat) (CP.dn (CP.dn CP.top (1 : Nat)) (1 : Nat))) (retK C (119 : FuncId) [TV.pv (PV.sl l), TV.pv (PV.str s)] Q)))))) (H.b (H.s (H.s (H.b H.auto H.auto))) H.auto) = ((decide (t8 < t7) = true → (0 : Int) ≤ t8 ∧ ∃ (s : List UInt8), t0[Int.toNat t8]? = some [PV.str s] ∧ ((t1 == s) = true → ∃ (h : H), Q ([TV.pv (PV.int IntKind.i64 t8)], [])) ∧ ((t1 == s) = false → J0 (St.mk [((0 : Nat), AV.pv (PV.sl t0)), ((1 : Nat), AV.pv (PV.str t1)), ((7 : Nat), AV.pv (PV.int IntKind.i64 t7)), ((8 : Nat), AV.pv (PV.int IntKind.i64 (IntKind.wrap IntKind.i64 (t8 + (1 : Int)))))] []))) ∧ (decide (t8 < t7) = false → ∃ (h : H), Q ([TV.pv (PV.int IntKind.i64 (-1 : Int))], []))) := by kernel_rfl

def g_ixs : List TV → Option Alts
  | [.pv (.sl l), .pv (.str s)] => one (∃ q : List (List UInt8), l = q.map strRow ∧ q.length ≤ 4000000) ([.pv (.int .i64 (ixF (unstr l) s 0))], [])
  | _ => none

def S_cts : Specs := specL [(119, g_ixs)]

theorem cts_w (l : List (List PV)) (s : List UInt8) (Q : List TV × List TV → Prop) : (wFun C S_cts 108 [.pv (.sl l), .pv (.str s)] Q) (H.auto) = ((∃ (q : List (List UInt8)), l = List.map strRow q ∧ List.length q ≤ (4000000 : Nat)) ∧ Q ([TV.pv (PV.bool (decide (ixF (unstr l) s (0 : Int) ≥ (0 : Int))))], [])) := by kernel_rfl

def S_nhas : Specs := specL [(108, g_rin)]

theorem nhas_w (b : Bool) (l : List (List PV)) (s : List UInt8) (Q : List TV × List TV → Prop) : (wFun C S_nhas 89 [.pv (.agg [.bool b, .sl l]), .pv (.str s)] Q) (H.auto) = ((∃ (q : List (List UInt8)), l = List.map strRow q ∧ List.length q ≤ (4000000 : Nat)) ∧ Q ([TV.pv (PV.bool !memR l s == b)], [])) := by kernel_rfl

def ownR (a : List (List PV)) : List (List PV) := a
noncomputable def g_own (N : Nat) : List TV → Option Alts
  | [.pv (.sl a)] => one (∃ t : Tr, a = t.rows ∧ t.nodes < N) ([.own 2 (ownR a)], [])
  | _ => none

noncomputable def S_nown (N : Nat) : Specs := specL [(88, g_own N)]

theorem nown_w (N : Nat) (a : List (List PV)) (Q : List TV × List TV → Prop) : (wFun C (S_nown N) 88 [.pv (.sl a)] Q) (H.s H.auto) = (((0 : Int) ≤ (↑(List.length a) : Int) ∧ (↑(List.length a) : Int) ≤ (↑(List.length a) : Int) ∧ (↑(List.length a) : Int) ≤ (9223372036854775807 : Int) ∧ (↑(List.length a) : Int) * (40 : Int) ≤ (140737488355328 : Int)) ∧ LoopAt C (88 : FuncId) (CP.dn (CP.dn (CP.dn (CP.dn (CP.dn CP.top (1 : Nat)) (1 : Nat)) (0 : Nat)) (1 : Nat)) (0 : Nat)) (St.mk [((3 : Nat), AV.own (6 : Nat)), ((9 : Nat), AV.pv (PV.sl a)), ((10 : Nat), AV.pv (PV.int IntKind.i64 (↑(List.length a) : Int))), ((11 : Nat), AV.pv (PV.int IntKind.i64 (0 : Int)))] [((6 : Nat), Obj.buf (2 : Nat) (List.replicate (Int.toNat (↑(List.length a) : Int)) [PV.str [], PV.sl []]))]) (exK (blockK (0 : Nat) (seqK (wAt C (S_nown N) (88 : FuncId) (99997 : Nat) (CP.dn (CP.dn (CP.dn CP.top (1 : Nat)) (1 : Nat)) (1 : Nat))) (retK C (88 : FuncId) [TV.pv (PV.sl a)] Q))))) := by kernel_rfl

def nown_c0 : CP := (CP.dn (CP.dn (CP.dn (CP.dn (CP.dn CP.top (1 : Nat)) (1 : Nat)) (0 : Nat)) (1 : Nat)) (0 : Nat))

def nown_h0 (t9 : List (List PV)) (t10 : Int) (t11 : Int) (o6 : List (List PV)) : St := (St.mk [((3 : Nat), AV.own (6 : Nat)), ((9 : Nat), AV.pv (PV.sl t9)), ((10 : Nat), AV.pv (PV.int IntKind.i64 t10)), ((11 : Nat), AV.pv (PV.int IntKind.i64 t11))] [((6 : Nat), Obj.buf (2 : Nat) o6)])

theorem nown_l0 (N : Nat) (a : List (List PV)) (t9 : List (List PV)) (t10 : Int) (t11 : Int) (o6 : List (List PV))  (J0 : St → Prop) (Q : List TV × List TV → Prop) : (wAt C (S_nown N) 88 1000 (nown_c0.dn 0) (nown_h0 t9 t10 t11 o6) (loopK C 88 nown_c0 J0 (exK (blockK (0 : Nat) (seqK (wAt C (S_nown N) (88 : FuncId) (99997 : Nat) (CP.dn (CP.dn (CP.dn CP.top (1 : Nat)) (1 : Nat)) (1 : Nat))) (retK C (88 : FuncId) [TV.pv (PV.sl a)] Q)))))) (H.b (H.s (H.s (H.s (H.s (H.s (H.s (H.s H.auto))))))) H.auto) = ((decide (t11 < t10) = true → (0 : Int) ≤ t11 ∧ ∃ (s : List UInt8), ∃ (es : List (List PV)), t9[Int.toNat t11]? = some [PV.str s, PV.sl es] ∧ (∃ (t : Tr), es = Tr.rows t ∧ Tr.nodes t < N) ∧ ((0 : Int) ≤ t11 ∧ t11 < (↑(List.length o6) : Int)) ∧ ∃ (c : List PV), o6[Int.toNat t11]? = some c ∧ (2 : Nat) ≤ List.length c ∧ List.length (List.set o6 (Int.toNat t11) (PV.str s :: PV.sl es :: List.drop (2 : Nat) c)) = List.length o6 ∧ List.length (List.set o6 (Int.toNat t11) (PV.str s :: PV.sl es :: List.drop (2 : Nat) c)) = List.length o6 ∧ J0 (St.mk [((3 : Nat), AV.own (6 : Nat)), ((9 : Nat), AV.pv (PV.sl t9)), ((10 : Nat), AV.pv (PV.int IntKind.i64 t10)), ((11 : Nat), AV.pv (PV.int IntKind.i64 (IntKind.wrap IntKind.i64 (t11 + (1 : Int)))))] [((6 : Nat), Obj.buf (2 : Nat) (List.set o6 (Int.toNat t11) (PV.str s :: PV.sl es :: List.drop (2 : Nat) c)))])) ∧ (decide (t11 < t10) = false → ∃ (h : H), Q ([TV.own (2 : Nat) o6], []))) := by kernel_rfl

noncomputable def S_town (N : Nat) : Specs := specL [(86, g_own N)]

theorem town_w (N : Nat) (a : List (List PV)) (Q : List TV × List TV → Prop) : (wFun C (S_town N) 86 [.pv (.sl a)] Q) (H.s H.auto) = (((0 : Int) ≤ (↑(List.length a) : Int) ∧ (↑(List.length a) : Int) ≤ (↑(List.length a) : Int) ∧ (↑(List.length a) : Int) ≤ (9223372036854775807 : Int) ∧ (↑(List.length a) : Int) * (40 : Int) ≤ (140737488355328 : Int)) ∧ LoopAt C (86 : FuncId) (CP.dn (CP.dn (CP.dn (CP.dn (CP.dn CP.top (1 : Nat)) (1 : Nat)) (0 : Nat)) (1 : Nat)) (0 : Nat)) (St.mk [((3 : Nat), AV.own (6 : Nat)), ((9 : Nat), AV.pv (PV.sl a)), ((10 : Nat), AV.pv (PV.int IntKind.i64 (↑(List.length a) : Int))), ((11 : Nat), AV.pv (PV.int IntKind.i64 (0 : Int)))] [((6 : Nat), Obj.buf (2 : Nat) (List.replicate (Int.toNat (↑(List.length a) : Int)) [PV.str [], PV.sl []]))]) (exK (blockK (0 : Nat) (seqK (wAt C (S_town N) (86 : FuncId) (99997 : Nat) (CP.dn (CP.dn (CP.dn CP.top (1 : Nat)) (1 : Nat)) (1 : Nat))) (retK C (86 : FuncId) [TV.pv (PV.sl a)] Q))))) := by kernel_rfl

def town_c0 : CP := (CP.dn (CP.dn (CP.dn (CP.dn (CP.dn CP.top (1 : Nat)) (1 : Nat)) (0 : Nat)) (1 : Nat)) (0 : Nat))

def town_h0 (t9 : List (List PV)) (t10 : Int) (t11 : Int) (o6 : List (List PV)) : St := (St.mk [((3 : Nat), AV.own (6 : Nat)), ((9 : Nat), AV.pv (PV.sl t9)), ((10 : Nat), AV.pv (PV.int IntKind.i64 t10)), ((11 : Nat), AV.pv (PV.int IntKind.i64 t11))] [((6 : Nat), Obj.buf (2 : Nat) o6)])

theorem town_l0 (N : Nat) (a : List (List PV)) (t9 : List (List PV)) (t10 : Int) (t11 : Int) (o6 : List (List PV))  (J0 : St → Prop) (Q : List TV × List TV → Prop) : (wAt C (S_town N) 86 1000 (town_c0.dn 0) (town_h0 t9 t10 t11 o6) (loopK C 86 town_c0 J0 (exK (blockK (0 : Nat) (seqK (wAt C (S_town N) (86 : FuncId) (99997 : Nat) (CP.dn (CP.dn (CP.dn CP.top (1 : Nat)) (1 : Nat)) (1 : Nat))) (retK C (86 : FuncId) [TV.pv (PV.sl a)] Q)))))) (H.b (H.s (H.s (H.s (H.s (H.s (H.s (H.s H.auto))))))) H.auto) = ((decide (t11 < t10) = true → (0 : Int) ≤ t11 ∧ ∃ (s : List UInt8), ∃ (es : List (List PV)), t9[Int.toNat t11]? = some [PV.str s, PV.sl es] ∧ (∃ (t : Tr), es = Tr.rows t ∧ Tr.nodes t < N) ∧ ((0 : Int) ≤ t11 ∧ t11 < (↑(List.length o6) : Int)) ∧ ∃ (c : List PV), o6[Int.toNat t11]? = some c ∧ (2 : Nat) ≤ List.length c ∧ List.length (List.set o6 (Int.toNat t11) (PV.str s :: PV.sl es :: List.drop (2 : Nat) c)) = List.length o6 ∧ List.length (List.set o6 (Int.toNat t11) (PV.str s :: PV.sl es :: List.drop (2 : Nat) c)) = List.length o6 ∧ J0 (St.mk [((3 : Nat), AV.own (6 : Nat)), ((9 : Nat), AV.pv (PV.sl t9)), ((10 : Nat), AV.pv (PV.int IntKind.i64 t10)), ((11 : Nat), AV.pv (PV.int IntKind.i64 (IntKind.wrap IntKind.i64 (t11 + (1 : Int)))))] [((6 : Nat), Obj.buf (2 : Nat) (List.set o6 (Int.toNat t11) (PV.str s :: PV.sl es :: List.drop (2 : Nat) c)))])) ∧ (decide (t11 < t10) = false → ∃ (h : H), Q ([TV.own (2 : Nat) o6], []))) := by kernel_rfl

def g_cl2 : List TV → Option Alts
  | [.pv (.sl es)] => one (es.length * 40 ≤ room ∧ es.length ≤ maxInt ∧ rowOk 2 es = true) ([.own 2 es], [])
  | _ => none

noncomputable def S_nof : Specs := specL [(88, g_own 4000000), (89, g_has), (90, g_cl2)]

theorem nof_w (a : List (List PV)) (b : Bool) (l : List (List PV)) (Q : List TV × List TV → Prop) : (wFun C S_nof 62 [.pv (.sl a), .pv (.agg [.bool b, .sl l])] Q) (H.auto) = ((∃ (t : Tr), a = Tr.rows t ∧ Tr.nodes t < (4000000 : Nat)) ∧ LoopAt C (62 : FuncId) (CP.dn (CP.dn (CP.dn (CP.dn CP.top (1 : Nat)) (0 : Nat)) (1 : Nat)) (0 : Nat)) (St.mk [((3 : Nat), AV.addr (6 : Nat) (0 : Nat) (0 : Nat)), ((4 : Nat), AV.own (8 : Nat)), ((5 : Nat), AV.own (10 : Nat)), ((9 : Nat), AV.own (18 : Nat)), ((10 : Nat), AV.pv (PV.int IntKind.i64 (↑(List.length a) : Int))), ((11 : Nat), AV.pv (PV.int IntKind.i64 (0 : Int)))] [((6 : Nat), Obj.box [AV.pv (PV.bool b), AV.pv (PV.sl l)]), ((8 : Nat), Obj.buf (2 : Nat) []), ((10 : Nat), Obj.buf (2 : Nat) []), ((18 : Nat), Obj.buf (2 : Nat) a)]) (exK (blockK (0 : Nat) (seqK (wAt C S_nof (62 : FuncId) (99998 : Nat) (CP.dn (CP.dn CP.top (1 : Nat)) (1 : Nat))) (retK C (62 : FuncId) [TV.pv (PV.sl a), TV.pv (PV.agg [PV.bool b, PV.sl l])] Q))))) := by kernel_rfl

def nof_c0 : CP := (CP.dn (CP.dn (CP.dn (CP.dn CP.top (1 : Nat)) (0 : Nat)) (1 : Nat)) (0 : Nat))

def nof_h0 (t10 : Int) (t11 : Int) (o6 : Bool) (o6b : List (List PV)) (o8 : List (List PV)) (o10 : List (List PV)) (o18 : List (List PV)) : St := (St.mk [((3 : Nat), AV.addr (6 : Nat) (0 : Nat) (0 : Nat)), ((4 : Nat), AV.own (8 : Nat)), ((5 : Nat), AV.own (10 : Nat)), ((9 : Nat), AV.own (18 : Nat)), ((10 : Nat), AV.pv (PV.int IntKind.i64 t10)), ((11 : Nat), AV.pv (PV.int IntKind.i64 t11))] [((6 : Nat), Obj.box [AV.pv (PV.bool o6), AV.pv (PV.sl o6b)]), ((8 : Nat), Obj.buf (2 : Nat) o8), ((10 : Nat), Obj.buf (2 : Nat) o10), ((18 : Nat), Obj.buf (2 : Nat) o18)])

theorem nof_l0 (a : List (List PV)) (b : Bool) (l : List (List PV)) (t10 : Int) (t11 : Int) (o6 : Bool) (o6b : List (List PV)) (o8 : List (List PV)) (o10 : List (List PV)) (o18 : List (List PV))  (J0 : St → Prop) (Q : List TV × List TV → Prop) : (wAt C S_nof 62 1000 (nof_c0.dn 0) (nof_h0 t10 t11 o6 o6b o8 o10 o18) (loopK C 62 nof_c0 J0 (exK (blockK (0 : Nat) (seqK (wAt C S_nof (62 : FuncId) (99998 : Nat) (CP.dn (CP.dn CP.top (1 : Nat)) (1 : Nat))) (retK C (62 : FuncId) [TV.pv (PV.sl a), TV.pv (PV.agg [PV.bool b, PV.sl l])] Q)))))) (H.b (H.s (H.s (H.b (H.s H.auto) (H.s H.auto)))) H.auto) = ((decide (t11 < t10) = true → ((0 : Int) ≤ t11 ∧ t11 < (↑(List.length o18) : Int)) ∧ ∃ (c : List PV), o18[Int.toNat t11]? = some c ∧ (2 : Nat) ≤ List.length c ∧ ∃ (s : List UInt8), ∃ (es : List (List PV)), List.take (2 : Nat) c = [PV.str s, PV.sl es] ∧ (∃ (q : List (List UInt8)), o6b = List.map strRow q ∧ List.length q ≤ (4000000 : Nat)) ∧ (hasR o6 o6b s = true → ((List.length o8 + (1 : Nat)) * (40 : Nat) ≤ room ∧ List.length o8 + (1 : Nat) ≤ maxInt) ∧ J0 (St.mk [((3 : Nat), AV.addr (6 : Nat) (0 : Nat) (0 : Nat)), ((4 : Nat), AV.own (8 : Nat)), ((5 : Nat), AV.own (10 : Nat)), ((9 : Nat), AV.own (18 : Nat)), ((10 : Nat), AV.pv (PV.int IntKind.i64 t10)), ((11 : Nat), AV.pv (PV.int IntKind.i64 (IntKind.wrap IntKind.i64 (t11 + (1 : Int)))))] [((6 : Nat), Obj.box [AV.pv (PV.bool o6), AV.pv (PV.sl o6b)]), ((8 : Nat), Obj.buf (2 : Nat) (o8 ++ [[PV.str s, PV.sl es]])), ((10 : Nat), Obj.buf (2 : Nat) o10), ((18 : Nat), Obj.buf (2 : Nat) o18)])) ∧ (hasR o6 o6b s = false → ((List.length o10 + (1 : Nat)) * (40 : Nat) ≤ room ∧ List.length o10 + (1 : Nat) ≤ maxInt) ∧ J0 (St.mk [((3 : Nat), AV.addr (6 : Nat) (0 : Nat) (0 : Nat)), ((4 : Nat), AV.own (8 : Nat)), ((5 : Nat), AV.own (10 : Nat)), ((9 : Nat), AV.own (18 : Nat)), ((10 : Nat), AV.pv (PV.int IntKind.i64 t10)), ((11 : Nat), AV.pv (PV.int IntKind.i64 (IntKind.wrap IntKind.i64 (t11 + (1 : Int)))))] [((6 : Nat), Obj.box [AV.pv (PV.bool o6), AV.pv (PV.sl o6b)]), ((8 : Nat), Obj.buf (2 : Nat) o8), ((10 : Nat), Obj.buf (2 : Nat) (o10 ++ [[PV.str s, PV.sl es]])), ((18 : Nat), Obj.buf (2 : Nat) o18)]))) ∧ (decide (t11 < t10) = false → exK (blockK (0 : Nat) (seqK (wAt C S_nof (62 : FuncId) (99998 : Nat) (CP.dn (CP.dn CP.top (1 : Nat)) (1 : Nat))) (retK C (62 : FuncId) [TV.pv (PV.sl a), TV.pv (PV.agg [PV.bool b, PV.sl l])] Q))) (Ex.exit (0 : Nat)) (St.mk [((12 : Nat), AV.pv (PV.bool false)), ((3 : Nat), AV.addr (6 : Nat) (0 : Nat) (0 : Nat)), ((4 : Nat), AV.own (8 : Nat)), ((5 : Nat), AV.own (10 : Nat)), ((9 : Nat), AV.own (18 : Nat)), ((10 : Nat), AV.pv (PV.int IntKind.i64 t10)), ((11 : Nat), AV.pv (PV.int IntKind.i64 t11))] [((6 : Nat), Obj.box [AV.pv (PV.bool o6), AV.pv (PV.sl o6b)]), ((8 : Nat), Obj.buf (2 : Nat) o8), ((10 : Nat), Obj.buf (2 : Nat) o10), ((18 : Nat), Obj.buf (2 : Nat) o18)]))) := by kernel_rfl

def nof_s1 (t10 : Int) (t11 : Int) (o6 : Bool) (o6b : List (List PV)) (o8 : List (List PV)) (o10 : List (List PV)) (o18 : List (List PV)) : St := (St.mk [((12 : Nat), AV.pv (PV.bool false)), ((3 : Nat), AV.addr (6 : Nat) (0 : Nat) (0 : Nat)), ((4 : Nat), AV.own (8 : Nat)), ((5 : Nat), AV.own (10 : Nat)), ((9 : Nat), AV.own (18 : Nat)), ((10 : Nat), AV.pv (PV.int IntKind.i64 t10)), ((11 : Nat), AV.pv (PV.int IntKind.i64 t11))] [((6 : Nat), Obj.box [AV.pv (PV.bool o6), AV.pv (PV.sl o6b)]), ((8 : Nat), Obj.buf (2 : Nat) o8), ((10 : Nat), Obj.buf (2 : Nat) o10), ((18 : Nat), Obj.buf (2 : Nat) o18)])

theorem nof_x1 (a : List (List PV)) (b : Bool) (l : List (List PV)) (t10 : Int) (t11 : Int) (o6 : Bool) (o6b : List (List PV)) (o8 : List (List PV)) (o10 : List (List PV)) (o18 : List (List PV))  (Q : List TV × List TV → Prop) : (fun h => blockK (0 : Nat) (seqK (wAt C S_nof (62 : FuncId) (99998 : Nat) (CP.dn (CP.dn CP.top (1 : Nat)) (1 : Nat))) (retK C (62 : FuncId) [TV.pv (PV.sl a), TV.pv (PV.agg [PV.bool b, PV.sl l])] Q)) h (Ex.exit (0 : Nat)) (nof_s1 t10 t11 o6 o6b o8 o10 o18)) (H.b (H.b H.auto H.auto) (H.b H.auto H.auto)) = ((List.length o8 * (40 : Nat) ≤ room ∧ List.length o8 ≤ maxInt ∧ rowOk (2 : Nat) o8 = true) ∧ ((flatTVs [TV.own (2 : Nat) o8] && true) = true → (List.length o10 * (40 : Nat) ≤ room ∧ List.length o10 ≤ maxInt ∧ rowOk (2 : Nat) o10 = true) ∧ ((flatTVs [TV.own (2 : Nat) o10] && true) = true → Q ([TV.own (2 : Nat) o8, TV.own (2 : Nat) o10], [])) ∧ ((flatTVs [TV.own (2 : Nat) o10] && true) = false → Q ([TV.own (2 : Nat) o8, TV.own (2 : Nat) o10], []))) ∧ ((flatTVs [TV.own (2 : Nat) o8] && true) = false → (List.length o10 * (40 : Nat) ≤ room ∧ List.length o10 ≤ maxInt ∧ rowOk (2 : Nat) o10 = true) ∧ ((flatTVs [TV.own (2 : Nat) o10] && true) = true → Q ([TV.own (2 : Nat) o8, TV.own (2 : Nat) o10], [])) ∧ ((flatTVs [TV.own (2 : Nat) o10] && true) = false → Q ([TV.own (2 : Nat) o8, TV.own (2 : Nat) o10], [])))) := by kernel_rfl

/-! ### Proofs -/
theorem mem_map (q : List (List UInt8)) (s : List UInt8) : memR (q.map strRow) s = decide (s ∈ q) := by unfold memR; rw [unstr_map]
theorem srow_get (q : List (List UInt8)) {i : Nat} (h : i < q.length) : (q.map strRow)[((i : Int)).toNat]? = some [.str q[i]] := by
  rw [Int.toNat_natCast, List.getElem?_map, List.getElem?_eq_getElem h]; rfl
theorem mem_take_succ {q : List (List UInt8)} {s : List UInt8} {i : Nat} (h : i < q.length) (h1 : s ∉ q.take i) (h2 : ¬ q[i] = s) : s ∉ q.take (i + 1) := by
  rw [List.take_succ_eq_append_getElem h, List.mem_append, List.mem_singleton]
  rintro (h3 | h3)
  · exact h1 h3
  · exact h2 h3.symm

theorem rin_ev (q : List (List UInt8)) (s : List UInt8) (hq : q.length ≤ 4000000) : Ev C 57 [.pv (.sl (q.map strRow)), .pv (.str s)] ([.pv (.bool (memR (q.map strRow) s))], []) := by
  rw [mem_map]
  refine ev_w noSpec_ok (rin_w _ _ _) ?_
  refine loop_rule noSpec_ok (by kernel_rfl) 1000 (fun m st => ∃ i : Nat, st = rin_h0 (q.map strRow) s i ∧ i ≤ q.length ∧ s ∉ q.take i ∧ m = q.length - i) ?_ (n := q.length) ⟨0, rfl, by omega, by simp, by omega⟩
  rintro m st ⟨i, rfl, hi, hn, rfl⟩
  refine ex_w (rin_l0 _ _ _ _ _ _ _) ?_
  rw [List.length_map]
  refine ⟨fun g => ?_, fun g => ?_⟩
  · simp only [decide_eq_true_eq] at g
    have hi' : i < q.length := by omega
    refine ⟨by omega, q[i], srow_get q hi', fun h => ⟨.auto, ?_⟩, fun h => ⟨q.length - (i + 1), by omega, i + 1, by rw [w64s (by omega)]; rfl, by omega, mem_take_succ hi' hn (by simpa using h), rfl⟩⟩
    have h : q[i] = s := by simpa using h
    rw [decide_eq_true (by rw [← h]; exact List.getElem_mem hi')]
  · simp only [decide_eq_false_iff_not] at g
    have : i = q.length := by omega
    subst this
    rw [List.take_length] at hn
    exact ⟨.auto, by rw [decide_eq_false hn]⟩

theorem rin_ok : ∀ ag al, g_rin ag = some al → ∀ a ∈ al, a.1 → Ev C 57 ag a.2 := by
  intro ag al hl x hx hp
  unfold g_rin at hl
  split at hl
  · have e := one_mem hl hx; subst e
    obtain ⟨q, rfl, h⟩ := hp
    exact rin_ev q _ h
  · exact absurd hl (by simp)

theorem rhas_ok : ∀ ag al, g_has ag = some al → ∀ a ∈ al, a.1 → Ev C 40 ag a.2 := by
  intro ag al hl x hx hp
  unfold g_has at hl
  split at hl
  · have e := one_mem hl hx; subst e
    exact ev_w (specL_ok (specs_cons rin_ok specs_nil)) (rhas_w _ _ _ _) ⟨hp, rfl⟩
  · exact absurd hl (by simp)

theorem ixs_ev (q : List (List UInt8)) (s : List UInt8) (hq : q.length ≤ 4000000) : Ev C 119 [.pv (.sl (q.map strRow)), .pv (.str s)] ([.pv (.int .i64 (ixF q s 0))], []) := by
  refine ev_w noSpec_ok (ixs_w _ _ _) ?_
  refine loop_rule noSpec_ok (by kernel_rfl) 1000 (fun m st => ∃ i : Nat, st = ixs_h0 (q.map strRow) s q.length i ∧ i ≤ q.length ∧ ixF q s 0 = ixF (q.drop i) s i ∧ m = q.length - i) ?_ (n := q.length) ⟨0, by rw [List.length_map]; rfl, by omega, rfl, by omega⟩
  rintro m st ⟨i, rfl, hi, hx, rfl⟩
  refine ex_w (ixs_l0 _ _ _ _ _ _ _ _) ⟨fun g => ?_, fun g => ?_⟩
  · simp only [decide_eq_true_eq] at g
    have hi' : i < q.length := by omega
    rw [List.drop_eq_getElem_cons hi', ixF] at hx
    refine ⟨by omega, q[i], srow_get q hi', fun h => ⟨.auto, ?_⟩, fun h => ⟨q.length - (i + 1), by omega, i + 1, by rw [w64s (by omega)]; rfl, by omega, ?_, rfl⟩⟩
    · rw [hx, if_pos h]
    · rw [hx, if_neg (by rw [h]; simp)]; rfl
  · simp only [decide_eq_false_iff_not] at g
    have : i = q.length := by omega
    subst this
    rw [List.drop_length] at hx
    exact ⟨.auto, by rw [hx]; rfl⟩
theorem ixs_ok : ∀ ag al, g_ixs ag = some al → ∀ a ∈ al, a.1 → Ev C 119 ag a.2 := by
  intro ag al hl x hx hp
  unfold g_ixs at hl
  split at hl
  · have e := one_mem hl hx; subst e
    obtain ⟨q, rfl, h⟩ := hp
    rw [unstr_map]
    exact ixs_ev q _ h
  · exact absurd hl (by simp)
theorem ixF_mem : ∀ (q : List (List UInt8)) (s : List UInt8) (i : Int), 0 ≤ i → decide (ixF q s i ≥ 0) = decide (s ∈ q)
  | [], s, i, _ => by simp [ixF]
  | x :: q, s, i, h => by
    rw [ixF]
    split
    · rename_i he
      have he : s = x := by simpa using he
      subst he
      simp [h]
    · rename_i he
      have he : ¬ s = x := by simpa using he
      rw [ixF_mem q s (i + 1) (by omega)]
      simp [he]
theorem cts_ok : ∀ ag al, g_rin ag = some al → ∀ a ∈ al, a.1 → Ev C 108 ag a.2 := by
  intro ag al hl x hx hp
  unfold g_rin at hl
  split at hl
  · have e := one_mem hl hx; subst e
    refine ev_w (specL_ok (specs_cons ixs_ok specs_nil)) (cts_w _ _ _) ⟨hp, ?_⟩
    obtain ⟨q, rfl, h⟩ := hp
    rw [unstr_map, mem_map, ixF_mem q _ 0 (by omega)]
  · exact absurd hl (by simp)
theorem nhas_ok : ∀ ag al, g_has ag = some al → ∀ a ∈ al, a.1 → Ev C 89 ag a.2 := by
  intro ag al hl x hx hp
  unfold g_has at hl
  split at hl
  · have e := one_mem hl hx; subst e
    exact ev_w (specL_ok (specs_cons cts_ok specs_nil)) (nhas_w _ _ _ _) ⟨hp, rfl⟩
  · exact absurd hl (by simp)

theorem set_row (t : Tr) {i : Nat} (h : i < t.list.length) {k : Nat} (hk : k = i) : (t.rows.take k ++ List.replicate (t.list.length - k) [PV.str [], PV.sl []]).set i (PV.str t.list[i].1 :: PV.sl t.list[i].2.rows :: List.drop 2 [PV.str [], PV.sl []]) = t.rows.take (k + 1) ++ List.replicate (t.list.length - (k + 1)) [PV.str [], PV.sl []] := by
  subst hk
  have hl := rows_len t
  have e1 : (t.rows.take k).length = k := by rw [List.length_take]; omega
  rw [List.set_append_right _ _ (by omega), e1, Nat.sub_self, show t.list.length - k = (t.list.length - (k + 1)) + 1 by omega, List.replicate_succ, List.set_cons_zero]
  have e2 := row_get t h
  rw [Int.toNat_natCast] at e2
  rw [List.take_succ_eq_append_getElem (by omega : k < t.rows.length)]
  rw [List.getElem?_eq_getElem (by omega)] at e2
  simp only [Option.some.injEq] at e2
  rw [e2]
  simp

theorem nown_ev {N : Nat} (hS : SpecOK C (S_nown N)) (t : Tr) (h : t.nodes ≤ N) (hb : t.nodes < 4000000) : Ev C 88 [.pv (.sl t.rows)] ([.own 2 t.rows], []) := by
  have hl := rows_len t
  have hn := nodes_list t
  refine ev_w hS (nown_w N t.rows _) ?_
  rw [hl, Int.toNat_natCast]
  refine ⟨⟨by omega, by omega, by omega, by omega⟩, ?_⟩
  refine loop_rule hS (by kernel_rfl) 1000 (fun m st => ∃ i : Nat, st = nown_h0 t.rows t.list.length i (t.rows.take i ++ List.replicate (t.list.length - i) [PV.str [], PV.sl []]) ∧ i ≤ t.list.length ∧ m = t.list.length - i) ?_ (n := t.list.length) ⟨0, by simp [nown_h0], by omega, by omega⟩
  rintro m st ⟨i, rfl, hi, rfl⟩
  have hlen : (t.rows.take i ++ List.replicate (t.list.length - i) [PV.str [], PV.sl []]).length = t.list.length := by
    rw [List.length_append, List.length_take, List.length_replicate]; omega
  refine ex_w (nown_l0 _ _ _ _ _ _ _ _) ⟨fun h2 => ?_, fun h2 => ?_⟩
  · simp only [decide_eq_true_eq] at h2
    have hi' : i < t.list.length := by omega
    have hmem := nodes_lt (List.getElem_mem hi')
    rw [hlen]
    refine ⟨by omega, _, _, row_get t hi', ⟨_, rfl, by omega⟩, ⟨by omega, by omega⟩, [PV.str [], PV.sl []], ?_, by simp, ?_⟩
    · rw [Int.toNat_natCast, List.getElem?_append_right (by rw [List.length_take]; omega), List.getElem?_replicate, if_pos (by rw [List.length_take]; omega)]
    · rw [List.length_set, hlen, w64s (by omega), Int.toNat_natCast, set_row t hi' rfl]
      exact ⟨rfl, rfl, t.list.length - (i + 1), by omega, i + 1, rfl, by omega, rfl⟩
  · simp only [decide_eq_false_iff_not] at h2
    have : i = t.list.length := by omega
    subst this
    refine ⟨.auto, ?_⟩
    rw [Nat.sub_self, List.replicate_zero, List.append_nil, List.take_of_length_le (by omega)]

theorem nown_ok : ∀ N, N ≤ 4000000 → ∀ ag al, g_own N ag = some al → ∀ a ∈ al, a.1 → Ev C 88 ag a.2
  | 0, _, ag, al, hl, x, hx, hp => by
    unfold g_own at hl
    split at hl
    · have e := one_mem hl hx; subst e
      obtain ⟨t, _, h⟩ := hp
      exact absurd h (by omega)
    · exact absurd hl (by simp)
  | N + 1, hN, ag, al, hl, x, hx, hp => by
    unfold g_own at hl
    split at hl
    · have e := one_mem hl hx; subst e
      obtain ⟨t, rfl, h⟩ := hp
      exact nown_ev (specL_ok (specs_cons (nown_ok N (by omega)) specs_nil)) t (by omega) (by omega)
    · exact absurd hl (by simp)

theorem town_ev {N : Nat} (hS : SpecOK C (S_town N)) (t : Tr) (h : t.nodes ≤ N) (hb : t.nodes < 4000000) : Ev C 86 [.pv (.sl t.rows)] ([.own 2 t.rows], []) := by
  have hl := rows_len t
  have hn := nodes_list t
  refine ev_w hS (town_w N t.rows _) ?_
  rw [hl, Int.toNat_natCast]
  refine ⟨⟨by omega, by omega, by omega, by omega⟩, ?_⟩
  refine loop_rule hS (by kernel_rfl) 1000 (fun m st => ∃ i : Nat, st = town_h0 t.rows t.list.length i (t.rows.take i ++ List.replicate (t.list.length - i) [PV.str [], PV.sl []]) ∧ i ≤ t.list.length ∧ m = t.list.length - i) ?_ (n := t.list.length) ⟨0, by simp [town_h0], by omega, by omega⟩
  rintro m st ⟨i, rfl, hi, rfl⟩
  have hlen : (t.rows.take i ++ List.replicate (t.list.length - i) [PV.str [], PV.sl []]).length = t.list.length := by
    rw [List.length_append, List.length_take, List.length_replicate]; omega
  refine ex_w (town_l0 _ _ _ _ _ _ _ _) ⟨fun h2 => ?_, fun h2 => ?_⟩
  · simp only [decide_eq_true_eq] at h2
    have hi' : i < t.list.length := by omega
    have hmem := nodes_lt (List.getElem_mem hi')
    rw [hlen]
    refine ⟨by omega, _, _, row_get t hi', ⟨_, rfl, by omega⟩, ⟨by omega, by omega⟩, [PV.str [], PV.sl []], ?_, by simp, ?_⟩
    · rw [Int.toNat_natCast, List.getElem?_append_right (by rw [List.length_take]; omega), List.getElem?_replicate, if_pos (by rw [List.length_take]; omega)]
    · rw [List.length_set, hlen, w64s (by omega), Int.toNat_natCast, set_row t hi' rfl]
      exact ⟨rfl, rfl, t.list.length - (i + 1), by omega, i + 1, rfl, by omega, rfl⟩
  · simp only [decide_eq_false_iff_not] at h2
    have : i = t.list.length := by omega
    subst this
    refine ⟨.auto, ?_⟩
    rw [Nat.sub_self, List.replicate_zero, List.append_nil, List.take_of_length_le (by omega)]

theorem town_ok : ∀ N, N ≤ 4000000 → ∀ ag al, g_own N ag = some al → ∀ a ∈ al, a.1 → Ev C 86 ag a.2
  | 0, _, ag, al, hl, x, hx, hp => by
    unfold g_own at hl
    split at hl
    · have e := one_mem hl hx; subst e
      obtain ⟨t, _, h⟩ := hp
      exact absurd h (by omega)
    · exact absurd hl (by simp)
  | N + 1, hN, ag, al, hl, x, hx, hp => by
    unfold g_own at hl
    split at hl
    · have e := one_mem hl hx; subst e
      obtain ⟨t, rfl, h⟩ := hp
      exact town_ev (specL_ok (specs_cons (town_ok N (by omega)) specs_nil)) t (by omega) (by omega)
    · exact absurd hl (by simp)

theorem cl2_ok : ∀ ag al, g_cl2 ag = some al → ∀ a ∈ al, a.1 → Ev C 90 ag a.2 := by
  intro ag al hl a ha hp
  unfold g_cl2 at hl
  split at hl
  · have e := one_mem hl ha; subst e
    refine ev_ext (g := xClone Tryz.prog 44) (by kernel_rfl) ?_
    simp only [xClone, bytesEdge, sizeEdge]
    rw [if_pos hp]
  · exact absurd hl (by simp)

def selI (b : Bool) (l : List (List PV)) (t : Tr) (i : Nat) : List (List PV) := ((t.list.take i).filter fun e => hasR b l e.1).map rowE
def selO (b : Bool) (l : List (List PV)) (t : Tr) (i : Nat) : List (List PV) := ((t.list.take i).filter fun e => !hasR b l e.1).map rowE
theorem selI_len (b : Bool) (l : List (List PV)) (t : Tr) (i : Nat) : (selI b l t i).length ≤ i := by
  unfold selI
  rw [List.length_map]
  have h1 := List.length_filter_le (fun e => hasR b l e.1) (t.list.take i)
  rw [List.length_take] at h1
  omega
theorem selO_len (b : Bool) (l : List (List PV)) (t : Tr) (i : Nat) : (selO b l t i).length ≤ i := by
  unfold selO
  rw [List.length_map]
  have h1 := List.length_filter_le (fun e => !hasR b l e.1) (t.list.take i)
  rw [List.length_take] at h1
  omega
theorem sel_in {b : Bool} {l : List (List PV)} {t : Tr} {i : Nat} (h : i < t.list.length) (hh : hasR b l t.list[i].1 = true) : selI b l t (i + 1) = selI b l t i ++ [[.str t.list[i].1, .sl t.list[i].2.rows]] ∧ selO b l t (i + 1) = selO b l t i := by
  unfold selI selO
  rw [List.take_succ_eq_append_getElem h, List.filter_append, List.filter_append, List.map_append, List.map_append]
  simp [List.filter, hh, rowE]
theorem sel_out {b : Bool} {l : List (List PV)} {t : Tr} {i : Nat} (h : i < t.list.length) (hh : hasR b l t.list[i].1 = false) : selI b l t (i + 1) = selI b l t i ∧ selO b l t (i + 1) = selO b l t i ++ [[.str t.list[i].1, .sl t.list[i].2.rows]] := by
  unfold selI selO
  rw [List.take_succ_eq_append_getElem h, List.filter_append, List.filter_append, List.map_append, List.map_append]
  simp [List.filter, hh, rowE]
theorem inR_rows (b : Bool) (l : List (List PV)) (t : Tr) : inR b l t.rows = selI b l t t.list.length := by
  unfold inR selI
  rw [unrow_rows, rows_of, List.take_length]
theorem outR_rows (b : Bool) (l : List (List PV)) (t : Tr) : outR b l t.rows = selO b l t t.list.length := by
  unfold outR selO
  rw [unrow_rows, rows_of, List.take_length]

theorem rof_ev (t : Tr) (b : Bool) (q : List (List UInt8)) (ht : t.nodes ≤ 2000000) (hq : q.length ≤ 4000000) : Ev C 17 [.pv (.sl t.rows), .pv (.agg [.bool b, .sl (q.map strRow)])] ([.own 2 (inR b (q.map strRow) t.rows), .own 2 (outR b (q.map strRow) t.rows)], []) := by
  have hr := room_val
  have hm := maxInt_val
  have hl := rows_len t
  have hn := nodes_list t
  rw [inR_rows, outR_rows]
  have hS : SpecOK C S_rof := specL_ok (specs_cons rhas_ok specs_nil)
  refine ev_w hS (rof_w t.rows b (q.map strRow) _) ?_
  refine loop_rule hS (by kernel_rfl) 1000 (fun m st => ∃ i : Nat, st = rof_h0 t.rows i b (q.map strRow) (selI b (q.map strRow) t i) (selO b (q.map strRow) t i) ∧ i ≤ t.list.length ∧ m = t.list.length - i) ?_ (n := t.list.length) ⟨0, rfl, by omega, by omega⟩
  rintro m st ⟨i, rfl, hi, rfl⟩
  have f1 := selI_len b (q.map strRow) t i
  have f2 := selO_len b (q.map strRow) t i
  refine ex_w (rof_l0 _ _ _ _ _ _ _ _ _ _ _) ?_
  rw [hl]
  refine ⟨fun g => ?_, fun g => ?_⟩
  · simp only [decide_eq_true_eq] at g
    have hi' : i < t.list.length := by omega
    have hg := row_get t hi'
    refine ⟨by omega, _, _, hg, ⟨q, rfl, hq⟩, fun h => ⟨by omega, _, _, hg, ⟨by omega, by omega⟩, t.list.length - (i + 1), by omega, i + 1, ?_, by omega, rfl⟩, fun h => ⟨by omega, _, _, hg, ⟨by omega, by omega⟩, t.list.length - (i + 1), by omega, i + 1, ?_, by omega, rfl⟩⟩
    · rw [(sel_in hi' h).1, (sel_in hi' h).2, w64s (by omega)]; rfl
    · rw [(sel_out hi' h).1, (sel_out hi' h).2, w64s (by omega)]; rfl
  · simp only [decide_eq_false_iff_not] at g
    have : i = t.list.length := by omega
    subst this
    exact ⟨.auto, rfl⟩

noncomputable def g_of : List TV → Option Alts
  | [.pv (.sl a), .pv (.agg [.bool b, .sl l])] => one ((∃ t : Tr, a = t.rows ∧ t.nodes ≤ 2000000) ∧ ∃ q : List (List UInt8), l = q.map strRow ∧ q.length ≤ 4000000) ([.own 2 (inR b l a), .own 2 (outR b l a)], [])
  | _ => none
theorem rof_ok : ∀ ag al, g_of ag = some al → ∀ a ∈ al, a.1 → Ev C 17 ag a.2 := by
  intro ag al hl x hx hp
  unfold g_of at hl
  split at hl
  · have e := one_mem hl hx; subst e
    obtain ⟨⟨t, rfl, h1⟩, q, rfl, h2⟩ := hp
    exact rof_ev t _ q h1 h2
  · exact absurd hl (by simp)

theorem nof_ev (t : Tr) (b : Bool) (q : List (List UInt8)) (ht : t.nodes ≤ 2000000) (hq : q.length ≤ 4000000) : Ev C 62 [.pv (.sl t.rows), .pv (.agg [.bool b, .sl (q.map strRow)])] ([.own 2 (inR b (q.map strRow) t.rows), .own 2 (outR b (q.map strRow) t.rows)], []) := by
  have hr := room_val
  have hm := maxInt_val
  have hl := rows_len t
  have hn := nodes_list t
  rw [inR_rows, outR_rows]
  have hS : SpecOK C S_nof := specL_ok (specs_cons (nown_ok 4000000 (Nat.le_refl _)) (specs_cons nhas_ok (specs_cons cl2_ok specs_nil)))
  refine ev_w hS (nof_w t.rows b (q.map strRow) _) ⟨⟨t, rfl, by omega⟩, ?_⟩
  refine loop_rule hS (by kernel_rfl) 1000 (fun m st => ∃ i : Nat, st = nof_h0 t.list.length i b (q.map strRow) (selI b (q.map strRow) t i) (selO b (q.map strRow) t i) t.rows ∧ i ≤ t.list.length ∧ m = t.list.length - i) ?_ (n := t.list.length) ⟨0, by rw [hl]; rfl, by omega, by omega⟩
  rintro m st ⟨i, rfl, hi, rfl⟩
  have f1 := selI_len b (q.map strRow) t i
  have f2 := selO_len b (q.map strRow) t i
  refine ex_w (nof_l0 _ _ _ _ _ _ _ _ _ _ _ _) ⟨fun g => ?_, fun g => ?_⟩
  · simp only [decide_eq_true_eq] at g
    have hi' : i < t.list.length := by omega
    have hg := row_get t hi'
    refine ⟨⟨by omega, by omega⟩, _, hg, by simp, _, _, rfl, ⟨q, rfl, hq⟩, fun h => ⟨⟨by omega, by omega⟩, t.list.length - (i + 1), by omega, i + 1, ?_, by omega, rfl⟩, fun h => ⟨⟨by omega, by omega⟩, t.list.length - (i + 1), by omega, i + 1, ?_, by omega, rfl⟩⟩
    · rw [(sel_in hi' h).1, (sel_in hi' h).2, w64s (by omega)]; rfl
    · rw [(sel_out hi' h).1, (sel_out hi' h).2, w64s (by omega)]; rfl
  · simp only [decide_eq_false_iff_not] at g
    have : i = t.list.length := by omega
    subst this
    refine ex_w (nof_x1 _ _ _ _ _ _ _ _ _ _ _) ?_
    exact ⟨⟨by omega, by omega, rowOk_edges _⟩, fun _ => ⟨⟨by omega, by omega, rowOk_edges _⟩, fun _ => rfl, fun _ => rfl⟩, fun _ => ⟨⟨by omega, by omega, rowOk_edges _⟩, fun _ => rfl, fun _ => rfl⟩⟩
theorem nof_ok : ∀ ag al, g_of ag = some al → ∀ a ∈ al, a.1 → Ev C 62 ag a.2 := by
  intro ag al hl x hx hp
  unfold g_of at hl
  split at hl
  · have e := one_mem hl hx; subst e
    obtain ⟨⟨t, rfl, h1⟩, q, rfl, h2⟩ := hp
    exact nof_ev t _ q h1 h2
  · exact absurd hl (by simp)

end Go.Proofs.YtbnjbianobdleaaGreat.Vm
