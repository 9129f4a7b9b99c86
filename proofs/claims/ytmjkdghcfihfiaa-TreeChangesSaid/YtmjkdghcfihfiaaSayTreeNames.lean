/-
  TreeNames, in the machine.
-/
import Derived.Test.YtmjkdghcfihfiaaSayNamesLaw
import Derived.Test.YtmjkdghcfihfiaaSayTreeTexts
namespace Go.Proofs.Ytmjkdghcfihfiaa.Vm
open Go Go.RowKit
set_option linter.unusedVariables false
set_option linter.unusedSimpArgs false
set_option maxRecDepth 100000

/-- The names of rows of edges. -/
def nmsR (a : List (List PV)) : List (List UInt8) := a.map fun e => match e with
  | .str s :: _ => s
  | _ => []
def srtR (a : List (List PV)) : List (List PV) := (sortS (unstr a)).map strRow
def cmpR (a : List (List PV)) : List (List PV) := (Lib.compact (unstr a)).map strRow
def allR (a : List (List PV)) : List (List UInt8) := a.flatMap fun r => match r with
  | [.sl es] => nmsR es
  | _ => []
def namesR (a : List (List PV)) : List (List PV) := (namesF (allR a)).map strRow

def g_sort : List TV → Option Alts
  | [.own 1 a] => one (∃ l : List (List UInt8), a = l.map strRow ∧ l.length ≤ 4000000) ([], [.own 1 (srtR a)])
  | _ => none
def g_cmp : List TV → Option Alts
  | [.own 1 a] => one (∃ l : List (List UInt8), a = l.map strRow ∧ l.length ≤ 4000000) ([.own 1 (cmpR a)], [])
  | _ => none
def g_clS : List TV → Option Alts
  | [.pv (.sl es)] => one (es.length * 16 ≤ room ∧ es.length ≤ maxInt ∧ rowOk 1 es = true) ([.own 1 es], [])
  | _ => none

def S_nms : Specs := specL [(67, g_sort), (69, g_cmp), (68, g_clS)]

theorem nms_w (a : List (List PV)) (Q : List TV × List TV → Prop) : (wFun C S_nms 32 [.pv (.sl a)] Q) (H.auto) = (LoopAt C (32 : FuncId) (CP.dn (CP.dn (CP.dn (CP.dn (CP.dn CP.top (1 : Nat)) (1 : Nat)) (0 : Nat)) (1 : Nat)) (0 : Nat)) (St.mk [((3 : Nat), AV.own (6 : Nat)), ((8 : Nat), AV.pv (PV.sl a)), ((9 : Nat), AV.pv (PV.int IntKind.i64 (↑(List.length a) : Int))), ((10 : Nat), AV.pv (PV.int IntKind.i64 (0 : Int)))] [((6 : Nat), Obj.buf (1 : Nat) [])]) (exK (blockK (0 : Nat) (seqK (wAt C S_nms (32 : FuncId) (99997 : Nat) (CP.dn (CP.dn (CP.dn CP.top (1 : Nat)) (1 : Nat)) (1 : Nat))) (retK C (32 : FuncId) [TV.pv (PV.sl a)] Q))))) := by kernel_rfl

def nms_c0 : CP := (CP.dn (CP.dn (CP.dn (CP.dn (CP.dn CP.top (1 : Nat)) (1 : Nat)) (0 : Nat)) (1 : Nat)) (0 : Nat))

def nms_h0 (t8 : List (List PV)) (t9 : Int) (t10 : Int) (o6 : List (List PV)) : St := (St.mk [((3 : Nat), AV.own (6 : Nat)), ((8 : Nat), AV.pv (PV.sl t8)), ((9 : Nat), AV.pv (PV.int IntKind.i64 t9)), ((10 : Nat), AV.pv (PV.int IntKind.i64 t10))] [((6 : Nat), Obj.buf (1 : Nat) o6)])

theorem nms_l0 (a : List (List PV)) (t8 : List (List PV)) (t9 : Int) (t10 : Int) (o6 : List (List PV))  (J0 : St → Prop) (Q : List TV × List TV → Prop) : (wAt C S_nms 32 1000 (nms_c0.dn 0) (nms_h0 t8 t9 t10 o6) (loopK C 32 nms_c0 J0 (exK (blockK (0 : Nat) (seqK (wAt C S_nms (32 : FuncId) (99997 : Nat) (CP.dn (CP.dn (CP.dn CP.top (1 : Nat)) (1 : Nat)) (1 : Nat))) (retK C (32 : FuncId) [TV.pv (PV.sl a)] Q)))))) (H.b (H.s (H.s H.auto)) H.auto) = ((decide (t10 < t9) = true → (0 : Int) ≤ t10 ∧ ∃ (es : List (List PV)), t8[Int.toNat t10]? = some [PV.sl es] ∧ LoopAt C (32 : FuncId) (CP.dn (CP.dn (CP.dn (CP.dn (CP.dn (CP.dn (CP.dn (CP.dn nms_c0 (0 : Nat)) (1 : Nat)) (1 : Nat)) (0 : Nat)) (0 : Nat)) (1 : Nat)) (1 : Nat)) (0 : Nat)) (St.mk [((3 : Nat), AV.own (6 : Nat)), ((8 : Nat), AV.pv (PV.sl t8)), ((9 : Nat), AV.pv (PV.int IntKind.i64 t9)), ((10 : Nat), AV.pv (PV.int IntKind.i64 t10)), ((14 : Nat), AV.pv (PV.sl es)), ((15 : Nat), AV.pv (PV.int IntKind.i64 (↑(List.length es) : Int))), ((16 : Nat), AV.pv (PV.int IntKind.i64 (0 : Int)))] [((6 : Nat), Obj.buf (1 : Nat) o6)]) (exK (blockK (2 : Nat) (blockK (1 : Nat) (seqK (wAt C S_nms (32 : FuncId) (997 : Nat) (CP.dn (CP.dn (CP.dn (CP.dn nms_c0 (0 : Nat)) (1 : Nat)) (1 : Nat)) (1 : Nat))) (loopK C (32 : FuncId) nms_c0 J0 (exK (blockK (0 : Nat) (seqK (wAt C S_nms (32 : FuncId) (99997 : Nat) (CP.dn (CP.dn (CP.dn CP.top (1 : Nat)) (1 : Nat)) (1 : Nat))) (retK C (32 : FuncId) [TV.pv (PV.sl a)] Q)))))))))) ∧ (decide (t10 < t9) = false → exK (blockK (0 : Nat) (seqK (wAt C S_nms (32 : FuncId) (99997 : Nat) (CP.dn (CP.dn (CP.dn CP.top (1 : Nat)) (1 : Nat)) (1 : Nat))) (retK C (32 : FuncId) [TV.pv (PV.sl a)] Q))) (Ex.exit (0 : Nat)) (St.mk [((11 : Nat), AV.pv (PV.bool false)), ((3 : Nat), AV.own (6 : Nat)), ((8 : Nat), AV.pv (PV.sl t8)), ((9 : Nat), AV.pv (PV.int IntKind.i64 t9)), ((10 : Nat), AV.pv (PV.int IntKind.i64 t10))] [((6 : Nat), Obj.buf (1 : Nat) o6)]))) := by kernel_rfl

def nms_c1 : CP := (CP.dn (CP.dn (CP.dn (CP.dn (CP.dn (CP.dn (CP.dn (CP.dn nms_c0 (0 : Nat)) (1 : Nat)) (1 : Nat)) (0 : Nat)) (0 : Nat)) (1 : Nat)) (1 : Nat)) (0 : Nat))

def nms_h1 (t8 : List (List PV)) (t9 : Int) (t10 : Int) (t14 : List (List PV)) (t15 : Int) (t16 : Int) (o6 : List (List PV)) : St := (St.mk [((3 : Nat), AV.own (6 : Nat)), ((8 : Nat), AV.pv (PV.sl t8)), ((9 : Nat), AV.pv (PV.int IntKind.i64 t9)), ((10 : Nat), AV.pv (PV.int IntKind.i64 t10)), ((14 : Nat), AV.pv (PV.sl t14)), ((15 : Nat), AV.pv (PV.int IntKind.i64 t15)), ((16 : Nat), AV.pv (PV.int IntKind.i64 t16))] [((6 : Nat), Obj.buf (1 : Nat) o6)])

def nms_s2 (t8 : List (List PV)) (t9 : Int) (t10 : Int) (o6 : List (List PV)) : St := (St.mk [((11 : Nat), AV.pv (PV.bool false)), ((3 : Nat), AV.own (6 : Nat)), ((8 : Nat), AV.pv (PV.sl t8)), ((9 : Nat), AV.pv (PV.int IntKind.i64 t9)), ((10 : Nat), AV.pv (PV.int IntKind.i64 t10))] [((6 : Nat), Obj.buf (1 : Nat) o6)])

theorem nms_l1 (a : List (List PV)) (t8 : List (List PV)) (t9 : Int) (t10 : Int) (t14 : List (List PV)) (t15 : Int) (t16 : Int) (o6 : List (List PV)) (J0 : St → Prop) (J1 : St → Prop) (Q : List TV × List TV → Prop) : (wAt C S_nms 32 1000 (nms_c1.dn 0) (nms_h1 t8 t9 t10 t14 t15 t16 o6) (loopK C 32 nms_c1 J1 (exK (blockK (2 : Nat) (blockK (1 : Nat) (seqK (wAt C S_nms (32 : FuncId) (997 : Nat) (CP.dn (CP.dn (CP.dn (CP.dn nms_c0 (0 : Nat)) (1 : Nat)) (1 : Nat)) (1 : Nat))) (loopK C (32 : FuncId) nms_c0 J0 (exK (blockK (0 : Nat) (seqK (wAt C S_nms (32 : FuncId) (99997 : Nat) (CP.dn (CP.dn (CP.dn CP.top (1 : Nat)) (1 : Nat)) (1 : Nat))) (retK C (32 : FuncId) [TV.pv (PV.sl a)] Q))))))))))) (H.b (H.s (H.s (H.s H.auto))) H.auto) = ((decide (t16 < t15) = true → (0 : Int) ≤ t16 ∧ ∃ (s : List UInt8), ∃ (es : List (List PV)), t14[Int.toNat t16]? = some [PV.str s, PV.sl es] ∧ ((List.length o6 + (1 : Nat)) * (16 : Nat) ≤ room ∧ List.length o6 + (1 : Nat) ≤ maxInt) ∧ J1 (St.mk [((3 : Nat), AV.own (6 : Nat)), ((8 : Nat), AV.pv (PV.sl t8)), ((9 : Nat), AV.pv (PV.int IntKind.i64 t9)), ((10 : Nat), AV.pv (PV.int IntKind.i64 t10)), ((14 : Nat), AV.pv (PV.sl t14)), ((15 : Nat), AV.pv (PV.int IntKind.i64 t15)), ((16 : Nat), AV.pv (PV.int IntKind.i64 (IntKind.wrap IntKind.i64 (t16 + (1 : Int)))))] [((6 : Nat), Obj.buf (1 : Nat) (o6 ++ [[PV.str s]]))])) ∧ (decide (t16 < t15) = false → ∃ (h : H), J0 (St.mk [((3 : Nat), AV.own (6 : Nat)), ((8 : Nat), AV.pv (PV.sl t8)), ((9 : Nat), AV.pv (PV.int IntKind.i64 t9)), ((10 : Nat), AV.pv (PV.int IntKind.i64 (IntKind.wrap IntKind.i64 (t10 + (1 : Int)))))] [((6 : Nat), Obj.buf (1 : Nat) o6)]))) := by kernel_rfl

theorem nms_x2 (a : List (List PV)) (t8 : List (List PV)) (t9 : Int) (t10 : Int) (o6 : List (List PV))  (Q : List TV × List TV → Prop) : (fun h => blockK (0 : Nat) (seqK (wAt C S_nms (32 : FuncId) (99997 : Nat) (CP.dn (CP.dn (CP.dn CP.top (1 : Nat)) (1 : Nat)) (1 : Nat))) (retK C (32 : FuncId) [TV.pv (PV.sl a)] Q)) h (Ex.exit (0 : Nat)) (nms_s2 t8 t9 t10 o6)) (H.s (H.s H.auto)) = ((∃ (l : List (List UInt8)), o6 = List.map strRow l ∧ List.length l ≤ (4000000 : Nat)) ∧ List.length (srtR o6) = List.length o6 ∧ (∃ (l : List (List UInt8)), srtR o6 = List.map strRow l ∧ List.length l ≤ (4000000 : Nat)) ∧ (List.length (cmpR (srtR o6)) * (16 : Nat) ≤ room ∧ List.length (cmpR (srtR o6)) ≤ maxInt ∧ rowOk (1 : Nat) (cmpR (srtR o6)) = true) ∧ (flatTVs [TV.own (1 : Nat) (cmpR (srtR o6))] && true) = true ∧ Q ([TV.own (1 : Nat) (cmpR (srtR o6))], [])) := by kernel_rfl

noncomputable def kidR (a : List (List PV)) (n : List UInt8) : List (List PV) := match (unrow a).list[atK (unrow a).list n]? with
  | some e => if atB (unrow a).list n = true then e.2.rows else []
  | none => []

noncomputable def S_kid : Specs := specL [(70, g_at)]

theorem kid_w (a : List (List PV)) (n : List UInt8) (Q : List TV × List TV → Prop) : (wFun C S_kid 33 [.pv (.sl a), .pv (.str n)] Q) (H.b H.auto (H.n (1 : Nat) (H.s H.auto))) = ((∃ (t : Tr), a = Tr.rows t ∧ List.length (Tr.list t) ≤ (4000000 : Nat)) ∧ ((!atB (Tr.list (unrow a)) n) = true → Q ([TV.pv (PV.sl []), TV.pv (PV.bool false)], [])) ∧ ((!atB (Tr.list (unrow a)) n) = false → ∃ (s : List UInt8), ∃ (es : List (List PV)), a[Int.toNat (↑(atK (Tr.list (unrow a)) n) : Int)]? = some [PV.str s, PV.sl es] ∧ Q ([TV.pv (PV.sl es), TV.pv (PV.bool true)], []))) := by kernel_rfl

noncomputable def g_kid : List TV → Option Alts
  | [.pv (.sl a), .pv (.str n)] => one (∃ t : Tr, a = t.rows ∧ t.list.length ≤ 4000000) ([.pv (.sl (kidR a n)), .pv (.bool (atB (unrow a).list n))], [])
  | _ => none
def trow (t : Tr) : List PV := [.sl t.rows]
def namesOk (a : List (List PV)) : Prop := ∃ ts : List Tr, a = ts.map trow ∧ ts.length ≤ 10 ∧ ∀ t ∈ ts, t.list.length ≤ 4000
def g_names : List TV → Option Alts
  | [.pv (.sl a)] => one (namesOk a) ([.own 1 (namesR a)], [])
  | _ => none

noncomputable def S_tn : Specs := specL [(16, g_few), (18, g_makeA), (32, g_names), (33, g_kid)]

theorem tn_w (a b : List (List PV)) (Q : List TV × List TV → Prop) : (wFun C S_tn 10 [.pv (.sl a), .pv (.sl b)] Q) (H.n (1 : Nat) (H.b H.auto (H.n (3 : Nat) (H.b H.auto (H.s H.auto))))) = ((∃ (l : Tr), a = Tr.rows l ∧ List.length (Tr.list l) ≤ (140737488351232 : Nat) ∧ Tr.lim (140737488351232 : Nat) l) ∧ ((!fewF a) = true → Q ([TV.pv (PV.bool true)], [])) ∧ ((!fewF a) = false → (∃ (l : Tr), b = Tr.rows l ∧ List.length (Tr.list l) ≤ (140737488351232 : Nat) ∧ Tr.lim (140737488351232 : Nat) l) ∧ ((!fewF b) = true → Q ([TV.pv (PV.bool true)], [])) ∧ ((!fewF b) = false → (∃ (l : Tr), a = Tr.rows l ∧ List.length (Tr.list l) ≤ (140737488351232 : Nat) ∧ Tr.lim (140737488351232 : Nat) l ∧ ((0 : Int) ≤ (10 : Int) ∧ (10 : Int) ≤ (4000 : Int)) ∧ (0 : Int) ≤ (2 : Int) ∧ (2 : Int) ≤ (4000 : Int)) ∧ (∃ (l : Tr), b = Tr.rows l ∧ List.length (Tr.list l) ≤ (140737488351232 : Nat) ∧ Tr.lim (140737488351232 : Nat) l ∧ ((0 : Int) ≤ (10 : Int) ∧ (10 : Int) ≤ (4000 : Int)) ∧ (0 : Int) ≤ (2 : Int) ∧ (2 : Int) ≤ (4000 : Int)) ∧ (∃ (ts : List Tr), [[PV.sl (Tr.rows (makeF (10 : Nat) (2 : Nat) (unrow a)))], [PV.sl (Tr.rows (makeF (10 : Nat) (2 : Nat) (unrow b)))]] = List.map trow ts ∧ List.length ts ≤ (10 : Nat) ∧ ∀ (t : Tr), t ∈ ts → List.length (Tr.list t) ≤ (4000 : Nat)) ∧ (flatTVs [TV.own (1 : Nat) (namesR [[PV.sl (Tr.rows (makeF (10 : Nat) (2 : Nat) (unrow a)))], [PV.sl (Tr.rows (makeF (10 : Nat) (2 : Nat) (unrow b)))]])] && true) = true ∧ LoopAt C (10 : FuncId) (CP.dn (CP.dn (CP.dn (CP.dn (CP.dn (CP.dn (CP.dn (CP.dn CP.top (1 : Nat)) (1 : Nat)) (1 : Nat)) (1 : Nat)) (1 : Nat)) (0 : Nat)) (1 : Nat)) (0 : Nat)) (St.mk [((5 : Nat), AV.pv (PV.sl (Tr.rows (makeF (10 : Nat) (2 : Nat) (unrow a))))), ((6 : Nat), AV.pv (PV.sl (Tr.rows (makeF (10 : Nat) (2 : Nat) (unrow b))))), ((7 : Nat), AV.own (14 : Nat)), ((8 : Nat), AV.pv (PV.int IntKind.i64 (0 : Int)))] [((14 : Nat), Obj.buf (1 : Nat) (namesR [[PV.sl (Tr.rows (makeF (10 : Nat) (2 : Nat) (unrow a)))], [PV.sl (Tr.rows (makeF (10 : Nat) (2 : Nat) (unrow b)))]]))]) (exK (blockK (0 : Nat) (seqK (wAt C S_tn (10 : FuncId) (99994 : Nat) (CP.dn (CP.dn (CP.dn (CP.dn (CP.dn (CP.dn CP.top (1 : Nat)) (1 : Nat)) (1 : Nat)) (1 : Nat)) (1 : Nat)) (1 : Nat))) (retK C (10 : FuncId) [TV.pv (PV.sl a), TV.pv (PV.sl b)] Q))))))) := by kernel_rfl

def tn_c0 : CP := (CP.dn (CP.dn (CP.dn (CP.dn (CP.dn (CP.dn (CP.dn (CP.dn CP.top (1 : Nat)) (1 : Nat)) (1 : Nat)) (1 : Nat)) (1 : Nat)) (0 : Nat)) (1 : Nat)) (0 : Nat))

def tn_h0 (t5 : List (List PV)) (t6 : List (List PV)) (t8 : Int) (o14 : List (List PV)) : St := (St.mk [((5 : Nat), AV.pv (PV.sl t5)), ((6 : Nat), AV.pv (PV.sl t6)), ((7 : Nat), AV.own (14 : Nat)), ((8 : Nat), AV.pv (PV.int IntKind.i64 t8))] [((14 : Nat), Obj.buf (1 : Nat) o14)])

theorem tn_l0 (a b : List (List PV)) (t5 : List (List PV)) (t6 : List (List PV)) (t8 : Int) (o14 : List (List PV))  (J0 : St → Prop) (Q : List TV × List TV → Prop) : (wAt C S_tn 10 1000 (tn_c0.dn 0) (tn_h0 t5 t6 t8 o14) (loopK C 10 tn_c0 J0 (exK (blockK (0 : Nat) (seqK (wAt C S_tn (10 : FuncId) (99994 : Nat) (CP.dn (CP.dn (CP.dn (CP.dn (CP.dn (CP.dn CP.top (1 : Nat)) (1 : Nat)) (1 : Nat)) (1 : Nat)) (1 : Nat)) (1 : Nat))) (retK C (10 : FuncId) [TV.pv (PV.sl a), TV.pv (PV.sl b)] Q)))))) (H.b (H.s (H.s (H.s (H.s (H.b (H.n (2 : Nat) (H.b H.auto (H.n (2 : Nat) (H.b (H.n (3 : Nat) (H.s (H.n (1 : Nat) (H.s (H.n (3 : Nat) (H.s (H.n (1 : Nat) (H.s (H.n (4 : Nat) (H.b H.auto H.auto)))))))))) H.auto)))) (H.n (5 : Nat) (H.b (H.n (3 : Nat) (H.s (H.n (1 : Nat) (H.s (H.n (3 : Nat) (H.s (H.n (1 : Nat) (H.s (H.n (4 : Nat) (H.b H.auto H.auto)))))))))) H.auto))))))) H.auto) = ((decide (t8 < (↑(List.length o14) : Int)) = true → ((0 : Int) ≤ t8 ∧ t8 < (↑(List.length o14) : Int)) ∧ ∃ (c : List PV), o14[Int.toNat t8]? = some c ∧ (1 : Nat) ≤ List.length c ∧ ∃ (s : List UInt8), List.take (1 : Nat) c = [PV.str s] ∧ (∃ (t : Tr), t5 = Tr.rows t ∧ List.length (Tr.list t) ≤ (4000000 : Nat)) ∧ ((0 : Int) ≤ t8 ∧ t8 < (↑(List.length o14) : Int)) ∧ ∃ (c : List PV), o14[Int.toNat t8]? = some c ∧ (1 : Nat) ≤ List.length c ∧ ∃ (s_1 : List UInt8), List.take (1 : Nat) c = [PV.str s_1] ∧ (∃ (t : Tr), t6 = Tr.rows t ∧ List.length (Tr.list t) ≤ (4000000 : Nat)) ∧ ((!atB (Tr.list (unrow t5)) s) = true → ((!atB (Tr.list (unrow t6)) s_1) = true → ∃ (h : H), Q ([TV.pv (PV.bool false)], [])) ∧ ((!atB (Tr.list (unrow t6)) s_1) = false → (decide (t8 > (0 : Int)) = true → ((0 : Int) ≤ IntKind.wrap IntKind.i64 (t8 - (1 : Int)) ∧ IntKind.wrap IntKind.i64 (t8 - (1 : Int)) < (↑(List.length o14) : Int)) ∧ ∃ (c : List PV), o14[Int.toNat (IntKind.wrap IntKind.i64 (t8 - (1 : Int)))]? = some c ∧ (1 : Nat) ≤ List.length c ∧ ∃ (s : List UInt8), List.take (1 : Nat) c = [PV.str s] ∧ ((0 : Int) ≤ t8 ∧ t8 < (↑(List.length o14) : Int)) ∧ ∃ (c : List PV), o14[Int.toNat t8]? = some c ∧ (1 : Nat) ≤ List.length c ∧ ∃ (s_2 : List UInt8), List.take (1 : Nat) c = [PV.str s_2] ∧ ((!Op.bytesLess s s_2) = true → ∃ (h : H), Q ([TV.pv (PV.bool false)], [])) ∧ ((!Op.bytesLess s s_2) = false → J0 (St.mk [((5 : Nat), AV.pv (PV.sl t5)), ((6 : Nat), AV.pv (PV.sl t6)), ((7 : Nat), AV.own (14 : Nat)), ((8 : Nat), AV.pv (PV.int IntKind.i64 (IntKind.wrap IntKind.i64 (t8 + (1 : Int)))))] [((14 : Nat), Obj.buf (1 : Nat) o14)]))) ∧ (decide (t8 > (0 : Int)) = false → J0 (St.mk [((5 : Nat), AV.pv (PV.sl t5)), ((6 : Nat), AV.pv (PV.sl t6)), ((7 : Nat), AV.own (14 : Nat)), ((8 : Nat), AV.pv (PV.int IntKind.i64 (IntKind.wrap IntKind.i64 (t8 + (1 : Int)))))] [((14 : Nat), Obj.buf (1 : Nat) o14)])))) ∧ ((!atB (Tr.list (unrow t5)) s) = false → (decide (t8 > (0 : Int)) = true → ((0 : Int) ≤ IntKind.wrap IntKind.i64 (t8 - (1 : Int)) ∧ IntKind.wrap IntKind.i64 (t8 - (1 : Int)) < (↑(List.length o14) : Int)) ∧ ∃ (c : List PV), o14[Int.toNat (IntKind.wrap IntKind.i64 (t8 - (1 : Int)))]? = some c ∧ (1 : Nat) ≤ List.length c ∧ ∃ (s : List UInt8), List.take (1 : Nat) c = [PV.str s] ∧ ((0 : Int) ≤ t8 ∧ t8 < (↑(List.length o14) : Int)) ∧ ∃ (c : List PV), o14[Int.toNat t8]? = some c ∧ (1 : Nat) ≤ List.length c ∧ ∃ (s_2 : List UInt8), List.take (1 : Nat) c = [PV.str s_2] ∧ ((!Op.bytesLess s s_2) = true → ∃ (h : H), Q ([TV.pv (PV.bool false)], [])) ∧ ((!Op.bytesLess s s_2) = false → J0 (St.mk [((5 : Nat), AV.pv (PV.sl t5)), ((6 : Nat), AV.pv (PV.sl t6)), ((7 : Nat), AV.own (14 : Nat)), ((8 : Nat), AV.pv (PV.int IntKind.i64 (IntKind.wrap IntKind.i64 (t8 + (1 : Int)))))] [((14 : Nat), Obj.buf (1 : Nat) o14)]))) ∧ (decide (t8 > (0 : Int)) = false → J0 (St.mk [((5 : Nat), AV.pv (PV.sl t5)), ((6 : Nat), AV.pv (PV.sl t6)), ((7 : Nat), AV.own (14 : Nat)), ((8 : Nat), AV.pv (PV.int IntKind.i64 (IntKind.wrap IntKind.i64 (t8 + (1 : Int)))))] [((14 : Nat), Obj.buf (1 : Nat) o14)])))) ∧ (decide (t8 < (↑(List.length o14) : Int)) = false → exK (blockK (0 : Nat) (seqK (wAt C S_tn (10 : FuncId) (99994 : Nat) (CP.dn (CP.dn (CP.dn (CP.dn (CP.dn (CP.dn CP.top (1 : Nat)) (1 : Nat)) (1 : Nat)) (1 : Nat)) (1 : Nat)) (1 : Nat))) (retK C (10 : FuncId) [TV.pv (PV.sl a), TV.pv (PV.sl b)] Q))) (Ex.exit (0 : Nat)) (St.mk [((36 : Nat), AV.pv (PV.bool false)), ((35 : Nat), AV.pv (PV.int IntKind.i64 (↑(List.length o14) : Int))), ((34 : Nat), AV.own (14 : Nat)), ((33 : Nat), AV.pv (PV.int IntKind.i64 t8)), ((5 : Nat), AV.pv (PV.sl t5)), ((6 : Nat), AV.pv (PV.sl t6)), ((7 : Nat), AV.own (14 : Nat)), ((8 : Nat), AV.pv (PV.int IntKind.i64 t8))] [((14 : Nat), Obj.buf (1 : Nat) o14)]))) := by kernel_rfl

def tn_s1 (t35 : Int) (t33 : Int) (t5 : List (List PV)) (t6 : List (List PV)) (t8 : Int) (o14 : List (List PV)) : St := (St.mk [((36 : Nat), AV.pv (PV.bool false)), ((35 : Nat), AV.pv (PV.int IntKind.i64 t35)), ((34 : Nat), AV.own (14 : Nat)), ((33 : Nat), AV.pv (PV.int IntKind.i64 t33)), ((5 : Nat), AV.pv (PV.sl t5)), ((6 : Nat), AV.pv (PV.sl t6)), ((7 : Nat), AV.own (14 : Nat)), ((8 : Nat), AV.pv (PV.int IntKind.i64 t8))] [((14 : Nat), Obj.buf (1 : Nat) o14)])

theorem tn_x1 (a b : List (List PV)) (t35 : Int) (t33 : Int) (t5 : List (List PV)) (t6 : List (List PV)) (t8 : Int) (o14 : List (List PV))  (Q : List TV × List TV → Prop) : (fun h => blockK (0 : Nat) (seqK (wAt C S_tn (10 : FuncId) (99994 : Nat) (CP.dn (CP.dn (CP.dn (CP.dn (CP.dn (CP.dn CP.top (1 : Nat)) (1 : Nat)) (1 : Nat)) (1 : Nat)) (1 : Nat)) (1 : Nat))) (retK C (10 : FuncId) [TV.pv (PV.sl a), TV.pv (PV.sl b)] Q)) h (Ex.exit (0 : Nat)) (tn_s1 t35 t33 t5 t6 t8 o14)) (H.s (H.b H.auto H.auto)) = ((∃ (ts : List Tr), [[PV.sl t5]] = List.map trow ts ∧ List.length ts ≤ (10 : Nat) ∧ ∀ (t : Tr), t ∈ ts → List.length (Tr.list t) ≤ (4000 : Nat)) ∧ (flatTVs [TV.own (1 : Nat) (namesR [[PV.sl t5]])] && true) = true ∧ (((↑(List.length (namesR [[PV.sl t5]])) : Int) != (↑(List.length t5) : Int)) = true → Q ([TV.pv (PV.bool false)], [])) ∧ (((↑(List.length (namesR [[PV.sl t5]])) : Int) != (↑(List.length t5) : Int)) = false → LoopAt C (10 : FuncId) (CP.dn (CP.dn (CP.dn (CP.dn (CP.dn (CP.dn (CP.dn (CP.dn (CP.dn (CP.dn (CP.dn CP.top (1 : Nat)) (1 : Nat)) (1 : Nat)) (1 : Nat)) (1 : Nat)) (1 : Nat)) (1 : Nat)) (1 : Nat)) (0 : Nat)) (1 : Nat)) (0 : Nat)) (St.mk [((5 : Nat), AV.pv (PV.sl t5)), ((6 : Nat), AV.pv (PV.sl t6)), ((7 : Nat), AV.own (14 : Nat)), ((13 : Nat), AV.own (26 : Nat)), ((14 : Nat), AV.pv (PV.int IntKind.i64 (0 : Int)))] [((14 : Nat), Obj.buf (1 : Nat) o14), ((26 : Nat), Obj.buf (1 : Nat) (namesR [[PV.sl t5]]))]) (exK (blockK (2 : Nat) (seqK (wAt C S_tn (10 : FuncId) (99991 : Nat) (CP.dn (CP.dn (CP.dn (CP.dn (CP.dn (CP.dn (CP.dn (CP.dn (CP.dn CP.top (1 : Nat)) (1 : Nat)) (1 : Nat)) (1 : Nat)) (1 : Nat)) (1 : Nat)) (1 : Nat)) (1 : Nat)) (1 : Nat))) (retK C (10 : FuncId) [TV.pv (PV.sl a), TV.pv (PV.sl b)] Q)))))) := by kernel_rfl

def tn_c2 : CP := (CP.dn (CP.dn (CP.dn (CP.dn (CP.dn (CP.dn (CP.dn (CP.dn (CP.dn (CP.dn (CP.dn CP.top (1 : Nat)) (1 : Nat)) (1 : Nat)) (1 : Nat)) (1 : Nat)) (1 : Nat)) (1 : Nat)) (1 : Nat)) (0 : Nat)) (1 : Nat)) (0 : Nat))

def tn_h2 (t5 : List (List PV)) (t6 : List (List PV)) (t14 : Int) (o14 : List (List PV)) (o26 : List (List PV)) : St := (St.mk [((5 : Nat), AV.pv (PV.sl t5)), ((6 : Nat), AV.pv (PV.sl t6)), ((7 : Nat), AV.own (14 : Nat)), ((13 : Nat), AV.own (26 : Nat)), ((14 : Nat), AV.pv (PV.int IntKind.i64 t14))] [((14 : Nat), Obj.buf (1 : Nat) o14), ((26 : Nat), Obj.buf (1 : Nat) o26)])

theorem tn_l2 (a b : List (List PV)) (t5 : List (List PV)) (t6 : List (List PV)) (t14 : Int) (o14 : List (List PV)) (o26 : List (List PV))  (J2 : St → Prop) (Q : List TV × List TV → Prop) : (wAt C S_tn 10 1000 (tn_c2.dn 0) (tn_h2 t5 t6 t14 o14 o26) (loopK C 10 tn_c2 J2 (exK (blockK (2 : Nat) (seqK (wAt C S_tn (10 : FuncId) (99991 : Nat) (CP.dn (CP.dn (CP.dn (CP.dn (CP.dn (CP.dn (CP.dn (CP.dn (CP.dn CP.top (1 : Nat)) (1 : Nat)) (1 : Nat)) (1 : Nat)) (1 : Nat)) (1 : Nat)) (1 : Nat)) (1 : Nat)) (1 : Nat))) (retK C (10 : FuncId) [TV.pv (PV.sl a), TV.pv (PV.sl b)] Q)))))) (H.b (H.s (H.s (H.s (H.s (H.b H.auto H.auto))))) H.auto) = ((decide (t14 < (↑(List.length o26) : Int)) = true → ((0 : Int) ≤ t14 ∧ t14 < (↑(List.length o26) : Int)) ∧ ∃ (c : List PV), o26[Int.toNat t14]? = some c ∧ (1 : Nat) ≤ List.length c ∧ ∃ (s : List UInt8), List.take (1 : Nat) c = [PV.str s] ∧ (0 : Int) ≤ t14 ∧ ∃ (s_1 : List UInt8), ∃ (es : List (List PV)), t5[Int.toNat t14]? = some [PV.str s_1, PV.sl es] ∧ ((!s == s_1) = true → ∃ (h : H), Q ([TV.pv (PV.bool false)], [])) ∧ ((!s == s_1) = false → J2 (St.mk [((5 : Nat), AV.pv (PV.sl t5)), ((6 : Nat), AV.pv (PV.sl t6)), ((7 : Nat), AV.own (14 : Nat)), ((13 : Nat), AV.own (26 : Nat)), ((14 : Nat), AV.pv (PV.int IntKind.i64 (IntKind.wrap IntKind.i64 (t14 + (1 : Int)))))] [((14 : Nat), Obj.buf (1 : Nat) o14), ((26 : Nat), Obj.buf (1 : Nat) o26)]))) ∧ (decide (t14 < (↑(List.length o26) : Int)) = false → exK (blockK (2 : Nat) (seqK (wAt C S_tn (10 : FuncId) (99991 : Nat) (CP.dn (CP.dn (CP.dn (CP.dn (CP.dn (CP.dn (CP.dn (CP.dn (CP.dn CP.top (1 : Nat)) (1 : Nat)) (1 : Nat)) (1 : Nat)) (1 : Nat)) (1 : Nat)) (1 : Nat)) (1 : Nat)) (1 : Nat))) (retK C (10 : FuncId) [TV.pv (PV.sl a), TV.pv (PV.sl b)] Q))) (Ex.exit (2 : Nat)) (St.mk [((90 : Nat), AV.pv (PV.bool false)), ((89 : Nat), AV.pv (PV.int IntKind.i64 (↑(List.length o26) : Int))), ((88 : Nat), AV.own (26 : Nat)), ((87 : Nat), AV.pv (PV.int IntKind.i64 t14)), ((5 : Nat), AV.pv (PV.sl t5)), ((6 : Nat), AV.pv (PV.sl t6)), ((7 : Nat), AV.own (14 : Nat)), ((13 : Nat), AV.own (26 : Nat)), ((14 : Nat), AV.pv (PV.int IntKind.i64 t14))] [((14 : Nat), Obj.buf (1 : Nat) o14), ((26 : Nat), Obj.buf (1 : Nat) o26)]))) := by kernel_rfl

def tn_s3 (t89 : Int) (t87 : Int) (t5 : List (List PV)) (t6 : List (List PV)) (t14 : Int) (o14 : List (List PV)) (o26 : List (List PV)) : St := (St.mk [((90 : Nat), AV.pv (PV.bool false)), ((89 : Nat), AV.pv (PV.int IntKind.i64 t89)), ((88 : Nat), AV.own (26 : Nat)), ((87 : Nat), AV.pv (PV.int IntKind.i64 t87)), ((5 : Nat), AV.pv (PV.sl t5)), ((6 : Nat), AV.pv (PV.sl t6)), ((7 : Nat), AV.own (14 : Nat)), ((13 : Nat), AV.own (26 : Nat)), ((14 : Nat), AV.pv (PV.int IntKind.i64 t14))] [((14 : Nat), Obj.buf (1 : Nat) o14), ((26 : Nat), Obj.buf (1 : Nat) o26)])

theorem tn_x3 (a b : List (List PV)) (t89 : Int) (t87 : Int) (t5 : List (List PV)) (t6 : List (List PV)) (t14 : Int) (o14 : List (List PV)) (o26 : List (List PV))  (Q : List TV × List TV → Prop) : (fun h => blockK (2 : Nat) (seqK (wAt C S_tn (10 : FuncId) (99991 : Nat) (CP.dn (CP.dn (CP.dn (CP.dn (CP.dn (CP.dn (CP.dn (CP.dn (CP.dn CP.top (1 : Nat)) (1 : Nat)) (1 : Nat)) (1 : Nat)) (1 : Nat)) (1 : Nat)) (1 : Nat)) (1 : Nat)) (1 : Nat))) (retK C (10 : FuncId) [TV.pv (PV.sl a), TV.pv (PV.sl b)] Q)) h (Ex.exit (2 : Nat)) (tn_s3 t89 t87 t5 t6 t14 o14 o26)) (H.b (H.n (5 : Nat) (H.b (H.n (8 : Nat) (H.b H.auto H.auto)) H.auto)) H.auto) = ((decide ((↑(List.length o14) : Int) ≥ (↑(List.length t5) : Int)) = true → (decide ((↑(List.length o14) : Int) ≥ (↑(List.length t6) : Int)) = true → (decide ((↑(List.length o14) : Int) ≤ IntKind.wrap IntKind.i64 ((↑(List.length t5) : Int) + (↑(List.length t6) : Int))) = true → (∃ (ts : List Tr), [] = List.map trow ts ∧ List.length ts ≤ (10 : Nat) ∧ ∀ (t : Tr), t ∈ ts → List.length (Tr.list t) ≤ (4000 : Nat)) ∧ Q ([TV.pv (PV.bool true)], [])) ∧ (decide ((↑(List.length o14) : Int) ≤ IntKind.wrap IntKind.i64 ((↑(List.length t5) : Int) + (↑(List.length t6) : Int))) = false → Q ([TV.pv (PV.bool false)], []))) ∧ (decide ((↑(List.length o14) : Int) ≥ (↑(List.length t6) : Int)) = false → Q ([TV.pv (PV.bool false)], []))) ∧ (decide ((↑(List.length o14) : Int) ≥ (↑(List.length t5) : Int)) = false → Q ([TV.pv (PV.bool false)], []))) := by kernel_rfl

def allT (ts : List Tr) : List (List UInt8) := ts.flatMap namesT
theorem nmsR_rows (t : Tr) : nmsR t.rows = namesT t := by
  unfold nmsR namesT
  rw [rows_list, List.map_map]
  rfl
theorem allR_map (ts : List Tr) : allR (ts.map trow) = allT ts := by
  unfold allR allT
  rw [List.flatMap_map]
  congr 1
  funext t
  exact nmsR_rows t
theorem allT_len : ∀ {ts : List Tr}, (∀ t ∈ ts, t.list.length ≤ 4000) → (allT ts).length ≤ 4000 * ts.length
  | [], _ => by simp [allT]
  | t :: ts, h => by
    have ih := allT_len (ts := ts) fun u hu => h u (List.mem_cons_of_mem _ hu)
    have := h t (by simp)
    have e : allT (t :: ts) = namesT t ++ allT ts := by simp [allT]
    rw [e, List.length_append, List.length_cons]
    have : (namesT t).length = t.list.length := by simp [namesT]
    omega
theorem allT_take (ts : List Tr) {i : Nat} (h : i < ts.length) : allT (ts.take (i + 1)) = allT (ts.take i) ++ namesT ts[i] := by
  unfold allT
  rw [List.take_succ_eq_append_getElem h, List.flatMap_append]
  simp

theorem sort_ok : ∀ ag al, g_sort ag = some al → ∀ a ∈ al, a.1 → Ev C 67 ag a.2 := by
  intro ag al hl x hx hp
  unfold g_sort at hl
  split at hl
  · have e := one_mem hl hx; subst e
    obtain ⟨l, rfl, h1⟩ := hp
    refine ev_ext (g := xSort) (by kernel_rfl) ?_
    simp only [xSort, strsOf_map, srtR, unstr_map]
    rw [if_pos h1]
  · exact absurd hl (by simp)
theorem cmp_ok : ∀ ag al, g_cmp ag = some al → ∀ a ∈ al, a.1 → Ev C 69 ag a.2 := by
  intro ag al hl x hx hp
  unfold g_cmp at hl
  split at hl
  · have e := one_mem hl hx; subst e
    obtain ⟨l, rfl, h1⟩ := hp
    refine ev_ext (g := xCompact) (by kernel_rfl) ?_
    simp only [xCompact, strsOf_map, cmpR, unstr_map]
    rw [if_pos h1]
  · exact absurd hl (by simp)
theorem clS_ok : ∀ ag al, g_clS ag = some al → ∀ a ∈ al, a.1 → Ev C 68 ag a.2 := by
  intro ag al hl a ha hp
  unfold g_clS at hl
  split at hl
  · have e := one_mem hl ha; subst e
    have e1 : bytesT Try.prog 9 = 16 := by kernel_rfl
    have e2 : sizeT Try.prog 9 = 1 := by kernel_rfl
    refine ev_ext (g := xClone Try.prog 9) (by kernel_rfl) ?_
    simp only [xClone, e1, e2]
    rw [if_pos hp]
  · exact absurd hl (by simp)
theorem nms_S : SpecOK C S_nms := specL_ok (specs_cons sort_ok (specs_cons cmp_ok (specs_cons clS_ok specs_nil)))

theorem srtR_map (l : List (List UInt8)) : srtR (l.map strRow) = (sortS l).map strRow := by unfold srtR; rw [unstr_map]
theorem cmpR_map (l : List (List UInt8)) : cmpR (l.map strRow) = (Lib.compact l).map strRow := by unfold cmpR; rw [unstr_map]
theorem sortS_len (l : List (List UInt8)) : (sortS l).length = l.length := by simp [sortS]
theorem rowOk_str (l : List (List UInt8)) : rowOk 1 (l.map strRow) = true := by simp [rowOk, strRow]

theorem nms_ev (ts : List Tr) (h1 : ts.length ≤ 10) (h2 : ∀ t ∈ ts, t.list.length ≤ 4000) : Ev C 32 [.pv (.sl (ts.map trow))] ([.own 1 (namesR (ts.map trow))], []) := by
  have hr := room_val
  have hm := maxInt_val
  have hl : (ts.map trow).length = ts.length := List.length_map ..
  have hall := allT_len h2
  refine ev_w nms_S (nms_w _ _) ?_
  refine loop_rule nms_S (by kernel_rfl) 1000 (fun n st => ∃ i : Nat, st = nms_h0 (ts.map trow) ts.length i ((allT (ts.take i)).map strRow) ∧ i ≤ ts.length ∧ n = ts.length - i) ?_ (n := ts.length) ⟨0, by rw [hl]; rfl, by omega, by omega⟩
  rintro n st ⟨i, rfl, hi, rfl⟩
  refine ex_w (nms_l0 _ _ _ _ _ _ _) ⟨fun h => ?_, fun h => ?_⟩
  · simp only [decide_eq_true_eq] at h
    have hi' : i < ts.length := by omega
    have hti : ts[i].list.length ≤ 4000 := h2 _ (List.getElem_mem hi')
    have hpre : (allT (ts.take i)).length ≤ 4000 * i := by
      have := allT_len (ts := ts.take i) fun t ht => h2 t (List.mem_of_mem_take ht)
      rw [List.length_take, Nat.min_eq_left hi] at this
      exact this
    refine ⟨by omega, ts[i].rows, by rw [Int.toNat_natCast, List.getElem?_map, List.getElem?_eq_getElem hi']; rfl, ?_⟩
    rw [rows_len]
    refine loop_rule nms_S (by kernel_rfl) 1000 (fun n st => ∃ j : Nat, st = nms_h1 (ts.map trow) ts.length i ts[i].rows ts[i].list.length j ((allT (ts.take i) ++ (namesT ts[i]).take j).map strRow) ∧ j ≤ ts[i].list.length ∧ n = ts[i].list.length - j) ?_ (n := ts[i].list.length) ⟨0, by simp [nms_h1], by omega, by omega⟩
    rintro n st ⟨j, rfl, hj, rfl⟩
    have hnl : (namesT ts[i]).length = ts[i].list.length := by simp [namesT]
    refine ex_w (nms_l1 _ _ _ _ _ _ _ _ _ _ _) ⟨fun h => ?_, fun h => ?_⟩
    · simp only [decide_eq_true_eq] at h
      have hj' : j < ts[i].list.length := by omega
      refine ⟨by omega, _, _, row_get ts[i] hj', ?_, ts[i].list.length - (j + 1), by omega, j + 1, ?_, by omega, rfl⟩
      · rw [List.length_map, List.length_append, List.length_take]
        omega
      · rw [w64s (by omega)]
        have e : (namesT ts[i]).take (j + 1) = (namesT ts[i]).take j ++ [ts[i].list[j].1] := by
          rw [List.take_succ_eq_append_getElem (by omega)]
          simp [namesT]
        rw [e]
        simp [nms_h1, strRow]
    · simp only [decide_eq_false_iff_not] at h
      have hj' : j = ts[i].list.length := by omega
      subst hj'
      refine ⟨.auto, ts.length - (i + 1), by omega, i + 1, ?_, by omega, rfl⟩
      rw [w64s (by omega), allT_take ts hi', List.take_of_length_le (l := namesT ts[i]) (by omega)]
      rfl
  · simp only [decide_eq_false_iff_not] at h
    have hi' : i = ts.length := by omega
    subst hi'
    rw [List.take_length]
    refine ex_w (nms_x2 _ _ _ _ _ _) ?_
    have hn := namesF_len (allT ts)
    have e : (Lib.compact (sortS (allT ts))) = namesF (allT ts) := rfl
    rw [srtR_map, cmpR_map, e]
    refine ⟨⟨_, rfl, by omega⟩, by simp [sortS_len], ⟨_, rfl, by rw [sortS_len]; omega⟩, ⟨by rw [List.length_map]; omega, by rw [List.length_map]; omega, rowOk_str _⟩, ?_, ?_⟩
    · simp [flatTVs, flatTV, strRow, flatPVs, flatPV]
    · rw [namesR, allR_map]

theorem names_ok : ∀ ag al, g_names ag = some al → ∀ a ∈ al, a.1 → Ev C 32 ag a.2 := by
  intro ag al hl x hx hp
  unfold g_names at hl
  split at hl
  · have e := one_mem hl hx; subst e
    obtain ⟨ts, rfl, h1, h2⟩ := hp
    exact nms_ev ts h1 h2
  · exact absurd hl (by simp)

theorem kid_S : SpecOK C S_kid := specL_ok (specs_cons at_ok specs_nil)
theorem kid_ev (t : Tr) (n : List UInt8) (ht : t.list.length ≤ 4000000) : Ev C 33 [.pv (.sl t.rows), .pv (.str n)] ([.pv (.sl (kidR t.rows n)), .pv (.bool (atB t.list n))], []) := by
  refine ev_w kid_S (kid_w t.rows n _) ?_
  unfold kidR
  rw [unrow_rows]
  refine ⟨⟨t, rfl, ht⟩, fun h => ?_, fun h => ?_⟩
  · have h : atB t.list n = false := by simpa using h
    rw [h]
    cases t.list[atK t.list n]? <;> simp
  · have h : atB t.list n = true := by simpa using h
    have hk := atB_lt h
    refine ⟨_, _, row_get t hk, ?_⟩
    rw [h, List.getElem?_eq_getElem hk]
    simp
theorem kid_ok : ∀ ag al, g_kid ag = some al → ∀ a ∈ al, a.1 → Ev C 33 ag a.2 := by
  intro ag al hl x hx hp
  unfold g_kid at hl
  split at hl
  · have e := one_mem hl hx; subst e
    obtain ⟨t, rfl, ht⟩ := hp
    rw [unrow_rows]
    exact kid_ev t _ ht
  · exact absurd hl (by simp)

theorem tn_S : SpecOK C S_tn := specL_ok (specs_cons few_ok (specs_cons makeA_ok (specs_cons names_ok (specs_cons kid_ok specs_nil))))

theorem namesR_map (ts : List Tr) : namesR (ts.map trow) = (namesF (allT ts)).map strRow := by rw [namesR, allR_map]
theorem str_get (l : List (List UInt8)) {i : Nat} (h : i < l.length) : (l.map strRow)[((i : Int)).toNat]? = some (strRow l[i]) := by
  rw [Int.toNat_natCast, List.getElem?_map, List.getElem?_eq_getElem h]; rfl
theorem flat_str (l : List (List UInt8)) : (flatTVs [TV.own 1 (l.map strRow)] && true) = true := by simp [flatTVs, flatTV, strRow, flatPVs, flatPV]

theorem tn_ev (l m : Tr) (h1 : l.list.length ≤ 140737488351232) (h2 : l.lim 140737488351232) (h3 : m.list.length ≤ 140737488351232) (h4 : m.lim 140737488351232) : Ev C 10 [.pv (.sl l.rows), .pv (.sl m.rows)] good := by
  refine ev_w tn_S (tn_w l.rows m.rows _) ⟨⟨l, rfl, h1, h2⟩, fun _ => rfl, fun f1 => ⟨⟨m, rfl, h3, h4⟩, fun _ => rfl, fun f2 => ?_⟩⟩
  have wa := make_wide 10 l 2
  have wb := make_wide 10 m 2
  have sa := make_sortE 10 2 l
  have sb := make_sortE 10 2 m
  refine ⟨⟨l, rfl, h1, h2, by omega, by omega⟩, ⟨m, rfl, h3, h4, by omega, by omega⟩, ?_⟩
  rw [unrow_rows, unrow_rows]
  generalize makeF 10 2 l = a at *
  generalize makeF 10 2 m = b at *
  have e0 : [[PV.sl a.rows], [PV.sl b.rows]] = [a, b].map trow := rfl
  have e1 : [[PV.sl a.rows]] = [a].map trow := rfl
  have pa := (sortE_pair sa).1
  have pb := (sortE_pair sb).1
  have la : (namesT a).length = a.list.length := by simp [namesT]
  have lb : (namesT b).length = b.list.length := by simp [namesT]
  have eall : allT [a, b] = namesT a ++ namesT b := by simp [allT]
  have eone : namesF (allT [a]) = namesT a := by
    have : allT [a] = namesT a := by simp [allT]
    rw [this]; exact namesF_id pa
  have hmem := namesF_mem (allT [a, b])
  have hlt := namesF_lt (allT [a, b])
  have hal : (allT [a, b]).length = a.list.length + b.list.length := by rw [eall, List.length_append, la, lb]
  have hlen : (namesF (allT [a, b])).length ≤ a.list.length + b.list.length := hal ▸ namesF_len (allT [a, b])
  rw [e0, namesR_map]
  refine ⟨⟨_, rfl, by simp, by intro t ht; simp only [List.mem_cons, List.not_mem_nil, or_false] at ht; rcases ht with rfl | rfl <;> omega⟩, flat_str _, ?_⟩
  have hka : (namesT a).length ≤ (namesF (allT [a, b])).length := (nodup_lt pa).length_le_of_subset fun x hx => (hmem x).2 (by rw [eall]; exact List.mem_append_left _ hx)
  have hkb : (namesT b).length ≤ (namesF (allT [a, b])).length := (nodup_lt pb).length_le_of_subset fun x hx => (hmem x).2 (by rw [eall]; exact List.mem_append_right _ hx)
  generalize namesF (allT [a, b]) = n at *
  refine loop_rule tn_S (by kernel_rfl) 1000 (fun k st => ∃ i : Nat, st = tn_h0 a.rows b.rows i (n.map strRow) ∧ i ≤ n.length ∧ k = n.length - i) ?_ (n := n.length) ⟨0, rfl, by omega, by omega⟩
  rintro k st ⟨i, rfl, hi, rfl⟩
  refine ex_w (tn_l0 _ _ _ _ _ _ _ _) ?_
  rw [List.length_map, unrow_rows, unrow_rows]
  refine ⟨fun h => ?_, fun h => ?_⟩
  · simp only [decide_eq_true_eq] at h
    have hi' : i < n.length := by omega
    have hs := str_get n hi'
    have hnext : ∃ k, k < n.length - i ∧ ∃ j : Nat, St.mk [(5, AV.pv (PV.sl a.rows)), (6, AV.pv (PV.sl b.rows)), (7, AV.own 14), (8, AV.pv (PV.int .i64 (IntKind.wrap .i64 ((i : Int) + 1))))] [(14, Obj.buf 1 (n.map strRow))] = tn_h0 a.rows b.rows j (n.map strRow) ∧ j ≤ n.length ∧ k = n.length - j := ⟨n.length - (i + 1), by omega, i + 1, by rw [w64s (by omega)]; rfl, by omega, rfl⟩
    have hord : decide ((i : Int) > 0) = true → (0 ≤ IntKind.wrap .i64 ((i : Int) - 1) ∧ IntKind.wrap .i64 ((i : Int) - 1) < (n.length : Int)) ∧ ∃ (c : List PV), (n.map strRow)[Int.toNat (IntKind.wrap .i64 ((i : Int) - 1))]? = some c ∧ 1 ≤ List.length c ∧ ∃ (s : List UInt8), List.take 1 c = [PV.str s] ∧ (0 ≤ (i : Int) ∧ (i : Int) < (n.length : Int)) ∧ ∃ (c : List PV), (n.map strRow)[Int.toNat (i : Int)]? = some c ∧ 1 ≤ List.length c ∧ ∃ (s_2 : List UInt8), List.take 1 c = [PV.str s_2] ∧ (!Op.bytesLess s s_2) = false := by
      intro h0
      simp only [decide_eq_true_eq] at h0
      have e : IntKind.wrap .i64 ((i : Int) - 1) = ((i - 1 : Nat) : Int) := by rw [w64 (by omega)]; omega
      rw [e]
      refine ⟨by omega, _, str_get n (by omega : i - 1 < n.length), by simp [strRow], _, rfl, by omega, _, hs, by simp [strRow], _, rfl, ?_⟩
      rw [bl_eq]
      simpa using List.pairwise_iff_getElem.1 hlt (i - 1) i (by omega) hi' (by omega)
    have hcont : ∀ {P : Prop}, (decide ((i : Int) > 0) = true → (0 ≤ IntKind.wrap .i64 ((i : Int) - 1) ∧ IntKind.wrap .i64 ((i : Int) - 1) < (n.length : Int)) ∧ ∃ (c : List PV), (n.map strRow)[Int.toNat (IntKind.wrap .i64 ((i : Int) - 1))]? = some c ∧ 1 ≤ List.length c ∧ ∃ (s : List UInt8), List.take 1 c = [PV.str s] ∧ (0 ≤ (i : Int) ∧ (i : Int) < (n.length : Int)) ∧ ∃ (c : List PV), (n.map strRow)[Int.toNat (i : Int)]? = some c ∧ 1 ≤ List.length c ∧ ∃ (s_2 : List UInt8), List.take 1 c = [PV.str s_2] ∧ ((!Op.bytesLess s s_2) = true → P) ∧ ((!Op.bytesLess s s_2) = false → ∃ k, k < n.length - i ∧ ∃ j : Nat, St.mk [(5, AV.pv (PV.sl a.rows)), (6, AV.pv (PV.sl b.rows)), (7, AV.own 14), (8, AV.pv (PV.int .i64 (IntKind.wrap .i64 ((i : Int) + 1))))] [(14, Obj.buf 1 (n.map strRow))] = tn_h0 a.rows b.rows j (n.map strRow) ∧ j ≤ n.length ∧ k = n.length - j)) := fun h0 => by
      obtain ⟨c1, c, c2, c3, s, c4, c5, c', c6, c7, s2, c8, c9⟩ := hord h0
      exact ⟨c1, c, c2, c3, s, c4, c5, c', c6, c7, s2, c8, fun h => by rw [c9] at h; exact absurd h (by simp), fun _ => hnext⟩
    refine ⟨by omega, _, hs, by simp [strRow], _, rfl, ⟨a, rfl, by omega⟩, by omega, _, hs, by simp [strRow], _, rfl, ⟨b, rfl, by omega⟩, fun na => ⟨fun nb => ?_, fun _ => ⟨hcont, fun _ => hnext⟩⟩, fun _ => ⟨hcont, fun _ => hnext⟩⟩
    have hx := (hmem n[i]).1 (List.getElem_mem hi')
    rw [eall, List.mem_append] at hx
    rcases hx with hx | hx
    · rw [atB_mem sa hx] at na; simp at na
    · rw [atB_mem sb hx] at nb; simp at nb
  · refine ex_w (tn_x1 _ _ _ _ _ _ _ _ _) ?_
    rw [e1, namesR_map, eone, List.length_map, rows_len, la]
    refine ⟨⟨_, rfl, by simp, by intro t ht; simp only [List.mem_cons, List.not_mem_nil, or_false] at ht; subst ht; omega⟩, flat_str _, fun h => by simp at h, fun _ => ?_⟩
    refine loop_rule tn_S (by kernel_rfl) 1000 (fun k st => ∃ i : Nat, st = tn_h2 a.rows b.rows i (n.map strRow) ((namesT a).map strRow) ∧ i ≤ a.list.length ∧ k = a.list.length - i) ?_ (n := a.list.length) ⟨0, rfl, by omega, by omega⟩
    rintro k st ⟨j, rfl, hj, rfl⟩
    refine ex_w (tn_l2 _ _ _ _ _ _ _ _ _) ?_
    rw [List.length_map, la]
    refine ⟨fun h => ?_, fun h => ?_⟩
    · simp only [decide_eq_true_eq] at h
      have hj' : j < a.list.length := by omega
      refine ⟨by omega, _, str_get (namesT a) (by omega : j < (namesT a).length), by simp [strRow], _, rfl, by omega, _, _, row_get a hj', fun h => ?_, fun _ => ⟨a.list.length - (j + 1), by omega, j + 1, by rw [w64s (by omega)]; rfl, by omega, rfl⟩⟩
      exact absurd h (by simp [namesT])
    · refine ex_w (tn_x3 _ _ _ _ _ _ _ _ _ _) ?_
      rw [List.length_map, rows_len, rows_len, w64 (by omega)]
      refine ⟨fun _ => ⟨fun _ => ⟨fun _ => ⟨⟨[], rfl, by simp, by simp⟩, rfl⟩, fun h => ?_⟩, fun h => ?_⟩, fun h => ?_⟩
      · simp only [decide_eq_false_iff_not] at h; omega
      · simp only [decide_eq_false_iff_not] at h; omega
      · simp only [decide_eq_false_iff_not] at h; omega

theorem TreeNames_calls (e1 : List (List PV)) (s1 : Shp Try.prog 35 [.sl e1]) (e2 : List (List PV)) (s2 : Shp Try.prog 35 [.sl e2]) {w : World} {args : List Value} (hr : RepA w noCells [.sl e1, .sl e2] args) : Calls Try.prog 10 args.toArray w fun e w' => e = .returned (.bool true) ∧ Below w.heap.size w w' := by
  obtain ⟨l, rfl, h1, h2⟩ := raw_of (E := 70) (by kernel_rfl) s1
  obtain ⟨m, rfl, h3, h4⟩ := raw_of (E := 70) (by kernel_rfl) s2
  obtain ⟨k, h⟩ := (tn_ev l m h1 h2 h3 h4).get
  exact law_calls (C := C) progOKp Try.func10 (by kernel_rfl) (sound h) hr

end Go.Proofs.Ytmjkdghcfihfiaa.Vm
