/-
  Edges of two trees, sorted by their names, in the machine.
-/
import Derived.Test.YtbnjbianobdleaaGreatSayLensOf
namespace Go.Proofs.YtbnjbianobdleaaGreat.Vm
open Go Go.RowKit
set_option linter.unusedVariables false
set_option linter.unusedSimpArgs false
set_option maxRecDepth 100000

def cmpI (n m : List UInt8) : Int := if Op.bytesLess n m = true then -1 else if Op.bytesLess m n = true then 1 else 0

/-- Edges in order: what is known of what comes out. -/
def sortP (es : List (List PV)) (m : List Edge) : Prop := (∀ l : List Edge, es = l.map rowE → m.Perm l) ∧ m.Pairwise fun x y => x.1 ≤ y.1
noncomputable def sortR (es : List (List PV)) : List (List PV) := @dite _ (∃ m : List Edge, sortP es m ∧ Ev C 120 [.own 2 es, .pv (.int .i64 0), .pv (.int .i64 es.length), .pv (.fn 93 [])] ([], [.own 2 (m.map rowE)])) (Classical.propDecidable _) (fun h => h.choose.map rowE) (fun _ => [])
def catR (x y : List (List PV)) : List (List PV) := x ++ y

theorem b1_w (n m : List UInt8) (a b : List (List PV)) (Q : List TV × List TV → Prop) : (wFun C noSpec 93 [.pv (.agg [.str n, .sl a]), .pv (.agg [.str m, .sl b])] Q) (H.b H.auto (H.b H.auto H.auto)) = ((Op.bytesLess n m = true → Q ([TV.pv (PV.int IntKind.i64 (-1 : Int))], [])) ∧ (Op.bytesLess n m = false → ((!(Op.bytesLess n m || n == m)) = true → Q ([TV.pv (PV.int IntKind.i64 (1 : Int))], [])) ∧ ((!(Op.bytesLess n m || n == m)) = false → Q ([TV.pv (PV.int IntKind.i64 (0 : Int))], [])))) := by kernel_rfl

def g_b1 : List TV → Option Alts
  | [.pv (.agg [.str n, .sl a]), .pv (.agg [.str m, .sl b])] => one True ([.pv (.int .i64 (cmpI n m))], [])
  | _ => none

def S_ist : Specs := specL [(93, g_b1)]

theorem ist_w (es : List (List PV)) (n : Int) (Q : List TV × List TV → Prop) : (wFun C S_ist 120 [.own 2 es, .pv (.int .i64 0), .pv (.int .i64 n), .pv (.fn 93 [])] Q) (H.auto) = (LoopAt C (120 : FuncId) (CP.dn (CP.dn CP.top (1 : Nat)) (0 : Nat)) (St.mk [((0 : Nat), AV.own (1 : Nat)), ((1 : Nat), AV.pv (PV.int IntKind.i64 (0 : Int))), ((2 : Nat), AV.pv (PV.int IntKind.i64 n)), ((3 : Nat), AV.pv (PV.fn (93 : FuncId) [])), ((8 : Nat), AV.pv (PV.int IntKind.i64 (1 : Int)))] [((1 : Nat), Obj.buf (2 : Nat) es)]) (exK (blockK (0 : Nat) (retK C (120 : FuncId) [TV.own (2 : Nat) es, TV.pv (PV.int IntKind.i64 (0 : Int)), TV.pv (PV.int IntKind.i64 n), TV.pv (PV.fn (93 : FuncId) [])] Q)))) := by kernel_rfl

def ist_c0 : CP := (CP.dn (CP.dn CP.top (1 : Nat)) (0 : Nat))

def ist_h0 (t1 : Int) (t2 : Int) (t8 : Int) (o1 : List (List PV)) : St := (St.mk [((0 : Nat), AV.own (1 : Nat)), ((1 : Nat), AV.pv (PV.int IntKind.i64 t1)), ((2 : Nat), AV.pv (PV.int IntKind.i64 t2)), ((3 : Nat), AV.pv (PV.fn (93 : FuncId) [])), ((8 : Nat), AV.pv (PV.int IntKind.i64 t8))] [((1 : Nat), Obj.buf (2 : Nat) o1)])

theorem ist_l0 (es : List (List PV)) (n : Int) (t1 : Int) (t2 : Int) (t8 : Int) (o1 : List (List PV))  (J0 : St → Prop) (Q : List TV × List TV → Prop) : (wAt C S_ist 120 1000 (ist_c0.dn 0) (ist_h0 t1 t2 t8 o1) (loopK C 120 ist_c0 J0 (exK (blockK (0 : Nat) (retK C (120 : FuncId) [TV.own (2 : Nat) es, TV.pv (PV.int IntKind.i64 (0 : Int)), TV.pv (PV.int IntKind.i64 n), TV.pv (PV.fn (93 : FuncId) [])] Q))))) (H.b H.auto H.auto) = ((decide (t8 < t2) = true → LoopAt C (120 : FuncId) (CP.dn (CP.dn (CP.dn (CP.dn (CP.dn (CP.dn ist_c0 (0 : Nat)) (1 : Nat)) (0 : Nat)) (0 : Nat)) (1 : Nat)) (0 : Nat)) (St.mk [((0 : Nat), AV.own (1 : Nat)), ((1 : Nat), AV.pv (PV.int IntKind.i64 t1)), ((2 : Nat), AV.pv (PV.int IntKind.i64 t2)), ((3 : Nat), AV.pv (PV.fn (93 : FuncId) [])), ((8 : Nat), AV.pv (PV.int IntKind.i64 t8)), ((9 : Nat), AV.pv (PV.int IntKind.i64 t8))] [((1 : Nat), Obj.buf (2 : Nat) o1)]) (exK (blockK (2 : Nat) (blockK (1 : Nat) (seqK (wAt C S_ist (120 : FuncId) (998 : Nat) (CP.dn (CP.dn (CP.dn ist_c0 (0 : Nat)) (1 : Nat)) (1 : Nat))) (loopK C (120 : FuncId) ist_c0 J0 (exK (blockK (0 : Nat) (retK C (120 : FuncId) [TV.own (2 : Nat) es, TV.pv (PV.int IntKind.i64 (0 : Int)), TV.pv (PV.int IntKind.i64 n), TV.pv (PV.fn (93 : FuncId) [])] Q))))))))) ∧ (decide (t8 < t2) = false → ∃ (h : H), Q ([], [TV.own (2 : Nat) o1]))) := by kernel_rfl

def ist_c1 : CP := (CP.dn (CP.dn (CP.dn (CP.dn (CP.dn (CP.dn ist_c0 (0 : Nat)) (1 : Nat)) (0 : Nat)) (0 : Nat)) (1 : Nat)) (0 : Nat))

def ist_h1 (t1 : Int) (t2 : Int) (t8 : Int) (t9 : Int) (o1 : List (List PV)) : St := (St.mk [((0 : Nat), AV.own (1 : Nat)), ((1 : Nat), AV.pv (PV.int IntKind.i64 t1)), ((2 : Nat), AV.pv (PV.int IntKind.i64 t2)), ((3 : Nat), AV.pv (PV.fn (93 : FuncId) [])), ((8 : Nat), AV.pv (PV.int IntKind.i64 t8)), ((9 : Nat), AV.pv (PV.int IntKind.i64 t9))] [((1 : Nat), Obj.buf (2 : Nat) o1)])

theorem ist_l1 (es : List (List PV)) (n : Int) (t1 : Int) (t2 : Int) (t8 : Int) (t9 : Int) (o1 : List (List PV)) (J0 : St → Prop) (J1 : St → Prop) (Q : List TV × List TV → Prop) : (wAt C S_ist 120 1000 (ist_c1.dn 0) (ist_h1 t1 t2 t8 t9 o1) (loopK C 120 ist_c1 J1 (exK (blockK (2 : Nat) (blockK (1 : Nat) (seqK (wAt C S_ist (120 : FuncId) (998 : Nat) (CP.dn (CP.dn (CP.dn ist_c0 (0 : Nat)) (1 : Nat)) (1 : Nat))) (loopK C (120 : FuncId) ist_c0 J0 (exK (blockK (0 : Nat) (retK C (120 : FuncId) [TV.own (2 : Nat) es, TV.pv (PV.int IntKind.i64 (0 : Int)), TV.pv (PV.int IntKind.i64 n), TV.pv (PV.fn (93 : FuncId) [])] Q)))))))))) (H.b (H.n (3 : Nat) (H.s (H.n (1 : Nat) (H.s (H.n (4 : Nat) (H.s (H.n (1 : Nat) (H.s (H.n (3 : Nat) (H.b (H.s (H.s (H.s (H.s (H.s (H.s (H.s (H.s (H.s (H.s (H.s (H.s (H.s (H.s H.auto)))))))))))))) H.auto)))))))))) H.auto) = ((decide (t9 > t1) = true → ((0 : Int) ≤ t9 ∧ t9 < (↑(List.length o1) : Int)) ∧ ∃ (c : List PV), o1[Int.toNat t9]? = some c ∧ (2 : Nat) ≤ List.length c ∧ ∃ (s : List UInt8), ∃ (es : List (List PV)), List.take (2 : Nat) c = [PV.str s, PV.sl es] ∧ ((0 : Int) ≤ IntKind.wrap IntKind.i64 (t9 - (1 : Int)) ∧ IntKind.wrap IntKind.i64 (t9 - (1 : Int)) < (↑(List.length o1) : Int)) ∧ ∃ (c : List PV), o1[Int.toNat (IntKind.wrap IntKind.i64 (t9 - (1 : Int)))]? = some c ∧ (2 : Nat) ≤ List.length c ∧ ∃ (s_1 : List UInt8), ∃ (es : List (List PV)), List.take (2 : Nat) c = [PV.str s_1, PV.sl es] ∧ True ∧ (decide (cmpI s s_1 < (0 : Int)) = true → ((0 : Int) ≤ IntKind.wrap IntKind.i64 (t9 - (1 : Int)) ∧ IntKind.wrap IntKind.i64 (t9 - (1 : Int)) < (↑(List.length o1) : Int)) ∧ ∃ (c : List PV), o1[Int.toNat (IntKind.wrap IntKind.i64 (t9 - (1 : Int)))]? = some c ∧ (2 : Nat) ≤ List.length c ∧ ∃ (s : List UInt8), ∃ (es : List (List PV)), List.take (2 : Nat) c = [PV.str s, PV.sl es] ∧ ((0 : Int) ≤ t9 ∧ t9 < (↑(List.length o1) : Int)) ∧ ∃ (c : List PV), o1[Int.toNat t9]? = some c ∧ (2 : Nat) ≤ List.length c ∧ ∃ (s_2 : List UInt8), ∃ (es_1 : List (List PV)), List.take (2 : Nat) c = [PV.str s_2, PV.sl es_1] ∧ ((0 : Int) ≤ t9 ∧ t9 < (↑(List.length o1) : Int)) ∧ ∃ (c : List PV), o1[Int.toNat t9]? = some c ∧ (2 : Nat) ≤ List.length c ∧ List.length (List.set o1 (Int.toNat t9) (PV.str s :: PV.sl es :: List.drop (2 : Nat) c)) = List.length o1 ∧ List.length (List.set o1 (Int.toNat t9) (PV.str s :: PV.sl es :: List.drop (2 : Nat) c)) = List.length o1 ∧ ((0 : Int) ≤ IntKind.wrap IntKind.i64 (t9 - (1 : Int)) ∧ IntKind.wrap IntKind.i64 (t9 - (1 : Int)) < (↑(List.length (List.set o1 (Int.toNat t9) (PV.str s :: PV.sl es :: List.drop (2 : Nat) c))) : Int)) ∧ ∃ (c_1 : List PV), (List.set o1 (Int.toNat t9) (PV.str s :: PV.sl es :: List.drop (2 : Nat) c))[Int.toNat (IntKind.wrap IntKind.i64 (t9 - (1 : Int)))]? = some c_1 ∧ (2 : Nat) ≤ List.length c_1 ∧ List.length (List.set (List.set o1 (Int.toNat t9) (PV.str s :: PV.sl es :: List.drop (2 : Nat) c)) (Int.toNat (IntKind.wrap IntKind.i64 (t9 - (1 : Int)))) (PV.str s_2 :: PV.sl es_1 :: List.drop (2 : Nat) c_1)) = List.length (List.set o1 (Int.toNat t9) (PV.str s :: PV.sl es :: List.drop (2 : Nat) c)) ∧ List.length (List.set (List.set o1 (Int.toNat t9) (PV.str s :: PV.sl es :: List.drop (2 : Nat) c)) (Int.toNat (IntKind.wrap IntKind.i64 (t9 - (1 : Int)))) (PV.str s_2 :: PV.sl es_1 :: List.drop (2 : Nat) c_1)) = List.length (List.set o1 (Int.toNat t9) (PV.str s :: PV.sl es :: List.drop (2 : Nat) c)) ∧ J1 (St.mk [((0 : Nat), AV.own (1 : Nat)), ((1 : Nat), AV.pv (PV.int IntKind.i64 t1)), ((2 : Nat), AV.pv (PV.int IntKind.i64 t2)), ((3 : Nat), AV.pv (PV.fn (93 : FuncId) [])), ((8 : Nat), AV.pv (PV.int IntKind.i64 t8)), ((9 : Nat), AV.pv (PV.int IntKind.i64 (IntKind.wrap IntKind.i64 (t9 - (1 : Int)))))] [((1 : Nat), Obj.buf (2 : Nat) (List.set (List.set o1 (Int.toNat t9) (PV.str s :: PV.sl es :: List.drop (2 : Nat) c)) (Int.toNat (IntKind.wrap IntKind.i64 (t9 - (1 : Int)))) (PV.str s_2 :: PV.sl es_1 :: List.drop (2 : Nat) c_1)))])) ∧ (decide (cmpI s s_1 < (0 : Int)) = false → ∃ (h : H), J0 (St.mk [((0 : Nat), AV.own (1 : Nat)), ((1 : Nat), AV.pv (PV.int IntKind.i64 t1)), ((2 : Nat), AV.pv (PV.int IntKind.i64 t2)), ((3 : Nat), AV.pv (PV.fn (93 : FuncId) [])), ((8 : Nat), AV.pv (PV.int IntKind.i64 (IntKind.wrap IntKind.i64 (t8 + (1 : Int)))))] [((1 : Nat), Obj.buf (2 : Nat) o1)]))) ∧ (decide (t9 > t1) = false → ∃ (h : H), J0 (St.mk [((0 : Nat), AV.own (1 : Nat)), ((1 : Nat), AV.pv (PV.int IntKind.i64 t1)), ((2 : Nat), AV.pv (PV.int IntKind.i64 t2)), ((3 : Nat), AV.pv (PV.fn (93 : FuncId) [])), ((8 : Nat), AV.pv (PV.int IntKind.i64 (IntKind.wrap IntKind.i64 (t8 + (1 : Int)))))] [((1 : Nat), Obj.buf (2 : Nat) o1)]))) := by kernel_rfl

noncomputable def g_ist : List TV → Option Alts
  | [.own 2 es, .pv (.int .i64 a), .pv (.int .i64 n), .pv (.fn f [])] => one (f = 93 ∧ a = 0 ∧ n = es.length ∧ ∃ l : List Edge, es = l.map rowE ∧ l.length < 20) ([], [.own 2 (sortR es)])
  | _ => none

/-- Never called: for twenty edges and more. -/
def g_sym : List TV → Option Alts
  | [.own 2 es, .pv (.int .i64 a), .pv (.int .i64 m), .pv (.int .i64 b), .pv (.fn f [])] => one False ([], [.own 2 es])
  | _ => none

noncomputable def S_st : Specs := specL [(120, g_ist), (121, g_sym)]

theorem stc_w (es : List (List PV)) (n : Int) (Q : List TV × List TV → Prop) : (wFun C S_st 110 [.own 2 es, .pv (.int .i64 n), .pv (.fn 93 [])] Q) (H.auto) = (LoopAt C (110 : FuncId) (CP.dn (CP.dn (CP.dn (CP.dn CP.top (1 : Nat)) (1 : Nat)) (0 : Nat)) (0 : Nat)) (St.mk [((0 : Nat), AV.own (1 : Nat)), ((1 : Nat), AV.pv (PV.int IntKind.i64 n)), ((2 : Nat), AV.pv (PV.fn (93 : FuncId) [])), ((6 : Nat), AV.pv (PV.int IntKind.i64 (20 : Int))), ((7 : Nat), AV.pv (PV.int IntKind.i64 (0 : Int))), ((8 : Nat), AV.pv (PV.int IntKind.i64 (20 : Int)))] [((1 : Nat), Obj.buf (2 : Nat) es)]) (exK (blockK (0 : Nat) (seqK (wAt C S_st (110 : FuncId) (99997 : Nat) (CP.dn (CP.dn (CP.dn CP.top (1 : Nat)) (1 : Nat)) (1 : Nat))) (retK C (110 : FuncId) [TV.own (2 : Nat) es, TV.pv (PV.int IntKind.i64 n), TV.pv (PV.fn (93 : FuncId) [])] Q))))) := by kernel_rfl

def stc_c0 : CP := (CP.dn (CP.dn (CP.dn (CP.dn CP.top (1 : Nat)) (1 : Nat)) (0 : Nat)) (0 : Nat))

def stc_h0 (t1 : Int) (t6 : Int) (t7 : Int) (t8 : Int) (o1 : List (List PV)) : St := (St.mk [((0 : Nat), AV.own (1 : Nat)), ((1 : Nat), AV.pv (PV.int IntKind.i64 t1)), ((2 : Nat), AV.pv (PV.fn (93 : FuncId) [])), ((6 : Nat), AV.pv (PV.int IntKind.i64 t6)), ((7 : Nat), AV.pv (PV.int IntKind.i64 t7)), ((8 : Nat), AV.pv (PV.int IntKind.i64 t8))] [((1 : Nat), Obj.buf (2 : Nat) o1)])

theorem stc_l0 (es : List (List PV)) (n : Int) (t1 : Int) (t6 : Int) (t7 : Int) (t8 : Int) (o1 : List (List PV))  (J0 : St → Prop) (Q : List TV × List TV → Prop) : (wAt C S_st 110 1000 (stc_c0.dn 0) (stc_h0 t1 t6 t7 t8 o1) (loopK C 110 stc_c0 J0 (exK (blockK (0 : Nat) (seqK (wAt C S_st (110 : FuncId) (99997 : Nat) (CP.dn (CP.dn (CP.dn CP.top (1 : Nat)) (1 : Nat)) (1 : Nat))) (retK C (110 : FuncId) [TV.own (2 : Nat) es, TV.pv (PV.int IntKind.i64 n), TV.pv (PV.fn (93 : FuncId) [])] Q)))))) (H.b (H.s H.auto) H.auto) = ((decide (t8 ≤ t1) = true → ((93 : FuncId) = (93 : FuncId) ∧ t7 = (0 : Int) ∧ t8 = (↑(List.length o1) : Int) ∧ ∃ (l : List Proofs.YtbnjbianobdleaaGreat.Vm.Edge), o1 = List.map rowE l ∧ List.length l < (20 : Nat)) ∧ List.length (sortR o1) = List.length o1 ∧ J0 (St.mk [((0 : Nat), AV.own (1 : Nat)), ((1 : Nat), AV.pv (PV.int IntKind.i64 t1)), ((2 : Nat), AV.pv (PV.fn (93 : FuncId) [])), ((6 : Nat), AV.pv (PV.int IntKind.i64 t6)), ((7 : Nat), AV.pv (PV.int IntKind.i64 t8)), ((8 : Nat), AV.pv (PV.int IntKind.i64 (IntKind.wrap IntKind.i64 (t8 + t6))))] [((1 : Nat), Obj.buf (2 : Nat) (sortR o1))])) ∧ (decide (t8 ≤ t1) = false → exK (blockK (0 : Nat) (seqK (wAt C S_st (110 : FuncId) (99997 : Nat) (CP.dn (CP.dn (CP.dn CP.top (1 : Nat)) (1 : Nat)) (1 : Nat))) (retK C (110 : FuncId) [TV.own (2 : Nat) es, TV.pv (PV.int IntKind.i64 n), TV.pv (PV.fn (93 : FuncId) [])] Q))) (Ex.exit (0 : Nat)) (St.mk [((13 : Nat), AV.pv (PV.bool false)), ((12 : Nat), AV.pv (PV.int IntKind.i64 t1)), ((11 : Nat), AV.pv (PV.int IntKind.i64 t8)), ((0 : Nat), AV.own (1 : Nat)), ((1 : Nat), AV.pv (PV.int IntKind.i64 t1)), ((2 : Nat), AV.pv (PV.fn (93 : FuncId) [])), ((6 : Nat), AV.pv (PV.int IntKind.i64 t6)), ((7 : Nat), AV.pv (PV.int IntKind.i64 t7)), ((8 : Nat), AV.pv (PV.int IntKind.i64 t8))] [((1 : Nat), Obj.buf (2 : Nat) o1)]))) := by kernel_rfl

def stc_s1 (t12 : Int) (t11 : Int) (t1 : Int) (t6 : Int) (t7 : Int) (t8 : Int) (o1 : List (List PV)) : St := (St.mk [((13 : Nat), AV.pv (PV.bool false)), ((12 : Nat), AV.pv (PV.int IntKind.i64 t12)), ((11 : Nat), AV.pv (PV.int IntKind.i64 t11)), ((0 : Nat), AV.own (1 : Nat)), ((1 : Nat), AV.pv (PV.int IntKind.i64 t1)), ((2 : Nat), AV.pv (PV.fn (93 : FuncId) [])), ((6 : Nat), AV.pv (PV.int IntKind.i64 t6)), ((7 : Nat), AV.pv (PV.int IntKind.i64 t7)), ((8 : Nat), AV.pv (PV.int IntKind.i64 t8))] [((1 : Nat), Obj.buf (2 : Nat) o1)])

theorem stc_x1 (es : List (List PV)) (n : Int) (t12 : Int) (t11 : Int) (t1 : Int) (t6 : Int) (t7 : Int) (t8 : Int) (o1 : List (List PV))  (Q : List TV × List TV → Prop) : (fun h => blockK (0 : Nat) (seqK (wAt C S_st (110 : FuncId) (99997 : Nat) (CP.dn (CP.dn (CP.dn CP.top (1 : Nat)) (1 : Nat)) (1 : Nat))) (retK C (110 : FuncId) [TV.own (2 : Nat) es, TV.pv (PV.int IntKind.i64 n), TV.pv (PV.fn (93 : FuncId) [])] Q)) h (Ex.exit (0 : Nat)) (stc_s1 t12 t11 t1 t6 t7 t8 o1)) (H.s H.auto) = (((93 : FuncId) = (93 : FuncId) ∧ t7 = (0 : Int) ∧ t1 = (↑(List.length o1) : Int) ∧ ∃ (l : List Proofs.YtbnjbianobdleaaGreat.Vm.Edge), o1 = List.map rowE l ∧ List.length l < (20 : Nat)) ∧ List.length (sortR o1) = List.length o1 ∧ LoopAt C (110 : FuncId) (CP.dn (CP.dn (CP.dn (CP.dn (CP.dn CP.top (1 : Nat)) (1 : Nat)) (1 : Nat)) (1 : Nat)) (0 : Nat)) (St.mk [((0 : Nat), AV.own (1 : Nat)), ((1 : Nat), AV.pv (PV.int IntKind.i64 t1)), ((2 : Nat), AV.pv (PV.fn (93 : FuncId) [])), ((6 : Nat), AV.pv (PV.int IntKind.i64 t6))] [((1 : Nat), Obj.buf (2 : Nat) (sortR o1))]) (exK (blockK (2 : Nat) (retK C (110 : FuncId) [TV.own (2 : Nat) es, TV.pv (PV.int IntKind.i64 n), TV.pv (PV.fn (93 : FuncId) [])] Q)))) := by kernel_rfl

def stc_c2 : CP := (CP.dn (CP.dn (CP.dn (CP.dn (CP.dn CP.top (1 : Nat)) (1 : Nat)) (1 : Nat)) (1 : Nat)) (0 : Nat))

def stc_h2 (t1 : Int) (t6 : Int) (o1 : List (List PV)) : St := (St.mk [((0 : Nat), AV.own (1 : Nat)), ((1 : Nat), AV.pv (PV.int IntKind.i64 t1)), ((2 : Nat), AV.pv (PV.fn (93 : FuncId) [])), ((6 : Nat), AV.pv (PV.int IntKind.i64 t6))] [((1 : Nat), Obj.buf (2 : Nat) o1)])

theorem stc_l2 (es : List (List PV)) (n : Int) (t1 : Int) (t6 : Int) (o1 : List (List PV))  (J2 : St → Prop) (Q : List TV × List TV → Prop) : (wAt C S_st 110 1000 (stc_c2.dn 0) (stc_h2 t1 t6 o1) (loopK C 110 stc_c2 J2 (exK (blockK (2 : Nat) (retK C (110 : FuncId) [TV.own (2 : Nat) es, TV.pv (PV.int IntKind.i64 n), TV.pv (PV.fn (93 : FuncId) [])] Q))))) (H.b H.auto H.auto) = ((decide (t6 < t1) = true → LoopAt C (110 : FuncId) (CP.dn (CP.dn (CP.dn (CP.dn (CP.dn (CP.dn stc_c2 (0 : Nat)) (1 : Nat)) (0 : Nat)) (1 : Nat)) (0 : Nat)) (0 : Nat)) (St.mk [((0 : Nat), AV.own (1 : Nat)), ((1 : Nat), AV.pv (PV.int IntKind.i64 t1)), ((2 : Nat), AV.pv (PV.fn (93 : FuncId) [])), ((6 : Nat), AV.pv (PV.int IntKind.i64 t6)), ((7 : Nat), AV.pv (PV.int IntKind.i64 (0 : Int))), ((8 : Nat), AV.pv (PV.int IntKind.i64 (IntKind.wrap IntKind.i64 ((2 : Int) * t6))))] [((1 : Nat), Obj.buf (2 : Nat) o1)]) (exK (blockK (4 : Nat) (seqK (wAt C S_st (110 : FuncId) (996 : Nat) (CP.dn (CP.dn (CP.dn (CP.dn (CP.dn stc_c2 (0 : Nat)) (1 : Nat)) (0 : Nat)) (1 : Nat)) (1 : Nat))) (blockK (3 : Nat) (loopK C (110 : FuncId) stc_c2 J2 (exK (blockK (2 : Nat) (retK C (110 : FuncId) [TV.own (2 : Nat) es, TV.pv (PV.int IntKind.i64 n), TV.pv (PV.fn (93 : FuncId) [])] Q))))))))) ∧ (decide (t6 < t1) = false → ∃ (h : H), Q ([], [TV.own (2 : Nat) o1]))) := by kernel_rfl

def stc_c3 : CP := (CP.dn (CP.dn (CP.dn (CP.dn (CP.dn (CP.dn stc_c2 (0 : Nat)) (1 : Nat)) (0 : Nat)) (1 : Nat)) (0 : Nat)) (0 : Nat))

def stc_h3 (t1 : Int) (t6 : Int) (t7 : Int) (t8 : Int) (o1 : List (List PV)) : St := (St.mk [((0 : Nat), AV.own (1 : Nat)), ((1 : Nat), AV.pv (PV.int IntKind.i64 t1)), ((2 : Nat), AV.pv (PV.fn (93 : FuncId) [])), ((6 : Nat), AV.pv (PV.int IntKind.i64 t6)), ((7 : Nat), AV.pv (PV.int IntKind.i64 t7)), ((8 : Nat), AV.pv (PV.int IntKind.i64 t8))] [((1 : Nat), Obj.buf (2 : Nat) o1)])

theorem stc_l3 (es : List (List PV)) (n : Int) (t1 : Int) (t6 : Int) (t7 : Int) (t8 : Int) (o1 : List (List PV)) (J2 : St → Prop) (J3 : St → Prop) (Q : List TV × List TV → Prop) : (wAt C S_st 110 1000 (stc_c3.dn 0) (stc_h3 t1 t6 t7 t8 o1) (loopK C 110 stc_c3 J3 (exK (blockK (4 : Nat) (seqK (wAt C S_st (110 : FuncId) (996 : Nat) (CP.dn (CP.dn (CP.dn (CP.dn (CP.dn stc_c2 (0 : Nat)) (1 : Nat)) (0 : Nat)) (1 : Nat)) (1 : Nat))) (blockK (3 : Nat) (loopK C (110 : FuncId) stc_c2 J2 (exK (blockK (2 : Nat) (retK C (110 : FuncId) [TV.own (2 : Nat) es, TV.pv (PV.int IntKind.i64 n), TV.pv (PV.fn (93 : FuncId) [])] Q)))))))))) (H.b (H.s H.auto) H.auto) = ((decide (t8 ≤ t1) = true → False ∧ List.length o1 = List.length o1 ∧ J3 (St.mk [((0 : Nat), AV.own (1 : Nat)), ((1 : Nat), AV.pv (PV.int IntKind.i64 t1)), ((2 : Nat), AV.pv (PV.fn (93 : FuncId) [])), ((6 : Nat), AV.pv (PV.int IntKind.i64 t6)), ((7 : Nat), AV.pv (PV.int IntKind.i64 t8)), ((8 : Nat), AV.pv (PV.int IntKind.i64 (IntKind.wrap IntKind.i64 (t8 + IntKind.wrap IntKind.i64 ((2 : Int) * t6)))))] [((1 : Nat), Obj.buf (2 : Nat) o1)])) ∧ (decide (t8 ≤ t1) = false → exK (blockK (4 : Nat) (seqK (wAt C S_st (110 : FuncId) (996 : Nat) (CP.dn (CP.dn (CP.dn (CP.dn (CP.dn stc_c2 (0 : Nat)) (1 : Nat)) (0 : Nat)) (1 : Nat)) (1 : Nat))) (blockK (3 : Nat) (loopK C (110 : FuncId) stc_c2 J2 (exK (blockK (2 : Nat) (retK C (110 : FuncId) [TV.own (2 : Nat) es, TV.pv (PV.int IntKind.i64 n), TV.pv (PV.fn (93 : FuncId) [])] Q))))))) (Ex.exit (4 : Nat)) (St.mk [((35 : Nat), AV.pv (PV.bool false)), ((34 : Nat), AV.pv (PV.int IntKind.i64 t1)), ((33 : Nat), AV.pv (PV.int IntKind.i64 t8)), ((0 : Nat), AV.own (1 : Nat)), ((1 : Nat), AV.pv (PV.int IntKind.i64 t1)), ((2 : Nat), AV.pv (PV.fn (93 : FuncId) [])), ((6 : Nat), AV.pv (PV.int IntKind.i64 t6)), ((7 : Nat), AV.pv (PV.int IntKind.i64 t7)), ((8 : Nat), AV.pv (PV.int IntKind.i64 t8))] [((1 : Nat), Obj.buf (2 : Nat) o1)]))) := by kernel_rfl

def stc_s4 (t34 : Int) (t33 : Int) (t1 : Int) (t6 : Int) (t7 : Int) (t8 : Int) (o1 : List (List PV)) : St := (St.mk [((35 : Nat), AV.pv (PV.bool false)), ((34 : Nat), AV.pv (PV.int IntKind.i64 t34)), ((33 : Nat), AV.pv (PV.int IntKind.i64 t33)), ((0 : Nat), AV.own (1 : Nat)), ((1 : Nat), AV.pv (PV.int IntKind.i64 t1)), ((2 : Nat), AV.pv (PV.fn (93 : FuncId) [])), ((6 : Nat), AV.pv (PV.int IntKind.i64 t6)), ((7 : Nat), AV.pv (PV.int IntKind.i64 t7)), ((8 : Nat), AV.pv (PV.int IntKind.i64 t8))] [((1 : Nat), Obj.buf (2 : Nat) o1)])

theorem stc_x4 (es : List (List PV)) (n : Int) (t34 : Int) (t33 : Int) (t1 : Int) (t6 : Int) (t7 : Int) (t8 : Int) (o1 : List (List PV)) (J2 : St → Prop) (Q : List TV × List TV → Prop) : (fun h => blockK (4 : Nat) (seqK (wAt C S_st (110 : FuncId) (996 : Nat) (CP.dn (CP.dn (CP.dn (CP.dn (CP.dn stc_c2 (0 : Nat)) (1 : Nat)) (0 : Nat)) (1 : Nat)) (1 : Nat))) (blockK (3 : Nat) (loopK C (110 : FuncId) stc_c2 J2 (exK (blockK (2 : Nat) (retK C (110 : FuncId) [TV.own (2 : Nat) es, TV.pv (PV.int IntKind.i64 n), TV.pv (PV.fn (93 : FuncId) [])] Q)))))) h (Ex.exit (4 : Nat)) (stc_s4 t34 t33 t1 t6 t7 t8 o1)) (H.b (H.s H.auto) H.auto) = ((decide (IntKind.wrap IntKind.i64 (t7 + t6) < t1) = true → False ∧ List.length o1 = List.length o1 ∧ J2 (St.mk [((0 : Nat), AV.own (1 : Nat)), ((1 : Nat), AV.pv (PV.int IntKind.i64 t1)), ((2 : Nat), AV.pv (PV.fn (93 : FuncId) [])), ((6 : Nat), AV.pv (PV.int IntKind.i64 (IntKind.wrap IntKind.i64 (t6 * (2 : Int)))))] [((1 : Nat), Obj.buf (2 : Nat) o1)])) ∧ (decide (IntKind.wrap IntKind.i64 (t7 + t6) < t1) = false → J2 (St.mk [((0 : Nat), AV.own (1 : Nat)), ((1 : Nat), AV.pv (PV.int IntKind.i64 t1)), ((2 : Nat), AV.pv (PV.fn (93 : FuncId) [])), ((6 : Nat), AV.pv (PV.int IntKind.i64 (IntKind.wrap IntKind.i64 (t6 * (2 : Int)))))] [((1 : Nat), Obj.buf (2 : Nat) o1)]))) := by kernel_rfl

noncomputable def g_stc : List TV → Option Alts
  | [.own 2 es, .pv (.int .i64 n), .pv (.fn f [])] => one (f = 93 ∧ n = es.length ∧ ∃ l : List Edge, es = l.map rowE ∧ l.length < 20) ([], [.own 2 (sortR es)])
  | _ => none

noncomputable def S_ssf : Specs := specL [(110, g_stc)]

theorem ssf_w (es : List (List PV)) (Q : List TV × List TV → Prop) : (wFun C S_ssf 92 [.own 2 es, .pv (.fn 93 [])] Q) (H.s H.auto) = (((93 : FuncId) = (93 : FuncId) ∧ (↑(List.length es) : Int) = (↑(List.length es) : Int) ∧ ∃ (l : List Proofs.YtbnjbianobdleaaGreat.Vm.Edge), es = List.map rowE l ∧ List.length l < (20 : Nat)) ∧ List.length (sortR es) = List.length es ∧ Q ([], [TV.own (2 : Nat) (sortR es)])) := by kernel_rfl

noncomputable def g_ssf : List TV → Option Alts
  | [.own 2 es, .pv (.fn f [])] => one (f = 93 ∧ ∃ l : List Edge, es = l.map rowE ∧ l.length < 20) ([], [.own 2 (sortR es)])
  | _ => none

def g_grow : List TV → Option Alts
  | [.pv .nilSlc, .pv (.int .i64 n)] => one (0 ≤ n ∧ n ≤ 4000000) ([.own 2 []], [])
  | _ => none

def S_cat : Specs := specL [(109, g_grow)]

theorem cat_w (x y : List (List PV)) (Q : List TV × List TV → Prop) : (wFun C S_cat 91 [.pv (.sl [[.sl x], [.sl y]])] Q) (H.auto) = (LoopAt C (91 : FuncId) (CP.dn (CP.dn (CP.dn (CP.dn (CP.dn CP.top (1 : Nat)) (1 : Nat)) (0 : Nat)) (1 : Nat)) (0 : Nat)) (St.mk [((0 : Nat), AV.pv (PV.sl [[PV.sl x], [PV.sl y]])), ((3 : Nat), AV.pv (PV.int IntKind.i64 (0 : Int))), ((9 : Nat), AV.pv (PV.sl [[PV.sl x], [PV.sl y]])), ((10 : Nat), AV.pv (PV.int IntKind.i64 (2 : Int))), ((11 : Nat), AV.pv (PV.int IntKind.i64 (0 : Int)))] []) (exK (blockK (0 : Nat) (seqK (wAt C S_cat (91 : FuncId) (99997 : Nat) (CP.dn (CP.dn (CP.dn CP.top (1 : Nat)) (1 : Nat)) (1 : Nat))) (retK C (91 : FuncId) [TV.pv (PV.sl [[PV.sl x], [PV.sl y]])] Q))))) := by kernel_rfl

def cat_c0 : CP := (CP.dn (CP.dn (CP.dn (CP.dn (CP.dn CP.top (1 : Nat)) (1 : Nat)) (0 : Nat)) (1 : Nat)) (0 : Nat))

def cat_h0 (t0 : List (List PV)) (t0b : List (List PV)) (t3 : Int) (t9 : List (List PV)) (t9b : List (List PV)) (t10 : Int) (t11 : Int) : St := (St.mk [((0 : Nat), AV.pv (PV.sl [[PV.sl t0], [PV.sl t0b]])), ((3 : Nat), AV.pv (PV.int IntKind.i64 t3)), ((9 : Nat), AV.pv (PV.sl [[PV.sl t9], [PV.sl t9b]])), ((10 : Nat), AV.pv (PV.int IntKind.i64 t10)), ((11 : Nat), AV.pv (PV.int IntKind.i64 t11))] [])

theorem cat_l0 (x y : List (List PV)) (t0 : List (List PV)) (t0b : List (List PV)) (t3 : Int) (t9 : List (List PV)) (t9b : List (List PV)) (t10 : Int) (t11 : Int)  (J0 : St → Prop) (Q : List TV × List TV → Prop) : (wAt C S_cat 91 1000 (cat_c0.dn 0) (cat_h0 t0 t0b t3 t9 t9b t10 t11) (loopK C 91 cat_c0 J0 (exK (blockK (0 : Nat) (seqK (wAt C S_cat (91 : FuncId) (99997 : Nat) (CP.dn (CP.dn (CP.dn CP.top (1 : Nat)) (1 : Nat)) (1 : Nat))) (retK C (91 : FuncId) [TV.pv (PV.sl [[PV.sl x], [PV.sl y]])] Q)))))) (H.b (H.s (H.s (H.b H.auto H.auto))) H.auto) = ((decide (t11 < t10) = true → (0 : Int) ≤ t11 ∧ ∃ (es : List (List PV)), [[PV.sl t9], [PV.sl t9b]][Int.toNat t11]? = some [PV.sl es] ∧ (decide (IntKind.wrap IntKind.i64 (t3 + (↑(List.length es) : Int)) < (0 : Int)) = true → False) ∧ (decide (IntKind.wrap IntKind.i64 (t3 + (↑(List.length es) : Int)) < (0 : Int)) = false → J0 (St.mk [((0 : Nat), AV.pv (PV.sl [[PV.sl t0], [PV.sl t0b]])), ((3 : Nat), AV.pv (PV.int IntKind.i64 (IntKind.wrap IntKind.i64 (t3 + (↑(List.length es) : Int))))), ((9 : Nat), AV.pv (PV.sl [[PV.sl t9], [PV.sl t9b]])), ((10 : Nat), AV.pv (PV.int IntKind.i64 t10)), ((11 : Nat), AV.pv (PV.int IntKind.i64 (IntKind.wrap IntKind.i64 (t11 + (1 : Int)))))] []))) ∧ (decide (t11 < t10) = false → exK (blockK (0 : Nat) (seqK (wAt C S_cat (91 : FuncId) (99997 : Nat) (CP.dn (CP.dn (CP.dn CP.top (1 : Nat)) (1 : Nat)) (1 : Nat))) (retK C (91 : FuncId) [TV.pv (PV.sl [[PV.sl x], [PV.sl y]])] Q))) (Ex.exit (0 : Nat)) (St.mk [((12 : Nat), AV.pv (PV.bool false)), ((0 : Nat), AV.pv (PV.sl [[PV.sl t0], [PV.sl t0b]])), ((3 : Nat), AV.pv (PV.int IntKind.i64 t3)), ((9 : Nat), AV.pv (PV.sl [[PV.sl t9], [PV.sl t9b]])), ((10 : Nat), AV.pv (PV.int IntKind.i64 t10)), ((11 : Nat), AV.pv (PV.int IntKind.i64 t11))] []))) := by kernel_rfl

def cat_s1 (t0 : List (List PV)) (t0b : List (List PV)) (t3 : Int) (t9 : List (List PV)) (t9b : List (List PV)) (t10 : Int) (t11 : Int) : St := (St.mk [((12 : Nat), AV.pv (PV.bool false)), ((0 : Nat), AV.pv (PV.sl [[PV.sl t0], [PV.sl t0b]])), ((3 : Nat), AV.pv (PV.int IntKind.i64 t3)), ((9 : Nat), AV.pv (PV.sl [[PV.sl t9], [PV.sl t9b]])), ((10 : Nat), AV.pv (PV.int IntKind.i64 t10)), ((11 : Nat), AV.pv (PV.int IntKind.i64 t11))] [])

theorem cat_x1 (x y : List (List PV)) (t0 : List (List PV)) (t0b : List (List PV)) (t3 : Int) (t9 : List (List PV)) (t9b : List (List PV)) (t10 : Int) (t11 : Int)  (Q : List TV × List TV → Prop) : (fun h => blockK (0 : Nat) (seqK (wAt C S_cat (91 : FuncId) (99997 : Nat) (CP.dn (CP.dn (CP.dn CP.top (1 : Nat)) (1 : Nat)) (1 : Nat))) (retK C (91 : FuncId) [TV.pv (PV.sl [[PV.sl x], [PV.sl y]])] Q)) h (Ex.exit (0 : Nat)) (cat_s1 t0 t0b t3 t9 t9b t10 t11)) (H.auto) = (((0 : Int) ≤ t3 ∧ t3 ≤ (4000000 : Int)) ∧ LoopAt C (91 : FuncId) (CP.dn (CP.dn (CP.dn (CP.dn (CP.dn (CP.dn (CP.dn CP.top (1 : Nat)) (1 : Nat)) (1 : Nat)) (1 : Nat)) (0 : Nat)) (1 : Nat)) (0 : Nat)) (St.mk [((6 : Nat), AV.own (12 : Nat)), ((25 : Nat), AV.pv (PV.sl [[PV.sl t0], [PV.sl t0b]])), ((26 : Nat), AV.pv (PV.int IntKind.i64 (2 : Int))), ((27 : Nat), AV.pv (PV.int IntKind.i64 (0 : Int)))] [((12 : Nat), Obj.buf (2 : Nat) [])]) (exK (blockK (2 : Nat) (seqK (wAt C S_cat (91 : FuncId) (99995 : Nat) (CP.dn (CP.dn (CP.dn (CP.dn (CP.dn CP.top (1 : Nat)) (1 : Nat)) (1 : Nat)) (1 : Nat)) (1 : Nat))) (retK C (91 : FuncId) [TV.pv (PV.sl [[PV.sl x], [PV.sl y]])] Q))))) := by kernel_rfl

def cat_c2 : CP := (CP.dn (CP.dn (CP.dn (CP.dn (CP.dn (CP.dn (CP.dn CP.top (1 : Nat)) (1 : Nat)) (1 : Nat)) (1 : Nat)) (0 : Nat)) (1 : Nat)) (0 : Nat))

def cat_h2 (t25 : List (List PV)) (t25b : List (List PV)) (t26 : Int) (t27 : Int) (o12 : List (List PV)) : St := (St.mk [((6 : Nat), AV.own (12 : Nat)), ((25 : Nat), AV.pv (PV.sl [[PV.sl t25], [PV.sl t25b]])), ((26 : Nat), AV.pv (PV.int IntKind.i64 t26)), ((27 : Nat), AV.pv (PV.int IntKind.i64 t27))] [((12 : Nat), Obj.buf (2 : Nat) o12)])

theorem cat_l2 (x y : List (List PV)) (t25 : List (List PV)) (t25b : List (List PV)) (t26 : Int) (t27 : Int) (o12 : List (List PV))  (J2 : St → Prop) (Q : List TV × List TV → Prop) : (wAt C S_cat 91 1000 (cat_c2.dn 0) (cat_h2 t25 t25b t26 t27 o12) (loopK C 91 cat_c2 J2 (exK (blockK (2 : Nat) (seqK (wAt C S_cat (91 : FuncId) (99995 : Nat) (CP.dn (CP.dn (CP.dn (CP.dn (CP.dn CP.top (1 : Nat)) (1 : Nat)) (1 : Nat)) (1 : Nat)) (1 : Nat))) (retK C (91 : FuncId) [TV.pv (PV.sl [[PV.sl x], [PV.sl y]])] Q)))))) (H.b (H.s (H.s (H.s (H.s H.auto)))) H.auto) = ((decide (t27 < t26) = true → (0 : Int) ≤ t27 ∧ ∃ (es : List (List PV)), [[PV.sl t25], [PV.sl t25b]][Int.toNat t27]? = some [PV.sl es] ∧ ((List.length o12 + List.length es) * (40 : Nat) ≤ room ∧ List.length o12 + List.length es ≤ maxInt) ∧ rowOk (2 : Nat) es = true ∧ J2 (St.mk [((6 : Nat), AV.own (12 : Nat)), ((25 : Nat), AV.pv (PV.sl [[PV.sl t25], [PV.sl t25b]])), ((26 : Nat), AV.pv (PV.int IntKind.i64 t26)), ((27 : Nat), AV.pv (PV.int IntKind.i64 (IntKind.wrap IntKind.i64 (t27 + (1 : Int)))))] [((12 : Nat), Obj.buf (2 : Nat) (o12 ++ es))])) ∧ (decide (t27 < t26) = false → ∃ (h : H), Q ([TV.own (2 : Nat) o12], []))) := by kernel_rfl

def g_cat : List TV → Option Alts
  | [.pv (.sl [[.sl x], [.sl y]])] => one (∃ l m : List Edge, x = l.map rowE ∧ y = m.map rowE ∧ l.length + m.length < 1000) ([.own 2 (catR x y)], [])
  | _ => none

noncomputable def S_both : Specs := specL [(91, g_cat), (92, g_ssf)]

theorem bo_w (x y : List (List PV)) (Q : List TV × List TV → Prop) : (wFun C S_both 63 [.pv (.sl x), .pv (.sl y)] Q) (H.b (H.s H.auto) (H.s H.auto)) = ((∃ (l : List Proofs.YtbnjbianobdleaaGreat.Vm.Edge), ∃ (m : List Proofs.YtbnjbianobdleaaGreat.Vm.Edge), x = List.map rowE l ∧ y = List.map rowE m ∧ List.length l + List.length m < (1000 : Nat)) ∧ ((flatTVs [TV.own (2 : Nat) (catR x y)] && true) = true → ((93 : Nat) = (93 : FuncId) ∧ ∃ (l : List Proofs.YtbnjbianobdleaaGreat.Vm.Edge), catR x y = List.map rowE l ∧ List.length l < (20 : Nat)) ∧ List.length (sortR (catR x y)) = List.length (catR x y) ∧ Q ([TV.own (2 : Nat) (sortR (catR x y))], [])) ∧ ((flatTVs [TV.own (2 : Nat) (catR x y)] && true) = false → ((93 : Nat) = (93 : FuncId) ∧ ∃ (l : List Proofs.YtbnjbianobdleaaGreat.Vm.Edge), catR x y = List.map rowE l ∧ List.length l < (20 : Nat)) ∧ List.length (sortR (catR x y)) = List.length (catR x y) ∧ Q ([TV.own (2 : Nat) (sortR (catR x y))], []))) := by kernel_rfl

/-! ### Proofs -/
theorem less_irr (n : List UInt8) : Op.bytesLess n n = false := by rw [bl_eq]; simp [str_lt_irrefl]
theorem b1_ok : ∀ ag al, g_b1 ag = some al → ∀ a ∈ al, a.1 → Ev C 93 ag a.2 := by
  intro ag al hl x hx hp
  unfold g_b1 at hl
  split at hl
  · rename_i n a m b
    have e := one_mem hl hx; subst e
    refine ev_w noSpec_ok (b1_w n m a b _) ⟨fun h => ?_, fun h => ⟨fun h2 => ?_, fun h2 => ?_⟩⟩
    · unfold cmpI; rw [if_pos h]
    · have hne : n ≠ m := by
        intro e; subst e
        rw [less_irr] at h2; simp at h2
      have := less_total h hne
      unfold cmpI
      rw [if_neg (by rw [h]; simp), if_pos this]
    · have he : n = m := by rw [h] at h2; simpa using h2
      subst he
      unfold cmpI
      rw [if_neg (by rw [h]; simp), if_neg (by rw [h]; simp)]
  · exact absurd hl (by simp)
theorem cmpI_lt (n m : List UInt8) : decide (cmpI n m < 0) = decide (n < m) := by
  unfold cmpI
  rw [bl_eq, bl_eq]
  by_cases h : n < m
  · simp [h]
  · by_cases h2 : m < n <;> simp [h, h2]

theorem rowE_inj {a b : Edge} (h : rowE a = rowE b) : a = b := by
  obtain ⟨n, t⟩ := a
  obtain ⟨m, u⟩ := b
  simp only [rowE, List.cons.injEq, PV.str.injEq, PV.sl.injEq, and_true] at h
  obtain ⟨h1, h2⟩ := h
  subst h1
  rw [rows_inj h2]
theorem mapE_inj {l m : List Edge} (h : l.map rowE = m.map rowE) : l = m := by
  rw [← rows_of, ← rows_of] at h
  have := rows_inj h
  rw [← list_of l, this, list_of]
theorem erow_get (m : List Edge) {p : Nat} (h : p < m.length) : (m.map rowE)[Int.toNat (p : Int)]? = some (rowE m[p]) := by
  rw [Int.toNat_natCast, List.getElem?_map, List.getElem?_eq_getElem h]; rfl

/-- In order up to i, whatever stands at j ahead of which it belongs. -/
def okI (m : List Edge) (i j : Nat) : Prop := ∀ p q (hp : p < m.length) (hq : q < m.length), p < q → q ≤ i → q ≠ j → m[p].1 ≤ m[q].1
def swp (m : List Edge) (j : Nat) (h : j < m.length) (h' : j - 1 < m.length) : List Edge := (m.set j m[j - 1]).set (j - 1) m[j]
theorem swp_len (m : List Edge) (j : Nat) (h : j < m.length) (h' : j - 1 < m.length) : (swp m j h h').length = m.length := by simp [swp]
theorem swp_perm (m : List Edge) (j : Nat) (h : j < m.length) (h' : j - 1 < m.length) : (swp m j h h').Perm m := List.set_set_perm h h'
theorem swp_get (m : List Edge) (j : Nat) (h : j < m.length) (h' : j - 1 < m.length) (p : Nat) (hp : p < (swp m j h h').length) (hp' : p < m.length) : (swp m j h h')[p] = if p = j - 1 then m[j] else if p = j then m[j - 1] else m[p] := by
  have hp2 : p < ((m.set j m[j - 1]).set (j - 1) m[j]).length := hp
  show ((m.set j m[j - 1]).set (j - 1) m[j])[p]'hp2 = _
  rw [List.getElem_set]
  by_cases h1 : j - 1 = p
  · rw [if_pos h1, if_pos h1.symm]
  · rw [if_neg h1, if_neg (show ¬ p = j - 1 from fun e => h1 e.symm), List.getElem_set]
    by_cases h2 : j = p
    · rw [if_pos h2, if_pos h2.symm]
    · rw [if_neg h2, if_neg (show ¬ p = j from fun e => h2 e.symm)]
theorem okI_step {m : List Edge} {i j : Nat} (h : j < m.length) (h' : j - 1 < m.length) (hj : 0 < j) (hji : j ≤ i) (ho : okI m i j) (hl : m[j].1 < m[j - 1].1) : okI (swp m j h h') i (j - 1) := by
  intro p q hp hq hpq hqi hqj
  have hp' : p < m.length := by rw [swp_len] at hp; exact hp
  have hq' : q < m.length := by rw [swp_len] at hq; exact hq
  rw [swp_get m j h h' p hp hp', swp_get m j h h' q hq hq', if_neg hqj]
  by_cases q1 : q = j
  · subst q1
    rw [if_pos rfl]
    by_cases p1 : p = q - 1
    · rw [if_pos p1]; exact str_le_of hl
    · rw [if_neg p1, if_neg (by omega)]
      exact ho p (q - 1) hp' h' (by omega) (by omega) (by omega)
  · rw [if_neg q1]
    by_cases p1 : p = j - 1
    · rw [if_pos p1]
      exact ho j q h hq' (by omega) hqi q1
    · rw [if_neg p1]
      by_cases p2 : p = j
      · rw [if_pos p2]
        exact ho (j - 1) q h' hq' (by omega) hqi q1
      · rw [if_neg p2]
        exact ho p q hp' hq' hpq hqi q1
theorem okI_end {m : List Edge} {i j : Nat} (h : j < m.length) (hji : j ≤ i) (ho : okI m i j) (hl : j = 0 ∨ ∃ h' : j - 1 < m.length, m[j - 1].1 ≤ m[j].1) : ∀ p q (hp : p < m.length) (hq : q < m.length), p < q → q ≤ i → m[p].1 ≤ m[q].1 := by
  intro p q hp hq hpq hqi
  by_cases q1 : q = j
  · subst q1
    rcases hl with hl | ⟨h', hl⟩
    · omega
    · by_cases p1 : p = q - 1
      · subst p1; exact hl
      · exact str_le_trans _ _ _ (ho p (q - 1) hp h' (by omega) (by omega) (by omega)) hl
  · exact ho p q hp hq hpq hqi q1

theorem ist_S : SpecOK C S_ist := specL_ok (specs_cons b1_ok specs_nil)
theorem ist_ex (l : List Edge) (hl : l.length < 20) : ∃ m : List Edge, m.Perm l ∧ (m.Pairwise fun x y => x.1 ≤ y.1) ∧ Ev C 120 [.own 2 (l.map rowE), .pv (.int .i64 0), .pv (.int .i64 l.length), .pv (.fn 93 [])] ([], [.own 2 (m.map rowE)]) := by
  obtain ⟨r, h1, m, h2, h3, rfl⟩ := ev_wx (Q := fun r => ∃ m : List Edge, m.Perm l ∧ (m.Pairwise fun x y => x.1 ≤ y.1) ∧ r = ([], [.own 2 (m.map rowE)])) ist_S (ist_w (l.map rowE) l.length _) (by
    refine loop_rule ist_S (by kernel_rfl) 1000 (fun k st => ∃ (i : Nat) (m : List Edge), st = ist_h0 0 l.length i (m.map rowE) ∧ m.Perm l ∧ 1 ≤ i ∧ (i ≤ l.length ∨ i = 1) ∧ (∀ p q (hp : p < m.length) (hq : q < m.length), p < q → q < i → m[p].1 ≤ m[q].1) ∧ k = l.length - i) ?_ (n := l.length - 1) ⟨1, l, rfl, List.Perm.refl _, by omega, .inr rfl, fun p q _ _ h1 h2 => by omega, rfl⟩
    rintro k st ⟨i, m, rfl, hm, hi1, hi, hs, rfl⟩
    have hml := hm.length_eq
    refine ex_w (ist_l0 _ _ _ _ _ _ _ _) ⟨fun g => ?_, fun g => ⟨.auto, m, hm, ?_, rfl⟩⟩
    · simp only [decide_eq_true_eq] at g
      have hi' : i < l.length := by omega
      refine loop_rule ist_S (by kernel_rfl) 1000 (fun j st => ∃ m' : List Edge, st = ist_h1 0 l.length i j (m'.map rowE) ∧ m'.Perm l ∧ j ≤ i ∧ okI m' i j) ?_ (n := i) ⟨m, rfl, hm, by omega, fun p q hp hq h1 h2 h3 => hs p q hp hq h1 (by omega)⟩
      rintro j st ⟨m', rfl, hm', hj, ho⟩
      have hml' := hm'.length_eq
      have hrl : (m'.map rowE).length = m'.length := List.length_map _
      have hjl : j < m'.length := by omega
      have fin : (j = 0 ∨ ∃ h' : j - 1 < m'.length, m'[j - 1].1 ≤ m'[j].1) → ∃ n, n < l.length - i ∧ ∃ (i' : Nat) (m : List Edge), St.mk [(0, AV.own 1), (1, AV.pv (PV.int IntKind.i64 0)), (2, AV.pv (PV.int IntKind.i64 l.length)), (3, AV.pv (PV.fn 93 [])), (8, AV.pv (PV.int IntKind.i64 (IntKind.wrap IntKind.i64 ((i : Int) + 1))))] [(1, Obj.buf 2 (m'.map rowE))] = ist_h0 0 l.length i' (m.map rowE) ∧ m.Perm l ∧ 1 ≤ i' ∧ (i' ≤ l.length ∨ i' = 1) ∧ (∀ p q (hp : p < m.length) (hq : q < m.length), p < q → q < i' → m[p].1 ≤ m[q].1) ∧ n = l.length - i' := fun hh =>
        ⟨l.length - (i + 1), by omega, i + 1, m', by rw [w64s (by omega)]; rfl, hm', by omega, .inl (by omega), fun p q hp hq h1 h2 => okI_end hjl hj ho hh p q hp hq h1 (by omega), rfl⟩
      refine ex_w (ist_l1 _ _ _ _ _ _ _ _ _ _) ⟨fun g2 => ?_, fun g2 => ⟨.auto, fin (.inl ?_)⟩⟩
      · simp only [decide_eq_true_eq] at g2
        have hj0 : 0 < j := by omega
        have hj1 : j - 1 < m'.length := by omega
        have e1 : IntKind.wrap .i64 ((j : Int) - 1) = ((j - 1 : Nat) : Int) := by rw [w64 (by omega)]; omega
        have r1 := erow_get m' hjl
        have r2 := erow_get m' hj1
        rw [e1, hrl]
        refine ⟨⟨by omega, by omega⟩, _, r1, by simp [rowE], _, _, rfl, ⟨by omega, by omega⟩, _, r2, by simp [rowE], _, _, rfl, trivial, fun hc => ?_, fun hc => ⟨.auto, fin (.inr ⟨hj1, ?_⟩)⟩⟩
        · rw [cmpI_lt] at hc
          simp only [decide_eq_true_eq] at hc
          have s1 : (m'.map rowE).set (Int.toNat (j : Int)) (PV.str m'[j - 1].1 :: PV.sl m'[j - 1].2.rows :: List.drop 2 (rowE m'[j])) = (m'.set j m'[j - 1]).map rowE := by rw [Int.toNat_natCast, List.map_set]; rfl
          have r3 : ((m'.set j m'[j - 1]).map rowE)[Int.toNat ((j - 1 : Nat) : Int)]? = some (rowE m'[j - 1]) := by
            rw [Int.toNat_natCast, List.getElem?_map, List.getElem?_set_ne (by omega), List.getElem?_eq_getElem hj1]; rfl
          have s2 : ((m'.set j m'[j - 1]).map rowE).set (Int.toNat ((j - 1 : Nat) : Int)) (PV.str m'[j].1 :: PV.sl m'[j].2.rows :: List.drop 2 (rowE m'[j - 1])) = (swp m' j hjl hj1).map rowE := by
            rw [Int.toNat_natCast]
            show ((m'.set j m'[j - 1]).map rowE).set (j - 1) (rowE m'[j]) = _
            rw [← List.map_set]
            rfl
          have l1 : ((m'.set j m'[j - 1]).map rowE).length = m'.length := by simp
          have l2 : ((swp m' j hjl hj1).map rowE).length = m'.length := by rw [List.length_map, swp_len]
          refine ⟨⟨by omega, by omega⟩, _, r2, by simp [rowE], _, _, rfl, ⟨by omega, by omega⟩, _, r1, by simp [rowE], _, _, rfl, ⟨by omega, by omega⟩, _, r1, by simp [rowE], ?_⟩
          rw [s1, l1]
          refine ⟨rfl, rfl, ⟨by omega, by omega⟩, _, r3, by simp [rowE], ?_⟩
          rw [s2, l2]
          exact ⟨rfl, rfl, j - 1, by omega, swp m' j hjl hj1, rfl, (swp_perm m' j hjl hj1).trans hm', by omega, okI_step hjl hj1 hj0 hj ho hc⟩
        · rw [cmpI_lt] at hc
          simp only [decide_eq_false_iff_not] at hc
          exact List.not_lt.1 hc
      · simp only [decide_eq_false_iff_not] at g2
        omega
    · simp only [decide_eq_false_iff_not] at g
      rw [List.pairwise_iff_getElem]
      intro p q hp hq hpq
      exact hs p q hp hq hpq (by omega))
  exact ⟨m, h2, h3, h1⟩

theorem sortR_spec (l : List Edge) (hl : l.length < 20) : ∃ m : List Edge, sortR (l.map rowE) = m.map rowE ∧ m.Perm l ∧ (m.Pairwise fun x y => x.1 ≤ y.1) ∧ Ev C 120 [.own 2 (l.map rowE), .pv (.int .i64 0), .pv (.int .i64 l.length), .pv (.fn 93 [])] ([], [.own 2 (m.map rowE)]) := by
  have h : ∃ m : List Edge, sortP (l.map rowE) m ∧ Ev C 120 [.own 2 (l.map rowE), .pv (.int .i64 0), .pv (.int .i64 (l.map rowE).length), .pv (.fn 93 [])] ([], [.own 2 (m.map rowE)]) := by
    obtain ⟨m, h1, h2, h3⟩ := ist_ex l hl
    exact ⟨m, ⟨fun l' e => by rw [← mapE_inj e]; exact h1, h2⟩, by rw [List.length_map]; exact h3⟩
  have hc := h.choose_spec
  have he : sortR (l.map rowE) = h.choose.map rowE := by unfold sortR; rw [dif_pos h]
  generalize h.choose = m at hc he
  rw [List.length_map] at hc
  exact ⟨m, he, hc.1.1 l rfl, hc.1.2, hc.2⟩

theorem ist_ok : ∀ ag al, g_ist ag = some al → ∀ a ∈ al, a.1 → Ev C 120 ag a.2 := by
  intro ag al hl x hx hp
  unfold g_ist at hl
  split at hl
  · have e := one_mem hl hx; subst e
    obtain ⟨rfl, rfl, rfl, l, rfl, h⟩ := hp
    obtain ⟨m, e1, _, _, h2⟩ := sortR_spec l h
    rw [e1, List.length_map]
    exact h2
  · exact absurd hl (by simp)
theorem sym_ok : ∀ ag al, g_sym ag = some al → ∀ a ∈ al, a.1 → Ev C 121 ag a.2 := by
  intro ag al hl x hx hp
  unfold g_sym at hl
  split at hl
  · have e := one_mem hl hx; subst e
    exact hp.elim
  · exact absurd hl (by simp)
theorem sortR_len {l : List Edge} (hl : l.length < 20) : (sortR (l.map rowE)).length = l.length := by
  obtain ⟨m, e1, h2, _⟩ := sortR_spec l hl
  rw [e1, List.length_map, h2.length_eq]

theorem st_S : SpecOK C S_st := specL_ok (specs_cons ist_ok (specs_cons sym_ok specs_nil))
theorem stc_ok : ∀ ag al, g_stc ag = some al → ∀ a ∈ al, a.1 → Ev C 110 ag a.2 := by
  intro ag al hl x hx hp
  unfold g_stc at hl
  split at hl
  · have e := one_mem hl hx; subst e
    obtain ⟨rfl, rfl, l, rfl, h⟩ := hp
    have hs := sortR_len h
    have hrl : (l.map rowE).length = l.length := List.length_map _
    refine ev_w st_S (stc_w (l.map rowE) _ _) ?_
    refine loop_rule st_S (by kernel_rfl) 1000 (fun k st => st = stc_h0 (l.map rowE).length 20 0 20 (l.map rowE) ∧ k = 0) ?_ (n := 0) ⟨rfl, rfl⟩
    rintro k st ⟨rfl, rfl⟩
    refine ex_w (stc_l0 _ _ _ _ _ _ _ _ _) ⟨fun g => ?_, fun g => ?_⟩
    · simp only [decide_eq_true_eq] at g; omega
    · refine ex_w (stc_x1 _ _ _ _ _ _ _ _ _ _) ⟨⟨rfl, rfl, rfl, l, rfl, h⟩, by rw [hs, hrl], ?_⟩
      refine loop_rule st_S (by kernel_rfl) 1000 (fun k st => st = stc_h2 (l.map rowE).length 20 (sortR (l.map rowE)) ∧ k = 0) ?_ (n := 0) ⟨rfl, rfl⟩
      rintro k st ⟨rfl, rfl⟩
      refine ex_w (stc_l2 _ _ _ _ _ _ _) ⟨fun g2 => ?_, fun g2 => ⟨.auto, rfl⟩⟩
      simp only [decide_eq_true_eq] at g2; omega
  · exact absurd hl (by simp)
theorem ssf_ok : ∀ ag al, g_ssf ag = some al → ∀ a ∈ al, a.1 → Ev C 92 ag a.2 := by
  intro ag al hl x hx hp
  unfold g_ssf at hl
  split at hl
  · have e := one_mem hl hx; subst e
    obtain ⟨rfl, l, rfl, h⟩ := hp
    have hs := sortR_len h
    have hrl : (l.map rowE).length = l.length := List.length_map _
    exact ev_w (specL_ok (specs_cons stc_ok specs_nil)) (ssf_w _ _) ⟨⟨rfl, rfl, l, rfl, h⟩, by rw [hs, hrl], rfl⟩
  · exact absurd hl (by simp)

theorem grow_ok : ∀ ag al, g_grow ag = some al → ∀ a ∈ al, a.1 → Ev C 109 ag a.2 := by
  intro ag al hl x hx hp
  unfold g_grow at hl
  split at hl
  · have e := one_mem hl hx; subst e
    have hr := room_val
    refine ev_ext (g := xGrow Tryz.prog 44) (by kernel_rfl) ?_
    simp only [xGrow, bytesEdge, sizeEdge]
    rw [if_pos ⟨by decide, hp.1, by omega, by omega⟩]
  · exact absurd hl (by simp)
theorem cat_S : SpecOK C S_cat := specL_ok (specs_cons grow_ok specs_nil)
theorem cat_ok : ∀ ag al, g_cat ag = some al → ∀ a ∈ al, a.1 → Ev C 91 ag a.2 := by
  intro ag al hl x hx hp
  have hr := room_val
  have hmx := maxInt_val
  unfold g_cat at hl
  split at hl
  · have e := one_mem hl hx; subst e
    obtain ⟨l, m, rfl, rfl, h⟩ := hp
    have h1 : (l.map rowE).length = l.length := List.length_map _
    have h2 : (m.map rowE).length = m.length := List.length_map _
    unfold catR
    refine ev_w cat_S (cat_w _ _ _) ?_
    refine loop_rule cat_S (by kernel_rfl) 1000 (fun k st => ∃ (i : Nat) (t : Int), st = cat_h0 (l.map rowE) (m.map rowE) t (l.map rowE) (m.map rowE) 2 i ∧ ((i = 0 ∧ t = 0) ∨ (i = 1 ∧ t = l.length) ∨ (i = 2 ∧ t = l.length + m.length)) ∧ k = 2 - i) ?_ (n := 2) ⟨0, 0, rfl, .inl ⟨rfl, rfl⟩, rfl⟩
    rintro k st ⟨i, t, rfl, hi, rfl⟩
    refine ex_w (cat_l0 _ _ _ _ _ _ _ _ _ _ _) ⟨fun g => ?_, fun g => ?_⟩
    · simp only [decide_eq_true_eq] at g
      rcases hi with ⟨rfl, rfl⟩ | ⟨rfl, rfl⟩ | ⟨rfl, rfl⟩
      · have e1 : IntKind.wrap .i64 ((0 : Int) + ((l.map rowE).length : Int)) = l.length := by rw [w64 (by omega)]; omega
        refine ⟨by omega, _, rfl, ?_⟩
        rw [e1]
        exact ⟨fun g2 => by simp only [decide_eq_true_eq] at g2; omega, fun _ => ⟨1, by omega, 1, _, rfl, .inr (.inl ⟨rfl, rfl⟩), rfl⟩⟩
      · have e1 : IntKind.wrap .i64 ((l.length : Int) + ((m.map rowE).length : Int)) = l.length + m.length := by rw [w64 (by omega)]; omega
        refine ⟨by omega, _, rfl, ?_⟩
        rw [e1]
        exact ⟨fun g2 => by simp only [decide_eq_true_eq] at g2; omega, fun _ => ⟨0, by omega, 2, _, rfl, .inr (.inr ⟨rfl, rfl⟩), rfl⟩⟩
      · omega
    · simp only [decide_eq_false_iff_not] at g
      have ht : t = l.length + m.length := by omega
      subst ht
      refine ex_w (cat_x1 _ _ _ _ _ _ _ _ _ _) ⟨⟨by omega, by omega⟩, ?_⟩
      refine loop_rule cat_S (by kernel_rfl) 1000 (fun k st => ∃ (i : Nat) (o : List (List PV)), st = cat_h2 (l.map rowE) (m.map rowE) 2 i o ∧ ((i = 0 ∧ o = []) ∨ (i = 1 ∧ o = l.map rowE) ∨ (i = 2 ∧ o = l.map rowE ++ m.map rowE)) ∧ k = 2 - i) ?_ (n := 2) ⟨0, [], rfl, .inl ⟨rfl, rfl⟩, rfl⟩
      rintro k st ⟨i, o, rfl, hi, rfl⟩
      refine ex_w (cat_l2 _ _ _ _ _ _ _ _ _) ⟨fun g => ?_, fun g => ?_⟩
      · simp only [decide_eq_true_eq] at g
        rcases hi with ⟨rfl, rfl⟩ | ⟨rfl, rfl⟩ | ⟨rfl, rfl⟩
        · exact ⟨by omega, _, rfl, ⟨by simp only [List.length_nil]; omega, by simp only [List.length_nil]; omega⟩, rowOk_edges _, 1, by omega, 1, _, rfl, .inr (.inl ⟨rfl, by simp⟩), rfl⟩
        · exact ⟨by omega, _, rfl, ⟨by omega, by omega⟩, rowOk_edges _, 0, by omega, 2, _, rfl, .inr (.inr ⟨rfl, rfl⟩), rfl⟩
        · omega
      · simp only [decide_eq_false_iff_not] at g
        rcases hi with ⟨rfl, rfl⟩ | ⟨rfl, rfl⟩ | ⟨rfl, rfl⟩
        · omega
        · omega
        · exact ⟨.auto, rfl⟩
  · exact absurd hl (by simp)

theorem both_ok' (l m : List Edge) (h : l.length + m.length < 20) : Ev C 63 [.pv (.sl (l.map rowE)), .pv (.sl (m.map rowE))] ([.own 2 (sortR (catR (l.map rowE) (m.map rowE)))], []) := by
  have hS : SpecOK C S_both := specL_ok (specs_cons cat_ok (specs_cons ssf_ok specs_nil))
  have hc : catR (l.map rowE) (m.map rowE) = (l ++ m).map rowE := by unfold catR; rw [List.map_append]
  have hs := sortR_len (l := l ++ m) (by rw [List.length_append]; omega)
  refine ev_w hS (bo_w _ _ _) ⟨⟨l, m, rfl, rfl, by omega⟩, fun _ => ⟨⟨rfl, l ++ m, hc, by rw [List.length_append]; omega⟩, by rw [hc, hs, List.length_map], rfl⟩, fun _ => ⟨⟨rfl, l ++ m, hc, by rw [List.length_append]; omega⟩, by rw [hc, hs, List.length_map], rfl⟩⟩
noncomputable def g_both : List TV → Option Alts
  | [.pv (.sl x), .pv (.sl y)] => one (∃ l m : List Edge, x = l.map rowE ∧ y = m.map rowE ∧ l.length + m.length < 20) ([.own 2 (sortR (catR x y))], [])
  | _ => none
theorem both_ok : ∀ ag al, g_both ag = some al → ∀ a ∈ al, a.1 → Ev C 63 ag a.2 := by
  intro ag al hl x hx hp
  unfold g_both at hl
  split at hl
  · have e := one_mem hl hx; subst e
    obtain ⟨l, m, rfl, rfl, h⟩ := hp
    exact both_ok' l m h
  · exact absurd hl (by simp)

end Go.Proofs.YtbnjbianobdleaaGreat.Vm
