/-
  TreeChecks, in the machine.
-/
import Derived.Test.YtmjkdghcfihfiaaSayTreeCheck
namespace Go.Proofs.Ytmjkdghcfihfiaa.Vm
open Go Go.RowKit
set_option linter.unusedVariables false
set_option linter.unusedSimpArgs false
set_option maxRecDepth 100000

theorem wt_w (a n : Int) (Q : List TV × List TV → Prop) : (wFun C noSpec 13 [.pv (.int .i64 a), .pv (.int .i64 n)] Q) (H.s (H.b H.auto H.auto)) = (¬n = (0 : Int) ∧ (decide (Int.tmod a n < (0 : Int)) = true → Q ([TV.pv (PV.int IntKind.i64 (IntKind.wrap IntKind.i64 (Int.tmod a n + n)))], [])) ∧ (decide (Int.tmod a n < (0 : Int)) = false → Q ([TV.pv (PV.int IntKind.i64 (Int.tmod a n))], []))) := by kernel_rfl

theorem within_ev (a n : Int) (hn : ¬ n = 0) : Ev C 13 [.pv (.int .i64 a), .pv (.int .i64 n)] ([.pv (.int .i64 (wi a n))], []) := by
  refine ev_w noSpec_ok (wt_w a n _) ⟨hn, fun h => ?_, fun h => ?_⟩
  · rw [wi, if_pos (by simpa using h)]
  · rw [wi, if_neg (by simpa using h)]

noncomputable def g_plain (N : Nat) : List TV → Option Alts
  | [.pv (.sl a)] => one (∃ t : Tr, a = t.rows ∧ t.nodes < N ∧ t.nodes ≤ 4000000) ([.own 2 a], [])
  | _ => none

noncomputable def S_plain (N : Nat) : Specs := specL [(17, g_plain N)]

theorem pln_w (N : Nat) (a : List (List PV)) (Q : List TV × List TV → Prop) : (wFun C (S_plain N) 17 [.pv (.sl a)] Q) (H.auto) = (LoopAt C (17 : FuncId) (CP.dn (CP.dn (CP.dn (CP.dn (CP.dn CP.top (1 : Nat)) (1 : Nat)) (0 : Nat)) (1 : Nat)) (0 : Nat)) (St.mk [((0 : Nat), AV.pv (PV.sl a)), ((3 : Nat), AV.own (6 : Nat)), ((4 : Nat), AV.pv (PV.int IntKind.i64 (0 : Int)))] [((6 : Nat), Obj.buf (2 : Nat) [])]) (exK (blockK (0 : Nat) (seqK (wAt C (S_plain N) (17 : FuncId) (99997 : Nat) (CP.dn (CP.dn (CP.dn CP.top (1 : Nat)) (1 : Nat)) (1 : Nat))) (retK C (17 : FuncId) [TV.pv (PV.sl a)] Q))))) := by kernel_rfl

def pln_c0 : CP := (CP.dn (CP.dn (CP.dn (CP.dn (CP.dn CP.top (1 : Nat)) (1 : Nat)) (0 : Nat)) (1 : Nat)) (0 : Nat))

def pln_h0 (t0 : List (List PV)) (t4 : Int) (o6 : List (List PV)) : St := (St.mk [((0 : Nat), AV.pv (PV.sl t0)), ((3 : Nat), AV.own (6 : Nat)), ((4 : Nat), AV.pv (PV.int IntKind.i64 t4))] [((6 : Nat), Obj.buf (2 : Nat) o6)])

theorem pln_l0 (N : Nat) (a : List (List PV)) (t0 : List (List PV)) (t4 : Int) (o6 : List (List PV))  (J0 : St → Prop) (Q : List TV × List TV → Prop) : (wAt C (S_plain N) 17 1000 (pln_c0.dn 0) (pln_h0 t0 t4 o6) (loopK C 17 pln_c0 J0 (exK (blockK (0 : Nat) (seqK (wAt C (S_plain N) (17 : FuncId) (99997 : Nat) (CP.dn (CP.dn (CP.dn CP.top (1 : Nat)) (1 : Nat)) (1 : Nat))) (retK C (17 : FuncId) [TV.pv (PV.sl a)] Q)))))) (H.b (H.s (H.s (H.s (H.s (H.s H.auto))))) H.auto) = ((decide (t4 < (↑(List.length t0) : Int)) = true → (0 : Int) ≤ t4 ∧ ∃ (s : List UInt8), ∃ (es : List (List PV)), t0[Int.toNat t4]? = some [PV.str s, PV.sl es] ∧ (0 : Int) ≤ t4 ∧ ∃ (s_1 : List UInt8), ∃ (es : List (List PV)), t0[Int.toNat t4]? = some [PV.str s_1, PV.sl es] ∧ (∃ (t : Tr), es = Tr.rows t ∧ Tr.nodes t < N ∧ Tr.nodes t ≤ (4000000 : Nat)) ∧ ((List.length o6 + (1 : Nat)) * (40 : Nat) ≤ room ∧ List.length o6 + (1 : Nat) ≤ maxInt) ∧ J0 (St.mk [((0 : Nat), AV.pv (PV.sl t0)), ((3 : Nat), AV.own (6 : Nat)), ((4 : Nat), AV.pv (PV.int IntKind.i64 (IntKind.wrap IntKind.i64 (t4 + (1 : Int)))))] [((6 : Nat), Obj.buf (2 : Nat) (o6 ++ [[PV.str s, PV.sl es]]))])) ∧ (decide (t4 < (↑(List.length t0) : Int)) = false → ∃ (h : H), Q ([TV.own (2 : Nat) o6], []))) := by kernel_rfl

noncomputable def S_tc : Specs := specL [(16, g_few), (13, g_within), (17, g_plain 4000000), (18, g_makeA), (19, g_check), (20, g_check)]

theorem tc_w (a : List (List PV)) (w d l : Int) (Q : List TV × List TV → Prop) : (wFun C S_tc 4 [.pv (.sl a), .pv (.int .i64 w), .pv (.int .i64 d), .pv (.int .i64 l)] Q) (H.n (1 : Nat) (H.b H.auto H.auto)) = ((∃ (l : Tr), a = Tr.rows l ∧ List.length (Tr.list l) ≤ (140737488351232 : Nat) ∧ Tr.lim (140737488351232 : Nat) l) ∧ ((!fewF a) = true → Q ([TV.pv (PV.bool true)], [])) ∧ ((!fewF a) = false → ¬(450 : Int) = (0 : Int) ∧ ¬(16 : Int) = (0 : Int) ∧ ¬(90 : Int) = (0 : Int) ∧ (∃ (t : Tr), a = Tr.rows t ∧ Tr.nodes t < (4000000 : Nat) ∧ Tr.nodes t ≤ (4000000 : Nat)) ∧ LoopAt C (4 : FuncId) (CP.dn (CP.dn (CP.dn (CP.dn (CP.dn (CP.dn (CP.dn (CP.dn CP.top (1 : Nat)) (1 : Nat)) (1 : Nat)) (1 : Nat)) (1 : Nat)) (0 : Nat)) (1 : Nat)) (0 : Nat)) (St.mk [((0 : Nat), AV.pv (PV.sl a)), ((1 : Nat), AV.pv (PV.int IntKind.i64 (wi w (450 : Int)))), ((2 : Nat), AV.pv (PV.int IntKind.i64 (wi d (16 : Int)))), ((3 : Nat), AV.pv (PV.int IntKind.i64 (wi l (90 : Int)))), ((9 : Nat), AV.own (18 : Nat)), ((10 : Nat), AV.pv (PV.int IntKind.i64 (0 : Int)))] [((18 : Nat), Obj.buf (2 : Nat) a)]) (exK (blockK (0 : Nat) (seqK (wAt C S_tc (4 : FuncId) (99994 : Nat) (CP.dn (CP.dn (CP.dn (CP.dn (CP.dn (CP.dn CP.top (1 : Nat)) (1 : Nat)) (1 : Nat)) (1 : Nat)) (1 : Nat)) (1 : Nat))) (retK C (4 : FuncId) [TV.pv (PV.sl a), TV.pv (PV.int IntKind.i64 w), TV.pv (PV.int IntKind.i64 d), TV.pv (PV.int IntKind.i64 l)] Q)))))) := by kernel_rfl

def tc_c0 : CP := (CP.dn (CP.dn (CP.dn (CP.dn (CP.dn (CP.dn (CP.dn (CP.dn CP.top (1 : Nat)) (1 : Nat)) (1 : Nat)) (1 : Nat)) (1 : Nat)) (0 : Nat)) (1 : Nat)) (0 : Nat))

def tc_h0 (t0 : List (List PV)) (t1 : Int) (t2 : Int) (t3 : Int) (t10 : Int) (o18 : List (List PV)) : St := (St.mk [((0 : Nat), AV.pv (PV.sl t0)), ((1 : Nat), AV.pv (PV.int IntKind.i64 t1)), ((2 : Nat), AV.pv (PV.int IntKind.i64 t2)), ((3 : Nat), AV.pv (PV.int IntKind.i64 t3)), ((9 : Nat), AV.own (18 : Nat)), ((10 : Nat), AV.pv (PV.int IntKind.i64 t10))] [((18 : Nat), Obj.buf (2 : Nat) o18)])

theorem tc_l0 (a : List (List PV)) (w d l : Int) (t0 : List (List PV)) (t1 : Int) (t2 : Int) (t3 : Int) (t10 : Int) (o18 : List (List PV))  (J0 : St → Prop) (Q : List TV × List TV → Prop) : (wAt C S_tc 4 1000 (tc_c0.dn 0) (tc_h0 t0 t1 t2 t3 t10 o18) (loopK C 4 tc_c0 J0 (exK (blockK (0 : Nat) (seqK (wAt C S_tc (4 : FuncId) (99994 : Nat) (CP.dn (CP.dn (CP.dn (CP.dn (CP.dn (CP.dn CP.top (1 : Nat)) (1 : Nat)) (1 : Nat)) (1 : Nat)) (1 : Nat)) (1 : Nat))) (retK C (4 : FuncId) [TV.pv (PV.sl a), TV.pv (PV.int IntKind.i64 w), TV.pv (PV.int IntKind.i64 d), TV.pv (PV.int IntKind.i64 l)] Q)))))) (H.b (H.n (3 : Nat) (H.s H.auto)) H.auto) = ((decide (t10 < t1) = true → ((List.length o18 + (1 : Nat)) * (40 : Nat) ≤ room ∧ List.length o18 + (1 : Nat) ≤ maxInt) ∧ J0 (St.mk [((0 : Nat), AV.pv (PV.sl t0)), ((1 : Nat), AV.pv (PV.int IntKind.i64 t1)), ((2 : Nat), AV.pv (PV.int IntKind.i64 t2)), ((3 : Nat), AV.pv (PV.int IntKind.i64 t3)), ((9 : Nat), AV.own (18 : Nat)), ((10 : Nat), AV.pv (PV.int IntKind.i64 (IntKind.wrap IntKind.i64 (t10 + (1 : Int)))))] [((18 : Nat), Obj.buf (2 : Nat) (o18 ++ [[PV.str [(110 : UInt8), UInt8.ofNat (Int.toNat (IntKind.wrap IntKind.u8 (Int.fdiv t10 (256 : Int)))), UInt8.ofNat (Int.toNat (IntKind.wrap IntKind.u8 t10))], PV.sl []]]))])) ∧ (decide (t10 < t1) = false → exK (blockK (0 : Nat) (seqK (wAt C S_tc (4 : FuncId) (99994 : Nat) (CP.dn (CP.dn (CP.dn (CP.dn (CP.dn (CP.dn CP.top (1 : Nat)) (1 : Nat)) (1 : Nat)) (1 : Nat)) (1 : Nat)) (1 : Nat))) (retK C (4 : FuncId) [TV.pv (PV.sl a), TV.pv (PV.int IntKind.i64 w), TV.pv (PV.int IntKind.i64 d), TV.pv (PV.int IntKind.i64 l)] Q))) (Ex.exit (0 : Nat)) (St.mk [((30 : Nat), AV.pv (PV.bool false)), ((29 : Nat), AV.pv (PV.int IntKind.i64 t1)), ((28 : Nat), AV.pv (PV.int IntKind.i64 t10)), ((0 : Nat), AV.pv (PV.sl t0)), ((1 : Nat), AV.pv (PV.int IntKind.i64 t1)), ((2 : Nat), AV.pv (PV.int IntKind.i64 t2)), ((3 : Nat), AV.pv (PV.int IntKind.i64 t3)), ((9 : Nat), AV.own (18 : Nat)), ((10 : Nat), AV.pv (PV.int IntKind.i64 t10))] [((18 : Nat), Obj.buf (2 : Nat) o18)]))) := by kernel_rfl

def tc_s1 (t29 : Int) (t28 : Int) (t0 : List (List PV)) (t1 : Int) (t2 : Int) (t3 : Int) (t10 : Int) (o18 : List (List PV)) : St := (St.mk [((30 : Nat), AV.pv (PV.bool false)), ((29 : Nat), AV.pv (PV.int IntKind.i64 t29)), ((28 : Nat), AV.pv (PV.int IntKind.i64 t28)), ((0 : Nat), AV.pv (PV.sl t0)), ((1 : Nat), AV.pv (PV.int IntKind.i64 t1)), ((2 : Nat), AV.pv (PV.int IntKind.i64 t2)), ((3 : Nat), AV.pv (PV.int IntKind.i64 t3)), ((9 : Nat), AV.own (18 : Nat)), ((10 : Nat), AV.pv (PV.int IntKind.i64 t10))] [((18 : Nat), Obj.buf (2 : Nat) o18)])

theorem tc_x1 (a : List (List PV)) (w d l : Int) (t29 : Int) (t28 : Int) (t0 : List (List PV)) (t1 : Int) (t2 : Int) (t3 : Int) (t10 : Int) (o18 : List (List PV))  (Q : List TV × List TV → Prop) : (fun h => blockK (0 : Nat) (seqK (wAt C S_tc (4 : FuncId) (99994 : Nat) (CP.dn (CP.dn (CP.dn (CP.dn (CP.dn (CP.dn CP.top (1 : Nat)) (1 : Nat)) (1 : Nat)) (1 : Nat)) (1 : Nat)) (1 : Nat))) (retK C (4 : FuncId) [TV.pv (PV.sl a), TV.pv (PV.int IntKind.i64 w), TV.pv (PV.int IntKind.i64 d), TV.pv (PV.int IntKind.i64 l)] Q)) h (Ex.exit (0 : Nat)) (tc_s1 t29 t28 t0 t1 t2 t3 t10 o18)) (H.s (H.s H.auto)) = (((0 : Int) ≤ t3 ∧ t3 ≤ t3 ∧ t3 ≤ (9223372036854775807 : Int) ∧ t3 * (1 : Int) ≤ (140737488355328 : Int)) ∧ u8Row (List.replicate (Int.toNat t3) [PV.int IntKind.u8 (0 : Int)]) = true ∧ LoopAt C (4 : FuncId) (CP.dn (CP.dn (CP.dn (CP.dn (CP.dn (CP.dn (CP.dn (CP.dn (CP.dn (CP.dn CP.top (1 : Nat)) (1 : Nat)) (1 : Nat)) (1 : Nat)) (1 : Nat)) (1 : Nat)) (1 : Nat)) (0 : Nat)) (1 : Nat)) (0 : Nat)) (St.mk [((0 : Nat), AV.pv (PV.sl t0)), ((2 : Nat), AV.pv (PV.int IntKind.i64 t2)), ((9 : Nat), AV.own (18 : Nat)), ((11 : Nat), AV.own (22 : Nat)), ((12 : Nat), AV.pv (PV.int IntKind.i64 (0 : Int)))] [((18 : Nat), Obj.buf (2 : Nat) o18), ((22 : Nat), Obj.buf (2 : Nat) [[PV.str (ofU8s (List.replicate (Int.toNat t3) [PV.int IntKind.u8 (0 : Int)])), PV.sl []]])]) (exK (blockK (2 : Nat) (seqK (wAt C S_tc (4 : FuncId) (99992 : Nat) (CP.dn (CP.dn (CP.dn (CP.dn (CP.dn (CP.dn (CP.dn (CP.dn CP.top (1 : Nat)) (1 : Nat)) (1 : Nat)) (1 : Nat)) (1 : Nat)) (1 : Nat)) (1 : Nat)) (1 : Nat))) (retK C (4 : FuncId) [TV.pv (PV.sl a), TV.pv (PV.int IntKind.i64 w), TV.pv (PV.int IntKind.i64 d), TV.pv (PV.int IntKind.i64 l)] Q))))) := by kernel_rfl

def tc_c2 : CP := (CP.dn (CP.dn (CP.dn (CP.dn (CP.dn (CP.dn (CP.dn (CP.dn (CP.dn (CP.dn CP.top (1 : Nat)) (1 : Nat)) (1 : Nat)) (1 : Nat)) (1 : Nat)) (1 : Nat)) (1 : Nat)) (0 : Nat)) (1 : Nat)) (0 : Nat))

def tc_h2 (t0 : List (List PV)) (t2 : Int) (t12 : Int) (o18 : List (List PV)) (o22 : List UInt8) (o22b : List (List PV)) : St := (St.mk [((0 : Nat), AV.pv (PV.sl t0)), ((2 : Nat), AV.pv (PV.int IntKind.i64 t2)), ((9 : Nat), AV.own (18 : Nat)), ((11 : Nat), AV.own (22 : Nat)), ((12 : Nat), AV.pv (PV.int IntKind.i64 t12))] [((18 : Nat), Obj.buf (2 : Nat) o18), ((22 : Nat), Obj.buf (2 : Nat) [[PV.str o22, PV.sl o22b]])])

theorem tc_l2 (a : List (List PV)) (w d l : Int) (t0 : List (List PV)) (t2 : Int) (t12 : Int) (o18 : List (List PV)) (o22 : List UInt8) (o22b : List (List PV))  (J2 : St → Prop) (Q : List TV × List TV → Prop) : (wAt C S_tc 4 1000 (tc_c2.dn 0) (tc_h2 t0 t2 t12 o18 o22 o22b) (loopK C 4 tc_c2 J2 (exK (blockK (2 : Nat) (seqK (wAt C S_tc (4 : FuncId) (99992 : Nat) (CP.dn (CP.dn (CP.dn (CP.dn (CP.dn (CP.dn (CP.dn (CP.dn CP.top (1 : Nat)) (1 : Nat)) (1 : Nat)) (1 : Nat)) (1 : Nat)) (1 : Nat)) (1 : Nat)) (1 : Nat))) (retK C (4 : FuncId) [TV.pv (PV.sl a), TV.pv (PV.int IntKind.i64 w), TV.pv (PV.int IntKind.i64 d), TV.pv (PV.int IntKind.i64 l)] Q)))))) (H.b H.auto H.auto) = ((decide (t12 < t2) = true → J2 (St.mk [((0 : Nat), AV.pv (PV.sl t0)), ((2 : Nat), AV.pv (PV.int IntKind.i64 t2)), ((9 : Nat), AV.own (18 : Nat)), ((11 : Nat), AV.own (22 : Nat)), ((12 : Nat), AV.pv (PV.int IntKind.i64 (IntKind.wrap IntKind.i64 (t12 + (1 : Int)))))] [((18 : Nat), Obj.buf (2 : Nat) o18), ((22 : Nat), Obj.buf (2 : Nat) [[PV.str [(100 : UInt8)], PV.sl [[PV.str o22, PV.sl o22b]]]])])) ∧ (decide (t12 < t2) = false → exK (blockK (2 : Nat) (seqK (wAt C S_tc (4 : FuncId) (99992 : Nat) (CP.dn (CP.dn (CP.dn (CP.dn (CP.dn (CP.dn (CP.dn (CP.dn CP.top (1 : Nat)) (1 : Nat)) (1 : Nat)) (1 : Nat)) (1 : Nat)) (1 : Nat)) (1 : Nat)) (1 : Nat))) (retK C (4 : FuncId) [TV.pv (PV.sl a), TV.pv (PV.int IntKind.i64 w), TV.pv (PV.int IntKind.i64 d), TV.pv (PV.int IntKind.i64 l)] Q))) (Ex.exit (2 : Nat)) (St.mk [((52 : Nat), AV.pv (PV.bool false)), ((51 : Nat), AV.pv (PV.int IntKind.i64 t2)), ((50 : Nat), AV.pv (PV.int IntKind.i64 t12)), ((0 : Nat), AV.pv (PV.sl t0)), ((2 : Nat), AV.pv (PV.int IntKind.i64 t2)), ((9 : Nat), AV.own (18 : Nat)), ((11 : Nat), AV.own (22 : Nat)), ((12 : Nat), AV.pv (PV.int IntKind.i64 t12))] [((18 : Nat), Obj.buf (2 : Nat) o18), ((22 : Nat), Obj.buf (2 : Nat) [[PV.str o22, PV.sl o22b]])]))) := by kernel_rfl

def tc_s3 (t51 : Int) (t50 : Int) (t0 : List (List PV)) (t2 : Int) (t12 : Int) (o18 : List (List PV)) (o22 : List UInt8) (o22b : List (List PV)) : St := (St.mk [((52 : Nat), AV.pv (PV.bool false)), ((51 : Nat), AV.pv (PV.int IntKind.i64 t51)), ((50 : Nat), AV.pv (PV.int IntKind.i64 t50)), ((0 : Nat), AV.pv (PV.sl t0)), ((2 : Nat), AV.pv (PV.int IntKind.i64 t2)), ((9 : Nat), AV.own (18 : Nat)), ((11 : Nat), AV.own (22 : Nat)), ((12 : Nat), AV.pv (PV.int IntKind.i64 t12))] [((18 : Nat), Obj.buf (2 : Nat) o18), ((22 : Nat), Obj.buf (2 : Nat) [[PV.str o22, PV.sl o22b]])])

theorem tc_x3 (a : List (List PV)) (w d l : Int) (t51 : Int) (t50 : Int) (t0 : List (List PV)) (t2 : Int) (t12 : Int) (o18 : List (List PV)) (o22 : List UInt8) (o22b : List (List PV))  (Q : List TV × List TV → Prop) : (fun h => blockK (2 : Nat) (seqK (wAt C S_tc (4 : FuncId) (99992 : Nat) (CP.dn (CP.dn (CP.dn (CP.dn (CP.dn (CP.dn (CP.dn (CP.dn CP.top (1 : Nat)) (1 : Nat)) (1 : Nat)) (1 : Nat)) (1 : Nat)) (1 : Nat)) (1 : Nat)) (1 : Nat))) (retK C (4 : FuncId) [TV.pv (PV.sl a), TV.pv (PV.int IntKind.i64 w), TV.pv (PV.int IntKind.i64 d), TV.pv (PV.int IntKind.i64 l)] Q)) h (Ex.exit (2 : Nat)) (tc_s3 t51 t50 t0 t2 t12 o18 o22 o22b)) (H.n (2 : Nat) (H.s (H.s H.auto))) = ((∃ (t : Tr), t0 = Tr.rows t ∧ Tr.nodes t < (4000000 : Nat) ∧ Tr.nodes t ≤ (4000000 : Nat)) ∧ (∃ (l : Tr), t0 = Tr.rows l ∧ List.length (Tr.list l) ≤ (140737488351232 : Nat) ∧ Tr.lim (140737488351232 : Nat) l ∧ ((0 : Int) ≤ (20 : Int) ∧ (20 : Int) ≤ (4000 : Int)) ∧ (0 : Int) ≤ (8 : Int) ∧ (8 : Int) ≤ (4000 : Int)) ∧ (((1 : Nat) + List.length o18) * (40 : Nat) ≤ room ∧ (1 : Nat) + List.length o18 ≤ maxInt) ∧ rowOk (2 : Nat) o18 = true ∧ LoopAt C (4 : FuncId) (CP.dn (CP.dn (CP.dn (CP.dn (CP.dn (CP.dn (CP.dn (CP.dn (CP.dn (CP.dn (CP.dn (CP.dn CP.top (1 : Nat)) (1 : Nat)) (1 : Nat)) (1 : Nat)) (1 : Nat)) (1 : Nat)) (1 : Nat)) (1 : Nat)) (1 : Nat)) (0 : Nat)) (1 : Nat)) (0 : Nat)) (St.mk [((13 : Nat), AV.own (26 : Nat)), ((14 : Nat), AV.pv (PV.int IntKind.i64 (0 : Int)))] [((26 : Nat), Obj.buf (1 : Nat) [[PV.sl o18], [PV.sl [[PV.str o22, PV.sl o22b]]], [PV.sl t0], [PV.sl (Tr.rows (makeF (20 : Nat) (8 : Nat) (unrow t0)))], [PV.sl ([PV.str o22, PV.sl o22b] :: o18)]])]) (exK (blockK (4 : Nat) (seqK (wAt C S_tc (4 : FuncId) (99990 : Nat) (CP.dn (CP.dn (CP.dn (CP.dn (CP.dn (CP.dn (CP.dn (CP.dn (CP.dn (CP.dn CP.top (1 : Nat)) (1 : Nat)) (1 : Nat)) (1 : Nat)) (1 : Nat)) (1 : Nat)) (1 : Nat)) (1 : Nat)) (1 : Nat)) (1 : Nat))) (retK C (4 : FuncId) [TV.pv (PV.sl a), TV.pv (PV.int IntKind.i64 w), TV.pv (PV.int IntKind.i64 d), TV.pv (PV.int IntKind.i64 l)] Q))))) := by kernel_rfl

def tc_c4 : CP := (CP.dn (CP.dn (CP.dn (CP.dn (CP.dn (CP.dn (CP.dn (CP.dn (CP.dn (CP.dn (CP.dn (CP.dn CP.top (1 : Nat)) (1 : Nat)) (1 : Nat)) (1 : Nat)) (1 : Nat)) (1 : Nat)) (1 : Nat)) (1 : Nat)) (1 : Nat)) (0 : Nat)) (1 : Nat)) (0 : Nat))

def tc_h4 (t14 : Int) (o26 : List (List PV)) (o26b : List UInt8) (o26c : List (List PV)) (o26d : List (List PV)) (o26e : List (List PV)) (o26f : List (List PV)) : St := (St.mk [((13 : Nat), AV.own (26 : Nat)), ((14 : Nat), AV.pv (PV.int IntKind.i64 t14))] [((26 : Nat), Obj.buf (1 : Nat) [[PV.sl o26], [PV.sl [[PV.str o26b, PV.sl o26c]]], [PV.sl o26d], [PV.sl o26e], [PV.sl o26f]])])

theorem tc_l4 (a : List (List PV)) (w d l : Int) (t14 : Int) (o26 : List (List PV)) (o26b : List UInt8) (o26c : List (List PV)) (o26d : List (List PV)) (o26e : List (List PV)) (o26f : List (List PV))  (J4 : St → Prop) (Q : List TV × List TV → Prop) : (wAt C S_tc 4 1000 (tc_c4.dn 0) (tc_h4 t14 o26 o26b o26c o26d o26e o26f) (loopK C 4 tc_c4 J4 (exK (blockK (4 : Nat) (seqK (wAt C S_tc (4 : FuncId) (99990 : Nat) (CP.dn (CP.dn (CP.dn (CP.dn (CP.dn (CP.dn (CP.dn (CP.dn (CP.dn (CP.dn CP.top (1 : Nat)) (1 : Nat)) (1 : Nat)) (1 : Nat)) (1 : Nat)) (1 : Nat)) (1 : Nat)) (1 : Nat)) (1 : Nat)) (1 : Nat))) (retK C (4 : FuncId) [TV.pv (PV.sl a), TV.pv (PV.int IntKind.i64 w), TV.pv (PV.int IntKind.i64 d), TV.pv (PV.int IntKind.i64 l)] Q)))))) (H.b (H.s (H.s (H.s (H.s (H.b H.auto H.auto))))) H.auto) = ((decide (t14 < (↑(List.length [[PV.sl o26], [PV.sl [[PV.str o26b, PV.sl o26c]]], [PV.sl o26d], [PV.sl o26e], [PV.sl o26f]]) : Int)) = true → ((0 : Int) ≤ t14 ∧ t14 < (↑(5 : Nat) : Int)) ∧ ∃ (c : List PV), [[PV.sl o26], [PV.sl [[PV.str o26b, PV.sl o26c]]], [PV.sl o26d], [PV.sl o26e], [PV.sl o26f]][Int.toNat t14]? = some c ∧ (1 : Nat) ≤ List.length c ∧ ∃ (es : List (List PV)), List.take (1 : Nat) c = [PV.sl es] ∧ (∃ (t : Tr), es = Tr.rows t ∧ Tr.nodes t < (4000000 : Nat)) ∧ ((0 : Int) ≤ t14 ∧ t14 < (↑(5 : Nat) : Int)) ∧ ∃ (c : List PV), [[PV.sl o26], [PV.sl [[PV.str o26b, PV.sl o26c]]], [PV.sl o26d], [PV.sl o26e], [PV.sl o26f]][Int.toNat t14]? = some c ∧ (1 : Nat) ≤ List.length c ∧ ∃ (es_1 : List (List PV)), List.take (1 : Nat) c = [PV.sl es_1] ∧ (∃ (t : Tr), es_1 = Tr.rows t ∧ Tr.nodes t < (4000000 : Nat)) ∧ ((chkE es (1 : Int) (0 : Int) != chkE es_1 (1 : Int) (0 : Int)) = true → ∃ (h : H), Q ([TV.pv (PV.bool false)], [])) ∧ ((chkE es (1 : Int) (0 : Int) != chkE es_1 (1 : Int) (0 : Int)) = false → J4 (St.mk [((13 : Nat), AV.own (26 : Nat)), ((14 : Nat), AV.pv (PV.int IntKind.i64 (IntKind.wrap IntKind.i64 (t14 + (1 : Int)))))] [((26 : Nat), Obj.buf (1 : Nat) [[PV.sl o26], [PV.sl [[PV.str o26b, PV.sl o26c]]], [PV.sl o26d], [PV.sl o26e], [PV.sl o26f]])]))) ∧ (decide (t14 < (↑(List.length [[PV.sl o26], [PV.sl [[PV.str o26b, PV.sl o26c]]], [PV.sl o26d], [PV.sl o26e], [PV.sl o26f]]) : Int)) = false → ∃ (h : H), Q ([TV.pv (PV.bool true)], []))) := by kernel_rfl

theorem rows_take_succ (t : Tr) {i : Nat} (h : i < t.list.length) : t.rows.take (i + 1) = t.rows.take i ++ [[.str t.list[i].1, .sl t.list[i].2.rows]] := by
  rw [rows_take, rows_take, List.take_succ_eq_append_getElem h, List.map_append]; rfl

theorem plain_ev : ∀ (N : Nat) (t : Tr), t.nodes < N → t.nodes ≤ 4000000 → Ev C 17 [.pv (.sl t.rows)] ([.own 2 t.rows], [])
  | 0, t, h, _ => by omega
  | N + 1, t, h, hb => by
    have hr := room_val
    have hm := maxInt_val
    have hS : SpecOK C (S_plain N) := specL_ok (specs_cons (by
      intro ag al hl x hx hp
      unfold g_plain at hl
      split at hl
      · have e := one_mem hl hx; subst e
        obtain ⟨t, rfl, h3, h4⟩ := hp
        exact plain_ev N t h3 h4
      · exact absurd hl (by simp)) specs_nil)
    have hlt := rows_len t
    have hnl := list_le_nodes t
    refine ev_w hS (pln_w N t.rows _) ?_
    refine loop_rule hS (by kernel_rfl) 1000 (fun k st => ∃ i : Nat, st = pln_h0 t.rows i (t.rows.take i) ∧ i ≤ t.list.length ∧ k = t.list.length - i) ?_ (n := t.list.length) ⟨0, rfl, by omega, rfl⟩
    rintro k st ⟨i, rfl, hi, rfl⟩
    refine ex_w (pln_l0 _ _ _ _ _ _ _) ⟨fun g => ?_, fun g => ?_⟩
    · simp only [decide_eq_true_eq] at g
      have hi' : i < t.list.length := by omega
      have w1 := w64s (i := i) (by omega)
      have hk := nodes_lt (List.getElem_mem hi')
      have hlen : (t.rows.take i).length ≤ t.list.length := by rw [List.length_take]; omega
      rw [w1]
      refine ⟨by omega, _, _, row_get t hi', by omega, _, _, row_get t hi', ⟨t.list[i].2, rfl, by omega, by omega⟩, ⟨by omega, by omega⟩, t.list.length - (i + 1), by omega, i + 1, ?_, by omega, rfl⟩
      rw [← rows_take_succ t hi']; rfl
    · simp only [decide_eq_false_iff_not] at g
      refine ⟨.auto, ?_⟩
      rw [List.take_of_length_le (by omega)]

theorem plain_ok {N : Nat} : ∀ ag al, g_plain N ag = some al → ∀ a ∈ al, a.1 → Ev C 17 ag a.2 := by
  intro ag al hl x hx hp
  unfold g_plain at hl
  split at hl
  · have e := one_mem hl hx; subst e
    obtain ⟨t, rfl, h3, h4⟩ := hp
    exact plain_ev N t h3 h4
  · exact absurd hl (by simp)

theorem tc_specs : SpecOK C S_tc := specL_ok (specs_cons few_ok (specs_cons (g_within_ok within_ev) (specs_cons plain_ok (specs_cons makeA_ok (specs_cons check_ok (specs_cons rcheck_ok specs_nil))))))

/-- A tree with an edge more. -/
def addE (u : Tr) (n : List UInt8) (k : Tr) : Tr := Tr.of (u.list ++ [(n, k)])
theorem addE_rows (u : Tr) (n : List UInt8) (k : Tr) : (addE u n k).rows = u.rows ++ [[.str n, .sl k.rows]] := by
  rw [addE, rows_of, rows_list, List.map_append]; rfl
theorem addE_nodes (u : Tr) (n : List UInt8) (k : Tr) : (addE u n k).nodes = u.nodes + k.nodes + 1 := by
  rw [addE, nodes_sum, sumN_app]
  have := nodes_sum u.list
  rw [of_list] at this
  rw [this]; simp [sumN]; omega

theorem tree_get (l : List Tr) {i : Nat} (h : i < l.length) : (l.map fun t => [PV.sl t.rows])[Int.toNat (i : Int)]? = some [PV.sl l[i].rows] := by
  rw [Int.toNat_natCast, List.getElem?_map, List.getElem?_eq_getElem h]; rfl

theorem tc_ev (t : Tr) (h1 : t.list.length ≤ 140737488351232) (h2 : t.lim 140737488351232) (w d l : Int) : Ev C 4 [.pv (.sl t.rows), .pv (.int .i64 w), .pv (.int .i64 d), .pv (.int .i64 l)] good := by
  have hr := room_val
  have hm := maxInt_val
  refine ev_w tc_specs (tc_w t.rows w d l _) ⟨⟨t, rfl, h1, h2⟩, fun _ => rfl, fun f1 => ?_⟩
  have hn := few_nodes h1 h2 (by simpa using f1)
  have k1 : 0 ≤ wi w 450 ∧ wi w 450 < 450 := wi_range (a := w) (n := 450) (by omega) (by omega)
  have k2 : 0 ≤ wi d 16 ∧ wi d 16 < 16 := wi_range (a := d) (n := 16) (by omega) (by omega)
  have k3 : 0 ≤ wi l 90 ∧ wi l 90 < 90 := wi_range (a := l) (n := 90) (by omega) (by omega)
  obtain ⟨W, eW⟩ : ∃ W : Nat, wi w 450 = W := ⟨(wi w 450).toNat, by omega⟩
  obtain ⟨D, eD⟩ : ∃ D : Nat, wi d 16 = D := ⟨(wi d 16).toNat, by omega⟩
  obtain ⟨L, eL⟩ : ∃ L : Nat, wi l 90 = L := ⟨(wi l 90).toNat, by omega⟩
  rw [eW, eD, eL]
  refine ⟨by decide, by decide, by decide, ⟨t, rfl, by omega, by omega⟩, ?_⟩
  refine loop_rule tc_specs (by kernel_rfl) 1000 (fun k st => ∃ (i : Nat) (u : Tr), st = tc_h0 t.rows W D L i u.rows ∧ u.nodes ≤ 200 + i ∧ i ≤ W ∧ k = W - i) ?_ (n := W) ⟨0, t, rfl, by omega, by omega, rfl⟩
  rintro k st ⟨i, u, rfl, hu, hi, rfl⟩
  have hul := list_le_nodes u
  have hur := rows_len u
  refine ex_w (tc_l0 _ _ _ _ _ _ _ _ _ _ _ _) ⟨fun g => ?_, fun g => ?_⟩
  · simp only [decide_eq_true_eq] at g
    have w1 := w64s (i := i) (by omega)
    rw [w1]
    refine ⟨⟨by omega, by omega⟩, W - (i + 1), by omega, i + 1, addE u [110, UInt8.ofNat (Int.toNat (IntKind.wrap .u8 (Int.fdiv (i : Int) 256))), UInt8.ofNat (Int.toNat (IntKind.wrap .u8 (i : Int)))] .nil, ?_, by rw [addE_nodes]; simp only [Tr.nodes]; omega, by omega, rfl⟩
    rw [addE_rows]; rfl
  · refine ex_w (tc_x1 _ _ _ _ _ _ _ _ _ _ _ _ _) ⟨⟨by omega, by omega, by omega, by omega⟩, by simp [u8Row], ?_⟩
    generalize ofU8s (List.replicate (Int.toNat (L : Int)) [PV.int .u8 0]) = x0
    refine loop_rule tc_specs (by kernel_rfl) 1000 (fun k st => ∃ (j : Nat) (n : List UInt8) (x : Tr), st = tc_h2 t.rows D j u.rows n x.rows ∧ x.nodes ≤ j ∧ j ≤ D ∧ k = D - j) ?_ (n := D) ⟨0, x0, .nil, rfl, by simp [Tr.nodes], by omega, rfl⟩
    rintro k st ⟨j, n, x, rfl, hx, hj, rfl⟩
    refine ex_w (tc_l2 _ _ _ _ _ _ _ _ _ _ _ _) ⟨fun g2 => ?_, fun g2 => ?_⟩
    · simp only [decide_eq_true_eq] at g2
      have w1 := w64s (i := j) (by omega)
      rw [w1]
      exact ⟨D - (j + 1), by omega, j + 1, [100], .cons n x .nil, rfl, by simp only [Tr.nodes]; omega, by omega, rfl⟩
    · refine ex_w (tc_x3 _ _ _ _ _ _ _ _ _ _ _ _ _) ⟨⟨t, rfl, by omega, by omega⟩, ⟨t, rfl, h1, h2, by omega, by omega⟩, ⟨by omega, by omega⟩, by rw [rows_list]; exact rowOk_edges _, ?_⟩
      rw [unrow_rows]
      have hmk := make_nodes 20 8 t
      refine loop_rule tc_specs (by kernel_rfl) 1000 (fun k st => ∃ q : Nat, st = tc_h4 q u.rows n x.rows t.rows (makeF 20 8 t).rows ([PV.str n, PV.sl x.rows] :: u.rows) ∧ q ≤ 5 ∧ k = 5 - q) ?_ (n := 5) ⟨0, rfl, by omega, rfl⟩
      rintro k st ⟨q, rfl, hq, rfl⟩
      refine ex_w (tc_l4 _ _ _ _ _ _ _ _ _ _ _ _ _) ⟨fun g3 => ?_, fun g3 => ⟨.auto, rfl⟩⟩
      simp only [List.length_cons, List.length_nil, decide_eq_true_eq] at g3
      have hq' : q < [u, .cons n x .nil, t, makeF 20 8 t, .cons n x u].length := by simp only [List.length_cons, List.length_nil]; omega
      have hg := tree_get [u, .cons n x .nil, t, makeF 20 8 t, .cons n x u] hq'
      have hall : ∀ v ∈ [u, .cons n x .nil, t, makeF 20 8 t, .cons n x u], v.nodes < 4000000 := by
        intro v hv
        simp only [List.mem_cons, List.not_mem_nil, or_false] at hv
        rcases hv with rfl | rfl | rfl | rfl | rfl <;> (try simp only [Tr.nodes]) <;> omega
      have hv := hall _ (List.getElem_mem hq')
      generalize [u, .cons n x .nil, t, makeF 20 8 t, .cons n x u][q] = v at *
      have w1 := w64s (i := q) (by omega)
      rw [w1]
      exact ⟨⟨by omega, by omega⟩, _, hg, by simp, _, rfl, ⟨v, rfl, hv⟩, ⟨by omega, by omega⟩, _, hg, by simp, _, rfl, ⟨v, rfl, hv⟩, fun h => by simp at h, fun _ => ⟨5 - (q + 1), by omega, q + 1, rfl, by omega, rfl⟩⟩

theorem TreeChecks_calls (e1 : List (List PV)) (s1 : Shp Try.prog 35 [.sl e1]) (a : Int) (ha : (Lit.int .i64 a).wf = true) (b : Int) (hb : (Lit.int .i64 b).wf = true) (c : Int) (hc : (Lit.int .i64 c).wf = true) {w : World} {args : List Value} (hr : RepA w noCells [.sl e1, .int .i64 a, .int .i64 b, .int .i64 c] args) : Calls Try.prog 4 args.toArray w fun e w' => e = .returned (.bool true) ∧ Below w.heap.size w w' := by
  obtain ⟨l, rfl, h1, h2⟩ := raw_of (E := 70) (by kernel_rfl) s1
  obtain ⟨k, h⟩ := (tc_ev l h1 h2 a b c).get
  exact law_calls (C := C) progOKp Try.func4 (by kernel_rfl) (sound h) hr

end Go.Proofs.Ytmjkdghcfihfiaa.Vm
