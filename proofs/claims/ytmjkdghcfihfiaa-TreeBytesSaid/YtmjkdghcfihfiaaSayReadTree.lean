/-
  Bytes read as trees, in the machine.
-/
import Derived.Test.YtmjkdghcfihfiaaSayReader
import Derived.Test.YtmjkdghcfihfiaaSayParse
namespace Go.Proofs.Ytmjkdghcfihfiaa.Vm
open Go Go.RowKit
set_option linter.unusedVariables false
set_option linter.unusedSimpArgs false
set_option maxRecDepth 100000

/-- An answer of the reader of trees: nil?, the rows, what is left, the errors, the count. -/
structure PtV where
  isNil : Bool
  t : List (List PV)
  l : List UInt8
  e : Int
  n : Int
  r : Int

def ptRes (v : PtV) : List TV × List TV := (if v.isNil then [.pv (.sl [])] else [.own 2 v.t], [.ptr [.ptr [.pv (.sl (u8s v.l)), .pv (.int .i64 v.e)], .pv (.int .i64 v.n), .pv (.int .i64 400), .pv (.int .i64 v.r)]])

/-- What is known of it. -/
def PtP (R : PRes Tr) (v : PtV) : Prop := match R with
  | .error x => v.e = x ∧ (v.r = 0 ∨ v.r = x)
  | .ok (t, l, n) => v.isNil = false ∧ v.t = t.rows ∧ v.l = l ∧ v.e = 0 ∧ v.n = n ∧ v.r = 0

noncomputable def ptV (a : List (List PV)) (n d : Int) : PtV := @Classical.epsilon _ ⟨⟨true, [], [], 0, 0, 0⟩⟩ fun v => Ev C 53 [.ptr [.ptr [.pv (.sl a), .pv (.int .i64 0)], .pv (.int .i64 n), .pv (.int .i64 400), .pv (.int .i64 0)], .pv (.int .i64 d)] (ptRes v) ∧ PtP (parseD (13 - d).toNat d (ofU8s a) n) v

noncomputable def ptNil (a : List (List PV)) (n d : Int) : Bool := (ptV a n d).isNil
noncomputable def ptT (a : List (List PV)) (n d : Int) : List (List PV) := (ptV a n d).t
noncomputable def ptL (a : List (List PV)) (n d : Int) : List (List PV) := u8s (ptV a n d).l
noncomputable def ptE (a : List (List PV)) (n d : Int) : Int := (ptV a n d).e
noncomputable def ptN (a : List (List PV)) (n d : Int) : Int := (ptV a n d).n
noncomputable def ptR (a : List (List PV)) (n d : Int) : Int := (ptV a n d).r

noncomputable def g_pt (f : Nat) : List TV → Option Alts
  | [.ptr [.ptr [.pv (.sl a), .pv (.int .i64 e)], .pv (.int .i64 n), .pv (.int .i64 m), .pv (.int .i64 r)], .pv (.int .i64 d)] => some
    [((((∃ l : List UInt8, a = u8s l) ∧ e = 0 ∧ r = 0 ∧ m = 400 ∧ (0 ≤ n ∧ n ≤ 400) ∧ d + f = 13 ∧ 0 ≤ d) ∧ ptNil a n d = true), [.pv (.sl [])], [.ptr [.ptr [.pv (.sl (ptL a n d)), .pv (.int .i64 (ptE a n d))], .pv (.int .i64 (ptN a n d)), .pv (.int .i64 m), .pv (.int .i64 (ptR a n d))]]),
     ((((∃ l : List UInt8, a = u8s l) ∧ e = 0 ∧ r = 0 ∧ m = 400 ∧ (0 ≤ n ∧ n ≤ 400) ∧ d + f = 13 ∧ 0 ≤ d) ∧ ptNil a n d = false), [.own 2 (ptT a n d)], [.ptr [.ptr [.pv (.sl (ptL a n d)), .pv (.int .i64 (ptE a n d))], .pv (.int .i64 (ptN a n d)), .pv (.int .i64 m), .pv (.int .i64 (ptR a n d))]])]
  | _ => none

noncomputable def S_pt2 (f : Nat) : Specs := specL [(79, g_bt), (80, g_rt), (54, g_cut), (81, g_fail), (78, g_fit), (53, g_pt f)]

theorem ptr_w (f : Nat) (a : List (List PV)) (n d : Int) (Q : List TV × List TV → Prop) : (wFun C (S_pt2 f) 53 [.ptr [.ptr [.pv (.sl a), .pv (.int .i64 0)], .pv (.int .i64 n), .pv (.int .i64 400), .pv (.int .i64 0)], .pv (.int .i64 d)] Q) (H.auto) = ((∃ (l : List UInt8), a = u8s l) ∧ (∃ (l : List UInt8), bytS a (0 : Int) (1 : Int) = u8s l) ∧ LoopAt C (53 : FuncId) (CP.dn (CP.dn (CP.dn (CP.dn (CP.dn (CP.dn CP.top (1 : Nat)) (1 : Nat)) (1 : Nat)) (0 : Nat)) (1 : Nat)) (0 : Nat)) (St.mk [((0 : Nat), AV.addr (1 : Nat) (0 : Nat) (0 : Nat)), ((1 : Nat), AV.pv (PV.int IntKind.i64 d)), ((5 : Nat), AV.own (10 : Nat)), ((20 : Nat), AV.pv (PV.int IntKind.i64 (ior IntKind.i64 (numV (bytR a (0 : Int) (1 : Int))) (IntKind.wrap IntKind.i64 (numV (bytR (bytS a (0 : Int) (1 : Int)) (bytE a (0 : Int) (1 : Int)) (1 : Int)) * (256 : Int)))))), ((21 : Nat), AV.pv (PV.int IntKind.i64 (0 : Int)))] [((1 : Nat), Obj.box [AV.addr (4001 : Nat) (0 : Nat) (0 : Nat), AV.pv (PV.int IntKind.i64 n), AV.pv (PV.int IntKind.i64 (400 : Int)), AV.pv (PV.int IntKind.i64 (0 : Int))]), ((10 : Nat), Obj.buf (2 : Nat) []), ((4001 : Nat), Obj.box [AV.pv (PV.sl (bytS (bytS a (0 : Int) (1 : Int)) (bytE a (0 : Int) (1 : Int)) (1 : Int))), AV.pv (PV.int IntKind.i64 (bytE (bytS a (0 : Int) (1 : Int)) (bytE a (0 : Int) (1 : Int)) (1 : Int)))])]) (exK (blockK (0 : Nat) (seqK (wAt C (S_pt2 f) (53 : FuncId) (99996 : Nat) (CP.dn (CP.dn (CP.dn (CP.dn CP.top (1 : Nat)) (1 : Nat)) (1 : Nat)) (1 : Nat))) (retK C (53 : FuncId) [TV.ptr [TV.ptr [TV.pv (PV.sl a), TV.pv (PV.int IntKind.i64 (0 : Int))], TV.pv (PV.int IntKind.i64 n), TV.pv (PV.int IntKind.i64 (400 : Int)), TV.pv (PV.int IntKind.i64 (0 : Int))], TV.pv (PV.int IntKind.i64 d)] Q))))) := by kernel_rfl

def ptr_c0 : CP := (CP.dn (CP.dn (CP.dn (CP.dn (CP.dn (CP.dn CP.top (1 : Nat)) (1 : Nat)) (1 : Nat)) (0 : Nat)) (1 : Nat)) (0 : Nat))

def ptr_h0 (t1 : Int) (t20 : Int) (t21 : Int) (o1 : Int) (o1b : Int) (o1c : Int) (o10 : List (List PV)) (o4001 : List (List PV)) (o4001b : Int) : St := (St.mk [((0 : Nat), AV.addr (1 : Nat) (0 : Nat) (0 : Nat)), ((1 : Nat), AV.pv (PV.int IntKind.i64 t1)), ((5 : Nat), AV.own (10 : Nat)), ((20 : Nat), AV.pv (PV.int IntKind.i64 t20)), ((21 : Nat), AV.pv (PV.int IntKind.i64 t21))] [((1 : Nat), Obj.box [AV.addr (4001 : Nat) (0 : Nat) (0 : Nat), AV.pv (PV.int IntKind.i64 o1), AV.pv (PV.int IntKind.i64 o1b), AV.pv (PV.int IntKind.i64 o1c)]), ((10 : Nat), Obj.buf (2 : Nat) o10), ((4001 : Nat), Obj.box [AV.pv (PV.sl o4001), AV.pv (PV.int IntKind.i64 o4001b)])])

theorem ptr_l0 (f : Nat) (a : List (List PV)) (n d : Int) (t1 : Int) (t20 : Int) (t21 : Int) (o1 : Int) (o1b : Int) (o1c : Int) (o10 : List (List PV)) (o4001 : List (List PV)) (o4001b : Int)  (J0 : St → Prop) (Q : List TV × List TV → Prop) : (wAt C (S_pt2 f) 53 1000 (ptr_c0.dn 0) (ptr_h0 t1 t20 t21 o1 o1b o1c o10 o4001 o4001b) (loopK C 53 ptr_c0 J0 (exK (blockK (0 : Nat) (seqK (wAt C (S_pt2 f) (53 : FuncId) (99996 : Nat) (CP.dn (CP.dn (CP.dn (CP.dn CP.top (1 : Nat)) (1 : Nat)) (1 : Nat)) (1 : Nat))) (retK C (53 : FuncId) [TV.ptr [TV.ptr [TV.pv (PV.sl a), TV.pv (PV.int IntKind.i64 (0 : Int))], TV.pv (PV.int IntKind.i64 n), TV.pv (PV.int IntKind.i64 (400 : Int)), TV.pv (PV.int IntKind.i64 (0 : Int))], TV.pv (PV.int IntKind.i64 d)] Q)))))) (H.b (H.b H.auto (H.n (1 : Nat) (H.b H.auto (H.b (H.s H.auto) (H.b (H.s H.auto) H.auto))))) H.auto) = ((decide (t21 < t20) = true → (∃ (l : List UInt8), o4001 = u8s l) ∧ True ∧ ((cutE (txtS o4001 o4001b) (txtE o4001 o4001b) o1c != (0 : Int)) = true → ∃ (h : H), Q ([TV.pv (PV.sl [])], [TV.ptr [TV.ptr [TV.pv (PV.sl (txtS o4001 o4001b)), TV.pv (PV.int IntKind.i64 (txtE o4001 o4001b))], TV.pv (PV.int IntKind.i64 o1), TV.pv (PV.int IntKind.i64 o1b), TV.pv (PV.int IntKind.i64 (cutE (txtS o4001 o4001b) (txtE o4001 o4001b) o1c))]])) ∧ ((cutE (txtS o4001 o4001b) (txtE o4001 o4001b) o1c != (0 : Int)) = false → (o1b = (400 : Int) ∧ ((0 : Int) ≤ o1 ∧ o1 ≤ (4000000000 : Int)) ∧ ∃ (l : List Proofs.Ytmjkdghcfihfiaa.Vm.Edge), o10 = List.map rowE l ∧ List.length l ≤ (4000000 : Nat)) ∧ True ∧ ((failE (cutE (txtS o4001 o4001b) (txtE o4001 o4001b) o1c) (fitE (o1 + (1 : Int)) t1 (txtR o4001 o4001b) o10) != (0 : Int)) = true → ∃ (h : H), Q ([TV.pv (PV.sl [])], [TV.ptr [TV.ptr [TV.pv (PV.sl (txtS o4001 o4001b)), TV.pv (PV.int IntKind.i64 (failE (txtE o4001 o4001b) (fitE (o1 + (1 : Int)) t1 (txtR o4001 o4001b) o10)))], TV.pv (PV.int IntKind.i64 (o1 + (1 : Int))), TV.pv (PV.int IntKind.i64 o1b), TV.pv (PV.int IntKind.i64 (failE (cutE (txtS o4001 o4001b) (txtE o4001 o4001b) o1c) (fitE (o1 + (1 : Int)) t1 (txtR o4001 o4001b) o10)))]])) ∧ ((failE (cutE (txtS o4001 o4001b) (txtE o4001 o4001b) o1c) (fitE (o1 + (1 : Int)) t1 (txtR o4001 o4001b) o10) != (0 : Int)) = false → orAll [(((∃ (l : List UInt8), txtS o4001 o4001b = u8s l) ∧ failE (txtE o4001 o4001b) (fitE (o1 + (1 : Int)) t1 (txtR o4001 o4001b) o10) = (0 : Int) ∧ failE (cutE (txtS o4001 o4001b) (txtE o4001 o4001b) o1c) (fitE (o1 + (1 : Int)) t1 (txtR o4001 o4001b) o10) = (0 : Int) ∧ o1b = (400 : Int) ∧ ((0 : Int) ≤ o1 + (1 : Int) ∧ o1 + (1 : Int) ≤ (400 : Int)) ∧ IntKind.wrap IntKind.i64 (t1 + (1 : Int)) + (↑f : Int) = (13 : Int) ∧ (0 : Int) ≤ IntKind.wrap IntKind.i64 (t1 + (1 : Int))) ∧ ptNil (txtS o4001 o4001b) (o1 + (1 : Int)) (IntKind.wrap IntKind.i64 (t1 + (1 : Int))) = true, [TV.pv (PV.sl [])], [TV.ptr [TV.ptr [TV.pv (PV.sl (ptL (txtS o4001 o4001b) (o1 + (1 : Int)) (IntKind.wrap IntKind.i64 (t1 + (1 : Int))))), TV.pv (PV.int IntKind.i64 (ptE (txtS o4001 o4001b) (o1 + (1 : Int)) (IntKind.wrap IntKind.i64 (t1 + (1 : Int)))))], TV.pv (PV.int IntKind.i64 (ptN (txtS o4001 o4001b) (o1 + (1 : Int)) (IntKind.wrap IntKind.i64 (t1 + (1 : Int))))), TV.pv (PV.int IntKind.i64 o1b), TV.pv (PV.int IntKind.i64 (ptR (txtS o4001 o4001b) (o1 + (1 : Int)) (IntKind.wrap IntKind.i64 (t1 + (1 : Int)))))]]), (((∃ (l : List UInt8), txtS o4001 o4001b = u8s l) ∧ failE (txtE o4001 o4001b) (fitE (o1 + (1 : Int)) t1 (txtR o4001 o4001b) o10) = (0 : Int) ∧ failE (cutE (txtS o4001 o4001b) (txtE o4001 o4001b) o1c) (fitE (o1 + (1 : Int)) t1 (txtR o4001 o4001b) o10) = (0 : Int) ∧ o1b = (400 : Int) ∧ ((0 : Int) ≤ o1 + (1 : Int) ∧ o1 + (1 : Int) ≤ (400 : Int)) ∧ IntKind.wrap IntKind.i64 (t1 + (1 : Int)) + (↑f : Int) = (13 : Int) ∧ (0 : Int) ≤ IntKind.wrap IntKind.i64 (t1 + (1 : Int))) ∧ ptNil (txtS o4001 o4001b) (o1 + (1 : Int)) (IntKind.wrap IntKind.i64 (t1 + (1 : Int))) = false, [TV.own (2 : Nat) (ptT (txtS o4001 o4001b) (o1 + (1 : Int)) (IntKind.wrap IntKind.i64 (t1 + (1 : Int))))], [TV.ptr [TV.ptr [TV.pv (PV.sl (ptL (txtS o4001 o4001b) (o1 + (1 : Int)) (IntKind.wrap IntKind.i64 (t1 + (1 : Int))))), TV.pv (PV.int IntKind.i64 (ptE (txtS o4001 o4001b) (o1 + (1 : Int)) (IntKind.wrap IntKind.i64 (t1 + (1 : Int)))))], TV.pv (PV.int IntKind.i64 (ptN (txtS o4001 o4001b) (o1 + (1 : Int)) (IntKind.wrap IntKind.i64 (t1 + (1 : Int))))), TV.pv (PV.int IntKind.i64 o1b), TV.pv (PV.int IntKind.i64 (ptR (txtS o4001 o4001b) (o1 + (1 : Int)) (IntKind.wrap IntKind.i64 (t1 + (1 : Int)))))]])] ∧ (((∃ (l : List UInt8), txtS o4001 o4001b = u8s l) ∧ failE (txtE o4001 o4001b) (fitE (o1 + (1 : Int)) t1 (txtR o4001 o4001b) o10) = (0 : Int) ∧ failE (cutE (txtS o4001 o4001b) (txtE o4001 o4001b) o1c) (fitE (o1 + (1 : Int)) t1 (txtR o4001 o4001b) o10) = (0 : Int) ∧ o1b = (400 : Int) ∧ ((0 : Int) ≤ o1 + (1 : Int) ∧ o1 + (1 : Int) ≤ (400 : Int)) ∧ IntKind.wrap IntKind.i64 (t1 + (1 : Int)) + (↑f : Int) = (13 : Int) ∧ (0 : Int) ≤ IntKind.wrap IntKind.i64 (t1 + (1 : Int))) ∧ ptNil (txtS o4001 o4001b) (o1 + (1 : Int)) (IntKind.wrap IntKind.i64 (t1 + (1 : Int))) = true → ((List.length o10 + (1 : Nat)) * (40 : Nat) ≤ room ∧ List.length o10 + (1 : Nat) ≤ maxInt) ∧ J0 (St.mk [((0 : Nat), AV.addr (1 : Nat) (0 : Nat) (0 : Nat)), ((1 : Nat), AV.pv (PV.int IntKind.i64 t1)), ((5 : Nat), AV.own (10 : Nat)), ((20 : Nat), AV.pv (PV.int IntKind.i64 t20)), ((21 : Nat), AV.pv (PV.int IntKind.i64 (IntKind.wrap IntKind.i64 (t21 + (1 : Int)))))] [((1 : Nat), Obj.box [AV.addr (4001 : Nat) (0 : Nat) (0 : Nat), AV.pv (PV.int IntKind.i64 (ptN (txtS o4001 o4001b) (o1 + (1 : Int)) (IntKind.wrap IntKind.i64 (t1 + (1 : Int))))), AV.pv (PV.int IntKind.i64 o1b), AV.pv (PV.int IntKind.i64 (ptR (txtS o4001 o4001b) (o1 + (1 : Int)) (IntKind.wrap IntKind.i64 (t1 + (1 : Int)))))]), ((10 : Nat), Obj.buf (2 : Nat) (o10 ++ [[PV.str (txtR o4001 o4001b), PV.sl []]])), ((4001 : Nat), Obj.box [AV.pv (PV.sl (ptL (txtS o4001 o4001b) (o1 + (1 : Int)) (IntKind.wrap IntKind.i64 (t1 + (1 : Int))))), AV.pv (PV.int IntKind.i64 (ptE (txtS o4001 o4001b) (o1 + (1 : Int)) (IntKind.wrap IntKind.i64 (t1 + (1 : Int)))))])])) ∧ (((∃ (l : List UInt8), txtS o4001 o4001b = u8s l) ∧ failE (txtE o4001 o4001b) (fitE (o1 + (1 : Int)) t1 (txtR o4001 o4001b) o10) = (0 : Int) ∧ failE (cutE (txtS o4001 o4001b) (txtE o4001 o4001b) o1c) (fitE (o1 + (1 : Int)) t1 (txtR o4001 o4001b) o10) = (0 : Int) ∧ o1b = (400 : Int) ∧ ((0 : Int) ≤ o1 + (1 : Int) ∧ o1 + (1 : Int) ≤ (400 : Int)) ∧ IntKind.wrap IntKind.i64 (t1 + (1 : Int)) + (↑f : Int) = (13 : Int) ∧ (0 : Int) ≤ IntKind.wrap IntKind.i64 (t1 + (1 : Int))) ∧ ptNil (txtS o4001 o4001b) (o1 + (1 : Int)) (IntKind.wrap IntKind.i64 (t1 + (1 : Int))) = false → ((List.length o10 + (1 : Nat)) * (40 : Nat) ≤ room ∧ List.length o10 + (1 : Nat) ≤ maxInt) ∧ J0 (St.mk [((0 : Nat), AV.addr (1 : Nat) (0 : Nat) (0 : Nat)), ((1 : Nat), AV.pv (PV.int IntKind.i64 t1)), ((5 : Nat), AV.own (10 : Nat)), ((20 : Nat), AV.pv (PV.int IntKind.i64 t20)), ((21 : Nat), AV.pv (PV.int IntKind.i64 (IntKind.wrap IntKind.i64 (t21 + (1 : Int)))))] [((1 : Nat), Obj.box [AV.addr (4001 : Nat) (0 : Nat) (0 : Nat), AV.pv (PV.int IntKind.i64 (ptN (txtS o4001 o4001b) (o1 + (1 : Int)) (IntKind.wrap IntKind.i64 (t1 + (1 : Int))))), AV.pv (PV.int IntKind.i64 o1b), AV.pv (PV.int IntKind.i64 (ptR (txtS o4001 o4001b) (o1 + (1 : Int)) (IntKind.wrap IntKind.i64 (t1 + (1 : Int)))))]), ((10 : Nat), Obj.buf (2 : Nat) (o10 ++ [[PV.str (txtR o4001 o4001b), PV.sl (ptT (txtS o4001 o4001b) (o1 + (1 : Int)) (IntKind.wrap IntKind.i64 (t1 + (1 : Int))))]])), ((4001 : Nat), Obj.box [AV.pv (PV.sl (ptL (txtS o4001 o4001b) (o1 + (1 : Int)) (IntKind.wrap IntKind.i64 (t1 + (1 : Int))))), AV.pv (PV.int IntKind.i64 (ptE (txtS o4001 o4001b) (o1 + (1 : Int)) (IntKind.wrap IntKind.i64 (t1 + (1 : Int)))))])])) ∧ True))) ∧ (decide (t21 < t20) = false → exK (blockK (0 : Nat) (seqK (wAt C (S_pt2 f) (53 : FuncId) (99996 : Nat) (CP.dn (CP.dn (CP.dn (CP.dn CP.top (1 : Nat)) (1 : Nat)) (1 : Nat)) (1 : Nat))) (retK C (53 : FuncId) [TV.ptr [TV.ptr [TV.pv (PV.sl a), TV.pv (PV.int IntKind.i64 (0 : Int))], TV.pv (PV.int IntKind.i64 n), TV.pv (PV.int IntKind.i64 (400 : Int)), TV.pv (PV.int IntKind.i64 (0 : Int))], TV.pv (PV.int IntKind.i64 d)] Q))) (Ex.exit (0 : Nat)) (St.mk [((22 : Nat), AV.pv (PV.bool false)), ((0 : Nat), AV.addr (1 : Nat) (0 : Nat) (0 : Nat)), ((1 : Nat), AV.pv (PV.int IntKind.i64 t1)), ((5 : Nat), AV.own (10 : Nat)), ((20 : Nat), AV.pv (PV.int IntKind.i64 t20)), ((21 : Nat), AV.pv (PV.int IntKind.i64 t21))] [((1 : Nat), Obj.box [AV.addr (4001 : Nat) (0 : Nat) (0 : Nat), AV.pv (PV.int IntKind.i64 o1), AV.pv (PV.int IntKind.i64 o1b), AV.pv (PV.int IntKind.i64 o1c)]), ((10 : Nat), Obj.buf (2 : Nat) o10), ((4001 : Nat), Obj.box [AV.pv (PV.sl o4001), AV.pv (PV.int IntKind.i64 o4001b)])]))) := by kernel_rfl

def ptr_s1 (t1 : Int) (t20 : Int) (t21 : Int) (o1 : Int) (o1b : Int) (o1c : Int) (o10 : List (List PV)) (o4001 : List (List PV)) (o4001b : Int) : St := (St.mk [((22 : Nat), AV.pv (PV.bool false)), ((0 : Nat), AV.addr (1 : Nat) (0 : Nat) (0 : Nat)), ((1 : Nat), AV.pv (PV.int IntKind.i64 t1)), ((5 : Nat), AV.own (10 : Nat)), ((20 : Nat), AV.pv (PV.int IntKind.i64 t20)), ((21 : Nat), AV.pv (PV.int IntKind.i64 t21))] [((1 : Nat), Obj.box [AV.addr (4001 : Nat) (0 : Nat) (0 : Nat), AV.pv (PV.int IntKind.i64 o1), AV.pv (PV.int IntKind.i64 o1b), AV.pv (PV.int IntKind.i64 o1c)]), ((10 : Nat), Obj.buf (2 : Nat) o10), ((4001 : Nat), Obj.box [AV.pv (PV.sl o4001), AV.pv (PV.int IntKind.i64 o4001b)])])

theorem ptr_x1 (f : Nat) (a : List (List PV)) (n d : Int) (t1 : Int) (t20 : Int) (t21 : Int) (o1 : Int) (o1b : Int) (o1c : Int) (o10 : List (List PV)) (o4001 : List (List PV)) (o4001b : Int)  (Q : List TV × List TV → Prop) : (fun h => blockK (0 : Nat) (seqK (wAt C (S_pt2 f) (53 : FuncId) (99996 : Nat) (CP.dn (CP.dn (CP.dn (CP.dn CP.top (1 : Nat)) (1 : Nat)) (1 : Nat)) (1 : Nat))) (retK C (53 : FuncId) [TV.ptr [TV.ptr [TV.pv (PV.sl a), TV.pv (PV.int IntKind.i64 (0 : Int))], TV.pv (PV.int IntKind.i64 n), TV.pv (PV.int IntKind.i64 (400 : Int)), TV.pv (PV.int IntKind.i64 (0 : Int))], TV.pv (PV.int IntKind.i64 d)] Q)) h (Ex.exit (0 : Nat)) (ptr_s1 t1 t20 t21 o1 o1b o1c o10 o4001 o4001b)) (H.s (H.s H.auto)) = ((((0 : Nat) + List.length o10) * (40 : Nat) ≤ room ∧ (0 : Nat) + List.length o10 ≤ maxInt) ∧ rowOk (2 : Nat) o10 = true ∧ Q ([TV.own (2 : Nat) o10], [TV.ptr [TV.ptr [TV.pv (PV.sl o4001), TV.pv (PV.int IntKind.i64 o4001b)], TV.pv (PV.int IntKind.i64 o1), TV.pv (PV.int IntKind.i64 o1b), TV.pv (PV.int IntKind.i64 o1c)]])) := by kernel_rfl

theorem ior_all : (List.range 256).all (fun x => (List.range 256).all fun y => ior .i64 (x : Int) (IntKind.wrap .i64 ((y : Int) * 256)) == ((x + 256 * y : Nat) : Int)) = true := by decide +kernel
theorem ior_two (a b : UInt8) : ior .i64 (a.toNat : Int) (IntKind.wrap .i64 ((b.toNat : Int) * 256)) = ((a.toNat + 256 * b.toNat : Nat) : Int) := by
  have h1 := List.all_eq_true.1 (List.all_eq_true.1 ior_all a.toNat (List.mem_range.2 a.toNat_lt)) b.toNat (List.mem_range.2 b.toNat_lt)
  simpa using h1
theorem ior_one (a : UInt8) : ior .i64 (a.toNat : Int) (IntKind.wrap .i64 (0 * 256)) = (a.toNat : Int) := by
  have := ior_two a 0
  simpa using this

def totF (kid : List UInt8 → Int → PRes Tr) (d : Int) (l : List UInt8) (n : Int) : PRes (List Edge) := match l with
  | a :: b :: l => parseL kid d (a.toNat + 256 * b.toNat) none l n
  | _ => .error 8

def finT (R : PRes (List Edge)) : PRes Tr := match R with
  | .error e => .error e
  | .ok (es, l, c) => .ok (Tr.of es, l, c)

theorem parseT_tot (kid : List UInt8 → Int → PRes Tr) (d : Int) (l : List UInt8) (n : Int) : parseT kid d l n = finT (totF kid d l n) := by
  match l with
  | [] => rfl
  | [a] => rfl
  | a :: b :: l => rfl

theorem start_of (kid : List UInt8 → Int → PRes Tr) (d : Int) (l : List UInt8) (n : Int) : ∃ (N : Nat) (q : List UInt8) (e : Int), N ≤ 65535 ∧ ior .i64 (numV (bytR (u8s l) 0 1)) (IntKind.wrap .i64 (numV (bytR (bytS (u8s l) 0 1) (bytE (u8s l) 0 1) 1) * 256)) = (N : Int) ∧ bytS (bytS (u8s l) 0 1) (bytE (u8s l) 0 1) 1 = u8s q ∧ bytE (bytS (u8s l) 0 1) (bytE (u8s l) 0 1) 1 = e ∧ ((e = 0 ∧ totF kid d l n = parseL kid d N none q n) ∨ (e = 8 ∧ totF kid d l n = .error 8)) := by
  match l with
  | [] =>
    refine ⟨0, [], 8, by omega, ?_, ?_, ?_, .inr ⟨rfl, rfl⟩⟩
    · simp [bytR, bytS, bytE, u8s, numV, ofU8s, leV]; decide
    · simp [bytS, bytE, u8s]
    · simp [bytS, bytE, u8s]
  | [a] =>
    have := a.toNat_lt
    refine ⟨a.toNat, [], 8, by omega, ?_, ?_, ?_, .inr ⟨rfl, rfl⟩⟩
    · have := ior_one a
      simp [bytR, bytS, bytE, u8s, numV, ofU8s, leV]
      simpa using this
    · simp [bytS, bytE, u8s]
    · simp [bytS, bytE, u8s]
  | a :: b :: l =>
    have := a.toNat_lt
    have := b.toNat_lt
    refine ⟨a.toNat + 256 * b.toNat, l, 0, by omega, ?_, ?_, ?_, .inl ⟨rfl, rfl⟩⟩
    · have := ior_two a b
      have h1 : (1 : Int) ≤ (l.length : Int) + 1 + 1 := by omega
      have h2 : (1 : Int) ≤ (l.length : Int) + 1 := by omega
      simp [bytR, bytS, bytE, u8s, numV, ofU8s, leV, h1, h2]
      simpa using this
    · have h1 : (1 : Int) ≤ (l.length : Int) + 1 + 1 := by omega
      have h2 : (1 : Int) ≤ (l.length : Int) + 1 := by omega
      simp [bytS, bytE, u8s, h1, h2]
    · have h1 : (1 : Int) ≤ (l.length : Int) + 1 + 1 := by omega
      have h2 : (1 : Int) ≤ (l.length : Int) + 1 := by omega
      simp [bytS, bytE, u8s, h1, h2]

theorem txt_some {l x l' : List UInt8} (h : readN l = some (x, l')) : txtR (u8s l) 0 = x ∧ txtS (u8s l) 0 = u8s l' ∧ txtE (u8s l) 0 = 0 := by
  match l, h with
  | a :: b :: l, h =>
    simp only [readN] at h
    split at h
    · rename_i hle
      simp only [Option.some.injEq, Prod.mk.injEq] at h
      obtain ⟨rfl, rfl⟩ := h
      have h2 : (2 : Int) ≤ ((u8s (a :: b :: l)).length : Int) := by rw [u8s_len]; simp only [List.length_cons]; omega
      have e1 : bytR (u8s (a :: b :: l)) 0 2 = u8s [a, b] := by rw [bytR, if_pos ⟨rfl, h2⟩, u8s_take]; rfl
      have e2 : bytS (u8s (a :: b :: l)) 0 2 = u8s l := by rw [bytS, if_pos ⟨rfl, h2⟩, u8s_drop]; rfl
      have e3 : bytE (u8s (a :: b :: l)) 0 2 = 0 := by rw [bytE, if_neg (fun q => q.2 h2)]
      have e4 : numV (u8s [a, b]) = ((a.toNat + 256 * b.toNat : Nat) : Int) := by rw [numV, ofU8s_u8s]; simp [leV]
      have h3 : ((a.toNat + 256 * b.toNat : Nat) : Int) ≤ ((u8s l).length : Int) := by rw [u8s_len]; omega
      rw [txtR, txtS, txtE, e1, e2, e3, e4, bytR, bytS, bytE, if_pos ⟨rfl, h3⟩, if_pos ⟨rfl, h3⟩, if_neg (fun q => q.2 h3), Int.toNat_natCast, u8s_take, u8s_drop, ofU8s_u8s]
      exact ⟨rfl, rfl, rfl⟩
    · exact absurd h (by simp)

theorem txtS_u8 (l : List UInt8) (e : Int) : ∃ q, txtS (u8s l) e = u8s q := by
  obtain ⟨q, hq⟩ := bytS_u8 l e 2
  rw [txtS, hq]
  exact bytS_u8 _ _ _

theorem txt_none {l : List UInt8} (h : readN l = none) : txtE (u8s l) 0 = 8 := by
  match l, h with
  | [], _ => rfl
  | [a], _ => simp [txtE, bytE, bytS, bytR, u8s]
  | a :: b :: l, h =>
    simp only [readN] at h
    split at h
    · exact absurd h (by simp)
    · rename_i hle
      have h2 : (2 : Int) ≤ ((u8s (a :: b :: l)).length : Int) := by rw [u8s_len]; simp only [List.length_cons]; omega
      have e1 : bytR (u8s (a :: b :: l)) 0 2 = u8s [a, b] := by rw [bytR, if_pos ⟨rfl, h2⟩, u8s_take]; rfl
      have e2 : bytS (u8s (a :: b :: l)) 0 2 = u8s l := by rw [bytS, if_pos ⟨rfl, h2⟩, u8s_drop]; rfl
      have e3 : bytE (u8s (a :: b :: l)) 0 2 = 0 := by rw [bytE, if_neg (fun q => q.2 h2)]
      have e4 : numV (u8s [a, b]) = ((a.toNat + 256 * b.toNat : Nat) : Int) := by rw [numV, ofU8s_u8s]; simp [leV]
      have h3 : ¬ ((a.toNat + 256 * b.toNat : Nat) : Int) ≤ ((u8s l).length : Int) := by rw [u8s_len]; omega
      rw [txtE, e1, e2, e3, e4, bytE, if_pos ⟨rfl, h3⟩]

theorem txtE_bad (a : List (List PV)) {e : Int} (h : e ≠ 0) : txtE a e = e := by
  have h1 : ∀ a n, bytE a e n = e := fun a n => by rw [bytE, if_neg (fun q => h q.1)]
  rw [txtE, h1, h1]

theorem cut_zero (a : List (List PV)) : cutE a 0 0 = 0 := by
  have h : endE a 0 = 0 ∨ endE a 0 = 9 := by
    unfold endE; split
    · exact .inr rfl
    · exact .inl rfl
  unfold cutE
  rcases h with h | h
  · rw [if_neg (fun q => q.2.1 h)]
  · rw [if_neg (fun q => q.2.2 h)]

theorem cut_bad (a : List (List PV)) {e r : Int} (h : isErr e) (hr : r = 0 ∨ r = e) : cutE a e r = e := by
  have h0 : e ≠ 0 := by unfold isErr at h; omega
  have h9 : e ≠ 9 := by unfold isErr at h; omega
  have he : endE a e = e := by rw [endE, if_neg (fun q => h0 q.1)]
  unfold cutE
  rw [he]
  rcases hr with rfl | rfl
  · rw [if_pos ⟨rfl, h0, h9⟩]
  · rw [if_neg (fun q => h0 q.1)]

def preP (es : List Edge) (R : PRes (List Edge)) : PRes (List Edge) := match R with
  | .error e => .error e
  | .ok (es', l, c) => .ok (es ++ es', l, c)

theorem preP_nil (R : PRes (List Edge)) : preP [] R = R := by
  match R with
  | .error e => rfl
  | .ok (es, l, c) => rfl

def lastE (es : List Edge) : Option (List UInt8) := es.getLast?.map Prod.fst

def ptI (tot : PRes (List Edge)) (kid : List UInt8 → Int → PRes Tr) (d : Int) (N k : Nat) (st : St) : Prop := ∃ (i : Nat) (o : List (List PV)) (l : List UInt8) (e n r : Int), st = ptr_h0 d N i n 400 r o (u8s l) e ∧ i ≤ N ∧ rowOk 2 o = true ∧ o.length = i ∧ ((e = 0 ∧ r = 0 ∧ (0 ≤ n ∧ n ≤ 400) ∧ ∃ es : List Edge, o = es.map rowE ∧ tot = preP es (parseL kid d (N - i) (lastE es) l n)) ∨ (isErr e ∧ (r = 0 ∨ r = e) ∧ tot = .error e)) ∧ k = N - i

theorem rowOk_push {o : List (List PV)} (h : rowOk 2 o = true) (x : List UInt8) (k : List (List PV)) : rowOk 2 (o ++ [[PV.str x, PV.sl k]]) = true := by
  simp only [rowOk, List.all_append, Bool.and_eq_true] at h ⊢
  exact ⟨h, by simp⟩

theorem ptr_ev (kid : List UInt8 → Int → PRes Tr) (f : Nat) (d : Int) (hS : SpecOK C (S_pt2 f)) (hd : 0 ≤ d ∧ d ≤ 13) (hk : d ≤ 12 → d + 1 + f = 13 ∧ kid = parseD f (d + 1)) (hV : d ≤ 12 → ∀ (l : List UInt8) (n : Int), (0 ≤ n ∧ n ≤ 400) → PtP (parseD f (d + 1) l n) (ptV (u8s l) n (d + 1))) (l : List UInt8) (n : Int) (hn : 0 ≤ n ∧ n ≤ 400) :
    ∃ r, Ev C 53 [.ptr [.ptr [.pv (.sl (u8s l)), .pv (.int .i64 0)], .pv (.int .i64 n), .pv (.int .i64 400), .pv (.int .i64 0)], .pv (.int .i64 d)] r ∧ ∃ v, r = ptRes v ∧ PtP (parseT kid d l n) v := by
  have hr := room_val
  have hm := maxInt_val
  rw [parseT_tot]
  obtain ⟨N, q, e0, hN, hs1, hs2, hs3, hs4⟩ := start_of kid d l n
  obtain ⟨q1, hq1⟩ := bytS_u8 l 0 1
  refine ev_wx hS (ptr_w f (u8s l) n d _) ⟨⟨l, rfl⟩, ⟨q1, hq1⟩, ?_⟩
  rw [hs1, hs2, hs3]
  generalize totF kid d l n = tot at *
  refine loop_rule hS (by kernel_rfl) 1000 (ptI tot kid d N) ?_ (n := N) ⟨0, [], q, e0, n, 0, rfl, by omega, rfl, rfl, ?_, by omega⟩
  · rintro k st ⟨i, o, l, e, n, r, rfl, hi, ho, hol, hst, rfl⟩
    refine ex_w (ptr_l0 _ _ _ _ _ _ _ _ _ _ _ _ _ _ _) ⟨fun g => ?_, fun g => ?_⟩
    · have hi' : i < N := by
        have g : (i : Int) < (N : Int) := by simpa using g
        omega
      have w1 := w64s (i := i) (by omega)
      have w2 : IntKind.wrap .i64 (d + 1) = d + 1 := w64 (by omega)
      obtain ⟨q2, hq2⟩ := txtS_u8 l e
      rw [hq2, w1, w2]
      refine ⟨⟨l, rfl⟩, trivial, fun g2 => ⟨.auto, ?_⟩, fun g2 => ?_⟩
      · have g2 : cutE (u8s q2) (txtE (u8s l) e) r ≠ 0 := by simpa using g2
        rcases hst with ⟨rfl, rfl, hn, es, rfl, htot⟩ | ⟨he, hre, htot⟩
        · cases hrd : readN l with
          | none =>
            have ht := txt_none hrd
            rw [ht]
            refine ⟨⟨true, [], q2, 8, n, cutE (u8s q2) 8 0⟩, rfl, ?_⟩
            obtain ⟨j, hj⟩ : ∃ j, N - i = j + 1 := ⟨N - i - 1, by omega⟩
            rw [htot, hj, parseL, hrd]
            exact ⟨rfl, .inr (cut_bad (u8s q2) (e := 8) (by simp [isErr]) (.inl rfl))⟩
          | some xl =>
            have ht := txt_some (l := l) (x := xl.1) (l' := xl.2) hrd
            rw [ht.2.2, cut_zero] at g2
            exact absurd rfl g2
        · have h0 : e ≠ 0 := by unfold isErr at he; omega
          rw [txtE_bad _ h0, cut_bad _ he hre]
          refine ⟨⟨true, [], q2, e, n, e⟩, rfl, ?_⟩
          rw [htot]
          exact ⟨rfl, .inr rfl⟩
      · have g2 : cutE (u8s q2) (txtE (u8s l) e) r = 0 := by simpa using g2
        obtain ⟨rfl, rfl, hn, es, rfl, htot⟩ : e = 0 ∧ r = 0 ∧ (0 ≤ n ∧ n ≤ 400) ∧ ∃ es : List Edge, o = es.map rowE ∧ tot = preP es (parseL kid d (N - i) (lastE es) l n) := by
          rcases hst with h | ⟨he, hre, htot⟩
          · exact h
          · have h0 : e ≠ 0 := by unfold isErr at he; omega
            rw [txtE_bad _ h0, cut_bad _ he hre] at g2
            exact absurd g2 h0
        cases hrd : readN l with
        | none =>
          have ht := txt_none hrd
          rw [ht, cut_bad _ (e := 8) (by simp [isErr]) (.inl rfl)] at g2
          exact absurd g2 (by decide)
        | some xl =>
          obtain ⟨x, l2⟩ := xl
          obtain ⟨t1, t2, t3⟩ := txt_some hrd
          have hql : u8s q2 = u8s l2 := by rw [← hq2, t2]
          rw [hql, t1, t3, cut_zero]
          have hfe : ∀ v : Int, failE 0 v = v := fun v => by rw [failE, if_pos rfl]
          rw [hfe, fitE, lastN_map]
          have hel : es.length = i := by rw [← hol, List.length_map]
          obtain ⟨j, hj⟩ : ∃ j, N - i = j + 1 := ⟨N - i - 1, by omega⟩
          rw [hj, parseL, hrd] at htot
          simp only at htot
          refine ⟨⟨rfl, ⟨by omega, by omega⟩, es, rfl, by omega⟩, trivial, fun g3 => ⟨.auto, ?_⟩, fun g3 => ?_⟩
          · have g3 : fitV (n + 1) d (lastE es) x ≠ 0 := bne_iff_ne.1 g3
            rw [if_pos g3] at htot
            refine ⟨⟨true, [], l2, fitV (n + 1) d (lastE es) x, n + 1, fitV (n + 1) d (lastE es) x⟩, rfl, ?_⟩
            rw [htot]
            exact ⟨rfl, .inr rfl⟩
          · have g3' : fitV (n + 1) d (Option.map Prod.fst es.getLast?) x = 0 := by simpa using g3
            have g3 : fitV (n + 1) d (lastE es) x = 0 := g3'
            have hz := fitV_zero g3
            obtain ⟨hk1, hk2⟩ := hk hz.2.1
            have hP := hV hz.2.1 l2 (n + 1) ⟨by omega, hz.1⟩
            have hG := parseD_good f (d + 1) l2 (n + 1) hk1 hz.1
            rw [if_neg (by simpa using g3), hk2] at htot
            rw [g3']
            have nxt : ∀ kr : List (List PV), (ptNil (u8s l2) (n + 1) (d + 1) = true ∧ kr = [] ∨ kr = ptT (u8s l2) (n + 1) (d + 1) ∧ ptNil (u8s l2) (n + 1) (d + 1) = false) → ∃ m, m < N - i ∧ ptI tot kid d N m (ptr_h0 d N ((i + 1 : Nat) : Int) (ptN (u8s l2) (n + 1) (d + 1)) 400 (ptR (u8s l2) (n + 1) (d + 1)) (es.map rowE ++ [[PV.str x, PV.sl kr]]) (ptL (u8s l2) (n + 1) (d + 1)) (ptE (u8s l2) (n + 1) (d + 1))) := by
              intro kr hkr
              refine ⟨N - (i + 1), by omega, i + 1, _, (ptV (u8s l2) (n + 1) (d + 1)).l, _, _, _, rfl, by omega, rowOk_push ho _ _, by simp; omega, ?_, rfl⟩
              simp only [ptN, ptR, ptE, ptNil, ptT] at hkr ⊢
              generalize ptV (u8s l2) (n + 1) (d + 1) = v at *
              cases hR : parseD f (d + 1) l2 (n + 1) with
              | error z =>
                rw [hR] at hP hG htot
                obtain ⟨p1, p2⟩ := hP
                refine .inr ⟨by rw [p1]; exact hG, by rw [p1]; exact p2, by rw [htot, p1]; rfl⟩
              | ok z =>
                obtain ⟨t, l3, n3⟩ := z
                rw [hR] at hP hG htot
                obtain ⟨p1, p2, p3, p4, p5, p6⟩ := hP
                obtain ⟨g4, g5⟩ := hG
                have hkr2 : kr = t.rows := by
                  rcases hkr with ⟨h1, _⟩ | ⟨h1, _⟩
                  · rw [p1] at h1; exact absurd h1 (by simp)
                  · rw [h1, p2]
                refine .inl ⟨p4, p6, ⟨by rw [p5]; omega, by rw [p5]; exact g5⟩, es ++ [(x, t)], by rw [hkr2, List.map_append]; rfl, ?_⟩
                have ej : N - (i + 1) = j := by omega
                have el : lastE (es ++ [(x, t)]) = some x := by rw [lastE, List.getLast?_concat]; rfl
                rw [htot, p3, p5, ej, el, ← hk2]
                simp only
                cases parseL kid d j (some x) l3 n3 with
                | error z => rfl
                | ok z => obtain ⟨a, b, c⟩ := z; simp [preP]
            have hlen : (es.map rowE).length = i := hol
            have fit : ((es.map rowE).length + 1) * 40 ≤ room ∧ (es.map rowE).length + 1 ≤ maxInt := ⟨by omega, by omega⟩
            refine ⟨?_, fun hc => ⟨fit, nxt [] (.inl ⟨hc.2, rfl⟩)⟩, fun hc => ⟨fit, nxt _ (.inr ⟨rfl, hc.2⟩)⟩, trivial⟩
            cases hb : ptNil (u8s l2) (n + 1) (d + 1) with
            | true => exact .inl ⟨⟨⟨l2, rfl⟩, rfl, rfl, rfl, ⟨by omega, hz.1⟩, hk1, by omega⟩, rfl⟩
            | false => exact .inr ⟨⟨⟨l2, rfl⟩, rfl, rfl, rfl, ⟨by omega, hz.1⟩, hk1, by omega⟩, rfl⟩
    · have hiN : i = N := by
        have g : ¬ (i : Int) < (N : Int) := by simpa using g
        omega
      subst hiN
      refine ex_w (ptr_x1 _ _ _ _ _ _ _ _ _ _ _ _ _ _) ⟨⟨by omega, by omega⟩, ho, ?_⟩
      refine ⟨⟨false, o, l, e, n, r⟩, rfl, ?_⟩
      rcases hst with ⟨rfl, rfl, hn, es, rfl, htot⟩ | ⟨he, hre, htot⟩
      · rw [Nat.sub_self, parseL] at htot
        rw [htot]
        refine ⟨rfl, ?_, rfl, rfl, rfl, rfl⟩
        simp only [List.append_nil, rows_of]
      · rw [htot]
        exact ⟨rfl, hre⟩
  · rcases hs4 with ⟨rfl, h⟩ | ⟨rfl, h⟩
    · exact .inl ⟨rfl, rfl, hn, [], rfl, by rw [preP_nil, h]; rfl⟩
    · exact .inr ⟨by simp [isErr], .inl rfl, h⟩

theorem ptV_spec {f : Nat} {d : Int} (hd : d + f = 13) (h0 : 0 ≤ d) {l : List UInt8} {n : Int} (h : ∃ r, Ev C 53 [.ptr [.ptr [.pv (.sl (u8s l)), .pv (.int .i64 0)], .pv (.int .i64 n), .pv (.int .i64 400), .pv (.int .i64 0)], .pv (.int .i64 d)] r ∧ ∃ v, r = ptRes v ∧ PtP (parseD f d l n) v) :
    Ev C 53 [.ptr [.ptr [.pv (.sl (u8s l)), .pv (.int .i64 0)], .pv (.int .i64 n), .pv (.int .i64 400), .pv (.int .i64 0)], .pv (.int .i64 d)] (ptRes (ptV (u8s l) n d)) ∧ PtP (parseD f d l n) (ptV (u8s l) n d) := by
  obtain ⟨r, h1, v, rfl, h2⟩ := h
  have ef : (13 - d).toNat = f := by omega
  have := Classical.epsilon_spec (p := fun v => Ev C 53 [.ptr [.ptr [.pv (.sl (u8s l)), .pv (.int .i64 0)], .pv (.int .i64 n), .pv (.int .i64 400), .pv (.int .i64 0)], .pv (.int .i64 d)] (ptRes v) ∧ PtP (parseD (13 - d).toNat d (ofU8s (u8s l)) n) v) ⟨v, h1, by rw [ef, ofU8s_u8s]; exact h2⟩
  have hP : PtP (parseD (13 - d).toNat d (ofU8s (u8s l)) n) = PtP (parseD f d l n) := by rw [ef, ofU8s_u8s]
  refine ⟨this.1, ?_⟩
  rw [← hP]
  exact this.2

theorem pt_ok' {f : Nat} (h : ∀ d : Int, d + f = 13 → 0 ≤ d → ∀ (l : List UInt8) (n : Int), (0 ≤ n ∧ n ≤ 400) → ∃ r, Ev C 53 [.ptr [.ptr [.pv (.sl (u8s l)), .pv (.int .i64 0)], .pv (.int .i64 n), .pv (.int .i64 400), .pv (.int .i64 0)], .pv (.int .i64 d)] r ∧ ∃ v, r = ptRes v ∧ PtP (parseD f d l n) v) : ∀ ag al, g_pt f ag = some al → ∀ a ∈ al, a.1 → Ev C 53 ag a.2 := by
  intro ag al hl x hx hp
  unfold g_pt at hl
  split at hl
  · rename_i a e n m r d
    simp only [Option.some.injEq] at hl; subst hl
    simp only [List.mem_cons, List.not_mem_nil, or_false] at hx
    rcases hx with rfl | rfl
    · obtain ⟨⟨⟨l, rfl⟩, rfl, rfl, rfl, hn, hd, h0⟩, hb⟩ := hp
      have hv := (ptV_spec hd h0 (h d hd h0 l n hn)).1
      have hb : (ptV (u8s l) n d).isNil = true := hb
      rw [ptRes, hb] at hv
      exact hv
    · obtain ⟨⟨⟨l, rfl⟩, rfl, rfl, rfl, hn, hd, h0⟩, hb⟩ := hp
      have hv := (ptV_spec hd h0 (h d hd h0 l n hn)).1
      have hb : (ptV (u8s l) n d).isNil = false := hb
      rw [ptRes, hb] at hv
      exact hv
  · exact absurd hl (by simp)

theorem pt2_specs {f : Nat} (h : ∀ ag al, g_pt f ag = some al → ∀ a ∈ al, a.1 → Ev C 53 ag a.2) : SpecOK C (S_pt2 f) := specL_ok (specs_cons bt_ok (specs_cons rt_ok (specs_cons cut_ok (specs_cons fail_ok (specs_cons fit_ok (specs_cons h specs_nil))))))

theorem ptree_ex : ∀ (f : Nat) (d : Int), d + f = 13 → 0 ≤ d → ∀ (l : List UInt8) (n : Int), (0 ≤ n ∧ n ≤ 400) → ∃ r, Ev C 53 [.ptr [.ptr [.pv (.sl (u8s l)), .pv (.int .i64 0)], .pv (.int .i64 n), .pv (.int .i64 400), .pv (.int .i64 0)], .pv (.int .i64 d)] r ∧ ∃ v, r = ptRes v ∧ PtP (parseD f d l n) v
  | 0, d, hd, h0, l, n, hn => by
    have hS : SpecOK C (S_pt2 14) := pt2_specs (pt_ok' fun d h1 h2 => by omega)
    exact ptr_ev (fun _ _ => .error 1) 14 d hS ⟨h0, by omega⟩ (fun h => by omega) (fun h => by omega) l n hn
  | f + 1, d, hd, h0, l, n, hn => by
    have ih := ptree_ex f
    have hS : SpecOK C (S_pt2 f) := pt2_specs (pt_ok' ih)
    exact ptr_ev (parseD f (d + 1)) f d hS ⟨h0, by omega⟩ (fun h => ⟨by omega, rfl⟩) (fun h l n hn => (ptV_spec (by omega) (by omega) (ih (d + 1) (by omega) (by omega) l n hn)).2) l n hn

end Go.Proofs.Ytmjkdghcfihfiaa.Vm
