/-
  Trees found in, put into, dropped from: tree.find, own, Get, Put, Drop; the document's, too; in the machine.
-/
import Derived.Test.YtmjkdghcfihfiaaSayTreeNames
import Derived.Test.YtmjkdghcfihfiaaSayPutLaw
namespace Go.Proofs.Ytmjkdghcfihfiaa.Vm
open Go Go.RowKit
set_option linter.unusedVariables false
set_option linter.unusedSimpArgs false
set_option maxRecDepth 100000

def ownR (a : List (List PV)) : List (List PV) := a
noncomputable def getR (a p : List (List PV)) : List (List PV) := (getT (unrow a) (unstr p)).rows
noncomputable def getB (a p : List (List PV)) : Bool := getB1 (unrow a) (unstr p)
noncomputable def putR (a p x : List (List PV)) : List (List PV) := (putT (unrow a) (unstr p) (unrow x)).rows
noncomputable def dropR (a p : List (List PV)) : List (List PV) := (dropT (unrow a) (unstr p)).rows

/-! ### What is asked of arguments -/
def atO (a : List (List PV)) : Prop := ∃ t : Tr, a = t.rows ∧ t.nodes ≤ 2000000 ∧ srtP none t
def pathO (p : List (List PV)) (N : Nat) : Prop := ∃ q : List (List UInt8), p = q.map strRow ∧ q.length < N ∧ q.length ≤ 1000

theorem bsf_w (a : List (List PV)) (n : List UInt8) (Q : List TV × List TV → Prop) : (wFun C noSpec 85 [.pv (.sl a), .pv (.str n), .pv (.fn 86 [])] Q) (H.auto) = (LoopAt C (85 : FuncId) (CP.dn (CP.dn (CP.dn (CP.dn (CP.dn CP.top (1 : Nat)) (1 : Nat)) (1 : Nat)) (0 : Nat)) (0 : Nat)) (St.mk [((0 : Nat), AV.pv (PV.sl a)), ((1 : Nat), AV.pv (PV.str n)), ((2 : Nat), AV.pv (PV.fn (86 : FuncId) [])), ((8 : Nat), AV.pv (PV.int IntKind.i64 (↑(List.length a) : Int))), ((9 : Nat), AV.pv (PV.int IntKind.i64 (0 : Int))), ((10 : Nat), AV.pv (PV.int IntKind.i64 (↑(List.length a) : Int)))] []) (exK (blockK (0 : Nat) (seqK (wAt C noSpec (85 : FuncId) (99996 : Nat) (CP.dn (CP.dn (CP.dn (CP.dn CP.top (1 : Nat)) (1 : Nat)) (1 : Nat)) (1 : Nat))) (retK C (85 : FuncId) [TV.pv (PV.sl a), TV.pv (PV.str n), TV.pv (PV.fn (86 : FuncId) [])] Q))))) := by kernel_rfl

def bsf_c0 : CP := (CP.dn (CP.dn (CP.dn (CP.dn (CP.dn CP.top (1 : Nat)) (1 : Nat)) (1 : Nat)) (0 : Nat)) (0 : Nat))

def bsf_h0 (t0 : List (List PV)) (t1 : List UInt8) (t8 : Int) (t9 : Int) (t10 : Int) : St := (St.mk [((0 : Nat), AV.pv (PV.sl t0)), ((1 : Nat), AV.pv (PV.str t1)), ((2 : Nat), AV.pv (PV.fn (86 : FuncId) [])), ((8 : Nat), AV.pv (PV.int IntKind.i64 t8)), ((9 : Nat), AV.pv (PV.int IntKind.i64 t9)), ((10 : Nat), AV.pv (PV.int IntKind.i64 t10))] [])

theorem bsf_l0 (a : List (List PV)) (n : List UInt8) (t0 : List (List PV)) (t1 : List UInt8) (t8 : Int) (t9 : Int) (t10 : Int)  (J0 : St → Prop) (Q : List TV × List TV → Prop) : (wAt C noSpec 85 1000 (bsf_c0.dn 0) (bsf_h0 t0 t1 t8 t9 t10) (loopK C 85 bsf_c0 J0 (exK (blockK (0 : Nat) (seqK (wAt C noSpec (85 : FuncId) (99996 : Nat) (CP.dn (CP.dn (CP.dn (CP.dn CP.top (1 : Nat)) (1 : Nat)) (1 : Nat)) (1 : Nat))) (retK C (85 : FuncId) [TV.pv (PV.sl a), TV.pv (PV.str n), TV.pv (PV.fn (86 : FuncId) [])] Q)))))) (H.b (H.n (1 : Nat) (H.s (H.s (H.b H.auto H.auto)))) H.auto) = ((decide (t9 < t10) = true → (0 : Int) ≤ IntKind.wrap IntKind.i64 (Int.fdiv (IntKind.wrap IntKind.u64 (IntKind.wrap IntKind.i64 (t9 + t10))) (2 : Int)) ∧ ∃ (s : List UInt8), ∃ (es : List (List PV)), t0[Int.toNat (IntKind.wrap IntKind.i64 (Int.fdiv (IntKind.wrap IntKind.u64 (IntKind.wrap IntKind.i64 (t9 + t10))) (2 : Int)))]? = some [PV.str s, PV.sl es] ∧ (decide (Lib.compareBytes s t1 < (0 : Int)) = true → J0 (St.mk [((0 : Nat), AV.pv (PV.sl t0)), ((1 : Nat), AV.pv (PV.str t1)), ((2 : Nat), AV.pv (PV.fn (86 : FuncId) [])), ((8 : Nat), AV.pv (PV.int IntKind.i64 t8)), ((9 : Nat), AV.pv (PV.int IntKind.i64 (IntKind.wrap IntKind.i64 (IntKind.wrap IntKind.i64 (Int.fdiv (IntKind.wrap IntKind.u64 (IntKind.wrap IntKind.i64 (t9 + t10))) (2 : Int)) + (1 : Int))))), ((10 : Nat), AV.pv (PV.int IntKind.i64 t10))] [])) ∧ (decide (Lib.compareBytes s t1 < (0 : Int)) = false → J0 (St.mk [((0 : Nat), AV.pv (PV.sl t0)), ((1 : Nat), AV.pv (PV.str t1)), ((2 : Nat), AV.pv (PV.fn (86 : FuncId) [])), ((8 : Nat), AV.pv (PV.int IntKind.i64 t8)), ((9 : Nat), AV.pv (PV.int IntKind.i64 t9)), ((10 : Nat), AV.pv (PV.int IntKind.i64 (IntKind.wrap IntKind.i64 (Int.fdiv (IntKind.wrap IntKind.u64 (IntKind.wrap IntKind.i64 (t9 + t10))) (2 : Int)))))] []))) ∧ (decide (t9 < t10) = false → exK (blockK (0 : Nat) (seqK (wAt C noSpec (85 : FuncId) (99996 : Nat) (CP.dn (CP.dn (CP.dn (CP.dn CP.top (1 : Nat)) (1 : Nat)) (1 : Nat)) (1 : Nat))) (retK C (85 : FuncId) [TV.pv (PV.sl a), TV.pv (PV.str n), TV.pv (PV.fn (86 : FuncId) [])] Q))) (Ex.exit (0 : Nat)) (St.mk [((17 : Nat), AV.pv (PV.bool false)), ((16 : Nat), AV.pv (PV.int IntKind.i64 t10)), ((15 : Nat), AV.pv (PV.int IntKind.i64 t9)), ((0 : Nat), AV.pv (PV.sl t0)), ((1 : Nat), AV.pv (PV.str t1)), ((2 : Nat), AV.pv (PV.fn (86 : FuncId) [])), ((8 : Nat), AV.pv (PV.int IntKind.i64 t8)), ((9 : Nat), AV.pv (PV.int IntKind.i64 t9)), ((10 : Nat), AV.pv (PV.int IntKind.i64 t10))] []))) := by kernel_rfl

def bsf_s1 (t16 : Int) (t15 : Int) (t0 : List (List PV)) (t1 : List UInt8) (t8 : Int) (t9 : Int) (t10 : Int) : St := (St.mk [((17 : Nat), AV.pv (PV.bool false)), ((16 : Nat), AV.pv (PV.int IntKind.i64 t16)), ((15 : Nat), AV.pv (PV.int IntKind.i64 t15)), ((0 : Nat), AV.pv (PV.sl t0)), ((1 : Nat), AV.pv (PV.str t1)), ((2 : Nat), AV.pv (PV.fn (86 : FuncId) [])), ((8 : Nat), AV.pv (PV.int IntKind.i64 t8)), ((9 : Nat), AV.pv (PV.int IntKind.i64 t9)), ((10 : Nat), AV.pv (PV.int IntKind.i64 t10))] [])

theorem bsf_x1 (a : List (List PV)) (n : List UInt8) (t16 : Int) (t15 : Int) (t0 : List (List PV)) (t1 : List UInt8) (t8 : Int) (t9 : Int) (t10 : Int)  (Q : List TV × List TV → Prop) : (fun h => blockK (0 : Nat) (seqK (wAt C noSpec (85 : FuncId) (99996 : Nat) (CP.dn (CP.dn (CP.dn (CP.dn CP.top (1 : Nat)) (1 : Nat)) (1 : Nat)) (1 : Nat))) (retK C (85 : FuncId) [TV.pv (PV.sl a), TV.pv (PV.str n), TV.pv (PV.fn (86 : FuncId) [])] Q)) h (Ex.exit (0 : Nat)) (bsf_s1 t16 t15 t0 t1 t8 t9 t10)) (H.b (H.n (3 : Nat) (H.s (H.s H.auto))) H.auto) = ((decide (t9 < t8) = true → (0 : Int) ≤ t9 ∧ ∃ (s : List UInt8), ∃ (es : List (List PV)), t0[Int.toNat t9]? = some [PV.str s, PV.sl es] ∧ Q ([TV.pv (PV.int IntKind.i64 t9), TV.pv (PV.bool (Lib.compareBytes s t1 == (0 : Int)))], [])) ∧ (decide (t9 < t8) = false → Q ([TV.pv (PV.int IntKind.i64 t9), TV.pv (PV.bool false)], []))) := by kernel_rfl

noncomputable def g_bsf : List TV → Option Alts
  | [.pv (.sl a), .pv (.str n), .pv (.fn f [])] => one (f = 86 ∧ atO a) ([.pv (.int .i64 (atK (unrow a).list n)), .pv (.bool (atB (unrow a).list n))], [])
  | _ => none

noncomputable def S_fnd : Specs := specL [(85, g_bsf)]

theorem fnd_w (a : List (List PV)) (n : List UInt8) (Q : List TV × List TV → Prop) : (wFun C S_fnd 63 [.pv (.sl a), .pv (.str n)] Q) (H.auto) = (((86 : Nat) = (86 : FuncId) ∧ atO a) ∧ Q ([TV.pv (PV.int IntKind.i64 (↑(atK (Tr.list (unrow a)) n) : Int)), TV.pv (PV.bool (atB (Tr.list (unrow a)) n))], [])) := by kernel_rfl

noncomputable def g_fnd : List TV → Option Alts
  | [.pv (.sl a), .pv (.str n)] => one (atO a) ([.pv (.int .i64 (atK (unrow a).list n)), .pv (.bool (atB (unrow a).list n))], [])
  | _ => none

noncomputable def g_own (N : Nat) : List TV → Option Alts
  | [.pv (.sl a)] => one (∃ t : Tr, a = t.rows ∧ t.nodes < N) ([.own 2 (ownR a)], [])
  | _ => none

noncomputable def S_own (N : Nat) : Specs := specL [(62, g_own N)]

theorem own_w (N : Nat) (a : List (List PV)) (Q : List TV × List TV → Prop) : (wFun C (S_own N) 62 [.pv (.sl a)] Q) (H.s H.auto) = (((0 : Int) ≤ (↑(List.length a) : Int) ∧ (↑(List.length a) : Int) ≤ (↑(List.length a) : Int) ∧ (↑(List.length a) : Int) ≤ (9223372036854775807 : Int) ∧ (↑(List.length a) : Int) * (40 : Int) ≤ (140737488355328 : Int)) ∧ LoopAt C (62 : FuncId) (CP.dn (CP.dn (CP.dn (CP.dn (CP.dn CP.top (1 : Nat)) (1 : Nat)) (0 : Nat)) (1 : Nat)) (0 : Nat)) (St.mk [((3 : Nat), AV.own (6 : Nat)), ((9 : Nat), AV.pv (PV.sl a)), ((10 : Nat), AV.pv (PV.int IntKind.i64 (↑(List.length a) : Int))), ((11 : Nat), AV.pv (PV.int IntKind.i64 (0 : Int)))] [((6 : Nat), Obj.buf (2 : Nat) (List.replicate (Int.toNat (↑(List.length a) : Int)) [PV.str [], PV.sl []]))]) (exK (blockK (0 : Nat) (seqK (wAt C (S_own N) (62 : FuncId) (99997 : Nat) (CP.dn (CP.dn (CP.dn CP.top (1 : Nat)) (1 : Nat)) (1 : Nat))) (retK C (62 : FuncId) [TV.pv (PV.sl a)] Q))))) := by kernel_rfl

def own_c0 : CP := (CP.dn (CP.dn (CP.dn (CP.dn (CP.dn CP.top (1 : Nat)) (1 : Nat)) (0 : Nat)) (1 : Nat)) (0 : Nat))

def own_h0 (t9 : List (List PV)) (t10 : Int) (t11 : Int) (o6 : List (List PV)) : St := (St.mk [((3 : Nat), AV.own (6 : Nat)), ((9 : Nat), AV.pv (PV.sl t9)), ((10 : Nat), AV.pv (PV.int IntKind.i64 t10)), ((11 : Nat), AV.pv (PV.int IntKind.i64 t11))] [((6 : Nat), Obj.buf (2 : Nat) o6)])

theorem own_l0 (N : Nat) (a : List (List PV)) (t9 : List (List PV)) (t10 : Int) (t11 : Int) (o6 : List (List PV))  (J0 : St → Prop) (Q : List TV × List TV → Prop) : (wAt C (S_own N) 62 1000 (own_c0.dn 0) (own_h0 t9 t10 t11 o6) (loopK C 62 own_c0 J0 (exK (blockK (0 : Nat) (seqK (wAt C (S_own N) (62 : FuncId) (99997 : Nat) (CP.dn (CP.dn (CP.dn CP.top (1 : Nat)) (1 : Nat)) (1 : Nat))) (retK C (62 : FuncId) [TV.pv (PV.sl a)] Q)))))) (H.b (H.s (H.s (H.s (H.s (H.s (H.s (H.s H.auto))))))) H.auto) = ((decide (t11 < t10) = true → (0 : Int) ≤ t11 ∧ ∃ (s : List UInt8), ∃ (es : List (List PV)), t9[Int.toNat t11]? = some [PV.str s, PV.sl es] ∧ (∃ (t : Tr), es = Tr.rows t ∧ Tr.nodes t < N) ∧ ((0 : Int) ≤ t11 ∧ t11 < (↑(List.length o6) : Int)) ∧ ∃ (c : List PV), o6[Int.toNat t11]? = some c ∧ (2 : Nat) ≤ List.length c ∧ List.length (List.set o6 (Int.toNat t11) (PV.str s :: PV.sl (ownR es) :: List.drop (2 : Nat) c)) = List.length o6 ∧ List.length (List.set o6 (Int.toNat t11) (PV.str s :: PV.sl (ownR es) :: List.drop (2 : Nat) c)) = List.length o6 ∧ J0 (St.mk [((3 : Nat), AV.own (6 : Nat)), ((9 : Nat), AV.pv (PV.sl t9)), ((10 : Nat), AV.pv (PV.int IntKind.i64 t10)), ((11 : Nat), AV.pv (PV.int IntKind.i64 (IntKind.wrap IntKind.i64 (t11 + (1 : Int)))))] [((6 : Nat), Obj.buf (2 : Nat) (List.set o6 (Int.toNat t11) (PV.str s :: PV.sl (ownR es) :: List.drop (2 : Nat) c)))])) ∧ (decide (t11 < t10) = false → ∃ (h : H), Q ([TV.own (2 : Nat) o6], []))) := by kernel_rfl

def g_cl2 : List TV → Option Alts
  | [.pv (.sl es)] => one (es.length * 40 ≤ room ∧ es.length ≤ maxInt ∧ rowOk 2 es = true) ([.own 2 es], [])
  | _ => none
def g_ins : List TV → Option Alts
  | [.own 2 es, .pv (.int .i64 i), .pv (.sl [v])] => one (0 ≤ i ∧ i.toNat ≤ es.length ∧ es.length ≤ 4000000 ∧ v.length = 2) ([.own 2 (es.take i.toNat ++ [v] ++ es.drop i.toNat)], [])
  | _ => none
def g_del : List TV → Option Alts
  | [.own 2 es, .pv (.int .i64 i), .pv (.int .i64 j)] => one (0 ≤ i ∧ i.toNat < es.length ∧ es.length ≤ 4000000 ∧ j = i + 1) ([.own 2 (es.take i.toNat ++ es.drop (i.toNat + 1))], [])
  | _ => none

noncomputable def S_get : Specs := specL [(63, g_fnd), (62, g_own 4000000)]

theorem get_w (a p : List (List PV)) (Q : List TV × List TV → Prop) : (wFun C S_get 31 [.pv (.sl a), .pv (.sl p)] Q) (H.auto) = (LoopAt C (31 : FuncId) (CP.dn (CP.dn (CP.dn (CP.dn CP.top (1 : Nat)) (0 : Nat)) (1 : Nat)) (0 : Nat)) (St.mk [((0 : Nat), AV.pv (PV.sl a)), ((10 : Nat), AV.pv (PV.sl p)), ((11 : Nat), AV.pv (PV.int IntKind.i64 (↑(List.length p) : Int))), ((12 : Nat), AV.pv (PV.int IntKind.i64 (0 : Int)))] []) (exK (blockK (0 : Nat) (seqK (wAt C S_get (31 : FuncId) (99998 : Nat) (CP.dn (CP.dn CP.top (1 : Nat)) (1 : Nat))) (retK C (31 : FuncId) [TV.pv (PV.sl a), TV.pv (PV.sl p)] Q))))) := by kernel_rfl

def get_c0 : CP := (CP.dn (CP.dn (CP.dn (CP.dn CP.top (1 : Nat)) (0 : Nat)) (1 : Nat)) (0 : Nat))

def get_h0 (t0 : List (List PV)) (t10 : List (List PV)) (t11 : Int) (t12 : Int) : St := (St.mk [((0 : Nat), AV.pv (PV.sl t0)), ((10 : Nat), AV.pv (PV.sl t10)), ((11 : Nat), AV.pv (PV.int IntKind.i64 t11)), ((12 : Nat), AV.pv (PV.int IntKind.i64 t12))] [])

theorem get_l0 (a p : List (List PV)) (t0 : List (List PV)) (t10 : List (List PV)) (t11 : Int) (t12 : Int)  (J0 : St → Prop) (Q : List TV × List TV → Prop) : (wAt C S_get 31 1000 (get_c0.dn 0) (get_h0 t0 t10 t11 t12) (loopK C 31 get_c0 J0 (exK (blockK (0 : Nat) (seqK (wAt C S_get (31 : FuncId) (99998 : Nat) (CP.dn (CP.dn CP.top (1 : Nat)) (1 : Nat))) (retK C (31 : FuncId) [TV.pv (PV.sl a), TV.pv (PV.sl p)] Q)))))) (H.b (H.s (H.s (H.b H.auto (H.n (1 : Nat) (H.s H.auto))))) H.auto) = ((decide (t12 < t11) = true → (0 : Int) ≤ t12 ∧ ∃ (s : List UInt8), t10[Int.toNat t12]? = some [PV.str s] ∧ (∃ (t : Tr), t0 = Tr.rows t ∧ Tr.nodes t ≤ (2000000 : Nat) ∧ srtP none t) ∧ ((!atB (Tr.list (unrow t0)) s) = true → ∃ (h : H), Q ([TV.pv (PV.sl []), TV.pv (PV.bool false)], [])) ∧ ((!atB (Tr.list (unrow t0)) s) = false → ∃ (s_1 : List UInt8), ∃ (es : List (List PV)), t0[Int.toNat (↑(atK (Tr.list (unrow t0)) s) : Int)]? = some [PV.str s_1, PV.sl es] ∧ J0 (St.mk [((0 : Nat), AV.pv (PV.sl es)), ((10 : Nat), AV.pv (PV.sl t10)), ((11 : Nat), AV.pv (PV.int IntKind.i64 t11)), ((12 : Nat), AV.pv (PV.int IntKind.i64 (IntKind.wrap IntKind.i64 (t12 + (1 : Int)))))] []))) ∧ (decide (t12 < t11) = false → ∃ (h : H), (∃ (t : Tr), t0 = Tr.rows t ∧ Tr.nodes t < (4000000 : Nat)) ∧ Q ([TV.own (2 : Nat) (ownR t0), TV.pv (PV.bool true)], []))) := by kernel_rfl

noncomputable def g_put (N : Nat) : List TV → Option Alts
  | [.pv (.sl a), .pv (.sl p), .pv (.sl x)] => one (atO a ∧ pathO p N ∧ atO x) ([.own 2 (putR a p x)], [])
  | _ => none

noncomputable def S_put (N : Nat) : Specs := specL [(63, g_fnd), (62, g_own 4000000), (28, g_put N), (64, g_ins), (65, g_cl2)]

theorem put_w (N : Nat) (a p x : List (List PV)) (Q : List TV × List TV → Prop) : (wFun C (S_put N) 28 [.pv (.sl a), .pv (.sl p), .pv (.sl x)] Q) (H.b H.auto (H.n (1 : Nat) (H.s (H.n (1 : Nat) (H.b (H.n (1 : Nat) (H.s (H.b (H.s (H.s (H.s (H.s (H.s (H.s (H.s (H.s (H.s (H.b H.auto H.auto)))))))))) (H.s (H.s (H.s (H.s (H.s (H.s (H.s (H.s (H.s (H.b H.auto H.auto))))))))))))) (H.s (H.s (H.s (H.s (H.s (H.s (H.s (H.s (H.s (H.b H.auto H.auto))))))))))))))) = ((((↑(List.length p) : Int) == (0 : Int)) = true → (∃ (t : Tr), x = Tr.rows t ∧ Tr.nodes t < (4000000 : Nat)) ∧ Q ([TV.own (2 : Nat) (ownR x)], [])) ∧ (((↑(List.length p) : Int) == (0 : Int)) = false → (∃ (t : Tr), a = Tr.rows t ∧ Tr.nodes t < (4000000 : Nat)) ∧ ∃ (s : List UInt8), p[(0 : Nat)]? = some [PV.str s] ∧ (∃ (t : Tr), ownR a = Tr.rows t ∧ Tr.nodes t ≤ (2000000 : Nat) ∧ srtP none t) ∧ ((!atB (Tr.list (unrow (ownR a))) s) = true → ∃ (s_1 : List UInt8), p[(0 : Nat)]? = some [PV.str s_1] ∧ ((0 : Int) ≤ (↑(atK (Tr.list (unrow (ownR a))) s) : Int) ∧ Int.toNat (↑(atK (Tr.list (unrow (ownR a))) s) : Int) ≤ List.length (ownR a) ∧ List.length (ownR a) ≤ (4000000 : Nat) ∧ (2 : Nat) = (2 : Nat)) ∧ ((flatTVs [TV.own (2 : Nat) (List.take (Int.toNat (↑(atK (Tr.list (unrow (ownR a))) s) : Int)) (ownR a) ++ [[PV.str s_1, PV.sl []]] ++ List.drop (Int.toNat (↑(atK (Tr.list (unrow (ownR a))) s) : Int)) (ownR a))] && true) = true → ((0 : Int) ≤ (↑(atK (Tr.list (unrow (ownR a))) s) : Int) ∧ (↑(atK (Tr.list (unrow (ownR a))) s) : Int) < (↑(List.length (List.take (Int.toNat (↑(atK (Tr.list (unrow (ownR a))) s) : Int)) (ownR a) ++ [[PV.str s_1, PV.sl []]] ++ List.drop (Int.toNat (↑(atK (Tr.list (unrow (ownR a))) s) : Int)) (ownR a))) : Int)) ∧ ∃ (c : List PV), (List.take (Int.toNat (↑(atK (Tr.list (unrow (ownR a))) s) : Int)) (ownR a) ++ [[PV.str s_1, PV.sl []]] ++ List.drop (Int.toNat (↑(atK (Tr.list (unrow (ownR a))) s) : Int)) (ownR a))[Int.toNat (↑(atK (Tr.list (unrow (ownR a))) s) : Int)]? = some c ∧ (2 : Nat) ≤ List.length c ∧ ∃ (es : List (List PV)), List.take (1 : Nat) (List.drop (1 : Nat) c) = [PV.sl es] ∧ rowOk (1 : Nat) p = true ∧ ((0 : Int) ≤ (1 : Int) ∧ (1 : Int) ≤ Int.ofNat (List.length p) ∧ Int.ofNat (List.length p) ≤ Int.ofNat (List.length p)) ∧ (atO es ∧ pathO (List.take (Int.toNat (Int.ofNat (List.length p)) - (1 : Nat)) (List.drop (1 : Nat) p)) N ∧ atO x) ∧ ((0 : Int) ≤ (↑(atK (Tr.list (unrow (ownR a))) s) : Int) ∧ (↑(atK (Tr.list (unrow (ownR a))) s) : Int) < (↑(List.length (List.take (Int.toNat (↑(atK (Tr.list (unrow (ownR a))) s) : Int)) (ownR a) ++ [[PV.str s_1, PV.sl []]] ++ List.drop (Int.toNat (↑(atK (Tr.list (unrow (ownR a))) s) : Int)) (ownR a))) : Int)) ∧ ∃ (c : List PV), (List.take (Int.toNat (↑(atK (Tr.list (unrow (ownR a))) s) : Int)) (ownR a) ++ [[PV.str s_1, PV.sl []]] ++ List.drop (Int.toNat (↑(atK (Tr.list (unrow (ownR a))) s) : Int)) (ownR a))[Int.toNat (↑(atK (Tr.list (unrow (ownR a))) s) : Int)]? = some c ∧ (2 : Nat) ≤ List.length c ∧ List.length (List.set (List.take (Int.toNat (↑(atK (Tr.list (unrow (ownR a))) s) : Int)) (ownR a) ++ [[PV.str s_1, PV.sl []]] ++ List.drop (Int.toNat (↑(atK (Tr.list (unrow (ownR a))) s) : Int)) (ownR a)) (Int.toNat (↑(atK (Tr.list (unrow (ownR a))) s) : Int)) (setFrom (1 : Nat) [PV.sl (putR es (List.take (Int.toNat (Int.ofNat (List.length p)) - (1 : Nat)) (List.drop (1 : Nat) p)) x)] c)) = List.length (List.take (Int.toNat (↑(atK (Tr.list (unrow (ownR a))) s) : Int)) (ownR a) ++ [[PV.str s_1, PV.sl []]] ++ List.drop (Int.toNat (↑(atK (Tr.list (unrow (ownR a))) s) : Int)) (ownR a)) ∧ List.length (List.set (List.take (Int.toNat (↑(atK (Tr.list (unrow (ownR a))) s) : Int)) (ownR a) ++ [[PV.str s_1, PV.sl []]] ++ List.drop (Int.toNat (↑(atK (Tr.list (unrow (ownR a))) s) : Int)) (ownR a)) (Int.toNat (↑(atK (Tr.list (unrow (ownR a))) s) : Int)) (setFrom (1 : Nat) [PV.sl (putR es (List.take (Int.toNat (Int.ofNat (List.length p)) - (1 : Nat)) (List.drop (1 : Nat) p)) x)] c)) = List.length (List.take (Int.toNat (↑(atK (Tr.list (unrow (ownR a))) s) : Int)) (ownR a) ++ [[PV.str s_1, PV.sl []]] ++ List.drop (Int.toNat (↑(atK (Tr.list (unrow (ownR a))) s) : Int)) (ownR a)) ∧ (List.length (List.set (List.take (Int.toNat (↑(atK (Tr.list (unrow (ownR a))) s) : Int)) (ownR a) ++ [[PV.str s_1, PV.sl []]] ++ List.drop (Int.toNat (↑(atK (Tr.list (unrow (ownR a))) s) : Int)) (ownR a)) (Int.toNat (↑(atK (Tr.list (unrow (ownR a))) s) : Int)) (setFrom (1 : Nat) [PV.sl (putR es (List.take (Int.toNat (Int.ofNat (List.length p)) - (1 : Nat)) (List.drop (1 : Nat) p)) x)] c)) * (40 : Nat) ≤ room ∧ List.length (List.set (List.take (Int.toNat (↑(atK (Tr.list (unrow (ownR a))) s) : Int)) (ownR a) ++ [[PV.str s_1, PV.sl []]] ++ List.drop (Int.toNat (↑(atK (Tr.list (unrow (ownR a))) s) : Int)) (ownR a)) (Int.toNat (↑(atK (Tr.list (unrow (ownR a))) s) : Int)) (setFrom (1 : Nat) [PV.sl (putR es (List.take (Int.toNat (Int.ofNat (List.length p)) - (1 : Nat)) (List.drop (1 : Nat) p)) x)] c)) ≤ maxInt ∧ rowOk (2 : Nat) (List.set (List.take (Int.toNat (↑(atK (Tr.list (unrow (ownR a))) s) : Int)) (ownR a) ++ [[PV.str s_1, PV.sl []]] ++ List.drop (Int.toNat (↑(atK (Tr.list (unrow (ownR a))) s) : Int)) (ownR a)) (Int.toNat (↑(atK (Tr.list (unrow (ownR a))) s) : Int)) (setFrom (1 : Nat) [PV.sl (putR es (List.take (Int.toNat (Int.ofNat (List.length p)) - (1 : Nat)) (List.drop (1 : Nat) p)) x)] c)) = true) ∧ ((flatTVs [TV.own (2 : Nat) (List.set (List.take (Int.toNat (↑(atK (Tr.list (unrow (ownR a))) s) : Int)) (ownR a) ++ [[PV.str s_1, PV.sl []]] ++ List.drop (Int.toNat (↑(atK (Tr.list (unrow (ownR a))) s) : Int)) (ownR a)) (Int.toNat (↑(atK (Tr.list (unrow (ownR a))) s) : Int)) (setFrom (1 : Nat) [PV.sl (putR es (List.take (Int.toNat (Int.ofNat (List.length p)) - (1 : Nat)) (List.drop (1 : Nat) p)) x)] c))] && true) = true → Q ([TV.own (2 : Nat) (List.set (List.take (Int.toNat (↑(atK (Tr.list (unrow (ownR a))) s) : Int)) (ownR a) ++ [[PV.str s_1, PV.sl []]] ++ List.drop (Int.toNat (↑(atK (Tr.list (unrow (ownR a))) s) : Int)) (ownR a)) (Int.toNat (↑(atK (Tr.list (unrow (ownR a))) s) : Int)) (setFrom (1 : Nat) [PV.sl (putR es (List.take (Int.toNat (Int.ofNat (List.length p)) - (1 : Nat)) (List.drop (1 : Nat) p)) x)] c))], [])) ∧ ((flatTVs [TV.own (2 : Nat) (List.set (List.take (Int.toNat (↑(atK (Tr.list (unrow (ownR a))) s) : Int)) (ownR a) ++ [[PV.str s_1, PV.sl []]] ++ List.drop (Int.toNat (↑(atK (Tr.list (unrow (ownR a))) s) : Int)) (ownR a)) (Int.toNat (↑(atK (Tr.list (unrow (ownR a))) s) : Int)) (setFrom (1 : Nat) [PV.sl (putR es (List.take (Int.toNat (Int.ofNat (List.length p)) - (1 : Nat)) (List.drop (1 : Nat) p)) x)] c))] && true) = false → Q ([TV.own (2 : Nat) (List.set (List.take (Int.toNat (↑(atK (Tr.list (unrow (ownR a))) s) : Int)) (ownR a) ++ [[PV.str s_1, PV.sl []]] ++ List.drop (Int.toNat (↑(atK (Tr.list (unrow (ownR a))) s) : Int)) (ownR a)) (Int.toNat (↑(atK (Tr.list (unrow (ownR a))) s) : Int)) (setFrom (1 : Nat) [PV.sl (putR es (List.take (Int.toNat (Int.ofNat (List.length p)) - (1 : Nat)) (List.drop (1 : Nat) p)) x)] c))], []))) ∧ ((flatTVs [TV.own (2 : Nat) (List.take (Int.toNat (↑(atK (Tr.list (unrow (ownR a))) s) : Int)) (ownR a) ++ [[PV.str s_1, PV.sl []]] ++ List.drop (Int.toNat (↑(atK (Tr.list (unrow (ownR a))) s) : Int)) (ownR a))] && true) = false → ((0 : Int) ≤ (↑(atK (Tr.list (unrow (ownR a))) s) : Int) ∧ (↑(atK (Tr.list (unrow (ownR a))) s) : Int) < (↑(List.length (List.take (Int.toNat (↑(atK (Tr.list (unrow (ownR a))) s) : Int)) (ownR a) ++ [[PV.str s_1, PV.sl []]] ++ List.drop (Int.toNat (↑(atK (Tr.list (unrow (ownR a))) s) : Int)) (ownR a))) : Int)) ∧ ∃ (c : List PV), (List.take (Int.toNat (↑(atK (Tr.list (unrow (ownR a))) s) : Int)) (ownR a) ++ [[PV.str s_1, PV.sl []]] ++ List.drop (Int.toNat (↑(atK (Tr.list (unrow (ownR a))) s) : Int)) (ownR a))[Int.toNat (↑(atK (Tr.list (unrow (ownR a))) s) : Int)]? = some c ∧ (2 : Nat) ≤ List.length c ∧ ∃ (es : List (List PV)), List.take (1 : Nat) (List.drop (1 : Nat) c) = [PV.sl es] ∧ rowOk (1 : Nat) p = true ∧ ((0 : Int) ≤ (1 : Int) ∧ (1 : Int) ≤ Int.ofNat (List.length p) ∧ Int.ofNat (List.length p) ≤ Int.ofNat (List.length p)) ∧ (atO es ∧ pathO (List.take (Int.toNat (Int.ofNat (List.length p)) - (1 : Nat)) (List.drop (1 : Nat) p)) N ∧ atO x) ∧ ((0 : Int) ≤ (↑(atK (Tr.list (unrow (ownR a))) s) : Int) ∧ (↑(atK (Tr.list (unrow (ownR a))) s) : Int) < (↑(List.length (List.take (Int.toNat (↑(atK (Tr.list (unrow (ownR a))) s) : Int)) (ownR a) ++ [[PV.str s_1, PV.sl []]] ++ List.drop (Int.toNat (↑(atK (Tr.list (unrow (ownR a))) s) : Int)) (ownR a))) : Int)) ∧ ∃ (c : List PV), (List.take (Int.toNat (↑(atK (Tr.list (unrow (ownR a))) s) : Int)) (ownR a) ++ [[PV.str s_1, PV.sl []]] ++ List.drop (Int.toNat (↑(atK (Tr.list (unrow (ownR a))) s) : Int)) (ownR a))[Int.toNat (↑(atK (Tr.list (unrow (ownR a))) s) : Int)]? = some c ∧ (2 : Nat) ≤ List.length c ∧ List.length (List.set (List.take (Int.toNat (↑(atK (Tr.list (unrow (ownR a))) s) : Int)) (ownR a) ++ [[PV.str s_1, PV.sl []]] ++ List.drop (Int.toNat (↑(atK (Tr.list (unrow (ownR a))) s) : Int)) (ownR a)) (Int.toNat (↑(atK (Tr.list (unrow (ownR a))) s) : Int)) (setFrom (1 : Nat) [PV.sl (putR es (List.take (Int.toNat (Int.ofNat (List.length p)) - (1 : Nat)) (List.drop (1 : Nat) p)) x)] c)) = List.length (List.take (Int.toNat (↑(atK (Tr.list (unrow (ownR a))) s) : Int)) (ownR a) ++ [[PV.str s_1, PV.sl []]] ++ List.drop (Int.toNat (↑(atK (Tr.list (unrow (ownR a))) s) : Int)) (ownR a)) ∧ List.length (List.set (List.take (Int.toNat (↑(atK (Tr.list (unrow (ownR a))) s) : Int)) (ownR a) ++ [[PV.str s_1, PV.sl []]] ++ List.drop (Int.toNat (↑(atK (Tr.list (unrow (ownR a))) s) : Int)) (ownR a)) (Int.toNat (↑(atK (Tr.list (unrow (ownR a))) s) : Int)) (setFrom (1 : Nat) [PV.sl (putR es (List.take (Int.toNat (Int.ofNat (List.length p)) - (1 : Nat)) (List.drop (1 : Nat) p)) x)] c)) = List.length (List.take (Int.toNat (↑(atK (Tr.list (unrow (ownR a))) s) : Int)) (ownR a) ++ [[PV.str s_1, PV.sl []]] ++ List.drop (Int.toNat (↑(atK (Tr.list (unrow (ownR a))) s) : Int)) (ownR a)) ∧ (List.length (List.set (List.take (Int.toNat (↑(atK (Tr.list (unrow (ownR a))) s) : Int)) (ownR a) ++ [[PV.str s_1, PV.sl []]] ++ List.drop (Int.toNat (↑(atK (Tr.list (unrow (ownR a))) s) : Int)) (ownR a)) (Int.toNat (↑(atK (Tr.list (unrow (ownR a))) s) : Int)) (setFrom (1 : Nat) [PV.sl (putR es (List.take (Int.toNat (Int.ofNat (List.length p)) - (1 : Nat)) (List.drop (1 : Nat) p)) x)] c)) * (40 : Nat) ≤ room ∧ List.length (List.set (List.take (Int.toNat (↑(atK (Tr.list (unrow (ownR a))) s) : Int)) (ownR a) ++ [[PV.str s_1, PV.sl []]] ++ List.drop (Int.toNat (↑(atK (Tr.list (unrow (ownR a))) s) : Int)) (ownR a)) (Int.toNat (↑(atK (Tr.list (unrow (ownR a))) s) : Int)) (setFrom (1 : Nat) [PV.sl (putR es (List.take (Int.toNat (Int.ofNat (List.length p)) - (1 : Nat)) (List.drop (1 : Nat) p)) x)] c)) ≤ maxInt ∧ rowOk (2 : Nat) (List.set (List.take (Int.toNat (↑(atK (Tr.list (unrow (ownR a))) s) : Int)) (ownR a) ++ [[PV.str s_1, PV.sl []]] ++ List.drop (Int.toNat (↑(atK (Tr.list (unrow (ownR a))) s) : Int)) (ownR a)) (Int.toNat (↑(atK (Tr.list (unrow (ownR a))) s) : Int)) (setFrom (1 : Nat) [PV.sl (putR es (List.take (Int.toNat (Int.ofNat (List.length p)) - (1 : Nat)) (List.drop (1 : Nat) p)) x)] c)) = true) ∧ ((flatTVs [TV.own (2 : Nat) (List.set (List.take (Int.toNat (↑(atK (Tr.list (unrow (ownR a))) s) : Int)) (ownR a) ++ [[PV.str s_1, PV.sl []]] ++ List.drop (Int.toNat (↑(atK (Tr.list (unrow (ownR a))) s) : Int)) (ownR a)) (Int.toNat (↑(atK (Tr.list (unrow (ownR a))) s) : Int)) (setFrom (1 : Nat) [PV.sl (putR es (List.take (Int.toNat (Int.ofNat (List.length p)) - (1 : Nat)) (List.drop (1 : Nat) p)) x)] c))] && true) = true → Q ([TV.own (2 : Nat) (List.set (List.take (Int.toNat (↑(atK (Tr.list (unrow (ownR a))) s) : Int)) (ownR a) ++ [[PV.str s_1, PV.sl []]] ++ List.drop (Int.toNat (↑(atK (Tr.list (unrow (ownR a))) s) : Int)) (ownR a)) (Int.toNat (↑(atK (Tr.list (unrow (ownR a))) s) : Int)) (setFrom (1 : Nat) [PV.sl (putR es (List.take (Int.toNat (Int.ofNat (List.length p)) - (1 : Nat)) (List.drop (1 : Nat) p)) x)] c))], [])) ∧ ((flatTVs [TV.own (2 : Nat) (List.set (List.take (Int.toNat (↑(atK (Tr.list (unrow (ownR a))) s) : Int)) (ownR a) ++ [[PV.str s_1, PV.sl []]] ++ List.drop (Int.toNat (↑(atK (Tr.list (unrow (ownR a))) s) : Int)) (ownR a)) (Int.toNat (↑(atK (Tr.list (unrow (ownR a))) s) : Int)) (setFrom (1 : Nat) [PV.sl (putR es (List.take (Int.toNat (Int.ofNat (List.length p)) - (1 : Nat)) (List.drop (1 : Nat) p)) x)] c))] && true) = false → Q ([TV.own (2 : Nat) (List.set (List.take (Int.toNat (↑(atK (Tr.list (unrow (ownR a))) s) : Int)) (ownR a) ++ [[PV.str s_1, PV.sl []]] ++ List.drop (Int.toNat (↑(atK (Tr.list (unrow (ownR a))) s) : Int)) (ownR a)) (Int.toNat (↑(atK (Tr.list (unrow (ownR a))) s) : Int)) (setFrom (1 : Nat) [PV.sl (putR es (List.take (Int.toNat (Int.ofNat (List.length p)) - (1 : Nat)) (List.drop (1 : Nat) p)) x)] c))], [])))) ∧ ((!atB (Tr.list (unrow (ownR a))) s) = false → ((0 : Int) ≤ (↑(atK (Tr.list (unrow (ownR a))) s) : Int) ∧ (↑(atK (Tr.list (unrow (ownR a))) s) : Int) < (↑(List.length (ownR a)) : Int)) ∧ ∃ (c : List PV), (ownR a)[Int.toNat (↑(atK (Tr.list (unrow (ownR a))) s) : Int)]? = some c ∧ (2 : Nat) ≤ List.length c ∧ ∃ (es : List (List PV)), List.take (1 : Nat) (List.drop (1 : Nat) c) = [PV.sl es] ∧ rowOk (1 : Nat) p = true ∧ ((0 : Int) ≤ (1 : Int) ∧ (1 : Int) ≤ Int.ofNat (List.length p) ∧ Int.ofNat (List.length p) ≤ Int.ofNat (List.length p)) ∧ (atO es ∧ pathO (List.take (Int.toNat (Int.ofNat (List.length p)) - (1 : Nat)) (List.drop (1 : Nat) p)) N ∧ atO x) ∧ ((0 : Int) ≤ (↑(atK (Tr.list (unrow (ownR a))) s) : Int) ∧ (↑(atK (Tr.list (unrow (ownR a))) s) : Int) < (↑(List.length (ownR a)) : Int)) ∧ ∃ (c : List PV), (ownR a)[Int.toNat (↑(atK (Tr.list (unrow (ownR a))) s) : Int)]? = some c ∧ (2 : Nat) ≤ List.length c ∧ List.length (List.set (ownR a) (Int.toNat (↑(atK (Tr.list (unrow (ownR a))) s) : Int)) (setFrom (1 : Nat) [PV.sl (putR es (List.take (Int.toNat (Int.ofNat (List.length p)) - (1 : Nat)) (List.drop (1 : Nat) p)) x)] c)) = List.length (ownR a) ∧ List.length (List.set (ownR a) (Int.toNat (↑(atK (Tr.list (unrow (ownR a))) s) : Int)) (setFrom (1 : Nat) [PV.sl (putR es (List.take (Int.toNat (Int.ofNat (List.length p)) - (1 : Nat)) (List.drop (1 : Nat) p)) x)] c)) = List.length (ownR a) ∧ (List.length (List.set (ownR a) (Int.toNat (↑(atK (Tr.list (unrow (ownR a))) s) : Int)) (setFrom (1 : Nat) [PV.sl (putR es (List.take (Int.toNat (Int.ofNat (List.length p)) - (1 : Nat)) (List.drop (1 : Nat) p)) x)] c)) * (40 : Nat) ≤ room ∧ List.length (List.set (ownR a) (Int.toNat (↑(atK (Tr.list (unrow (ownR a))) s) : Int)) (setFrom (1 : Nat) [PV.sl (putR es (List.take (Int.toNat (Int.ofNat (List.length p)) - (1 : Nat)) (List.drop (1 : Nat) p)) x)] c)) ≤ maxInt ∧ rowOk (2 : Nat) (List.set (ownR a) (Int.toNat (↑(atK (Tr.list (unrow (ownR a))) s) : Int)) (setFrom (1 : Nat) [PV.sl (putR es (List.take (Int.toNat (Int.ofNat (List.length p)) - (1 : Nat)) (List.drop (1 : Nat) p)) x)] c)) = true) ∧ ((flatTVs [TV.own (2 : Nat) (List.set (ownR a) (Int.toNat (↑(atK (Tr.list (unrow (ownR a))) s) : Int)) (setFrom (1 : Nat) [PV.sl (putR es (List.take (Int.toNat (Int.ofNat (List.length p)) - (1 : Nat)) (List.drop (1 : Nat) p)) x)] c))] && true) = true → Q ([TV.own (2 : Nat) (List.set (ownR a) (Int.toNat (↑(atK (Tr.list (unrow (ownR a))) s) : Int)) (setFrom (1 : Nat) [PV.sl (putR es (List.take (Int.toNat (Int.ofNat (List.length p)) - (1 : Nat)) (List.drop (1 : Nat) p)) x)] c))], [])) ∧ ((flatTVs [TV.own (2 : Nat) (List.set (ownR a) (Int.toNat (↑(atK (Tr.list (unrow (ownR a))) s) : Int)) (setFrom (1 : Nat) [PV.sl (putR es (List.take (Int.toNat (Int.ofNat (List.length p)) - (1 : Nat)) (List.drop (1 : Nat) p)) x)] c))] && true) = false → Q ([TV.own (2 : Nat) (List.set (ownR a) (Int.toNat (↑(atK (Tr.list (unrow (ownR a))) s) : Int)) (setFrom (1 : Nat) [PV.sl (putR es (List.take (Int.toNat (Int.ofNat (List.length p)) - (1 : Nat)) (List.drop (1 : Nat) p)) x)] c))], []))))) := by kernel_rfl

noncomputable def g_drop (N : Nat) : List TV → Option Alts
  | [.pv (.sl a), .pv (.sl p)] => some [((atO a ∧ pathO p N) ∧ p = [], [.pv (.sl [])], []), ((atO a ∧ pathO p N) ∧ p ≠ [], [.own 2 (dropR a p)], [])]
  | _ => none

noncomputable def S_drop (N : Nat) : Specs := specL [(63, g_fnd), (62, g_own 4000000), (29, g_drop N), (66, g_del), (65, g_cl2)]

theorem drp_w (N : Nat) (a p : List (List PV)) (Q : List TV × List TV → Prop) : (wFun C (S_drop N) 29 [.pv (.sl a), .pv (.sl p)] Q) (H.b H.auto (H.n (1 : Nat) (H.s (H.n (1 : Nat) (H.b (H.b H.auto H.auto) (H.b (H.b H.auto H.auto) (H.s (H.s (H.s (H.s (H.b (H.s (H.s (H.s (H.s (H.s (H.b H.auto H.auto)))))) (H.b (H.s (H.s (H.s (H.s (H.s (H.b H.auto H.auto)))))) H.auto)))))))))))) = ((((↑(List.length p) : Int) == (0 : Int)) = true → Q ([TV.pv (PV.sl [])], [])) ∧ (((↑(List.length p) : Int) == (0 : Int)) = false → (∃ (t : Tr), a = Tr.rows t ∧ Tr.nodes t < (4000000 : Nat)) ∧ ∃ (s : List UInt8), p[(0 : Nat)]? = some [PV.str s] ∧ (∃ (t : Tr), ownR a = Tr.rows t ∧ Tr.nodes t ≤ (2000000 : Nat) ∧ srtP none t) ∧ ((!atB (Tr.list (unrow (ownR a))) s) = true → (List.length (ownR a) * (40 : Nat) ≤ room ∧ List.length (ownR a) ≤ maxInt ∧ rowOk (2 : Nat) (ownR a) = true) ∧ ((flatTVs [TV.own (2 : Nat) (ownR a)] && true) = true → Q ([TV.own (2 : Nat) (ownR a)], [])) ∧ ((flatTVs [TV.own (2 : Nat) (ownR a)] && true) = false → Q ([TV.own (2 : Nat) (ownR a)], []))) ∧ ((!atB (Tr.list (unrow (ownR a))) s) = false → (((↑(List.length p) : Int) == (1 : Int)) = true → ((0 : Int) ≤ (↑(atK (Tr.list (unrow (ownR a))) s) : Int) ∧ Int.toNat (↑(atK (Tr.list (unrow (ownR a))) s) : Int) < List.length (ownR a) ∧ List.length (ownR a) ≤ (4000000 : Nat) ∧ IntKind.wrap IntKind.i64 ((↑(atK (Tr.list (unrow (ownR a))) s) : Int) + (1 : Int)) = (↑(atK (Tr.list (unrow (ownR a))) s) : Int) + (1 : Int)) ∧ (List.length (List.take (Int.toNat (↑(atK (Tr.list (unrow (ownR a))) s) : Int)) (ownR a) ++ List.drop (Int.toNat (↑(atK (Tr.list (unrow (ownR a))) s) : Int) + (1 : Nat)) (ownR a)) * (40 : Nat) ≤ room ∧ List.length (List.take (Int.toNat (↑(atK (Tr.list (unrow (ownR a))) s) : Int)) (ownR a) ++ List.drop (Int.toNat (↑(atK (Tr.list (unrow (ownR a))) s) : Int) + (1 : Nat)) (ownR a)) ≤ maxInt ∧ rowOk (2 : Nat) (List.take (Int.toNat (↑(atK (Tr.list (unrow (ownR a))) s) : Int)) (ownR a) ++ List.drop (Int.toNat (↑(atK (Tr.list (unrow (ownR a))) s) : Int) + (1 : Nat)) (ownR a)) = true) ∧ ((flatTVs [TV.own (2 : Nat) (List.take (Int.toNat (↑(atK (Tr.list (unrow (ownR a))) s) : Int)) (ownR a) ++ List.drop (Int.toNat (↑(atK (Tr.list (unrow (ownR a))) s) : Int) + (1 : Nat)) (ownR a))] && true) = true → Q ([TV.own (2 : Nat) (List.take (Int.toNat (↑(atK (Tr.list (unrow (ownR a))) s) : Int)) (ownR a) ++ List.drop (Int.toNat (↑(atK (Tr.list (unrow (ownR a))) s) : Int) + (1 : Nat)) (ownR a))], [])) ∧ ((flatTVs [TV.own (2 : Nat) (List.take (Int.toNat (↑(atK (Tr.list (unrow (ownR a))) s) : Int)) (ownR a) ++ List.drop (Int.toNat (↑(atK (Tr.list (unrow (ownR a))) s) : Int) + (1 : Nat)) (ownR a))] && true) = false → Q ([TV.own (2 : Nat) (List.take (Int.toNat (↑(atK (Tr.list (unrow (ownR a))) s) : Int)) (ownR a) ++ List.drop (Int.toNat (↑(atK (Tr.list (unrow (ownR a))) s) : Int) + (1 : Nat)) (ownR a))], []))) ∧ (((↑(List.length p) : Int) == (1 : Int)) = false → ((0 : Int) ≤ (↑(atK (Tr.list (unrow (ownR a))) s) : Int) ∧ (↑(atK (Tr.list (unrow (ownR a))) s) : Int) < (↑(List.length (ownR a)) : Int)) ∧ ∃ (c : List PV), (ownR a)[Int.toNat (↑(atK (Tr.list (unrow (ownR a))) s) : Int)]? = some c ∧ (2 : Nat) ≤ List.length c ∧ ∃ (es : List (List PV)), List.take (1 : Nat) (List.drop (1 : Nat) c) = [PV.sl es] ∧ rowOk (1 : Nat) p = true ∧ ((0 : Int) ≤ (1 : Int) ∧ (1 : Int) ≤ Int.ofNat (List.length p) ∧ Int.ofNat (List.length p) ≤ Int.ofNat (List.length p)) ∧ orAll [((atO es ∧ pathO (List.take (Int.toNat (Int.ofNat (List.length p)) - Int.toNat (1 : Int)) (List.drop (Int.toNat (1 : Int)) p)) N) ∧ List.take (Int.toNat (Int.ofNat (List.length p)) - Int.toNat (1 : Int)) (List.drop (Int.toNat (1 : Int)) p) = [], [TV.pv (PV.sl [])], []), ((atO es ∧ pathO (List.take (Int.toNat (Int.ofNat (List.length p)) - Int.toNat (1 : Int)) (List.drop (Int.toNat (1 : Int)) p)) N) ∧ List.take (Int.toNat (Int.ofNat (List.length p)) - Int.toNat (1 : Int)) (List.drop (Int.toNat (1 : Int)) p) ≠ [], [TV.own (2 : Nat) (dropR es (List.take (Int.toNat (Int.ofNat (List.length p)) - (1 : Nat)) (List.drop (1 : Nat) p)))], [])] ∧ ((atO es ∧ pathO (List.take (Int.toNat (Int.ofNat (List.length p)) - Int.toNat (1 : Int)) (List.drop (Int.toNat (1 : Int)) p)) N) ∧ List.take (Int.toNat (Int.ofNat (List.length p)) - (1 : Nat)) (List.drop (1 : Nat) p) = [] → ((0 : Int) ≤ (↑(atK (Tr.list (unrow (ownR a))) s) : Int) ∧ (↑(atK (Tr.list (unrow (ownR a))) s) : Int) < (↑(List.length (ownR a)) : Int)) ∧ ∃ (c : List PV), (ownR a)[Int.toNat (↑(atK (Tr.list (unrow (ownR a))) s) : Int)]? = some c ∧ (2 : Nat) ≤ List.length c ∧ List.length (List.set (ownR a) (Int.toNat (↑(atK (Tr.list (unrow (ownR a))) s) : Int)) (setFrom (1 : Nat) [PV.sl []] c)) = List.length (ownR a) ∧ List.length (List.set (ownR a) (Int.toNat (↑(atK (Tr.list (unrow (ownR a))) s) : Int)) (setFrom (1 : Nat) [PV.sl []] c)) = List.length (ownR a) ∧ (List.length (List.set (ownR a) (Int.toNat (↑(atK (Tr.list (unrow (ownR a))) s) : Int)) (setFrom (1 : Nat) [PV.sl []] c)) * (40 : Nat) ≤ room ∧ List.length (List.set (ownR a) (Int.toNat (↑(atK (Tr.list (unrow (ownR a))) s) : Int)) (setFrom (1 : Nat) [PV.sl []] c)) ≤ maxInt ∧ rowOk (2 : Nat) (List.set (ownR a) (Int.toNat (↑(atK (Tr.list (unrow (ownR a))) s) : Int)) (setFrom (1 : Nat) [PV.sl []] c)) = true) ∧ ((flatTVs [TV.own (2 : Nat) (List.set (ownR a) (Int.toNat (↑(atK (Tr.list (unrow (ownR a))) s) : Int)) (setFrom (1 : Nat) [PV.sl []] c))] && true) = true → Q ([TV.own (2 : Nat) (List.set (ownR a) (Int.toNat (↑(atK (Tr.list (unrow (ownR a))) s) : Int)) (setFrom (1 : Nat) [PV.sl []] c))], [])) ∧ ((flatTVs [TV.own (2 : Nat) (List.set (ownR a) (Int.toNat (↑(atK (Tr.list (unrow (ownR a))) s) : Int)) (setFrom (1 : Nat) [PV.sl []] c))] && true) = false → Q ([TV.own (2 : Nat) (List.set (ownR a) (Int.toNat (↑(atK (Tr.list (unrow (ownR a))) s) : Int)) (setFrom (1 : Nat) [PV.sl []] c))], []))) ∧ ((atO es ∧ pathO (List.take (Int.toNat (Int.ofNat (List.length p)) - Int.toNat (1 : Int)) (List.drop (Int.toNat (1 : Int)) p)) N) ∧ List.take (Int.toNat (Int.ofNat (List.length p)) - (1 : Nat)) (List.drop (1 : Nat) p) ≠ [] → ((0 : Int) ≤ (↑(atK (Tr.list (unrow (ownR a))) s) : Int) ∧ (↑(atK (Tr.list (unrow (ownR a))) s) : Int) < (↑(List.length (ownR a)) : Int)) ∧ ∃ (c : List PV), (ownR a)[Int.toNat (↑(atK (Tr.list (unrow (ownR a))) s) : Int)]? = some c ∧ (2 : Nat) ≤ List.length c ∧ List.length (List.set (ownR a) (Int.toNat (↑(atK (Tr.list (unrow (ownR a))) s) : Int)) (setFrom (1 : Nat) [PV.sl (dropR es (List.take (Int.toNat (Int.ofNat (List.length p)) - (1 : Nat)) (List.drop (1 : Nat) p)))] c)) = List.length (ownR a) ∧ List.length (List.set (ownR a) (Int.toNat (↑(atK (Tr.list (unrow (ownR a))) s) : Int)) (setFrom (1 : Nat) [PV.sl (dropR es (List.take (Int.toNat (Int.ofNat (List.length p)) - (1 : Nat)) (List.drop (1 : Nat) p)))] c)) = List.length (ownR a) ∧ (List.length (List.set (ownR a) (Int.toNat (↑(atK (Tr.list (unrow (ownR a))) s) : Int)) (setFrom (1 : Nat) [PV.sl (dropR es (List.take (Int.toNat (Int.ofNat (List.length p)) - (1 : Nat)) (List.drop (1 : Nat) p)))] c)) * (40 : Nat) ≤ room ∧ List.length (List.set (ownR a) (Int.toNat (↑(atK (Tr.list (unrow (ownR a))) s) : Int)) (setFrom (1 : Nat) [PV.sl (dropR es (List.take (Int.toNat (Int.ofNat (List.length p)) - (1 : Nat)) (List.drop (1 : Nat) p)))] c)) ≤ maxInt ∧ rowOk (2 : Nat) (List.set (ownR a) (Int.toNat (↑(atK (Tr.list (unrow (ownR a))) s) : Int)) (setFrom (1 : Nat) [PV.sl (dropR es (List.take (Int.toNat (Int.ofNat (List.length p)) - (1 : Nat)) (List.drop (1 : Nat) p)))] c)) = true) ∧ ((flatTVs [TV.own (2 : Nat) (List.set (ownR a) (Int.toNat (↑(atK (Tr.list (unrow (ownR a))) s) : Int)) (setFrom (1 : Nat) [PV.sl (dropR es (List.take (Int.toNat (Int.ofNat (List.length p)) - (1 : Nat)) (List.drop (1 : Nat) p)))] c))] && true) = true → Q ([TV.own (2 : Nat) (List.set (ownR a) (Int.toNat (↑(atK (Tr.list (unrow (ownR a))) s) : Int)) (setFrom (1 : Nat) [PV.sl (dropR es (List.take (Int.toNat (Int.ofNat (List.length p)) - (1 : Nat)) (List.drop (1 : Nat) p)))] c))], [])) ∧ ((flatTVs [TV.own (2 : Nat) (List.set (ownR a) (Int.toNat (↑(atK (Tr.list (unrow (ownR a))) s) : Int)) (setFrom (1 : Nat) [PV.sl (dropR es (List.take (Int.toNat (Int.ofNat (List.length p)) - (1 : Nat)) (List.drop (1 : Nat) p)))] c))] && true) = false → Q ([TV.own (2 : Nat) (List.set (ownR a) (Int.toNat (↑(atK (Tr.list (unrow (ownR a))) s) : Int)) (setFrom (1 : Nat) [PV.sl (dropR es (List.take (Int.toNat (Int.ofNat (List.length p)) - (1 : Nat)) (List.drop (1 : Nat) p)))] c))], []))) ∧ True)))) := by kernel_rfl

noncomputable def S_rget : Specs := specL [(33, g_kid)]

theorem rget_w (a p : List (List PV)) (Q : List TV × List TV → Prop) : (wFun C S_rget 34 [.pv (.sl a), .pv (.sl p)] Q) (H.auto) = (LoopAt C (34 : FuncId) (CP.dn (CP.dn (CP.dn (CP.dn CP.top (1 : Nat)) (0 : Nat)) (1 : Nat)) (0 : Nat)) (St.mk [((0 : Nat), AV.pv (PV.sl a)), ((1 : Nat), AV.pv (PV.sl p)), ((6 : Nat), AV.pv (PV.int IntKind.i64 (0 : Int)))] []) (exK (blockK (0 : Nat) (seqK (wAt C S_rget (34 : FuncId) (99998 : Nat) (CP.dn (CP.dn CP.top (1 : Nat)) (1 : Nat))) (retK C (34 : FuncId) [TV.pv (PV.sl a), TV.pv (PV.sl p)] Q))))) := by kernel_rfl

def rget_c0 : CP := (CP.dn (CP.dn (CP.dn (CP.dn CP.top (1 : Nat)) (0 : Nat)) (1 : Nat)) (0 : Nat))

def rget_h0 (t0 : List (List PV)) (t1 : List (List PV)) (t6 : Int) : St := (St.mk [((0 : Nat), AV.pv (PV.sl t0)), ((1 : Nat), AV.pv (PV.sl t1)), ((6 : Nat), AV.pv (PV.int IntKind.i64 t6))] [])

theorem rget_l0 (a p : List (List PV)) (t0 : List (List PV)) (t1 : List (List PV)) (t6 : Int)  (J0 : St → Prop) (Q : List TV × List TV → Prop) : (wAt C S_rget 34 1000 (rget_c0.dn 0) (rget_h0 t0 t1 t6) (loopK C 34 rget_c0 J0 (exK (blockK (0 : Nat) (seqK (wAt C S_rget (34 : FuncId) (99998 : Nat) (CP.dn (CP.dn CP.top (1 : Nat)) (1 : Nat))) (retK C (34 : FuncId) [TV.pv (PV.sl a), TV.pv (PV.sl p)] Q)))))) (H.b (H.s (H.s (H.b H.auto H.auto))) H.auto) = ((decide (t6 < (↑(List.length t1) : Int)) = true → (0 : Int) ≤ t6 ∧ ∃ (s : List UInt8), t1[Int.toNat t6]? = some [PV.str s] ∧ (∃ (t : Tr), t0 = Tr.rows t ∧ List.length (Tr.list t) ≤ (4000000 : Nat)) ∧ ((!atB (Tr.list (unrow t0)) s) = true → ∃ (h : H), Q ([TV.pv (PV.sl []), TV.pv (PV.bool false)], [])) ∧ ((!atB (Tr.list (unrow t0)) s) = false → J0 (St.mk [((0 : Nat), AV.pv (PV.sl (kidR t0 s))), ((1 : Nat), AV.pv (PV.sl t1)), ((6 : Nat), AV.pv (PV.int IntKind.i64 (IntKind.wrap IntKind.i64 (t6 + (1 : Int)))))] []))) ∧ (decide (t6 < (↑(List.length t1) : Int)) = false → ∃ (h : H), Q ([TV.pv (PV.sl t0), TV.pv (PV.bool true)], []))) := by kernel_rfl

/-! ### Proofs -/
theorem cmp_spec : ∀ a b : List UInt8, (Lib.compareBytes a b < 0 ↔ a < b) ∧ (Lib.compareBytes a b = 0 ↔ a = b)
  | [], [] => by simp [Lib.compareBytes]
  | [], _ :: _ => by simp [Lib.compareBytes]
  | _ :: _, [] => by simp [Lib.compareBytes]
  | a :: x, b :: y => by
    have ih := cmp_spec x y
    rw [Lib.compareBytes]
    by_cases h1 : a < b
    · have : a ≠ b := fun e => by subst e; have := UInt8.lt_iff_toNat_lt.1 h1; omega
      simp [h1, this, List.cons_lt_cons_iff]
    · by_cases h2 : b < a
      · have : a ≠ b := fun e => by subst e; have := UInt8.lt_iff_toNat_lt.1 h2; omega
        simp [h1, h2, this, List.cons_lt_cons_iff]
      · have : a = b := by
          have h3 : ¬ a.toNat < b.toNat := fun h => h1 (UInt8.lt_iff_toNat_lt.2 h)
          have h4 : ¬ b.toNat < a.toNat := fun h => h2 (UInt8.lt_iff_toNat_lt.2 h)
          exact UInt8.toNat_inj.1 (by omega)
        subst this
        simp only [h1, if_false, List.cons_lt_cons_iff, false_or, true_and, List.cons.injEq]
        exact ih

theorem mid_val {i j : Nat} (h : i + j ≤ 100000000) : IntKind.wrap .i64 (Int.fdiv (IntKind.wrap .u64 (IntKind.wrap .i64 ((i : Int) + j))) 2) = (((i + j) / 2 : Nat) : Int) := by
  rw [IntWalk.i64_in ((i : Int) + j) (by omega), IntWalk.u64_in ((i : Int) + j) (by omega), Int.fdiv_eq_ediv_of_nonneg _ (by omega), IntWalk.i64_in _ (by omega)]
  omega

theorem srt_less {l : List Edge} {p : Option (List UInt8)} (h : sortE p l) {n : List UInt8} {i : Nat} (hi : i < l.length) : l[i].1 < n ↔ i < atK l n := by
  constructor
  · intro hl
    rcases Nat.lt_or_ge i (atK l n) with h1 | h1
    · exact h1
    · -- the first that is not ahead of n
      have hk : atK l n < l.length := by omega
      have hnot : ¬ l[atK l n].1 < n := by
        intro h2
        have := tw_lt (p := fun e : Edge => Op.bytesLess e.1 n) hk (Nat.le_refl _) (by rw [bl_eq]; simpa using h2)
        have e : (l.takeWhile fun e : Edge => Op.bytesLess e.1 n).length = atK l n := rfl
        omega
      rcases Nat.lt_or_ge (atK l n) i with h2 | h2
      · have := List.pairwise_iff_getElem.1 (srt_names h) (atK l n) i (by simpa using hk) (by simpa using hi) h2
        simp only [List.getElem_map] at this
        exact absurd (str_lt_trans this hl) hnot
      · have : atK l n = i := by omega
        simp only [this] at hnot
        exact absurd hl hnot
  · intro hl
    have : l[i] ∈ l.take (atK l n) := by
      rw [List.mem_take_iff_getElem]
      exact ⟨i, by omega, rfl⟩
    have := atK_pre this
    rw [bl_eq] at this
    simpa using this

theorem bsf_ev (t : Tr) (n : List UInt8) (ht : t.nodes ≤ 2000000) (hs : srtP none t) : Ev C 85 [.pv (.sl t.rows), .pv (.str n), .pv (.fn 86 [])] ([.pv (.int .i64 (atK t.list n)), .pv (.bool (atB t.list n))], []) := by
  have hl := rows_len t
  have hn := nodes_list t
  have hk := atK_le t.list n
  have hso := (srtP_list.1 hs).1
  refine ev_w noSpec_ok (bsf_w t.rows n _) ?_
  refine loop_rule noSpec_ok (by kernel_rfl) 1000 (fun m st => ∃ i j : Nat, st = bsf_h0 t.rows n t.list.length i j ∧ i ≤ atK t.list n ∧ atK t.list n ≤ j ∧ j ≤ t.list.length ∧ m = j - i) ?_ (n := t.list.length) ⟨0, t.list.length, by rw [hl]; rfl, by omega, by omega, by omega, by omega⟩
  rintro m st ⟨i, j, rfl, hi, hj, hjl, rfl⟩
  refine ex_w (bsf_l0 _ _ _ _ _ _ _ _ _) ⟨fun h => ?_, fun h => ?_⟩
  · simp only [decide_eq_true_eq] at h
    rw [mid_val (by omega)]
    have hm : (i + j) / 2 < t.list.length := by omega
    refine ⟨by omega, _, _, row_get t hm, fun h2 => ?_, fun h2 => ?_⟩
    · simp only [decide_eq_true_eq, (cmp_spec _ _).1, srt_less hso hm] at h2
      rw [w64s (by omega)]
      exact ⟨j - ((i + j) / 2 + 1), by omega, (i + j) / 2 + 1, j, rfl, by omega, hj, hjl, rfl⟩
    · simp only [decide_eq_false_iff_not, (cmp_spec _ _).1, srt_less hso hm] at h2
      exact ⟨(i + j) / 2 - i, by omega, i, (i + j) / 2, rfl, hi, by omega, by omega, rfl⟩
  · simp only [decide_eq_false_iff_not] at h
    have hik : i = atK t.list n := by omega
    subst hik
    refine ex_w (bsf_x1 _ _ _ _ _ _ _ _ _ _) ⟨fun h2 => ?_, fun h2 => ?_⟩
    · simp only [decide_eq_true_eq] at h2
      have h2 : atK t.list n < t.list.length := by omega
      refine ⟨by omega, _, _, row_get t h2, ?_⟩
      have : (Lib.compareBytes t.list[atK t.list n].1 n == 0) = atB t.list n := by
        unfold atB
        rw [List.getElem?_eq_getElem h2]
        simp only
        rw [Bool.eq_iff_iff, beq_iff_eq, beq_iff_eq]
        exact (cmp_spec _ _).2
      rw [this]
    · simp only [decide_eq_false_iff_not] at h2
      have : atB t.list n = false := by
        unfold atB
        rw [List.getElem?_eq_none (by omega)]
      rw [this]

theorem bsf_ok : ∀ ag al, g_bsf ag = some al → ∀ a ∈ al, a.1 → Ev C 85 ag a.2 := by
  intro ag al hl x hx hp
  unfold g_bsf at hl
  split at hl
  · have e := one_mem hl hx; subst e
    obtain ⟨rfl, t, rfl, h1, h2⟩ := hp
    rw [unrow_rows]
    exact bsf_ev t _ h1 h2
  · exact absurd hl (by simp)
theorem atO_of {t : Tr} (h1 : t.nodes ≤ 2000000) (h2 : srtP none t) : atO t.rows := ⟨t, rfl, h1, h2⟩
theorem fnd_ok : ∀ ag al, g_fnd ag = some al → ∀ a ∈ al, a.1 → Ev C 63 ag a.2 := by
  intro ag al hl x hx hp
  unfold g_fnd at hl
  split at hl
  · have e := one_mem hl hx; subst e
    obtain ⟨t, rfl, h1, h2⟩ := hp
    exact ev_w (specL_ok (specs_cons bsf_ok specs_nil)) (fnd_w t.rows _ _) ⟨⟨rfl, t, rfl, h1, h2⟩, rfl⟩
  · exact absurd hl (by simp)

theorem set_row (t : Tr) {i : Nat} (h : i < t.list.length) {k : Nat} (hk : k = i) : (t.rows.take k ++ List.replicate (t.list.length - k) [PV.str [], PV.sl []]).set i (PV.str t.list[i].1 :: PV.sl t.list[i].2.rows :: List.drop 2 [PV.str [], PV.sl []]) = t.rows.take (k + 1) ++ List.replicate (t.list.length - (k + 1)) [PV.str [], PV.sl []] := by
  subst hk
  have hl := rows_len t
  have e1 : (t.rows.take k).length = k := by rw [List.length_take]; omega
  rw [List.set_append_right _ _ (by omega), e1, Nat.sub_self, show t.list.length - k = (t.list.length - (k + 1)) + 1 by omega, List.replicate_succ, List.set_cons_zero]
  have e2 := row_get t h
  rw [Int.toNat_natCast] at e2
  rw [List.take_succ_eq_append_getElem (by omega : k < t.rows.length)]
  rw [List.getElem?_eq_getElem (by omega)] at e2
  simp only [Option.some.injEq] at e2
  rw [e2]
  simp

theorem own_ev {N : Nat} (hS : SpecOK C (S_own N)) (t : Tr) (h : t.nodes ≤ N) (hb : t.nodes < 4000000) : Ev C 62 [.pv (.sl t.rows)] ([.own 2 t.rows], []) := by
  have hl := rows_len t
  have hn := nodes_list t
  refine ev_w hS (own_w N t.rows _) ?_
  rw [hl, Int.toNat_natCast]
  refine ⟨⟨by omega, by omega, by omega, by omega⟩, ?_⟩
  refine loop_rule hS (by kernel_rfl) 1000 (fun m st => ∃ i : Nat, st = own_h0 t.rows t.list.length i (t.rows.take i ++ List.replicate (t.list.length - i) [PV.str [], PV.sl []]) ∧ i ≤ t.list.length ∧ m = t.list.length - i) ?_ (n := t.list.length) ⟨0, by simp [own_h0], by omega, by omega⟩
  rintro m st ⟨i, rfl, hi, rfl⟩
  have hlen : (t.rows.take i ++ List.replicate (t.list.length - i) [PV.str [], PV.sl []]).length = t.list.length := by
    rw [List.length_append, List.length_take, List.length_replicate]; omega
  refine ex_w (own_l0 _ _ _ _ _ _ _ _) ⟨fun h2 => ?_, fun h2 => ?_⟩
  · simp only [decide_eq_true_eq] at h2
    have hi' : i < t.list.length := by omega
    have hmem := nodes_lt (List.getElem_mem hi')
    rw [hlen]
    refine ⟨by omega, _, _, row_get t hi', ⟨_, rfl, by omega⟩, ⟨by omega, by omega⟩, [PV.str [], PV.sl []], ?_, by simp, ?_⟩
    · rw [Int.toNat_natCast, List.getElem?_append_right (by rw [List.length_take]; omega), List.getElem?_replicate, if_pos (by rw [List.length_take]; omega)]
    · simp only [ownR]
      rw [List.length_set, hlen, w64s (by omega), Int.toNat_natCast, set_row t hi' rfl]
      exact ⟨rfl, rfl, t.list.length - (i + 1), by omega, i + 1, rfl, by omega, rfl⟩
  · simp only [decide_eq_false_iff_not] at h2
    have : i = t.list.length := by omega
    subst this
    refine ⟨.auto, ?_⟩
    rw [Nat.sub_self, List.replicate_zero, List.append_nil, List.take_of_length_le (by omega)]

theorem own_ok : ∀ N, N ≤ 4000000 → ∀ ag al, g_own N ag = some al → ∀ a ∈ al, a.1 → Ev C 62 ag a.2
  | 0, _, ag, al, hl, x, hx, hp => by
    unfold g_own at hl
    split at hl
    · have e := one_mem hl hx; subst e
      obtain ⟨t, _, h⟩ := hp
      exact absurd h (by omega)
    · exact absurd hl (by simp)
  | N + 1, hN, ag, al, hl, x, hx, hp => by
    unfold g_own at hl
    split at hl
    · have e := one_mem hl hx; subst e
      obtain ⟨t, rfl, h⟩ := hp
      exact own_ev (specL_ok (specs_cons (own_ok N (by omega)) specs_nil)) t (by omega) (by omega)
    · exact absurd hl (by simp)

theorem cl2_ok : ∀ ag al, g_cl2 ag = some al → ∀ a ∈ al, a.1 → Ev C 65 ag a.2 := by
  intro ag al hl a ha hp
  unfold g_cl2 at hl
  split at hl
  · have e := one_mem hl ha; subst e
    refine ev_ext (g := xClone Try.prog 26) (by kernel_rfl) ?_
    simp only [xClone, bytesEdge, sizeEdge]
    rw [if_pos hp]
  · exact absurd hl (by simp)
theorem ins_ok : ∀ ag al, g_ins ag = some al → ∀ a ∈ al, a.1 → Ev C 64 ag a.2 := by
  intro ag al hl a ha hp
  unfold g_ins at hl
  split at hl
  · have e := one_mem hl ha; subst e
    refine ev_ext (g := xInsert) (by kernel_rfl) ?_
    simp only [xInsert]
    rw [if_pos hp]
  · exact absurd hl (by simp)
theorem del_ok : ∀ ag al, g_del ag = some al → ∀ a ∈ al, a.1 → Ev C 66 ag a.2 := by
  intro ag al hl a ha hp
  unfold g_del at hl
  split at hl
  · have e := one_mem hl ha; subst e
    refine ev_ext (g := xDelete) (by kernel_rfl) ?_
    simp only [xDelete]
    rw [if_pos hp]
  · exact absurd hl (by simp)

theorem take_cons (n : List UInt8) (q : List (List UInt8)) : List.take (Int.toNat (Int.ofNat ((n :: q).map strRow).length) - 1) (List.drop 1 ((n :: q).map strRow)) = q.map strRow := by
  simp only [List.map_cons, List.drop_succ_cons, List.drop_zero, List.length_cons, List.length_map, Int.ofNat_eq_natCast, Int.toNat_natCast, Nat.add_sub_cancel]
  exact List.take_of_length_le (by simp)

theorem pathO_cons {n : List UInt8} {q : List (List UInt8)} {N : Nat} (h : (n :: q).length < N + 1) (h2 : (n :: q).length ≤ 1000) : pathO (q.map strRow) N := ⟨q, rfl, by simp only [List.length_cons] at h; omega, by simp only [List.length_cons] at h2; omega⟩
theorem rowOk_rows (l : List Edge) : rowOk 2 (l.map rowE) = true := rowOk_edges l
theorem row_split (t : Tr) {K : Nat} (e : List UInt8 × Tr) (hK : t.list[K]? = some e) : t.rows = (t.list.take K).map rowE ++ [rowE e] ++ (t.list.drop (K + 1)).map rowE := by
  obtain ⟨h1, h2⟩ := List.getElem?_eq_some_iff.1 hK
  have : t.list = t.list.take K ++ [e] ++ t.list.drop (K + 1) := by
    have := List.take_succ_eq_append_getElem h1
    rw [h2] at this
    rw [← this, List.take_append_drop]
  rw [rows_list]
  conv => lhs; rw [this]
  rw [List.map_append, List.map_append]; rfl
theorem set_mid {α : Type} (A B : List α) (x y : α) (K : Nat) (hA : A.length = K) : (A ++ [x] ++ B).set K y = A ++ [y] ++ B := by
  subst hA
  rw [List.append_assoc, List.set_append_right _ _ (Nat.le_refl _), Nat.sub_self]
  simp
theorem get_mid {α : Type} (A B : List α) (x : α) (K : Nat) (hA : A.length = K) : (A ++ [x] ++ B)[K]? = some x := by
  subst hA
  rw [List.append_assoc, List.getElem?_append_right (Nat.le_refl _), Nat.sub_self]; rfl

/-- A part of a row that is put anew. -/
theorem mid_row {A B : List Edge} {n : List UInt8} {y z : Tr} {K : Nat} (hA : A.length = K) : (A.map rowE ++ [rowE (n, y)] ++ B.map rowE)[K]? = some (rowE (n, y)) ∧ (A.map rowE ++ [rowE (n, y)] ++ B.map rowE).set K (setFrom 1 [PV.sl z.rows] (rowE (n, y))) = (A ++ [(n, z)] ++ B).map rowE := by
  have hA' : (A.map rowE).length = K := by rw [List.length_map]; exact hA
  refine ⟨get_mid _ _ _ _ hA', ?_⟩
  rw [set_mid _ _ _ _ _ hA', List.map_append, List.map_append]; rfl

theorem tput_ok : ∀ N, ∀ ag al, g_put N ag = some al → ∀ a ∈ al, a.1 → Ev C 28 ag a.2
  | 0, ag, al, hl, x, hx, hp => by
    unfold g_put at hl
    split at hl
    · have e := one_mem hl hx; subst e
      obtain ⟨_, ⟨q, _, h, _⟩, _⟩ := hp
      exact absurd h (by omega)
    · exact absurd hl (by simp)
  | N + 1, ag, al, hl, y, hy, hp => by
    have hr := room_val
    have hm := maxInt_val
    unfold g_put at hl
    split at hl
    · have e := one_mem hl hy; subst e
      obtain ⟨⟨t, rfl, t1, t2⟩, ⟨q, rfl, q1, q2⟩, ⟨x, rfl, x1, x2⟩⟩ := hp
      have hS : SpecOK C (S_put N) := specL_ok (specs_cons fnd_ok (specs_cons (own_ok 4000000 (Nat.le_refl _)) (specs_cons (tput_ok N) (specs_cons ins_ok (specs_cons cl2_ok specs_nil)))))
      refine ev_w hS (put_w N t.rows (q.map strRow) x.rows _) ?_
      have eR : putR t.rows (q.map strRow) x.rows = (putT t q x).rows := by unfold putR; rw [unrow_rows, unrow_rows, unstr_map]
      rw [eR]
      simp only [ownR, unrow_rows]
      have hrl := rows_len t
      have hn := nodes_list t
      have hk0 := atK_le t.list
      refine ⟨fun h => ?_, fun h => ?_⟩
      · cases q with
        | nil => exact ⟨⟨x, rfl, by omega⟩, rfl⟩
        | cons n q => simp at h; omega
      · cases q with
        | nil => simp at h
        | cons n q =>
          have hk := hk0 n
          refine ⟨⟨t, rfl, by omega⟩, n, rfl, ⟨t, rfl, t1, t2⟩, fun hb => ?_, fun hb => ?_⟩
          · have hb : atB t.list n = false := by simpa using hb
            rw [take_cons]
            simp only [Int.toNat_natCast]
            have hI : t.rows.take (atK t.list n) ++ [[PV.str n, PV.sl []]] ++ t.rows.drop (atK t.list n) = (t.list.take (atK t.list n)).map rowE ++ [rowE (n, .nil)] ++ (t.list.drop (atK t.list n)).map rowE := by
              rw [rows_list, ← List.map_take, ← List.map_drop]; rfl
            have hw : putT t (n :: q) x = Tr.of (t.list.take (atK t.list n) ++ [(n, putT (kidT t n) q x)] ++ t.list.drop (atK t.list n)) := by
              rw [putT, withE_eq _ rfl hb, if_neg (by simp)]
            rw [hw, rows_of, kid_none hb]
            obtain ⟨m1, m2⟩ := mid_row (A := t.list.take (atK t.list n)) (B := t.list.drop (atK t.list n)) (n := n) (y := .nil) (z := putT .nil q x) (K := atK t.list n) (take_len _ _)
            have e1 : putR (Tr.nil.rows) (q.map strRow) x.rows = (putT .nil q x).rows := by unfold putR; rw [unrow_rows, unrow_rows, unstr_map]
            have hlen : ((t.list.take (atK t.list n)).map rowE ++ [rowE (n, .nil)] ++ (t.list.drop (atK t.list n)).map rowE).length = t.list.length + 1 := by simp; omega
            have hlen2 : ((t.list.take (atK t.list n) ++ [(n, putT .nil q x)] ++ t.list.drop (atK t.list n)).map rowE).length = t.list.length + 1 := by simp; omega
            have fin : (0 ≤ ((atK t.list n : Nat) : Int) ∧ ((atK t.list n : Nat) : Int) < ((((t.list.take (atK t.list n)).map rowE ++ [rowE (n, .nil)] ++ (t.list.drop (atK t.list n)).map rowE).length : Nat) : Int)) := ⟨by omega, by rw [hlen]; omega⟩
            refine ⟨n, rfl, ⟨by omega, by omega, by omega, trivial⟩, ?_, ?_⟩
            all_goals
              intro _
              rw [hI]
              refine ⟨fin, _, m1, by simp [rowE], Tr.nil.rows, rfl, rowOk_str _, ⟨by omega, by simp; omega, by omega⟩, ⟨atO_of (by simp [Tr.nodes]) trivial, pathO_cons q1 q2, atO_of x1 x2⟩, fin, _, m1, by simp [rowE], ?_⟩
              rw [e1, m2, hlen, hlen2]
              exact ⟨rfl, rfl, ⟨by omega, by omega, rowOk_rows _⟩, fun _ => rfl, fun _ => rfl⟩
          · have hb : atB t.list n = true := by simpa using hb
            have hkl := atB_lt hb
            have hkid := kid_get hb
            have hkn := nodes_lt (List.mem_of_getElem? hkid)
            rw [take_cons]
            simp only [Int.toNat_natCast]
            have hI := row_split t _ hkid
            have hw : putT t (n :: q) x = Tr.of (t.list.take (atK t.list n) ++ [(n, putT (kidT t n) q x)] ++ t.list.drop (atK t.list n + 1)) := by
              rw [putT, withE_eq _ rfl hb, if_pos rfl]
            rw [hw, rows_of]
            obtain ⟨m1, m2⟩ := mid_row (A := t.list.take (atK t.list n)) (B := t.list.drop (atK t.list n + 1)) (n := n) (y := kidT t n) (z := putT (kidT t n) q x) (K := atK t.list n) (take_len _ _)
            have e1 : putR ((kidT t n).rows) (q.map strRow) x.rows = (putT (kidT t n) q x).rows := by unfold putR; rw [unrow_rows, unrow_rows, unstr_map]
            have hlen2 : ((t.list.take (atK t.list n) ++ [(n, putT (kidT t n) q x)] ++ t.list.drop (atK t.list n + 1)).map rowE).length = t.list.length := by simp; omega
            rw [← hI] at m1 m2
            have fin : (0 ≤ ((atK t.list n : Nat) : Int) ∧ ((atK t.list n : Nat) : Int) < ((t.rows.length : Nat) : Int)) := ⟨by omega, by rw [hrl]; omega⟩
            refine ⟨fin, _, m1, by simp [rowE], (kidT t n).rows, rfl, rowOk_str _, ⟨by omega, by simp; omega, by omega⟩, ⟨atO_of (by have : (kidT t n).nodes < t.nodes := hkn; omega) (kid_srt t2), pathO_cons q1 q2, atO_of x1 x2⟩, fin, _, m1, by simp [rowE], ?_⟩
            rw [e1, m2, hrl, hlen2]
            exact ⟨rfl, rfl, ⟨by omega, by omega, rowOk_rows _⟩, fun _ => rfl, fun _ => rfl⟩
    · exact absurd hl (by simp)

theorem tdrop_ok : ∀ N, ∀ ag al, g_drop N ag = some al → ∀ a ∈ al, a.1 → Ev C 29 ag a.2
  | 0, ag, al, hl, x, hx, hp => by
    unfold g_drop at hl
    split at hl
    · simp only [Option.some.injEq] at hl; subst hl
      simp only [List.mem_cons, List.not_mem_nil, or_false] at hx
      rcases hx with rfl | rfl
      · obtain ⟨⟨_, q, _, h, _⟩, _⟩ := hp
        exact absurd h (by omega)
      · obtain ⟨⟨_, q, _, h, _⟩, _⟩ := hp
        exact absurd h (by omega)
    · exact absurd hl (by simp)
  | N + 1, ag, al, hl, y, hy, hp => by
    have hr := room_val
    have hm := maxInt_val
    have hS : SpecOK C (S_drop N) := specL_ok (specs_cons fnd_ok (specs_cons (own_ok 4000000 (Nat.le_refl _)) (specs_cons (tdrop_ok N) (specs_cons del_ok (specs_cons cl2_ok specs_nil)))))
    unfold g_drop at hl
    split at hl
    · simp only [Option.some.injEq] at hl; subst hl
      simp only [List.mem_cons, List.not_mem_nil, or_false] at hy
      rcases hy with rfl | rfl
      · obtain ⟨⟨_, q, _, h, _⟩, rfl⟩ := hp
        refine ev_w hS (drp_w N _ _ _) ⟨fun _ => rfl, fun h => ?_⟩
        simp at h
      · obtain ⟨⟨⟨t, rfl, t1, t2⟩, q, rfl, q1, q2⟩, hne⟩ := hp
        have eR : dropR t.rows (q.map strRow) = (dropT t q).rows := by unfold dropR; rw [unrow_rows, unstr_map]
        refine ev_w hS (drp_w N t.rows (q.map strRow) _) ?_
        rw [eR]
        simp only [ownR, unrow_rows]
        have hrl := rows_len t
        have hn := nodes_list t
        have hk0 := atK_le t.list
        refine ⟨fun h => ?_, fun h => ?_⟩
        · cases q with
          | nil => exact absurd rfl hne
          | cons n q => simp at h; omega
        · cases q with
          | nil => simp at h
          | cons n q =>
            have hk := hk0 n
            refine ⟨⟨t, rfl, by omega⟩, n, rfl, ⟨t, rfl, t1, t2⟩, fun hb => ?_, fun hb => ?_⟩
            · have hb : atB t.list n = false := by simpa using hb
              have hw : dropT t (n :: q) = t := by
                cases q with
                | nil => rw [dropT, hb]; rfl
                | cons m q => rw [dropT, hb]; rfl
              rw [hw, hrl]
              refine ⟨⟨by omega, by omega, by rw [rows_list]; exact rowOk_rows _⟩, fun _ => rfl, fun _ => rfl⟩
            · have hb : atB t.list n = true := by simpa using hb
              have hkl := atB_lt hb
              have hkid := kid_get hb
              have hkn := nodes_lt (List.mem_of_getElem? hkid)
              simp only [Int.toNat_natCast]
              refine ⟨fun h1 => ?_, fun h1 => ?_⟩
              · have hq : q = [] := by
                  simp at h1
                  exact List.length_eq_zero_iff.1 (by omega)
                subst hq
                have hw : dropT t [n] = Tr.of (woutE t.list n) := by rw [dropT, if_pos hb]
                have e2 : t.rows.take (atK t.list n) ++ t.rows.drop (atK t.list n + 1) = (woutE t.list n).map rowE := by
                  rw [rows_list, ← List.map_take, ← List.map_drop, ← List.map_append]; rfl
                have hlw : (woutE t.list n).length ≤ t.list.length := (wout_sub _ _).length_le
                rw [hw, rows_of, e2, List.length_map, hrl]
                exact ⟨⟨by omega, by omega, by omega, w64 (by omega)⟩, ⟨by omega, by omega, rowOk_rows _⟩, fun _ => rfl, fun _ => rfl⟩
              · cases q with
                | nil => simp at h1
                | cons m q =>
                  have hI := row_split t _ hkid
                  have hw : dropT t (n :: m :: q) = Tr.of (t.list.take (atK t.list n) ++ [(n, dropT (kidT t n) (m :: q))] ++ t.list.drop (atK t.list n + 1)) := by
                    rw [dropT, if_pos hb, withE_eq _ rfl hb, if_pos rfl]
                  rw [hw, rows_of]
                  obtain ⟨m1, m2⟩ := mid_row (A := t.list.take (atK t.list n)) (B := t.list.drop (atK t.list n + 1)) (n := n) (y := kidT t n) (z := dropT (kidT t n) (m :: q)) (K := atK t.list n) (take_len _ _)
                  have e1 : dropR ((kidT t n).rows) ((m :: q).map strRow) = (dropT (kidT t n) (m :: q)).rows := by unfold dropR; rw [unrow_rows, unstr_map]
                  have hlen2 : ((t.list.take (atK t.list n) ++ [(n, dropT (kidT t n) (m :: q))] ++ t.list.drop (atK t.list n + 1)).map rowE).length = t.list.length := by simp; omega
                  rw [← hI] at m1 m2
                  have fin : (0 ≤ ((atK t.list n : Nat) : Int) ∧ ((atK t.list n : Nat) : Int) < ((t.rows.length : Nat) : Int)) := ⟨by omega, by rw [hrl]; omega⟩
                  have e3 : List.take (Int.toNat (Int.ofNat ((n :: m :: q).map strRow).length) - Int.toNat 1) (List.drop (Int.toNat 1) ((n :: m :: q).map strRow)) = (m :: q).map strRow := take_cons n (m :: q)
                  have hat : atO (kidT t n).rows := atO_of (by have : (kidT t n).nodes < t.nodes := hkn; omega) (kid_srt t2)
                  refine ⟨fin, _, m1, by simp [rowE], (kidT t n).rows, rfl, rowOk_str _, ⟨by omega, by simp; omega, by omega⟩, ?_, fun hc => ?_, fun hc => ?_, trivial⟩
                  · rw [e3]
                    exact .inr ⟨⟨hat, pathO_cons q1 q2⟩, by simp⟩
                  · rw [take_cons] at hc
                    exact absurd hc.2 (by simp)
                  · refine ⟨fin, _, m1, by simp [rowE], ?_⟩
                    rw [take_cons, e1, m2, hrl, hlen2]
                    exact ⟨rfl, rfl, ⟨by omega, by omega, rowOk_rows _⟩, fun _ => rfl, fun _ => rfl⟩
    · exact absurd hl (by simp)

theorem kidR_rows (t : Tr) (n : List UInt8) : kidR t.rows n = (kidT t n).rows := by
  unfold kidR kidT
  rw [unrow_rows]
  cases t.list[atK t.list n]? with
  | none => rfl
  | some e => cases atB t.list n <;> rfl
theorem get_step {t : Tr} {q : List (List UInt8)} {i : Nat} (h : i < q.length) : getB1 t (q.drop i) = (if atB t.list q[i] = true then getB1 (kidT t q[i]) (q.drop (i + 1)) else false) ∧ getT t (q.drop i) = (if atB t.list q[i] = true then getT (kidT t q[i]) (q.drop (i + 1)) else .nil) := by
  rw [List.drop_eq_getElem_cons h]
  exact ⟨rfl, rfl⟩

def getV (t : Tr) (q : List (List UInt8)) : List TV × List TV := if getB1 t q = true then ([.own 2 (getT t q).rows, .pv (.bool true)], []) else ([.pv (.sl []), .pv (.bool false)], [])

theorem tget_ev (t : Tr) (q : List (List UInt8)) (t1 : t.nodes ≤ 2000000) (t2 : srtP none t) (hq : q.length ≤ 1000) : Ev C 31 [.pv (.sl t.rows), .pv (.sl (q.map strRow))] (getV t q) := by
  have hS : SpecOK C S_get := specL_ok (specs_cons fnd_ok (specs_cons (own_ok 4000000 (Nat.le_refl _)) specs_nil))
  have hlq : (q.map strRow).length = q.length := List.length_map ..
  refine ev_w hS (get_w t.rows (q.map strRow) _) ?_
  refine loop_rule hS (by kernel_rfl) 1000 (fun m st => ∃ (i : Nat) (u : Tr), st = get_h0 u.rows (q.map strRow) q.length i ∧ i ≤ q.length ∧ u.nodes ≤ 2000000 ∧ srtP none u ∧ getB1 t q = getB1 u (q.drop i) ∧ getT t q = getT u (q.drop i) ∧ m = q.length - i) ?_ (n := q.length) ⟨0, t, by rw [hlq]; rfl, by omega, t1, t2, rfl, rfl, rfl⟩
  rintro m st ⟨i, u, rfl, hi, u1, u2, g1, g2, rfl⟩
  refine ex_w (get_l0 _ _ _ _ _ _ _ _) ⟨fun h => ?_, fun h => ?_⟩
  · simp only [decide_eq_true_eq] at h
    have hi' : i < q.length := by omega
    obtain ⟨k1, k2⟩ := get_step (t := u) hi'
    refine ⟨by omega, q[i], by rw [str_get q hi']; rfl, ⟨u, rfl, u1, u2⟩, fun hb => ?_, fun hb => ?_⟩
    · have hb : atB u.list q[i] = false := by simpa [unrow_rows] using hb
      refine ⟨.auto, ?_⟩
      unfold getV
      rw [g1, k1, hb]; rfl
    · have hb : atB u.list q[i] = true := by simpa [unrow_rows] using hb
      have hkid := kid_get hb
      rw [unrow_rows]
      refine ⟨q[i], (kidT u q[i]).rows, ?_, q.length - (i + 1), by omega, i + 1, kidT u q[i], by rw [w64s (by omega)]; rfl, by omega, ?_, kid_srt u2, ?_, ?_, rfl⟩
      · have := row_get u (atB_lt hb)
        rw [List.getElem?_eq_getElem (atB_lt hb)] at hkid
        simp only [Option.some.injEq] at hkid
        rw [hkid] at this; exact this
      · have := kid_nodes u q[i]; omega
      · rw [g1, k1, if_pos hb]
      · rw [g2, k2, if_pos hb]
  · simp only [decide_eq_false_iff_not] at h
    have : i = q.length := by omega
    subst this
    rw [List.drop_length] at g1 g2
    refine ⟨.auto, ⟨u, rfl, by omega⟩, ?_⟩
    unfold getV
    rw [g1, g2]; rfl

theorem rget_ev (t : Tr) (q : List (List UInt8)) (t1 : t.nodes ≤ 2000000) (hq : q.length ≤ 1000) : Ev C 34 [.pv (.sl t.rows), .pv (.sl (q.map strRow))] ([.pv (.sl (getT t q).rows), .pv (.bool (getB1 t q))], []) := by
  have hS : SpecOK C S_rget := specL_ok (specs_cons kid_ok specs_nil)
  have hlq : (q.map strRow).length = q.length := List.length_map ..
  refine ev_w hS (rget_w t.rows (q.map strRow) _) ?_
  refine loop_rule hS (by kernel_rfl) 1000 (fun m st => ∃ (i : Nat) (u : Tr), st = rget_h0 u.rows (q.map strRow) i ∧ i ≤ q.length ∧ u.nodes ≤ 2000000 ∧ getB1 t q = getB1 u (q.drop i) ∧ getT t q = getT u (q.drop i) ∧ m = q.length - i) ?_ (n := q.length) ⟨0, t, rfl, by omega, t1, rfl, rfl, rfl⟩
  rintro m st ⟨i, u, rfl, hi, u1, g1, g2, rfl⟩
  have hn := nodes_list u
  refine ex_w (rget_l0 _ _ _ _ _ _ _) ?_
  rw [hlq, unrow_rows]
  refine ⟨fun h => ?_, fun h => ?_⟩
  · simp only [decide_eq_true_eq] at h
    have hi' : i < q.length := by omega
    obtain ⟨k1, k2⟩ := get_step (t := u) hi'
    refine ⟨by omega, q[i], by rw [str_get q hi']; rfl, ⟨u, rfl, by omega⟩, fun hb => ?_, fun hb => ?_⟩
    · have hb : atB u.list q[i] = false := by simpa using hb
      refine ⟨.auto, ?_⟩
      rw [g1, g2, k1, k2, hb]; rfl
    · have hb : atB u.list q[i] = true := by simpa using hb
      refine ⟨q.length - (i + 1), by omega, i + 1, kidT u q[i], by rw [w64s (by omega), kidR_rows]; rfl, by omega, ?_, ?_, ?_, rfl⟩
      · have := kid_nodes u q[i]; omega
      · rw [g1, k1, if_pos hb]
      · rw [g2, k2, if_pos hb]
  · simp only [decide_eq_false_iff_not] at h
    have : i = q.length := by omega
    subst this
    rw [List.drop_length] at g1 g2
    refine ⟨.auto, ?_⟩
    rw [g1, g2]; rfl

end Go.Proofs.Ytmjkdghcfihfiaa.Vm
