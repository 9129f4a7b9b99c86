/-
  The document's Put, Drop, Names, and how great, how deep trees are, in the machine.
-/
import Derived.Test.YtmjkdghcfihfiaaSayTreePath
namespace Go.Proofs.Ytmjkdghcfihfiaa.Vm
open Go Go.RowKit
set_option linter.unusedVariables false
set_option linter.unusedSimpArgs false
set_option maxRecDepth 100000

noncomputable def sizeF (a : List (List PV)) : Int := (unrow a).nodes
def depT : Tr → Nat
  | .nil => 0
  | .cons _ k r => max (1 + depT k) (depT r)
noncomputable def depF (a : List (List PV)) : Int := depT (unrow a)

noncomputable def woutR (a : List (List PV)) (n : List UInt8) : List (List PV) := (Tr.of (woutE (unrow a).list n)).rows
noncomputable def headB (a : List (List PV)) (p : List (List PV)) : Bool := match unstr p with
  | n :: _ => atB (unrow a).list n
  | [] => false

theorem wo_w (a : List (List PV)) (n : List UInt8) (Q : List TV × List TV → Prop) : (wFun C S_with 71 [.pv (.sl a), .pv (.str n)] Q) (H.b H.auto (H.s (H.s (H.s (H.s (H.s (H.s (H.s (H.s H.auto))))))))) = ((∃ (t : Tr), a = Tr.rows t ∧ List.length (Tr.list t) ≤ (4000000 : Nat)) ∧ ((!atB (Tr.list (unrow a)) n) = true → Q ([TV.pv (PV.sl a)], [])) ∧ ((!atB (Tr.list (unrow a)) n) = false → rowOk (2 : Nat) a = true ∧ ((0 : Int) ≤ (0 : Int) ∧ (0 : Int) ≤ (↑(atK (Tr.list (unrow a)) n) : Int) ∧ (↑(atK (Tr.list (unrow a)) n) : Int) ≤ Int.ofNat (List.length a)) ∧ (((0 : Nat) + List.length (List.take (Int.toNat (↑(atK (Tr.list (unrow a)) n) : Int) - (0 : Nat)) a)) * (40 : Nat) ≤ room ∧ (0 : Nat) + List.length (List.take (Int.toNat (↑(atK (Tr.list (unrow a)) n) : Int) - (0 : Nat)) a) ≤ maxInt) ∧ rowOk (2 : Nat) (List.take (Int.toNat (↑(atK (Tr.list (unrow a)) n) : Int) - (0 : Nat)) a) = true ∧ rowOk (2 : Nat) a = true ∧ ((0 : Int) ≤ IntKind.wrap IntKind.i64 ((↑(atK (Tr.list (unrow a)) n) : Int) + (1 : Int)) ∧ IntKind.wrap IntKind.i64 ((↑(atK (Tr.list (unrow a)) n) : Int) + (1 : Int)) ≤ Int.ofNat (List.length a) ∧ Int.ofNat (List.length a) ≤ Int.ofNat (List.length a)) ∧ ((List.length ([] ++ List.take (Int.toNat (↑(atK (Tr.list (unrow a)) n) : Int) - (0 : Nat)) a) + List.length (List.take (Int.toNat (Int.ofNat (List.length a)) - Int.toNat (IntKind.wrap IntKind.i64 ((↑(atK (Tr.list (unrow a)) n) : Int) + (1 : Int)))) (List.drop (Int.toNat (IntKind.wrap IntKind.i64 ((↑(atK (Tr.list (unrow a)) n) : Int) + (1 : Int)))) a))) * (40 : Nat) ≤ room ∧ List.length ([] ++ List.take (Int.toNat (↑(atK (Tr.list (unrow a)) n) : Int) - (0 : Nat)) a) + List.length (List.take (Int.toNat (Int.ofNat (List.length a)) - Int.toNat (IntKind.wrap IntKind.i64 ((↑(atK (Tr.list (unrow a)) n) : Int) + (1 : Int)))) (List.drop (Int.toNat (IntKind.wrap IntKind.i64 ((↑(atK (Tr.list (unrow a)) n) : Int) + (1 : Int)))) a)) ≤ maxInt) ∧ rowOk (2 : Nat) (List.take (Int.toNat (Int.ofNat (List.length a)) - Int.toNat (IntKind.wrap IntKind.i64 ((↑(atK (Tr.list (unrow a)) n) : Int) + (1 : Int)))) (List.drop (Int.toNat (IntKind.wrap IntKind.i64 ((↑(atK (Tr.list (unrow a)) n) : Int) + (1 : Int)))) a)) = true ∧ Q ([TV.own (2 : Nat) ([] ++ List.take (Int.toNat (↑(atK (Tr.list (unrow a)) n) : Int) - (0 : Nat)) a ++ List.take (Int.toNat (Int.ofNat (List.length a)) - Int.toNat (IntKind.wrap IntKind.i64 ((↑(atK (Tr.list (unrow a)) n) : Int) + (1 : Int)))) (List.drop (Int.toNat (IntKind.wrap IntKind.i64 ((↑(atK (Tr.list (unrow a)) n) : Int) + (1 : Int)))) a))], []))) := by kernel_rfl

noncomputable def g_wout : List TV → Option Alts
  | [.pv (.sl a), .pv (.str n)] => one (atO a ∧ atB (unrow a).list n = true) ([.own 2 (woutR a n)], [])
  | _ => none

noncomputable def g_rput (N : Nat) : List TV → Option Alts
  | [.pv (.sl a), .pv (.sl p), .pv (.sl x)] => some [((atO a ∧ pathO p N ∧ atO x) ∧ p = [], [.pv (.sl x)], []), ((atO a ∧ pathO p N ∧ atO x) ∧ p ≠ [], [.own 2 (putR a p x)], [])]
  | _ => none
noncomputable def S_rput (N : Nat) : Specs := specL [(33, g_kid), (35, g_rput N), (47, g_with)]

theorem rpu_w (N : Nat) (a p x : List (List PV)) (Q : List TV × List TV → Prop) : (wFun C (S_rput N) 35 [.pv (.sl a), .pv (.sl p), .pv (.sl x)] Q) (H.b H.auto (H.n (1 : Nat) (H.s (H.n (1 : Nat) (H.s (H.s (H.s (H.b H.auto (H.b H.auto H.auto))))))))) = ((((↑(List.length p) : Int) == (0 : Int)) = true → Q ([TV.pv (PV.sl x)], [])) ∧ (((↑(List.length p) : Int) == (0 : Int)) = false → ∃ (s : List UInt8), p[(0 : Nat)]? = some [PV.str s] ∧ (∃ (t : Tr), a = Tr.rows t ∧ List.length (Tr.list t) ≤ (4000000 : Nat)) ∧ ∃ (s_1 : List UInt8), p[(0 : Nat)]? = some [PV.str s_1] ∧ rowOk (1 : Nat) p = true ∧ ((0 : Int) ≤ (1 : Int) ∧ (1 : Int) ≤ Int.ofNat (List.length p) ∧ Int.ofNat (List.length p) ≤ Int.ofNat (List.length p)) ∧ orAll [((atO (kidR a s) ∧ pathO (List.take (Int.toNat (Int.ofNat (List.length p)) - Int.toNat (1 : Int)) (List.drop (Int.toNat (1 : Int)) p)) N ∧ atO x) ∧ List.take (Int.toNat (Int.ofNat (List.length p)) - Int.toNat (1 : Int)) (List.drop (Int.toNat (1 : Int)) p) = [], [TV.pv (PV.sl x)], []), ((atO (kidR a s) ∧ pathO (List.take (Int.toNat (Int.ofNat (List.length p)) - Int.toNat (1 : Int)) (List.drop (Int.toNat (1 : Int)) p)) N ∧ atO x) ∧ List.take (Int.toNat (Int.ofNat (List.length p)) - Int.toNat (1 : Int)) (List.drop (Int.toNat (1 : Int)) p) ≠ [], [TV.own (2 : Nat) (putR (kidR a s) (List.take (Int.toNat (Int.ofNat (List.length p)) - (1 : Nat)) (List.drop (1 : Nat) p)) x)], [])] ∧ ((atO (kidR a s) ∧ pathO (List.take (Int.toNat (Int.ofNat (List.length p)) - Int.toNat (1 : Int)) (List.drop (Int.toNat (1 : Int)) p)) N ∧ atO x) ∧ List.take (Int.toNat (Int.ofNat (List.length p)) - (1 : Nat)) (List.drop (1 : Nat) p) = [] → (∃ (t : Tr), ∃ (u : Tr), a = Tr.rows t ∧ x = Tr.rows u ∧ List.length (Tr.list t) ≤ (4000000 : Nat)) ∧ Q ([TV.own (2 : Nat) (Tr.rows (Tr.of (withE (Tr.list (unrow a)) s_1 (unrow x))))], [])) ∧ ((atO (kidR a s) ∧ pathO (List.take (Int.toNat (Int.ofNat (List.length p)) - Int.toNat (1 : Int)) (List.drop (Int.toNat (1 : Int)) p)) N ∧ atO x) ∧ List.take (Int.toNat (Int.ofNat (List.length p)) - (1 : Nat)) (List.drop (1 : Nat) p) ≠ [] → (∃ (t : Tr), ∃ (u : Tr), a = Tr.rows t ∧ putR (kidR a s) (List.take (Int.toNat (Int.ofNat (List.length p)) - (1 : Nat)) (List.drop (1 : Nat) p)) x = Tr.rows u ∧ List.length (Tr.list t) ≤ (4000000 : Nat)) ∧ Q ([TV.own (2 : Nat) (Tr.rows (Tr.of (withE (Tr.list (unrow a)) s_1 (unrow (putR (kidR a s) (List.take (Int.toNat (Int.ofNat (List.length p)) - (1 : Nat)) (List.drop (1 : Nat) p)) x)))))], [])) ∧ True)) := by kernel_rfl

noncomputable def g_rdrop (N : Nat) : List TV → Option Alts
  | [.pv (.sl a), .pv (.sl p)] => some [((atO a ∧ pathO p N) ∧ p = [], [.pv (.sl [])], []), ((atO a ∧ pathO p N) ∧ p ≠ [] ∧ headB a p = false, [.pv (.sl a)], []), ((atO a ∧ pathO p N) ∧ p ≠ [] ∧ headB a p = true, [.own 2 (dropR a p)], [])]
  | _ => none
noncomputable def S_rdrop (N : Nat) : Specs := specL [(33, g_kid), (36, g_rdrop N), (47, g_with), (71, g_wout)]

theorem rdr_w (N : Nat) (a p : List (List PV)) (Q : List TV × List TV → Prop) : (wFun C (S_rdrop N) 36 [.pv (.sl a), .pv (.sl p)] Q) (H.b H.auto (H.n (1 : Nat) (H.s (H.b H.auto (H.b (H.n (1 : Nat) (H.s H.auto)) (H.n (1 : Nat) (H.s (H.s (H.s (H.b H.auto (H.b H.auto (H.b H.auto H.auto)))))))))))) = ((((↑(List.length p) : Int) == (0 : Int)) = true → Q ([TV.pv (PV.sl [])], [])) ∧ (((↑(List.length p) : Int) == (0 : Int)) = false → ∃ (s : List UInt8), p[(0 : Nat)]? = some [PV.str s] ∧ (∃ (t : Tr), a = Tr.rows t ∧ List.length (Tr.list t) ≤ (4000000 : Nat)) ∧ ((!atB (Tr.list (unrow a)) s) = true → Q ([TV.pv (PV.sl a)], [])) ∧ ((!atB (Tr.list (unrow a)) s) = false → (((↑(List.length p) : Int) == (1 : Int)) = true → ∃ (s : List UInt8), p[(0 : Nat)]? = some [PV.str s] ∧ (atO a ∧ atB (Tr.list (unrow a)) s = true) ∧ Q ([TV.own (2 : Nat) (woutR a s)], [])) ∧ (((↑(List.length p) : Int) == (1 : Int)) = false → ∃ (s_1 : List UInt8), p[(0 : Nat)]? = some [PV.str s_1] ∧ rowOk (1 : Nat) p = true ∧ ((0 : Int) ≤ (1 : Int) ∧ (1 : Int) ≤ Int.ofNat (List.length p) ∧ Int.ofNat (List.length p) ≤ Int.ofNat (List.length p)) ∧ orAll [((atO (kidR a s) ∧ pathO (List.take (Int.toNat (Int.ofNat (List.length p)) - Int.toNat (1 : Int)) (List.drop (Int.toNat (1 : Int)) p)) N) ∧ List.take (Int.toNat (Int.ofNat (List.length p)) - Int.toNat (1 : Int)) (List.drop (Int.toNat (1 : Int)) p) = [], [TV.pv (PV.sl [])], []), ((atO (kidR a s) ∧ pathO (List.take (Int.toNat (Int.ofNat (List.length p)) - Int.toNat (1 : Int)) (List.drop (Int.toNat (1 : Int)) p)) N) ∧ List.take (Int.toNat (Int.ofNat (List.length p)) - Int.toNat (1 : Int)) (List.drop (Int.toNat (1 : Int)) p) ≠ [] ∧ headB (kidR a s) (List.take (Int.toNat (Int.ofNat (List.length p)) - Int.toNat (1 : Int)) (List.drop (Int.toNat (1 : Int)) p)) = false, [TV.pv (PV.sl (kidR a s))], []), ((atO (kidR a s) ∧ pathO (List.take (Int.toNat (Int.ofNat (List.length p)) - Int.toNat (1 : Int)) (List.drop (Int.toNat (1 : Int)) p)) N) ∧ List.take (Int.toNat (Int.ofNat (List.length p)) - Int.toNat (1 : Int)) (List.drop (Int.toNat (1 : Int)) p) ≠ [] ∧ headB (kidR a s) (List.take (Int.toNat (Int.ofNat (List.length p)) - Int.toNat (1 : Int)) (List.drop (Int.toNat (1 : Int)) p)) = true, [TV.own (2 : Nat) (dropR (kidR a s) (List.take (Int.toNat (Int.ofNat (List.length p)) - (1 : Nat)) (List.drop (1 : Nat) p)))], [])] ∧ ((atO (kidR a s) ∧ pathO (List.take (Int.toNat (Int.ofNat (List.length p)) - Int.toNat (1 : Int)) (List.drop (Int.toNat (1 : Int)) p)) N) ∧ List.take (Int.toNat (Int.ofNat (List.length p)) - (1 : Nat)) (List.drop (1 : Nat) p) = [] → (∃ (t : Tr), ∃ (u : Tr), a = Tr.rows t ∧ [] = Tr.rows u ∧ List.length (Tr.list t) ≤ (4000000 : Nat)) ∧ Q ([TV.own (2 : Nat) (Tr.rows (Tr.of (withE (Tr.list (unrow a)) s_1 (unrow []))))], [])) ∧ ((atO (kidR a s) ∧ pathO (List.take (Int.toNat (Int.ofNat (List.length p)) - Int.toNat (1 : Int)) (List.drop (Int.toNat (1 : Int)) p)) N) ∧ List.take (Int.toNat (Int.ofNat (List.length p)) - (1 : Nat)) (List.drop (1 : Nat) p) ≠ [] ∧ headB (kidR a s) (List.take (Int.toNat (Int.ofNat (List.length p)) - (1 : Nat)) (List.drop (1 : Nat) p)) = false → (∃ (t : Tr), ∃ (u : Tr), a = Tr.rows t ∧ kidR a s = Tr.rows u ∧ List.length (Tr.list t) ≤ (4000000 : Nat)) ∧ Q ([TV.own (2 : Nat) (Tr.rows (Tr.of (withE (Tr.list (unrow a)) s_1 (unrow (kidR a s)))))], [])) ∧ ((atO (kidR a s) ∧ pathO (List.take (Int.toNat (Int.ofNat (List.length p)) - Int.toNat (1 : Int)) (List.drop (Int.toNat (1 : Int)) p)) N) ∧ List.take (Int.toNat (Int.ofNat (List.length p)) - (1 : Nat)) (List.drop (1 : Nat) p) ≠ [] ∧ headB (kidR a s) (List.take (Int.toNat (Int.ofNat (List.length p)) - (1 : Nat)) (List.drop (1 : Nat) p)) = true → (∃ (t : Tr), ∃ (u : Tr), a = Tr.rows t ∧ dropR (kidR a s) (List.take (Int.toNat (Int.ofNat (List.length p)) - (1 : Nat)) (List.drop (1 : Nat) p)) = Tr.rows u ∧ List.length (Tr.list t) ≤ (4000000 : Nat)) ∧ Q ([TV.own (2 : Nat) (Tr.rows (Tr.of (withE (Tr.list (unrow a)) s_1 (unrow (dropR (kidR a s) (List.take (Int.toNat (Int.ofNat (List.length p)) - (1 : Nat)) (List.drop (1 : Nat) p)))))))], [])) ∧ True)))) := by kernel_rfl

noncomputable def S_rnm : Specs := specL [(47, g_with)]

theorem rnm_w (a : List (List PV)) (Q : List TV × List TV → Prop) : (wFun C S_rnm 41 [.pv (.sl a)] Q) (H.auto) = (LoopAt C (41 : FuncId) (CP.dn (CP.dn (CP.dn (CP.dn (CP.dn CP.top (1 : Nat)) (1 : Nat)) (0 : Nat)) (1 : Nat)) (0 : Nat)) (St.mk [((0 : Nat), AV.pv (PV.sl a)), ((3 : Nat), AV.own (6 : Nat)), ((4 : Nat), AV.pv (PV.int IntKind.i64 (0 : Int)))] [((6 : Nat), Obj.buf (2 : Nat) [])]) (exK (blockK (0 : Nat) (seqK (wAt C S_rnm (41 : FuncId) (99997 : Nat) (CP.dn (CP.dn (CP.dn CP.top (1 : Nat)) (1 : Nat)) (1 : Nat))) (retK C (41 : FuncId) [TV.pv (PV.sl a)] Q))))) := by kernel_rfl

def rnm_c0 : CP := (CP.dn (CP.dn (CP.dn (CP.dn (CP.dn CP.top (1 : Nat)) (1 : Nat)) (0 : Nat)) (1 : Nat)) (0 : Nat))

def rnm_h0 (t0 : List (List PV)) (t4 : Int) (o6 : List (List PV)) : St := (St.mk [((0 : Nat), AV.pv (PV.sl t0)), ((3 : Nat), AV.own (6 : Nat)), ((4 : Nat), AV.pv (PV.int IntKind.i64 t4))] [((6 : Nat), Obj.buf (2 : Nat) o6)])

theorem rnm_l0 (a : List (List PV)) (t0 : List (List PV)) (t4 : Int) (o6 : List (List PV))  (J0 : St → Prop) (Q : List TV × List TV → Prop) : (wAt C S_rnm 41 1000 (rnm_c0.dn 0) (rnm_h0 t0 t4 o6) (loopK C 41 rnm_c0 J0 (exK (blockK (0 : Nat) (seqK (wAt C S_rnm (41 : FuncId) (99997 : Nat) (CP.dn (CP.dn (CP.dn CP.top (1 : Nat)) (1 : Nat)) (1 : Nat))) (retK C (41 : FuncId) [TV.pv (PV.sl a)] Q)))))) (H.b H.auto H.auto) = ((decide (t4 < (↑(List.length t0) : Int)) = true → LoopAt C (41 : FuncId) (CP.dn (CP.dn (CP.dn (CP.dn (CP.dn (CP.dn rnm_c0 (0 : Nat)) (1 : Nat)) (0 : Nat)) (0 : Nat)) (1 : Nat)) (0 : Nat)) (St.mk [((0 : Nat), AV.pv (PV.sl t0)), ((3 : Nat), AV.own (6 : Nat)), ((4 : Nat), AV.pv (PV.int IntKind.i64 t4)), ((5 : Nat), AV.pv (PV.int IntKind.i64 (0 : Int)))] [((6 : Nat), Obj.buf (2 : Nat) o6)]) (exK (blockK (2 : Nat) (blockK (1 : Nat) (seqK (wAt C S_rnm (41 : FuncId) (998 : Nat) (CP.dn (CP.dn (CP.dn rnm_c0 (0 : Nat)) (1 : Nat)) (1 : Nat))) (loopK C (41 : FuncId) rnm_c0 J0 (exK (blockK (0 : Nat) (seqK (wAt C S_rnm (41 : FuncId) (99997 : Nat) (CP.dn (CP.dn (CP.dn CP.top (1 : Nat)) (1 : Nat)) (1 : Nat))) (retK C (41 : FuncId) [TV.pv (PV.sl a)] Q)))))))))) ∧ (decide (t4 < (↑(List.length t0) : Int)) = false → exK (blockK (0 : Nat) (seqK (wAt C S_rnm (41 : FuncId) (99997 : Nat) (CP.dn (CP.dn (CP.dn CP.top (1 : Nat)) (1 : Nat)) (1 : Nat))) (retK C (41 : FuncId) [TV.pv (PV.sl a)] Q))) (Ex.exit (0 : Nat)) (St.mk [((11 : Nat), AV.pv (PV.bool false)), ((10 : Nat), AV.pv (PV.int IntKind.i64 (↑(List.length t0) : Int))), ((9 : Nat), AV.pv (PV.sl t0)), ((8 : Nat), AV.pv (PV.int IntKind.i64 t4)), ((0 : Nat), AV.pv (PV.sl t0)), ((3 : Nat), AV.own (6 : Nat)), ((4 : Nat), AV.pv (PV.int IntKind.i64 t4))] [((6 : Nat), Obj.buf (2 : Nat) o6)]))) := by kernel_rfl

def rnm_c1 : CP := (CP.dn (CP.dn (CP.dn (CP.dn (CP.dn (CP.dn rnm_c0 (0 : Nat)) (1 : Nat)) (0 : Nat)) (0 : Nat)) (1 : Nat)) (0 : Nat))

def rnm_h1 (t0 : List (List PV)) (t4 : Int) (t5 : Int) (o6 : List (List PV)) : St := (St.mk [((0 : Nat), AV.pv (PV.sl t0)), ((3 : Nat), AV.own (6 : Nat)), ((4 : Nat), AV.pv (PV.int IntKind.i64 t4)), ((5 : Nat), AV.pv (PV.int IntKind.i64 t5))] [((6 : Nat), Obj.buf (2 : Nat) o6)])

def rnm_s2 (t10 : Int) (t9 : List (List PV)) (t8 : Int) (t0 : List (List PV)) (t4 : Int) (o6 : List (List PV)) : St := (St.mk [((11 : Nat), AV.pv (PV.bool false)), ((10 : Nat), AV.pv (PV.int IntKind.i64 t10)), ((9 : Nat), AV.pv (PV.sl t9)), ((8 : Nat), AV.pv (PV.int IntKind.i64 t8)), ((0 : Nat), AV.pv (PV.sl t0)), ((3 : Nat), AV.own (6 : Nat)), ((4 : Nat), AV.pv (PV.int IntKind.i64 t4))] [((6 : Nat), Obj.buf (2 : Nat) o6)])

theorem rnm_l1 (a : List (List PV)) (t0 : List (List PV)) (t4 : Int) (t5 : Int) (o6 : List (List PV)) (J0 : St → Prop) (J1 : St → Prop) (Q : List TV × List TV → Prop) : (wAt C S_rnm 41 1000 (rnm_c1.dn 0) (rnm_h1 t0 t4 t5 o6) (loopK C 41 rnm_c1 J1 (exK (blockK (2 : Nat) (blockK (1 : Nat) (seqK (wAt C S_rnm (41 : FuncId) (998 : Nat) (CP.dn (CP.dn (CP.dn rnm_c0 (0 : Nat)) (1 : Nat)) (1 : Nat))) (loopK C (41 : FuncId) rnm_c0 J0 (exK (blockK (0 : Nat) (seqK (wAt C S_rnm (41 : FuncId) (99997 : Nat) (CP.dn (CP.dn (CP.dn CP.top (1 : Nat)) (1 : Nat)) (1 : Nat))) (retK C (41 : FuncId) [TV.pv (PV.sl a)] Q))))))))))) (H.s (H.s (H.b (H.s (H.s (H.s (H.s H.auto)))) H.auto))) = ((0 : Int) ≤ t4 ∧ ∃ (es : List (List PV)), t0[Int.toNat t4]? = some [PV.sl es] ∧ (decide (t5 < (↑(List.length es) : Int)) = true → (0 : Int) ≤ t4 ∧ ∃ (es : List (List PV)), t0[Int.toNat t4]? = some [PV.sl es] ∧ (0 : Int) ≤ t5 ∧ ∃ (s : List UInt8), ∃ (es_1 : List (List PV)), es[Int.toNat t5]? = some [PV.str s, PV.sl es_1] ∧ (∃ (t : Tr), ∃ (u : Tr), o6 = Tr.rows t ∧ [] = Tr.rows u ∧ List.length (Tr.list t) ≤ (4000000 : Nat)) ∧ J1 (St.mk [((0 : Nat), AV.pv (PV.sl t0)), ((3 : Nat), AV.own (6 : Nat)), ((4 : Nat), AV.pv (PV.int IntKind.i64 t4)), ((5 : Nat), AV.pv (PV.int IntKind.i64 (IntKind.wrap IntKind.i64 (t5 + (1 : Int)))))] [((6 : Nat), Obj.buf (2 : Nat) (Tr.rows (Tr.of (withE (Tr.list (unrow o6)) s (unrow [])))))])) ∧ (decide (t5 < (↑(List.length es) : Int)) = false → ∃ (h : H), J0 (St.mk [((0 : Nat), AV.pv (PV.sl t0)), ((3 : Nat), AV.own (6 : Nat)), ((4 : Nat), AV.pv (PV.int IntKind.i64 (IntKind.wrap IntKind.i64 (t4 + (1 : Int)))))] [((6 : Nat), Obj.buf (2 : Nat) o6)]))) := by kernel_rfl

theorem rnm_x2 (a : List (List PV)) (t10 : Int) (t9 : List (List PV)) (t8 : Int) (t0 : List (List PV)) (t4 : Int) (o6 : List (List PV))  (Q : List TV × List TV → Prop) : (fun h => blockK (0 : Nat) (seqK (wAt C S_rnm (41 : FuncId) (99997 : Nat) (CP.dn (CP.dn (CP.dn CP.top (1 : Nat)) (1 : Nat)) (1 : Nat))) (retK C (41 : FuncId) [TV.pv (PV.sl a)] Q)) h (Ex.exit (0 : Nat)) (rnm_s2 t10 t9 t8 t0 t4 o6)) (H.auto) = (LoopAt C (41 : FuncId) (CP.dn (CP.dn (CP.dn (CP.dn (CP.dn (CP.dn (CP.dn CP.top (1 : Nat)) (1 : Nat)) (1 : Nat)) (1 : Nat)) (0 : Nat)) (1 : Nat)) (0 : Nat)) (St.mk [((3 : Nat), AV.own (6 : Nat)), ((6 : Nat), AV.own (12 : Nat)), ((7 : Nat), AV.pv (PV.int IntKind.i64 (0 : Int)))] [((6 : Nat), Obj.buf (2 : Nat) o6), ((12 : Nat), Obj.buf (1 : Nat) [])]) (exK (blockK (4 : Nat) (seqK (wAt C S_rnm (41 : FuncId) (99995 : Nat) (CP.dn (CP.dn (CP.dn (CP.dn (CP.dn CP.top (1 : Nat)) (1 : Nat)) (1 : Nat)) (1 : Nat)) (1 : Nat))) (retK C (41 : FuncId) [TV.pv (PV.sl a)] Q))))) := by kernel_rfl

def rnm_c3 : CP := (CP.dn (CP.dn (CP.dn (CP.dn (CP.dn (CP.dn (CP.dn CP.top (1 : Nat)) (1 : Nat)) (1 : Nat)) (1 : Nat)) (0 : Nat)) (1 : Nat)) (0 : Nat))

def rnm_h3 (t7 : Int) (o6 : List (List PV)) (o12 : List (List PV)) : St := (St.mk [((3 : Nat), AV.own (6 : Nat)), ((6 : Nat), AV.own (12 : Nat)), ((7 : Nat), AV.pv (PV.int IntKind.i64 t7))] [((6 : Nat), Obj.buf (2 : Nat) o6), ((12 : Nat), Obj.buf (1 : Nat) o12)])

theorem rnm_l3 (a : List (List PV)) (t7 : Int) (o6 : List (List PV)) (o12 : List (List PV))  (J3 : St → Prop) (Q : List TV × List TV → Prop) : (wAt C S_rnm 41 1000 (rnm_c3.dn 0) (rnm_h3 t7 o6 o12) (loopK C 41 rnm_c3 J3 (exK (blockK (4 : Nat) (seqK (wAt C S_rnm (41 : FuncId) (99995 : Nat) (CP.dn (CP.dn (CP.dn (CP.dn (CP.dn CP.top (1 : Nat)) (1 : Nat)) (1 : Nat)) (1 : Nat)) (1 : Nat))) (retK C (41 : FuncId) [TV.pv (PV.sl a)] Q)))))) (H.b (H.s (H.s (H.s H.auto))) H.auto) = ((decide (t7 < (↑(List.length o6) : Int)) = true → ((0 : Int) ≤ t7 ∧ t7 < (↑(List.length o6) : Int)) ∧ ∃ (c : List PV), o6[Int.toNat t7]? = some c ∧ (1 : Nat) ≤ List.length c ∧ ∃ (s : List UInt8), List.take (1 : Nat) c = [PV.str s] ∧ ((List.length o12 + (1 : Nat)) * (16 : Nat) ≤ room ∧ List.length o12 + (1 : Nat) ≤ maxInt) ∧ J3 (St.mk [((3 : Nat), AV.own (6 : Nat)), ((6 : Nat), AV.own (12 : Nat)), ((7 : Nat), AV.pv (PV.int IntKind.i64 (IntKind.wrap IntKind.i64 (t7 + (1 : Int)))))] [((6 : Nat), Obj.buf (2 : Nat) o6), ((12 : Nat), Obj.buf (1 : Nat) (o12 ++ [[PV.str s]]))])) ∧ (decide (t7 < (↑(List.length o6) : Int)) = false → ∃ (h : H), Q ([TV.own (1 : Nat) o12], []))) := by kernel_rfl

noncomputable def g_num (N : Nat) (F : List (List PV) → Int) : List TV → Option Alts
  | [.pv (.sl a)] => one (∃ t : Tr, a = t.rows ∧ t.nodes < N ∧ t.nodes ≤ 4000000) ([.pv (.int .i64 (F a))], [])
  | _ => none

noncomputable def S_ts (N : Nat) : Specs := specL [(37, g_num N sizeF)]

theorem ts_w (N : Nat) (a : List (List PV)) (Q : List TV × List TV → Prop) : (wFun C (S_ts N) 37 [.pv (.sl a)] Q) (H.auto) = (LoopAt C (37 : FuncId) (CP.dn (CP.dn (CP.dn (CP.dn (CP.dn CP.top (1 : Nat)) (1 : Nat)) (0 : Nat)) (1 : Nat)) (0 : Nat)) (St.mk [((3 : Nat), AV.pv (PV.int IntKind.i64 (↑(List.length a) : Int))), ((8 : Nat), AV.pv (PV.sl a)), ((9 : Nat), AV.pv (PV.int IntKind.i64 (↑(List.length a) : Int))), ((10 : Nat), AV.pv (PV.int IntKind.i64 (0 : Int)))] []) (exK (blockK (0 : Nat) (seqK (wAt C (S_ts N) (37 : FuncId) (99997 : Nat) (CP.dn (CP.dn (CP.dn CP.top (1 : Nat)) (1 : Nat)) (1 : Nat))) (retK C (37 : FuncId) [TV.pv (PV.sl a)] Q))))) := by kernel_rfl

def ts_c0 : CP := (CP.dn (CP.dn (CP.dn (CP.dn (CP.dn CP.top (1 : Nat)) (1 : Nat)) (0 : Nat)) (1 : Nat)) (0 : Nat))

def ts_h0 (t3 : Int) (t8 : List (List PV)) (t9 : Int) (t10 : Int) : St := (St.mk [((3 : Nat), AV.pv (PV.int IntKind.i64 t3)), ((8 : Nat), AV.pv (PV.sl t8)), ((9 : Nat), AV.pv (PV.int IntKind.i64 t9)), ((10 : Nat), AV.pv (PV.int IntKind.i64 t10))] [])

theorem ts_l0 (N : Nat) (a : List (List PV)) (t3 : Int) (t8 : List (List PV)) (t9 : Int) (t10 : Int)  (J0 : St → Prop) (Q : List TV × List TV → Prop) : (wAt C (S_ts N) 37 1000 (ts_c0.dn 0) (ts_h0 t3 t8 t9 t10) (loopK C 37 ts_c0 J0 (exK (blockK (0 : Nat) (seqK (wAt C (S_ts N) (37 : FuncId) (99997 : Nat) (CP.dn (CP.dn (CP.dn CP.top (1 : Nat)) (1 : Nat)) (1 : Nat))) (retK C (37 : FuncId) [TV.pv (PV.sl a)] Q)))))) (H.b (H.s (H.s H.auto)) H.auto) = ((decide (t10 < t9) = true → (0 : Int) ≤ t10 ∧ ∃ (s : List UInt8), ∃ (es : List (List PV)), t8[Int.toNat t10]? = some [PV.str s, PV.sl es] ∧ (∃ (t : Tr), es = Tr.rows t ∧ Tr.nodes t < N ∧ Tr.nodes t ≤ (4000000 : Nat)) ∧ J0 (St.mk [((3 : Nat), AV.pv (PV.int IntKind.i64 (IntKind.wrap IntKind.i64 (t3 + sizeF es)))), ((8 : Nat), AV.pv (PV.sl t8)), ((9 : Nat), AV.pv (PV.int IntKind.i64 t9)), ((10 : Nat), AV.pv (PV.int IntKind.i64 (IntKind.wrap IntKind.i64 (t10 + (1 : Int)))))] [])) ∧ (decide (t10 < t9) = false → ∃ (h : H), Q ([TV.pv (PV.int IntKind.i64 t3)], []))) := by kernel_rfl

noncomputable def S_rs (N : Nat) : Specs := specL [(38, g_num N sizeF)]

theorem rsi_w (N : Nat) (a : List (List PV)) (Q : List TV × List TV → Prop) : (wFun C (S_rs N) 38 [.pv (.sl a)] Q) (H.auto) = (LoopAt C (38 : FuncId) (CP.dn (CP.dn (CP.dn (CP.dn (CP.dn CP.top (1 : Nat)) (1 : Nat)) (0 : Nat)) (1 : Nat)) (0 : Nat)) (St.mk [((0 : Nat), AV.pv (PV.sl a)), ((3 : Nat), AV.pv (PV.int IntKind.i64 (↑(List.length a) : Int))), ((4 : Nat), AV.pv (PV.int IntKind.i64 (0 : Int)))] []) (exK (blockK (0 : Nat) (seqK (wAt C (S_rs N) (38 : FuncId) (99997 : Nat) (CP.dn (CP.dn (CP.dn CP.top (1 : Nat)) (1 : Nat)) (1 : Nat))) (retK C (38 : FuncId) [TV.pv (PV.sl a)] Q))))) := by kernel_rfl

def rsi_c0 : CP := (CP.dn (CP.dn (CP.dn (CP.dn (CP.dn CP.top (1 : Nat)) (1 : Nat)) (0 : Nat)) (1 : Nat)) (0 : Nat))

def rsi_h0 (t0 : List (List PV)) (t3 : Int) (t4 : Int) : St := (St.mk [((0 : Nat), AV.pv (PV.sl t0)), ((3 : Nat), AV.pv (PV.int IntKind.i64 t3)), ((4 : Nat), AV.pv (PV.int IntKind.i64 t4))] [])

theorem rsi_l0 (N : Nat) (a : List (List PV)) (t0 : List (List PV)) (t3 : Int) (t4 : Int)  (J0 : St → Prop) (Q : List TV × List TV → Prop) : (wAt C (S_rs N) 38 1000 (rsi_c0.dn 0) (rsi_h0 t0 t3 t4) (loopK C 38 rsi_c0 J0 (exK (blockK (0 : Nat) (seqK (wAt C (S_rs N) (38 : FuncId) (99997 : Nat) (CP.dn (CP.dn (CP.dn CP.top (1 : Nat)) (1 : Nat)) (1 : Nat))) (retK C (38 : FuncId) [TV.pv (PV.sl a)] Q)))))) (H.b (H.s (H.s H.auto)) H.auto) = ((decide (t4 < (↑(List.length t0) : Int)) = true → (0 : Int) ≤ t4 ∧ ∃ (s : List UInt8), ∃ (es : List (List PV)), t0[Int.toNat t4]? = some [PV.str s, PV.sl es] ∧ (∃ (t : Tr), es = Tr.rows t ∧ Tr.nodes t < N ∧ Tr.nodes t ≤ (4000000 : Nat)) ∧ J0 (St.mk [((0 : Nat), AV.pv (PV.sl t0)), ((3 : Nat), AV.pv (PV.int IntKind.i64 (IntKind.wrap IntKind.i64 (t3 + sizeF es)))), ((4 : Nat), AV.pv (PV.int IntKind.i64 (IntKind.wrap IntKind.i64 (t4 + (1 : Int)))))] [])) ∧ (decide (t4 < (↑(List.length t0) : Int)) = false → ∃ (h : H), Q ([TV.pv (PV.int IntKind.i64 t3)], []))) := by kernel_rfl

noncomputable def S_td (N : Nat) : Specs := specL [(39, g_num N depF)]

theorem td_w (N : Nat) (a : List (List PV)) (Q : List TV × List TV → Prop) : (wFun C (S_td N) 39 [.pv (.sl a)] Q) (H.auto) = (LoopAt C (39 : FuncId) (CP.dn (CP.dn (CP.dn (CP.dn (CP.dn CP.top (1 : Nat)) (1 : Nat)) (0 : Nat)) (1 : Nat)) (0 : Nat)) (St.mk [((3 : Nat), AV.pv (PV.int IntKind.i64 (0 : Int))), ((6 : Nat), AV.pv (PV.sl a)), ((7 : Nat), AV.pv (PV.int IntKind.i64 (↑(List.length a) : Int))), ((8 : Nat), AV.pv (PV.int IntKind.i64 (0 : Int)))] []) (exK (blockK (0 : Nat) (seqK (wAt C (S_td N) (39 : FuncId) (99997 : Nat) (CP.dn (CP.dn (CP.dn CP.top (1 : Nat)) (1 : Nat)) (1 : Nat))) (retK C (39 : FuncId) [TV.pv (PV.sl a)] Q))))) := by kernel_rfl

def td_c0 : CP := (CP.dn (CP.dn (CP.dn (CP.dn (CP.dn CP.top (1 : Nat)) (1 : Nat)) (0 : Nat)) (1 : Nat)) (0 : Nat))

def td_h0 (t3 : Int) (t6 : List (List PV)) (t7 : Int) (t8 : Int) : St := (St.mk [((3 : Nat), AV.pv (PV.int IntKind.i64 t3)), ((6 : Nat), AV.pv (PV.sl t6)), ((7 : Nat), AV.pv (PV.int IntKind.i64 t7)), ((8 : Nat), AV.pv (PV.int IntKind.i64 t8))] [])

theorem td_l0 (N : Nat) (a : List (List PV)) (t3 : Int) (t6 : List (List PV)) (t7 : Int) (t8 : Int)  (J0 : St → Prop) (Q : List TV × List TV → Prop) : (wAt C (S_td N) 39 1000 (td_c0.dn 0) (td_h0 t3 t6 t7 t8) (loopK C 39 td_c0 J0 (exK (blockK (0 : Nat) (seqK (wAt C (S_td N) (39 : FuncId) (99997 : Nat) (CP.dn (CP.dn (CP.dn CP.top (1 : Nat)) (1 : Nat)) (1 : Nat))) (retK C (39 : FuncId) [TV.pv (PV.sl a)] Q)))))) (H.b (H.s (H.s H.auto)) H.auto) = ((decide (t8 < t7) = true → (0 : Int) ≤ t8 ∧ ∃ (s : List UInt8), ∃ (es : List (List PV)), t6[Int.toNat t8]? = some [PV.str s, PV.sl es] ∧ (∃ (t : Tr), es = Tr.rows t ∧ Tr.nodes t < N ∧ Tr.nodes t ≤ (4000000 : Nat)) ∧ J0 (St.mk [((3 : Nat), AV.pv (PV.int IntKind.i64 (if IntKind.wrap IntKind.i64 ((1 : Int) + depF es) > t3 then IntKind.wrap IntKind.i64 ((1 : Int) + depF es) else t3))), ((6 : Nat), AV.pv (PV.sl t6)), ((7 : Nat), AV.pv (PV.int IntKind.i64 t7)), ((8 : Nat), AV.pv (PV.int IntKind.i64 (IntKind.wrap IntKind.i64 (t8 + (1 : Int)))))] [])) ∧ (decide (t8 < t7) = false → ∃ (h : H), Q ([TV.pv (PV.int IntKind.i64 t3)], []))) := by kernel_rfl

noncomputable def S_rd (N : Nat) : Specs := specL [(40, g_num N depF)]

theorem rde_w (N : Nat) (a : List (List PV)) (Q : List TV × List TV → Prop) : (wFun C (S_rd N) 40 [.pv (.sl a)] Q) (H.auto) = (LoopAt C (40 : FuncId) (CP.dn (CP.dn (CP.dn (CP.dn (CP.dn CP.top (1 : Nat)) (1 : Nat)) (0 : Nat)) (1 : Nat)) (0 : Nat)) (St.mk [((0 : Nat), AV.pv (PV.sl a)), ((3 : Nat), AV.pv (PV.int IntKind.i64 (0 : Int))), ((4 : Nat), AV.pv (PV.int IntKind.i64 (0 : Int)))] []) (exK (blockK (0 : Nat) (seqK (wAt C (S_rd N) (40 : FuncId) (99997 : Nat) (CP.dn (CP.dn (CP.dn CP.top (1 : Nat)) (1 : Nat)) (1 : Nat))) (retK C (40 : FuncId) [TV.pv (PV.sl a)] Q))))) := by kernel_rfl

def rde_c0 : CP := (CP.dn (CP.dn (CP.dn (CP.dn (CP.dn CP.top (1 : Nat)) (1 : Nat)) (0 : Nat)) (1 : Nat)) (0 : Nat))

def rde_h0 (t0 : List (List PV)) (t3 : Int) (t4 : Int) : St := (St.mk [((0 : Nat), AV.pv (PV.sl t0)), ((3 : Nat), AV.pv (PV.int IntKind.i64 t3)), ((4 : Nat), AV.pv (PV.int IntKind.i64 t4))] [])

theorem rde_l0 (N : Nat) (a : List (List PV)) (t0 : List (List PV)) (t3 : Int) (t4 : Int)  (J0 : St → Prop) (Q : List TV × List TV → Prop) : (wAt C (S_rd N) 40 1000 (rde_c0.dn 0) (rde_h0 t0 t3 t4) (loopK C 40 rde_c0 J0 (exK (blockK (0 : Nat) (seqK (wAt C (S_rd N) (40 : FuncId) (99997 : Nat) (CP.dn (CP.dn (CP.dn CP.top (1 : Nat)) (1 : Nat)) (1 : Nat))) (retK C (40 : FuncId) [TV.pv (PV.sl a)] Q)))))) (H.b (H.s (H.s H.auto)) H.auto) = ((decide (t4 < (↑(List.length t0) : Int)) = true → (0 : Int) ≤ t4 ∧ ∃ (s : List UInt8), ∃ (es : List (List PV)), t0[Int.toNat t4]? = some [PV.str s, PV.sl es] ∧ (∃ (t : Tr), es = Tr.rows t ∧ Tr.nodes t < N ∧ Tr.nodes t ≤ (4000000 : Nat)) ∧ J0 (St.mk [((0 : Nat), AV.pv (PV.sl t0)), ((3 : Nat), AV.pv (PV.int IntKind.i64 (if IntKind.wrap IntKind.i64 ((1 : Int) + depF es) > t3 then IntKind.wrap IntKind.i64 ((1 : Int) + depF es) else t3))), ((4 : Nat), AV.pv (PV.int IntKind.i64 (IntKind.wrap IntKind.i64 (t4 + (1 : Int)))))] [])) ∧ (decide (t4 < (↑(List.length t0) : Int)) = false → ∃ (h : H), Q ([TV.pv (PV.int IntKind.i64 t3)], []))) := by kernel_rfl

/-! ### Proofs -/
theorem wo_ev (t : Tr) (n : List UInt8) (t1 : t.nodes ≤ 2000000) (hb : atB t.list n = true) : Ev C 71 [.pv (.sl t.rows), .pv (.str n)] ([.own 2 (Tr.of (woutE t.list n)).rows], []) := by
  have hr := room_val
  have hm := maxInt_val
  have hn := nodes_list t
  refine ev_w (specL_ok (specs_cons at_ok specs_nil)) (wo_w t.rows n _) ⟨⟨t, rfl, by omega⟩, ?_⟩
  rw [unrow_rows, rows_of, rows_list]
  have hk := atK_le t.list n
  have hB := atB_lt hb
  refine ⟨fun h => ?_, fun _ => ?_⟩
  · rw [hb] at h; simp at h
  unfold woutE
  have hL : t.list.length ≤ 2000000 := by omega
  clear hn
  generalize t.list = L at *
  generalize atK L n = K at *
  have w1 := w64s (i := K) (by omega)
  rw [w1]
  simp only [Int.toNat_natCast, Int.ofNat_eq_natCast, Nat.sub_zero, List.nil_append, ← List.map_take, ← List.map_drop, ← List.map_append, List.length_map, List.length_append, List.length_take, List.length_drop]
  refine ⟨rowOk_edges _, ⟨by omega, by omega, by omega⟩, ⟨by omega, by omega⟩, rowOk_edges _, rowOk_edges _, ⟨by omega, by omega, by omega⟩, ⟨by omega, by omega⟩, rowOk_edges _, ?_⟩
  rw [List.take_of_length_le (l := L.drop (K + 1)) (by simp)]

theorem wout_ok : ∀ ag al, g_wout ag = some al → ∀ a ∈ al, a.1 → Ev C 71 ag a.2 := by
  intro ag al hl x hx hp
  unfold g_wout at hl
  split at hl
  · have e := one_mem hl hx; subst e
    obtain ⟨⟨t, rfl, t1, t2⟩, hb⟩ := hp
    rw [unrow_rows] at hb
    unfold woutR
    simp only [unrow_rows]
    exact wo_ev t _ t1 hb
  · exact absurd hl (by simp)

theorem headB_rows (t : Tr) (n : List UInt8) (q : List (List UInt8)) : headB t.rows ((n :: q).map strRow) = atB t.list n := by
  unfold headB; rw [unstr_map, unrow_rows]
theorem take_cons' (n : List UInt8) (q : List (List UInt8)) : List.take (Int.toNat (Int.ofNat ((n :: q).map strRow).length) - Int.toNat 1) (List.drop (Int.toNat 1) ((n :: q).map strRow)) = q.map strRow := take_cons n q
theorem drop_head {t : Tr} {n : List UInt8} {q : List (List UInt8)} (h : atB t.list n = false) : dropT t (n :: q) = t := by
  cases q with
  | nil => rw [dropT, h]; rfl
  | cons m q => rw [dropT, h]; rfl

theorem rput_ok : ∀ N, ∀ ag al, g_rput N ag = some al → ∀ a ∈ al, a.1 → Ev C 35 ag a.2
  | 0, ag, al, hl, x, hx, hp => by
    unfold g_rput at hl
    split at hl
    · simp only [Option.some.injEq] at hl; subst hl
      simp only [List.mem_cons, List.not_mem_nil, or_false] at hx
      rcases hx with rfl | rfl
      · obtain ⟨⟨_, ⟨q, _, h, _⟩, _⟩, _⟩ := hp
        exact absurd h (by omega)
      · obtain ⟨⟨_, ⟨q, _, h, _⟩, _⟩, _⟩ := hp
        exact absurd h (by omega)
    · exact absurd hl (by simp)
  | N + 1, ag, al, hl, y, hy, hp => by
    have hS : SpecOK C (S_rput N) := specL_ok (specs_cons kid_ok (specs_cons (rput_ok N) (specs_cons with_ok specs_nil)))
    unfold g_rput at hl
    split at hl
    · simp only [Option.some.injEq] at hl; subst hl
      simp only [List.mem_cons, List.not_mem_nil, or_false] at hy
      rcases hy with rfl | rfl
      · obtain ⟨_, rfl⟩ := hp
        exact ev_w hS (rpu_w N _ _ _ _) ⟨fun _ => rfl, fun h => by simp at h⟩
      · obtain ⟨⟨⟨t, rfl, t1, t2⟩, ⟨q, rfl, q1, q2⟩, ⟨x, rfl, x1, x2⟩⟩, hne⟩ := hp
        refine ev_w hS (rpu_w N t.rows (q.map strRow) x.rows _) ?_
        rw [putR_rows]
        have hn := nodes_list t
        cases q with
        | nil => exact absurd rfl hne
        | cons n q =>
          have hkn := kid_nodes t n
          have aK : atO (kidT t n).rows := atO_of (by omega) (kid_srt t2)
          refine ⟨fun h => by simp at h; omega, fun _ => ⟨n, rfl, ⟨t, rfl, by omega⟩, n, rfl, rowOk_str _, ⟨by decide, by simp; omega, by omega⟩, ?_⟩⟩
          rw [take_cons', take_cons, kidR_rows, putR_rows, unrow_rows, unrow_rows, unrow_rows]
          have hq := pathO_cons q1 q2
          have hx : atO x.rows := atO_of x1 x2
          cases q with
          | nil => exact ⟨.inl ⟨⟨aK, hq, hx⟩, rfl⟩, fun _ => ⟨⟨t, x, rfl, rfl, by omega⟩, rfl⟩, fun h => absurd rfl h.2, trivial⟩
          | cons m q => exact ⟨.inr ⟨⟨aK, hq, hx⟩, by simp⟩, fun h => absurd h.2 (by simp), fun _ => ⟨⟨t, _, rfl, rfl, by omega⟩, rfl⟩, trivial⟩
    · exact absurd hl (by simp)

theorem rdrop_ok : ∀ N, ∀ ag al, g_rdrop N ag = some al → ∀ a ∈ al, a.1 → Ev C 36 ag a.2
  | 0, ag, al, hl, x, hx, hp => by
    unfold g_rdrop at hl
    split at hl
    · simp only [Option.some.injEq] at hl; subst hl
      simp only [List.mem_cons, List.not_mem_nil, or_false] at hx
      rcases hx with rfl | rfl | rfl
      · obtain ⟨⟨_, q, _, h, _⟩, _⟩ := hp
        exact absurd h (by omega)
      · obtain ⟨⟨_, q, _, h, _⟩, _⟩ := hp
        exact absurd h (by omega)
      · obtain ⟨⟨_, q, _, h, _⟩, _⟩ := hp
        exact absurd h (by omega)
    · exact absurd hl (by simp)
  | N + 1, ag, al, hl, y, hy, hp => by
    have hS : SpecOK C (S_rdrop N) := specL_ok (specs_cons kid_ok (specs_cons (rdrop_ok N) (specs_cons with_ok (specs_cons wout_ok specs_nil))))
    unfold g_rdrop at hl
    split at hl
    · simp only [Option.some.injEq] at hl; subst hl
      simp only [List.mem_cons, List.not_mem_nil, or_false] at hy
      rcases hy with rfl | rfl | rfl
      · obtain ⟨_, rfl⟩ := hp
        exact ev_w hS (rdr_w N _ _ _) ⟨fun _ => rfl, fun h => by simp at h⟩
      · obtain ⟨⟨⟨t, rfl, t1, t2⟩, q, rfl, q1, q2⟩, hne, hb⟩ := hp
        have hn := nodes_list t
        cases q with
        | nil => exact absurd rfl hne
        | cons n q =>
          rw [headB_rows] at hb
          refine ev_w hS (rdr_w N t.rows ((n :: q).map strRow) _) ⟨fun h => by simp at h; omega, fun _ => ⟨n, rfl, ⟨t, rfl, by omega⟩, fun _ => rfl, fun h => ?_⟩⟩
          rw [unrow_rows, hb] at h
          simp at h
      · obtain ⟨⟨⟨t, rfl, t1, t2⟩, q, rfl, q1, q2⟩, hne, hb⟩ := hp
        have hn := nodes_list t
        cases q with
        | nil => exact absurd rfl hne
        | cons n q =>
          rw [headB_rows] at hb
          refine ev_w hS (rdr_w N t.rows ((n :: q).map strRow) _) ⟨fun h => by simp at h; omega, fun _ => ⟨n, rfl, ⟨t, rfl, by omega⟩, fun h => ?_, fun _ => ⟨fun h => ?_, fun h => ?_⟩⟩⟩
          · rw [unrow_rows, hb] at h
            simp at h
          · have hq : q = [] := by
              simp at h
              exact List.length_eq_zero_iff.1 (by omega)
            subst hq
            rw [dropR_rows]
            refine ⟨n, rfl, ⟨atO_of t1 t2, by rw [unrow_rows]; exact hb⟩, ?_⟩
            unfold woutR
            rw [unrow_rows, dropT, if_pos hb]
          · cases q with
            | nil => simp at h
            | cons m q =>
              have hkn := kid_nodes t n
              have aK : atO (kidT t n).rows := atO_of (by omega) (kid_srt t2)
              have hq := pathO_cons q1 q2
              refine ⟨n, rfl, rowOk_str _, ⟨by decide, by simp; omega, by omega⟩, ?_⟩
              rw [take_cons', take_cons, kidR_rows, dropR_rows, dropR_rows, headB_rows, unrow_rows, unrow_rows, unrow_rows]
              have hw : dropT t (n :: m :: q) = Tr.of (withE t.list n (dropT (kidT t n) (m :: q))) := by rw [dropT, if_pos hb]
              rw [hw]
              cases hk : atB (kidT t n).list m with
              | false => exact ⟨.inr (.inl ⟨⟨aK, hq⟩, by simp, rfl⟩), fun h => absurd h.2 (by simp), fun _ => ⟨⟨t, _, rfl, rfl, by omega⟩, by rw [drop_head hk]⟩, fun h => absurd h.2.2 (by simp), trivial⟩
              | true => exact ⟨.inr (.inr ⟨⟨aK, hq⟩, by simp, rfl⟩), fun h => absurd h.2 (by simp), fun h => absurd h.2.2 (by simp), fun _ => ⟨⟨t, _, rfl, rfl, by omega⟩, rfl⟩, trivial⟩
    · exact absurd hl (by simp)

/-! ### How great, how deep -/
theorem num_ok {f : FuncId} {N : Nat} {F : List (List PV) → Int} (h : ∀ t : Tr, t.nodes < N → t.nodes ≤ 4000000 → Ev C f [.pv (.sl t.rows)] ([.pv (.int .i64 (F t.rows))], [])) : ∀ ag al, g_num N F ag = some al → ∀ a ∈ al, a.1 → Ev C f ag a.2 := by
  intro ag al hl x hx hp
  unfold g_num at hl
  split at hl
  · have e := one_mem hl hx; subst e
    obtain ⟨t, rfl, h1, h2⟩ := hp
    exact h t h1 h2
  · exact absurd hl (by simp)
theorem sizeF_rows (t : Tr) : sizeF t.rows = (t.nodes : Int) := by unfold sizeF; rw [unrow_rows]
theorem depF_rows (t : Tr) : depF t.rows = (depT t : Int) := by unfold depF; rw [unrow_rows]

theorem kidsN_le (l : List Edge) (i : Nat) : kidsN (l.take i) ≤ kidsN l := by
  have : kidsN l = kidsN (l.take i) + kidsN (l.drop i) := by
    conv => lhs; rw [← List.take_append_drop i l]
    unfold kidsN
    rw [List.map_append, List.sum_append]
  omega

theorem ts_ev : ∀ (N : Nat) (t : Tr), t.nodes < N → t.nodes ≤ 4000000 → Ev C 37 [.pv (.sl t.rows)] ([.pv (.int .i64 (sizeF t.rows))], [])
  | 0, t, h, _ => by omega
  | N + 1, t, h, hb => by
    have hS : SpecOK C (S_ts N) := specL_ok (specs_cons (num_ok (ts_ev N)) specs_nil)
    have hl := rows_len t
    have hn := nodes_list t
    refine ev_w hS (ts_w N t.rows _) ?_
    rw [hl, sizeF_rows]
    refine loop_rule hS (by kernel_rfl) 1000 (fun m st => ∃ i : Nat, st = ts_h0 ((t.list.length + kidsN (t.list.take i) : Nat) : Int) t.rows t.list.length i ∧ i ≤ t.list.length ∧ m = t.list.length - i) ?_ (n := t.list.length) ⟨0, rfl, by omega, by omega⟩
    rintro m st ⟨i, rfl, hi, rfl⟩
    refine ex_w (ts_l0 _ _ _ _ _ _ _ _) ⟨fun g => ?_, fun g => ?_⟩
    · simp only [decide_eq_true_eq] at g
      have hi' : i < t.list.length := by omega
      have hk := nodes_lt (List.getElem_mem hi')
      have hs := kidsN_succ hi'
      have hle := kidsN_le t.list (i + 1)
      refine ⟨by omega, _, _, row_get t hi', ⟨_, rfl, by omega, by omega⟩, t.list.length - (i + 1), by omega, i + 1, ?_, by omega, rfl⟩
      have e1 : IntKind.wrap .i64 (((t.list.length + kidsN (t.list.take i) : Nat) : Int) + (t.list[i].2.nodes : Int)) = ((t.list.length + kidsN (t.list.take (i + 1)) : Nat) : Int) := by rw [w64 (by omega)]; omega
      rw [sizeF_rows, w64s (by omega), e1]
      rfl
    · simp only [decide_eq_false_iff_not] at g
      have : i = t.list.length := by omega
      subst this
      refine ⟨.auto, ?_⟩
      rw [List.take_length, ← hn]

theorem rsi_ev : ∀ (N : Nat) (t : Tr), t.nodes < N → t.nodes ≤ 4000000 → Ev C 38 [.pv (.sl t.rows)] ([.pv (.int .i64 (sizeF t.rows))], [])
  | 0, t, h, _ => by omega
  | N + 1, t, h, hb => by
    have hS : SpecOK C (S_rs N) := specL_ok (specs_cons (num_ok (rsi_ev N)) specs_nil)
    have hl := rows_len t
    have hn := nodes_list t
    refine ev_w hS (rsi_w N t.rows _) ?_
    rw [sizeF_rows]
    refine loop_rule hS (by kernel_rfl) 1000 (fun m st => ∃ i : Nat, st = rsi_h0 t.rows ((t.list.length + kidsN (t.list.take i) : Nat) : Int) i ∧ i ≤ t.list.length ∧ m = t.list.length - i) ?_ (n := t.list.length) ⟨0, by rw [hl]; rfl, by omega, by omega⟩
    rintro m st ⟨i, rfl, hi, rfl⟩
    refine ex_w (rsi_l0 _ _ _ _ _ _ _) ?_
    rw [hl]
    refine ⟨fun g => ?_, fun g => ?_⟩
    · simp only [decide_eq_true_eq] at g
      have hi' : i < t.list.length := by omega
      have hk := nodes_lt (List.getElem_mem hi')
      have hs := kidsN_succ hi'
      have hle := kidsN_le t.list (i + 1)
      refine ⟨by omega, _, _, row_get t hi', ⟨_, rfl, by omega, by omega⟩, t.list.length - (i + 1), by omega, i + 1, ?_, by omega, rfl⟩
      have e1 : IntKind.wrap .i64 (((t.list.length + kidsN (t.list.take i) : Nat) : Int) + (t.list[i].2.nodes : Int)) = ((t.list.length + kidsN (t.list.take (i + 1)) : Nat) : Int) := by rw [w64 (by omega)]; omega
      rw [sizeF_rows, w64s (by omega), e1]
      rfl
    · simp only [decide_eq_false_iff_not] at g
      have : i = t.list.length := by omega
      subst this
      refine ⟨.auto, ?_⟩
      rw [List.take_length, ← hn]

theorem depT_app (b : List Edge) : ∀ a : List Edge, depT (Tr.of (a ++ b)) = max (depT (Tr.of a)) (depT (Tr.of b))
  | [] => by simp [Tr.of, depT]
  | e :: a => by
    have ih := depT_app b a
    have h1 : depT (Tr.of (e :: a ++ b)) = max (1 + depT e.2) (depT (Tr.of (a ++ b))) := rfl
    have h2 : depT (Tr.of (e :: a)) = max (1 + depT e.2) (depT (Tr.of a)) := rfl
    rw [h1, h2, ih]; omega
theorem depT_le : ∀ t : Tr, depT t ≤ t.nodes
  | .nil => by simp [depT]
  | .cons n k r => by
    have h1 := depT_le k
    have h2 := depT_le r
    simp only [depT, Tr.nodes]; omega
theorem depT_succ {l : List Edge} {i : Nat} (h : i < l.length) : depT (Tr.of (l.take (i + 1))) = max (depT (Tr.of (l.take i))) (1 + depT l[i].2) := by
  rw [List.take_succ_eq_append_getElem h, depT_app]
  simp [Tr.of, depT]
theorem depT_takeLe (t : Tr) (i : Nat) : depT (Tr.of (t.list.take i)) ≤ depT t := by
  have := depT_app (t.list.drop i) (t.list.take i)
  rw [List.take_append_drop, of_list] at this
  omega

theorem td_ev : ∀ (N : Nat) (t : Tr), t.nodes < N → t.nodes ≤ 4000000 → Ev C 39 [.pv (.sl t.rows)] ([.pv (.int .i64 (depF t.rows))], [])
  | 0, t, h, _ => by omega
  | N + 1, t, h, hb => by
    have hS : SpecOK C (S_td N) := specL_ok (specs_cons (num_ok (td_ev N)) specs_nil)
    have hl := rows_len t
    have hn := nodes_list t
    have hd := depT_le t
    refine ev_w hS (td_w N t.rows _) ?_
    rw [hl, depF_rows]
    refine loop_rule hS (by kernel_rfl) 1000 (fun m st => ∃ i : Nat, st = td_h0 ((depT (Tr.of (t.list.take i)) : Nat) : Int) t.rows t.list.length i ∧ i ≤ t.list.length ∧ m = t.list.length - i) ?_ (n := t.list.length) ⟨0, rfl, by omega, by omega⟩
    rintro m st ⟨i, rfl, hi, rfl⟩
    refine ex_w (td_l0 _ _ _ _ _ _ _ _) ⟨fun g => ?_, fun g => ?_⟩
    · simp only [decide_eq_true_eq] at g
      have hi' : i < t.list.length := by omega
      have hk := nodes_lt (List.getElem_mem hi')
      have hs := depT_succ hi'
      have hle := depT_takeLe t (i + 1)
      have hkd := depT_le t.list[i].2
      refine ⟨by omega, _, _, row_get t hi', ⟨_, rfl, by omega, by omega⟩, t.list.length - (i + 1), by omega, i + 1, ?_, by omega, rfl⟩
      have e1 : IntKind.wrap .i64 (1 + (depT t.list[i].2 : Int)) = ((1 + depT t.list[i].2 : Nat) : Int) := by rw [w64 (by omega)]; omega
      have e2 : (if ((1 + depT t.list[i].2 : Nat) : Int) > ((depT (Tr.of (t.list.take i)) : Nat) : Int) then ((1 + depT t.list[i].2 : Nat) : Int) else ((depT (Tr.of (t.list.take i)) : Nat) : Int)) = ((depT (Tr.of (t.list.take (i + 1))) : Nat) : Int) := by
        rw [hs]; split <;> omega
      rw [depF_rows, w64s (by omega), e1, e2]
      rfl
    · simp only [decide_eq_false_iff_not] at g
      have : i = t.list.length := by omega
      subst this
      refine ⟨.auto, ?_⟩
      rw [List.take_length, of_list]

theorem rde_ev : ∀ (N : Nat) (t : Tr), t.nodes < N → t.nodes ≤ 4000000 → Ev C 40 [.pv (.sl t.rows)] ([.pv (.int .i64 (depF t.rows))], [])
  | 0, t, h, _ => by omega
  | N + 1, t, h, hb => by
    have hS : SpecOK C (S_rd N) := specL_ok (specs_cons (num_ok (rde_ev N)) specs_nil)
    have hl := rows_len t
    have hn := nodes_list t
    have hd := depT_le t
    refine ev_w hS (rde_w N t.rows _) ?_
    rw [depF_rows]
    refine loop_rule hS (by kernel_rfl) 1000 (fun m st => ∃ i : Nat, st = rde_h0 t.rows ((depT (Tr.of (t.list.take i)) : Nat) : Int) i ∧ i ≤ t.list.length ∧ m = t.list.length - i) ?_ (n := t.list.length) ⟨0, rfl, by omega, by omega⟩
    rintro m st ⟨i, rfl, hi, rfl⟩
    refine ex_w (rde_l0 _ _ _ _ _ _ _) ?_
    rw [hl]
    refine ⟨fun g => ?_, fun g => ?_⟩
    · simp only [decide_eq_true_eq] at g
      have hi' : i < t.list.length := by omega
      have hk := nodes_lt (List.getElem_mem hi')
      have hs := depT_succ hi'
      have hle := depT_takeLe t (i + 1)
      have hkd := depT_le t.list[i].2
      refine ⟨by omega, _, _, row_get t hi', ⟨_, rfl, by omega, by omega⟩, t.list.length - (i + 1), by omega, i + 1, ?_, by omega, rfl⟩
      have e1 : IntKind.wrap .i64 (1 + (depT t.list[i].2 : Int)) = ((1 + depT t.list[i].2 : Nat) : Int) := by rw [w64 (by omega)]; omega
      have e2 : (if ((1 + depT t.list[i].2 : Nat) : Int) > ((depT (Tr.of (t.list.take i)) : Nat) : Int) then ((1 + depT t.list[i].2 : Nat) : Int) else ((depT (Tr.of (t.list.take i)) : Nat) : Int)) = ((depT (Tr.of (t.list.take (i + 1))) : Nat) : Int) := by
        rw [hs]; split <;> omega
      rw [depF_rows, w64s (by omega), e1, e2]
      rfl
    · simp only [decide_eq_false_iff_not] at g
      have : i = t.list.length := by omega
      subst this
      refine ⟨.auto, ?_⟩
      rw [List.take_length, of_list]

/-! ### Names -/
theorem lt_ext : ∀ {l m : List (List UInt8)}, l.Pairwise (· < ·) → m.Pairwise (· < ·) → (∀ x, x ∈ l ↔ x ∈ m) → l = m
  | [], [], _, _, _ => rfl
  | [], b :: m, _, _, h => by have := (h b).2 (by simp); simp at this
  | a :: l, [], _, _, h => by have := (h a).1 (by simp); simp at this
  | a :: l, b :: m, hl, hm, h => by
    rw [List.pairwise_cons] at hl hm
    have hab : a = b := by
      have h1 := (h a).1 (by simp)
      have h2 := (h b).2 (by simp)
      rw [List.mem_cons] at h1 h2
      rcases h1 with h1 | h1
      · exact h1
      · rcases h2 with h2 | h2
        · exact h2.symm
        · exact absurd (str_lt_trans (hl.1 b h2) (hm.1 a h1)) (str_lt_irrefl _)
    subst hab
    congr 1
    refine lt_ext hl.2 hm.2 fun x => ?_
    have hx := h x
    rw [List.mem_cons, List.mem_cons] at hx
    constructor
    · intro hm1
      rcases hx.1 (.inr hm1) with e | e
      · subst e; exact absurd (hl.1 _ hm1) (str_lt_irrefl _)
      · exact e
    · intro hm1
      rcases hx.2 (.inr hm1) with e | e
      · subst e; exact absurd (hm.1 _ hm1) (str_lt_irrefl _)
      · exact e
theorem with_names (l : List Edge) (n : List UInt8) (y : Tr) (x : List UInt8) : x ∈ (withE l n y).map Prod.fst ↔ x = n ∨ x ∈ l.map Prod.fst := by
  have hsplit : ∀ i, (x ∈ (l.take i).map Prod.fst ∨ x ∈ (l.drop i).map Prod.fst) ↔ x ∈ l.map Prod.fst := fun i => by
    rw [← List.mem_append, ← List.map_append, List.take_append_drop]
  unfold withE
  simp only [List.map_append, List.mem_append, List.map_cons, List.map_nil, List.mem_singleton]
  split
  · rename_i hb
    obtain ⟨z, hz⟩ := atB_get hb
    have hk := atB_lt hb
    rw [List.getElem?_eq_getElem hk] at hz
    simp only [Option.some.injEq] at hz
    rw [← hsplit (atK l n + 1), List.take_succ_eq_append_getElem hk, hz]
    simp only [List.map_append, List.mem_append, List.map_cons, List.map_nil, List.mem_singleton]
    constructor
    · rintro ((h | h) | h)
      · exact .inr (.inl (.inl h))
      · exact .inl h
      · exact .inr (.inr h)
    · rintro (h | (h | h) | h)
      · exact .inl (.inr h)
      · exact .inl (.inl h)
      · exact .inl (.inr h)
      · exact .inr h
  · rw [← hsplit (atK l n)]
    constructor
    · rintro ((h | h) | h)
      · exact .inr (.inl h)
      · exact .inl h
      · exact .inr (.inr h)
    · rintro (h | h | h)
      · exact .inl (.inr h)
      · exact .inl (.inl h)
      · exact .inr h

theorem allT_mem {ts : List Tr} {x : List UInt8} : x ∈ allT ts ↔ ∃ t ∈ ts, x ∈ t.list.map Prod.fst := by
  unfold allT namesT
  simp only [List.mem_flatMap]

theorem rnm_S : SpecOK C S_rnm := specL_ok (specs_cons with_ok specs_nil)
theorem trow_get (ts : List Tr) {i : Nat} (h : i < ts.length) : (ts.map trow)[Int.toNat (i : Int)]? = some [.sl ts[i].rows] := by
  rw [Int.toNat_natCast, List.getElem?_map, List.getElem?_eq_getElem h]; rfl
theorem allT_lenTake {ts : List Tr} (h : ∀ t ∈ ts, t.list.length ≤ 4000) (i : Nat) : (allT (ts.take i)).length ≤ 4000 * i := by
  have := allT_len (ts := ts.take i) fun t ht => h t (List.mem_of_mem_take ht)
  have h2 : (ts.take i).length ≤ i := by rw [List.length_take]; omega
  omega

theorem rnm_ev (ts : List Tr) (hl : ts.length ≤ 10) (h4 : ∀ t ∈ ts, t.list.length ≤ 4000) : Ev C 41 [.pv (.sl (ts.map trow))] ([.own 1 (namesR (ts.map trow))], []) := by
  have hr := room_val
  have hm := maxInt_val
  have hal : allR (ts.map trow) = allT ts := allR_map ts
  have hR : namesR (ts.map trow) = (namesF (allT ts)).map strRow := by unfold namesR; rw [hal]
  have hlen : (ts.map trow).length = ts.length := List.length_map _
  rw [hR]
  refine ev_w rnm_S (rnm_w (ts.map trow) _) ?_
  refine loop_rule rnm_S (by kernel_rfl) 1000 (fun m st => ∃ (i : Nat) (l : List Edge), st = rnm_h0 (ts.map trow) i (Tr.of l).rows ∧ sortE none l ∧ (∀ x, x ∈ l.map Prod.fst ↔ x ∈ allT (ts.take i)) ∧ l.length ≤ 4000 * i ∧ i ≤ ts.length ∧ m = ts.length - i) ?_ (n := ts.length) ⟨0, [], rfl, trivial, by simp [allT], by simp, by omega, by omega⟩
  rintro m st ⟨i, l, rfl, hs, hn, hll, hi, rfl⟩
  refine ex_w (rnm_l0 _ _ _ _ _ _) ?_
  rw [hlen]
  refine ⟨fun g => ?_, fun g => ?_⟩
  · simp only [decide_eq_true_eq] at g
    have hi' : i < ts.length := by omega
    have hg := trow_get ts hi'
    have ht4 := h4 _ (List.getElem_mem hi')
    refine loop_rule rnm_S (by kernel_rfl) 1000 (fun m st => ∃ (j : Nat) (l' : List Edge), st = rnm_h1 (ts.map trow) i j (Tr.of l').rows ∧ sortE none l' ∧ (∀ x, x ∈ l'.map Prod.fst ↔ x ∈ allT (ts.take i) ∨ x ∈ (ts[i].list.take j).map Prod.fst) ∧ l'.length ≤ 4000 * i + j ∧ j ≤ ts[i].list.length ∧ m = ts[i].list.length - j) ?_ (n := ts[i].list.length) ⟨0, l, rfl, hs, by simpa using hn, by omega, by omega, by omega⟩
    rintro m st ⟨j, l', rfl, hs', hn', hll', hj, rfl⟩
    refine ex_w (rnm_l1 _ _ _ _ _ _ _ _) ⟨by omega, _, hg, fun g2 => ?_, fun g2 => ?_⟩
    · rw [rows_len] at g2
      simp only [decide_eq_true_eq] at g2
      have hj' : j < ts[i].list.length := by omega
      rw [unrow_rows, list_of, show unrow [] = Tr.nil from unrow_rows .nil]
      refine ⟨by omega, _, hg, by omega, _, _, row_get ts[i] hj', ⟨Tr.of l', .nil, rfl, rfl, by rw [list_of]; omega⟩, ts[i].list.length - (j + 1), by omega, j + 1, withE l' ts[i].list[j].1 .nil, by rw [w64s (by omega)]; rfl, sortE_drop _ _ hs' rfl, fun x => ?_, ?_, by omega, rfl⟩
      · rw [with_names, hn' x, List.take_succ_eq_append_getElem hj', List.map_append, List.mem_append]
        simp only [List.map_cons, List.map_nil, List.mem_singleton]
        constructor
        · rintro (h | h | h)
          · exact .inr (.inr h)
          · exact .inl h
          · exact .inr (.inl h)
        · rintro (h | h | h)
          · exact .inr (.inl h)
          · exact .inr (.inr h)
          · exact .inl h
      · have := withE_len l' ts[i].list[j].1 .nil; omega
    · rw [rows_len] at g2
      simp only [decide_eq_false_iff_not] at g2
      have : j = ts[i].list.length := by omega
      subst this
      refine ⟨.auto, ts.length - (i + 1), by omega, i + 1, l', by rw [w64s (by omega)]; rfl, hs', fun x => ?_, by omega, by omega, rfl⟩
      rw [hn' x, List.take_length, allT_take ts hi', List.mem_append]
      rfl
  · simp only [decide_eq_false_iff_not] at g
    have : i = ts.length := by omega
    subst this
    rw [List.take_length] at hn
    have hfin : l.map Prod.fst = namesF (allT ts) := lt_ext (srt_names hs) (namesF_lt _) fun x => by rw [hn x, namesF_mem]
    have hol : ((Tr.of l).rows).length = l.length := by rw [rows_len, list_of]
    refine ex_w (rnm_x2 _ _ _ _ _ _ _ _) ?_
    refine loop_rule rnm_S (by kernel_rfl) 1000 (fun m st => ∃ j : Nat, st = rnm_h3 j (Tr.of l).rows (((l.map Prod.fst).take j).map strRow) ∧ j ≤ l.length ∧ m = l.length - j) ?_ (n := l.length) ⟨0, rfl, by omega, by omega⟩
    rintro m st ⟨j, rfl, hj, rfl⟩
    refine ex_w (rnm_l3 _ _ _ _ _ _) ?_
    rw [hol]
    refine ⟨fun g2 => ?_, fun g2 => ?_⟩
    · simp only [decide_eq_true_eq] at g2
      have hj' : j < l.length := by omega
      have hrow : (Tr.of l).rows[Int.toNat (j : Int)]? = some [.str l[j].1, .sl l[j].2.rows] := by
        rw [Int.toNat_natCast, rows_of, List.getElem?_map, List.getElem?_eq_getElem hj']; rfl
      refine ⟨⟨by omega, by omega⟩, _, hrow, by simp, l[j].1, rfl, ⟨by simp only [List.length_map, List.length_take]; omega, by simp only [List.length_map, List.length_take]; omega⟩, l.length - (j + 1), by omega, j + 1, ?_, by omega, rfl⟩
      rw [w64s (by omega), List.take_succ_eq_append_getElem (by rw [List.length_map]; exact hj'), List.map_append, List.getElem_map]
      rfl
    · simp only [decide_eq_false_iff_not] at g2
      have : j = l.length := by omega
      subst this
      refine ⟨.auto, ?_⟩
      rw [List.take_of_length_le (by rw [List.length_map]; exact Nat.le_refl _), hfin]

theorem rnames_ok : ∀ ag al, g_names ag = some al → ∀ a ∈ al, a.1 → Ev C 41 ag a.2 := by
  intro ag al hl x hx hp
  unfold g_names at hl
  split at hl
  · have e := one_mem hl hx; subst e
    obtain ⟨ts, rfl, h1, h2⟩ := hp
    exact rnm_ev ts h1 h2
  · exact absurd hl (by simp)

end Go.Proofs.Ytmjkdghcfihfiaa.Vm
