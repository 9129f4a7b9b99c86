/-
  Trim, both, in the machine.
-/
import Derived.Test.YtpcjlhhhmjgffaaDoorVmCommon
namespace Go.Proofs.YtpcjlhhhmjgffaaDoor.Vm
open Go Go.RowKit
set_option linter.unusedVariables false
set_option linter.unusedSimpArgs false
set_option maxRecDepth 100000

def trL (s : List UInt8) : List UInt8 := Lib.trimLeftS s [32, 9]
def trR (s : List UInt8) : List UInt8 := Lib.trimRightS s [32, 9]

def g_trL : List TV → Option Alts
  | [.pv (.str s), .pv (.str c)] => if c = [32, 9] then one True ([.pv (.str (trL s))], []) else none
  | _ => none
def g_trR : List TV → Option Alts
  | [.pv (.str s), .pv (.str c)] => if c = [32, 9] then one (s.length ≤ room) ([.pv (.str (trR s))], []) else none
  | _ => none

def S_lt : Specs := specL [(10, g_trL), (11, g_trR)]

theorem lt_w (s : List UInt8) (Q : List TV × List TV → Prop) : (wFun C S_lt 6 [.pv (.str s)] Q) (H.s (H.s H.auto)) = (True ∧ List.length (trL s) ≤ room ∧ ((0 : Int) ≤ (0 : Int) ∧ (0 : Int) ≤ IntKind.wrap IntKind.i64 ((↑(List.length s) : Int) - (↑(List.length (trL s)) : Int)) ∧ IntKind.wrap IntKind.i64 ((↑(List.length s) : Int) - (↑(List.length (trL s)) : Int)) ≤ Int.ofNat (List.length s)) ∧ ((0 : Int) ≤ (↑(List.length (trR (trL s))) : Int) ∧ (↑(List.length (trR (trL s))) : Int) ≤ Int.ofNat (List.length (trL s)) ∧ Int.ofNat (List.length (trL s)) ≤ Int.ofNat (List.length (trL s))) ∧ Q ([TV.pv (PV.str (List.take (Int.toNat (IntKind.wrap IntKind.i64 ((↑(List.length s) : Int) - (↑(List.length (trL s)) : Int))) - (0 : Nat)) s)), TV.pv (PV.str (trR (trL s))), TV.pv (PV.str (List.take (Int.toNat (Int.ofNat (List.length (trL s))) - Int.toNat (↑(List.length (trR (trL s))) : Int)) (List.drop (Int.toNat (↑(List.length (trR (trL s))) : Int)) (trL s))))], [])) := by kernel_rfl

def blI (c : Int) : Bool := c == 32 || c == 9

theorem bl_w (c : Int) (Q : List TV × List TV → Prop) : (wFun C noSpec 12 [.pv (.int .u8 c)] Q) (H.b H.auto H.auto) = (((c == (32 : Int)) = true → Q ([TV.pv (PV.bool true)], [])) ∧ ((c == (32 : Int)) = false → Q ([TV.pv (PV.bool (c == (9 : Int)))], []))) := by kernel_rfl

def g_bl : List TV → Option Alts
  | [.pv (.int .u8 c)] => one True ([.pv (.bool (blI c))], [])
  | _ => none

def S_ft : Specs := specL [(12, g_bl)]

theorem ft_w (s : List UInt8) (Q : List TV × List TV → Prop) : (wFun C S_ft 7 [.pv (.str s)] Q) (H.auto) = (LoopAt C (7 : FuncId) (CP.dn (CP.dn (CP.dn (CP.dn CP.top (1 : Nat)) (1 : Nat)) (0 : Nat)) (0 : Nat)) (St.mk [((0 : Nat), AV.pv (PV.str s)), ((5 : Nat), AV.pv (PV.int IntKind.i64 (0 : Int)))] []) (exK (blockK (0 : Nat) (seqK (wAt C S_ft (7 : FuncId) (99997 : Nat) (CP.dn (CP.dn (CP.dn CP.top (1 : Nat)) (1 : Nat)) (1 : Nat))) (retK C (7 : FuncId) [TV.pv (PV.str s)] Q))))) := by kernel_rfl

def ft_c0 : CP := (CP.dn (CP.dn (CP.dn (CP.dn CP.top (1 : Nat)) (1 : Nat)) (0 : Nat)) (0 : Nat))

def ft_h0 (t0 : List UInt8) (t5 : Int) : St := (St.mk [((0 : Nat), AV.pv (PV.str t0)), ((5 : Nat), AV.pv (PV.int IntKind.i64 t5))] [])

theorem ft_l0 (s : List UInt8) (t0 : List UInt8) (t5 : Int)  (J0 : St → Prop) (Q : List TV × List TV → Prop) : (wAt C S_ft 7 1000 (ft_c0.dn 0) (ft_h0 t0 t5) (loopK C 7 ft_c0 J0 (exK (blockK (0 : Nat) (seqK (wAt C S_ft (7 : FuncId) (99997 : Nat) (CP.dn (CP.dn (CP.dn CP.top (1 : Nat)) (1 : Nat)) (1 : Nat))) (retK C (7 : FuncId) [TV.pv (PV.str s)] Q)))))) (H.b (H.n (2 : Nat) (H.s (H.s (H.n (2 : Nat) (H.b H.auto H.auto))))) H.auto) = ((decide (t5 < (↑(List.length t0) : Int)) = true → (0 : Int) ≤ t5 ∧ ∃ (c : UInt8), t0[Int.toNat t5]? = some c ∧ True ∧ (blI (↑(UInt8.toNat c) : Int) = true → J0 (St.mk [((0 : Nat), AV.pv (PV.str t0)), ((5 : Nat), AV.pv (PV.int IntKind.i64 (IntKind.wrap IntKind.i64 (t5 + (1 : Int)))))] [])) ∧ (blI (↑(UInt8.toNat c) : Int) = false → exK (blockK (0 : Nat) (seqK (wAt C S_ft (7 : FuncId) (99997 : Nat) (CP.dn (CP.dn (CP.dn CP.top (1 : Nat)) (1 : Nat)) (1 : Nat))) (retK C (7 : FuncId) [TV.pv (PV.str s)] Q))) (Ex.exit (0 : Nat)) (St.mk [((16 : Nat), AV.pv (PV.bool false)), ((15 : Nat), AV.pv (PV.bool (blI (↑(UInt8.toNat c) : Int)))), ((14 : Nat), AV.pv (PV.int IntKind.u8 (↑(UInt8.toNat c) : Int))), ((13 : Nat), AV.pv (PV.int IntKind.i64 t5)), ((12 : Nat), AV.pv (PV.str t0)), ((11 : Nat), AV.pv (PV.bool true)), ((10 : Nat), AV.pv (PV.bool (decide (t5 < (↑(List.length t0) : Int))))), ((9 : Nat), AV.pv (PV.int IntKind.i64 (↑(List.length t0) : Int))), ((8 : Nat), AV.pv (PV.str t0)), ((7 : Nat), AV.pv (PV.int IntKind.i64 t5)), ((0 : Nat), AV.pv (PV.str t0)), ((5 : Nat), AV.pv (PV.int IntKind.i64 t5))] []))) ∧ (decide (t5 < (↑(List.length t0) : Int)) = false → exK (blockK (0 : Nat) (seqK (wAt C S_ft (7 : FuncId) (99997 : Nat) (CP.dn (CP.dn (CP.dn CP.top (1 : Nat)) (1 : Nat)) (1 : Nat))) (retK C (7 : FuncId) [TV.pv (PV.str s)] Q))) (Ex.exit (0 : Nat)) (St.mk [((16 : Nat), AV.pv (PV.bool false)), ((15 : Nat), AV.tup []), ((14 : Nat), AV.tup []), ((13 : Nat), AV.tup []), ((12 : Nat), AV.tup []), ((11 : Nat), AV.pv (PV.bool false)), ((10 : Nat), AV.pv (PV.bool (decide (t5 < (↑(List.length t0) : Int))))), ((9 : Nat), AV.pv (PV.int IntKind.i64 (↑(List.length t0) : Int))), ((8 : Nat), AV.pv (PV.str t0)), ((7 : Nat), AV.pv (PV.int IntKind.i64 t5)), ((0 : Nat), AV.pv (PV.str t0)), ((5 : Nat), AV.pv (PV.int IntKind.i64 t5))] []))) := by kernel_rfl

def ft_s1 (t15 : Bool) (t14 : Int) (t13 : Int) (t12 : List UInt8) (t10 : Bool) (t9 : Int) (t8 : List UInt8) (t7 : Int) (t0 : List UInt8) (t5 : Int) : St := (St.mk [((16 : Nat), AV.pv (PV.bool false)), ((15 : Nat), AV.pv (PV.bool t15)), ((14 : Nat), AV.pv (PV.int IntKind.u8 t14)), ((13 : Nat), AV.pv (PV.int IntKind.i64 t13)), ((12 : Nat), AV.pv (PV.str t12)), ((11 : Nat), AV.pv (PV.bool true)), ((10 : Nat), AV.pv (PV.bool t10)), ((9 : Nat), AV.pv (PV.int IntKind.i64 t9)), ((8 : Nat), AV.pv (PV.str t8)), ((7 : Nat), AV.pv (PV.int IntKind.i64 t7)), ((0 : Nat), AV.pv (PV.str t0)), ((5 : Nat), AV.pv (PV.int IntKind.i64 t5))] [])

def ft_s2 (t10 : Bool) (t9 : Int) (t8 : List UInt8) (t7 : Int) (t0 : List UInt8) (t5 : Int) : St := (St.mk [((16 : Nat), AV.pv (PV.bool false)), ((15 : Nat), AV.tup []), ((14 : Nat), AV.tup []), ((13 : Nat), AV.tup []), ((12 : Nat), AV.tup []), ((11 : Nat), AV.pv (PV.bool false)), ((10 : Nat), AV.pv (PV.bool t10)), ((9 : Nat), AV.pv (PV.int IntKind.i64 t9)), ((8 : Nat), AV.pv (PV.str t8)), ((7 : Nat), AV.pv (PV.int IntKind.i64 t7)), ((0 : Nat), AV.pv (PV.str t0)), ((5 : Nat), AV.pv (PV.int IntKind.i64 t5))] [])

theorem ft_x1 (s : List UInt8) (t15 : Bool) (t14 : Int) (t13 : Int) (t12 : List UInt8) (t10 : Bool) (t9 : Int) (t8 : List UInt8) (t7 : Int) (t0 : List UInt8) (t5 : Int)  (Q : List TV × List TV → Prop) : (fun h => blockK (0 : Nat) (seqK (wAt C S_ft (7 : FuncId) (99997 : Nat) (CP.dn (CP.dn (CP.dn CP.top (1 : Nat)) (1 : Nat)) (1 : Nat))) (retK C (7 : FuncId) [TV.pv (PV.str s)] Q)) h (Ex.exit (0 : Nat)) (ft_s1 t15 t14 t13 t12 t10 t9 t8 t7 t0 t5)) (H.auto) = (LoopAt C (7 : FuncId) (CP.dn (CP.dn (CP.dn (CP.dn (CP.dn (CP.dn CP.top (1 : Nat)) (1 : Nat)) (1 : Nat)) (1 : Nat)) (0 : Nat)) (0 : Nat)) (St.mk [((0 : Nat), AV.pv (PV.str t0)), ((5 : Nat), AV.pv (PV.int IntKind.i64 t5)), ((6 : Nat), AV.pv (PV.int IntKind.i64 (↑(List.length t0) : Int)))] []) (exK (blockK (2 : Nat) (seqK (wAt C S_ft (7 : FuncId) (99995 : Nat) (CP.dn (CP.dn (CP.dn (CP.dn (CP.dn CP.top (1 : Nat)) (1 : Nat)) (1 : Nat)) (1 : Nat)) (1 : Nat))) (retK C (7 : FuncId) [TV.pv (PV.str s)] Q))))) := by kernel_rfl

def ft_c3 : CP := (CP.dn (CP.dn (CP.dn (CP.dn (CP.dn (CP.dn CP.top (1 : Nat)) (1 : Nat)) (1 : Nat)) (1 : Nat)) (0 : Nat)) (0 : Nat))

def ft_h3 (t0 : List UInt8) (t5 : Int) (t6 : Int) : St := (St.mk [((0 : Nat), AV.pv (PV.str t0)), ((5 : Nat), AV.pv (PV.int IntKind.i64 t5)), ((6 : Nat), AV.pv (PV.int IntKind.i64 t6))] [])

theorem ft_x2 (s : List UInt8) (t10 : Bool) (t9 : Int) (t8 : List UInt8) (t7 : Int) (t0 : List UInt8) (t5 : Int)  (Q : List TV × List TV → Prop) : (fun h => blockK (0 : Nat) (seqK (wAt C S_ft (7 : FuncId) (99997 : Nat) (CP.dn (CP.dn (CP.dn CP.top (1 : Nat)) (1 : Nat)) (1 : Nat))) (retK C (7 : FuncId) [TV.pv (PV.str s)] Q)) h (Ex.exit (0 : Nat)) (ft_s2 t10 t9 t8 t7 t0 t5)) (H.auto) = (LoopAt C (7 : FuncId) (CP.dn (CP.dn (CP.dn (CP.dn (CP.dn (CP.dn CP.top (1 : Nat)) (1 : Nat)) (1 : Nat)) (1 : Nat)) (0 : Nat)) (0 : Nat)) (St.mk [((0 : Nat), AV.pv (PV.str t0)), ((5 : Nat), AV.pv (PV.int IntKind.i64 t5)), ((6 : Nat), AV.pv (PV.int IntKind.i64 (↑(List.length t0) : Int)))] []) (exK (blockK (2 : Nat) (seqK (wAt C S_ft (7 : FuncId) (99995 : Nat) (CP.dn (CP.dn (CP.dn (CP.dn (CP.dn CP.top (1 : Nat)) (1 : Nat)) (1 : Nat)) (1 : Nat)) (1 : Nat))) (retK C (7 : FuncId) [TV.pv (PV.str s)] Q))))) := by kernel_rfl

theorem ft_l3 (s : List UInt8) (t0 : List UInt8) (t5 : Int) (t6 : Int)  (J3 : St → Prop) (Q : List TV × List TV → Prop) : (wAt C S_ft 7 1000 (ft_c3.dn 0) (ft_h3 t0 t5 t6) (loopK C 7 ft_c3 J3 (exK (blockK (2 : Nat) (seqK (wAt C S_ft (7 : FuncId) (99995 : Nat) (CP.dn (CP.dn (CP.dn (CP.dn (CP.dn CP.top (1 : Nat)) (1 : Nat)) (1 : Nat)) (1 : Nat)) (1 : Nat))) (retK C (7 : FuncId) [TV.pv (PV.str s)] Q)))))) (H.b (H.n (3 : Nat) (H.s (H.s (H.n (2 : Nat) (H.b H.auto H.auto))))) H.auto) = ((decide (t6 > t5) = true → (0 : Int) ≤ IntKind.wrap IntKind.i64 (t6 - (1 : Int)) ∧ ∃ (c : UInt8), t0[Int.toNat (IntKind.wrap IntKind.i64 (t6 - (1 : Int)))]? = some c ∧ True ∧ (blI (↑(UInt8.toNat c) : Int) = true → J3 (St.mk [((0 : Nat), AV.pv (PV.str t0)), ((5 : Nat), AV.pv (PV.int IntKind.i64 t5)), ((6 : Nat), AV.pv (PV.int IntKind.i64 (IntKind.wrap IntKind.i64 (t6 - (1 : Int)))))] [])) ∧ (blI (↑(UInt8.toNat c) : Int) = false → exK (blockK (2 : Nat) (seqK (wAt C S_ft (7 : FuncId) (99995 : Nat) (CP.dn (CP.dn (CP.dn (CP.dn (CP.dn CP.top (1 : Nat)) (1 : Nat)) (1 : Nat)) (1 : Nat)) (1 : Nat))) (retK C (7 : FuncId) [TV.pv (PV.str s)] Q))) (Ex.exit (2 : Nat)) (St.mk [((30 : Nat), AV.pv (PV.bool false)), ((29 : Nat), AV.pv (PV.bool (blI (↑(UInt8.toNat c) : Int)))), ((28 : Nat), AV.pv (PV.int IntKind.u8 (↑(UInt8.toNat c) : Int))), ((27 : Nat), AV.pv (PV.int IntKind.i64 (IntKind.wrap IntKind.i64 (t6 - (1 : Int))))), ((26 : Nat), AV.pv (PV.int IntKind.i64 t6)), ((25 : Nat), AV.pv (PV.str t0)), ((24 : Nat), AV.pv (PV.bool true)), ((23 : Nat), AV.pv (PV.bool (decide (t6 > t5)))), ((22 : Nat), AV.pv (PV.int IntKind.i64 t5)), ((21 : Nat), AV.pv (PV.int IntKind.i64 t6)), ((0 : Nat), AV.pv (PV.str t0)), ((5 : Nat), AV.pv (PV.int IntKind.i64 t5)), ((6 : Nat), AV.pv (PV.int IntKind.i64 t6))] []))) ∧ (decide (t6 > t5) = false → exK (blockK (2 : Nat) (seqK (wAt C S_ft (7 : FuncId) (99995 : Nat) (CP.dn (CP.dn (CP.dn (CP.dn (CP.dn CP.top (1 : Nat)) (1 : Nat)) (1 : Nat)) (1 : Nat)) (1 : Nat))) (retK C (7 : FuncId) [TV.pv (PV.str s)] Q))) (Ex.exit (2 : Nat)) (St.mk [((30 : Nat), AV.pv (PV.bool false)), ((29 : Nat), AV.tup []), ((28 : Nat), AV.tup []), ((27 : Nat), AV.tup []), ((26 : Nat), AV.tup []), ((25 : Nat), AV.tup []), ((24 : Nat), AV.pv (PV.bool false)), ((23 : Nat), AV.pv (PV.bool (decide (t6 > t5)))), ((22 : Nat), AV.pv (PV.int IntKind.i64 t5)), ((21 : Nat), AV.pv (PV.int IntKind.i64 t6)), ((0 : Nat), AV.pv (PV.str t0)), ((5 : Nat), AV.pv (PV.int IntKind.i64 t5)), ((6 : Nat), AV.pv (PV.int IntKind.i64 t6))] []))) := by kernel_rfl

def ft_s4 (t29 : Bool) (t28 : Int) (t27 : Int) (t26 : Int) (t25 : List UInt8) (t23 : Bool) (t22 : Int) (t21 : Int) (t0 : List UInt8) (t5 : Int) (t6 : Int) : St := (St.mk [((30 : Nat), AV.pv (PV.bool false)), ((29 : Nat), AV.pv (PV.bool t29)), ((28 : Nat), AV.pv (PV.int IntKind.u8 t28)), ((27 : Nat), AV.pv (PV.int IntKind.i64 t27)), ((26 : Nat), AV.pv (PV.int IntKind.i64 t26)), ((25 : Nat), AV.pv (PV.str t25)), ((24 : Nat), AV.pv (PV.bool true)), ((23 : Nat), AV.pv (PV.bool t23)), ((22 : Nat), AV.pv (PV.int IntKind.i64 t22)), ((21 : Nat), AV.pv (PV.int IntKind.i64 t21)), ((0 : Nat), AV.pv (PV.str t0)), ((5 : Nat), AV.pv (PV.int IntKind.i64 t5)), ((6 : Nat), AV.pv (PV.int IntKind.i64 t6))] [])

def ft_s5 (t23 : Bool) (t22 : Int) (t21 : Int) (t0 : List UInt8) (t5 : Int) (t6 : Int) : St := (St.mk [((30 : Nat), AV.pv (PV.bool false)), ((29 : Nat), AV.tup []), ((28 : Nat), AV.tup []), ((27 : Nat), AV.tup []), ((26 : Nat), AV.tup []), ((25 : Nat), AV.tup []), ((24 : Nat), AV.pv (PV.bool false)), ((23 : Nat), AV.pv (PV.bool t23)), ((22 : Nat), AV.pv (PV.int IntKind.i64 t22)), ((21 : Nat), AV.pv (PV.int IntKind.i64 t21)), ((0 : Nat), AV.pv (PV.str t0)), ((5 : Nat), AV.pv (PV.int IntKind.i64 t5)), ((6 : Nat), AV.pv (PV.int IntKind.i64 t6))] [])

theorem ft_x4 (s : List UInt8) (t29 : Bool) (t28 : Int) (t27 : Int) (t26 : Int) (t25 : List UInt8) (t23 : Bool) (t22 : Int) (t21 : Int) (t0 : List UInt8) (t5 : Int) (t6 : Int)  (Q : List TV × List TV → Prop) : (fun h => blockK (2 : Nat) (seqK (wAt C S_ft (7 : FuncId) (99995 : Nat) (CP.dn (CP.dn (CP.dn (CP.dn (CP.dn CP.top (1 : Nat)) (1 : Nat)) (1 : Nat)) (1 : Nat)) (1 : Nat))) (retK C (7 : FuncId) [TV.pv (PV.str s)] Q)) h (Ex.exit (2 : Nat)) (ft_s4 t29 t28 t27 t26 t25 t23 t22 t21 t0 t5 t6)) (H.s (H.s (H.s H.auto))) = (((0 : Int) ≤ (0 : Int) ∧ (0 : Int) ≤ t5 ∧ t5 ≤ Int.ofNat (List.length t0)) ∧ ((0 : Int) ≤ t5 ∧ t5 ≤ t6 ∧ t6 ≤ Int.ofNat (List.length t0)) ∧ ((0 : Int) ≤ t6 ∧ t6 ≤ Int.ofNat (List.length t0) ∧ Int.ofNat (List.length t0) ≤ Int.ofNat (List.length t0)) ∧ Q ([TV.pv (PV.str (List.take (Int.toNat t5 - (0 : Nat)) t0)), TV.pv (PV.str (List.take (Int.toNat t6 - Int.toNat t5) (List.drop (Int.toNat t5) t0))), TV.pv (PV.str (List.take (Int.toNat (Int.ofNat (List.length t0)) - Int.toNat t6) (List.drop (Int.toNat t6) t0)))], [])) := by kernel_rfl

theorem ft_x5 (s : List UInt8) (t23 : Bool) (t22 : Int) (t21 : Int) (t0 : List UInt8) (t5 : Int) (t6 : Int)  (Q : List TV × List TV → Prop) : (fun h => blockK (2 : Nat) (seqK (wAt C S_ft (7 : FuncId) (99995 : Nat) (CP.dn (CP.dn (CP.dn (CP.dn (CP.dn CP.top (1 : Nat)) (1 : Nat)) (1 : Nat)) (1 : Nat)) (1 : Nat))) (retK C (7 : FuncId) [TV.pv (PV.str s)] Q)) h (Ex.exit (2 : Nat)) (ft_s5 t23 t22 t21 t0 t5 t6)) (H.s (H.s (H.s H.auto))) = (((0 : Int) ≤ (0 : Int) ∧ (0 : Int) ≤ t5 ∧ t5 ≤ Int.ofNat (List.length t0)) ∧ ((0 : Int) ≤ t5 ∧ t5 ≤ t6 ∧ t6 ≤ Int.ofNat (List.length t0)) ∧ ((0 : Int) ≤ t6 ∧ t6 ≤ Int.ofNat (List.length t0) ∧ Int.ofNat (List.length t0) ≤ Int.ofNat (List.length t0)) ∧ Q ([TV.pv (PV.str (List.take (Int.toNat t5 - (0 : Nat)) t0)), TV.pv (PV.str (List.take (Int.toNat t6 - Int.toNat t5) (List.drop (Int.toNat t5) t0))), TV.pv (PV.str (List.take (Int.toNat (Int.ofNat (List.length t0)) - Int.toNat t6) (List.drop (Int.toNat t6) t0)))], [])) := by kernel_rfl

theorem wt_w (a n : Int) (Q : List TV × List TV → Prop) : (wFun C noSpec 9 [.pv (.int .i64 a), .pv (.int .i64 n)] Q) (H.s (H.b H.auto H.auto)) = (¬n = (0 : Int) ∧ (decide (Int.tmod a n < (0 : Int)) = true → Q ([TV.pv (PV.int IntKind.i64 (IntKind.wrap IntKind.i64 (Int.tmod a n + n)))], [])) ∧ (decide (Int.tmod a n < (0 : Int)) = false → Q ([TV.pv (PV.int IntKind.i64 (Int.tmod a n))], []))) := by kernel_rfl

def S_tx : Specs := specL [(9, g_within)]

theorem tx_w (a : List (List PV)) (Q : List TV × List TV → Prop) : (wFun C S_tx 5 [.pv (.sl a)] Q) (H.auto) = (LoopAt C (5 : FuncId) (CP.dn (CP.dn (CP.dn (CP.dn (CP.dn CP.top (1 : Nat)) (1 : Nat)) (0 : Nat)) (1 : Nat)) (0 : Nat)) (St.mk [((0 : Nat), AV.pv (PV.sl a)), ((3 : Nat), AV.pv (PV.str [])), ((4 : Nat), AV.pv (PV.int IntKind.i64 (0 : Int)))] []) (exK (blockK (0 : Nat) (seqK (wAt C S_tx (5 : FuncId) (99997 : Nat) (CP.dn (CP.dn (CP.dn CP.top (1 : Nat)) (1 : Nat)) (1 : Nat))) (retK C (5 : FuncId) [TV.pv (PV.sl a)] Q))))) := by kernel_rfl

def tx_c0 : CP := (CP.dn (CP.dn (CP.dn (CP.dn (CP.dn CP.top (1 : Nat)) (1 : Nat)) (0 : Nat)) (1 : Nat)) (0 : Nat))

def tx_h0 (t0 : List (List PV)) (t3 : List UInt8) (t4 : Int) : St := (St.mk [((0 : Nat), AV.pv (PV.sl t0)), ((3 : Nat), AV.pv (PV.str t3)), ((4 : Nat), AV.pv (PV.int IntKind.i64 t4))] [])

theorem tx_l0 (a : List (List PV)) (t0 : List (List PV)) (t3 : List UInt8) (t4 : Int)  (J0 : St → Prop) (Q : List TV × List TV → Prop) : (wAt C S_tx 5 1000 (tx_c0.dn 0) (tx_h0 t0 t3 t4) (loopK C 5 tx_c0 J0 (exK (blockK (0 : Nat) (seqK (wAt C S_tx (5 : FuncId) (99997 : Nat) (CP.dn (CP.dn (CP.dn CP.top (1 : Nat)) (1 : Nat)) (1 : Nat))) (retK C (5 : FuncId) [TV.pv (PV.sl a)] Q)))))) (H.b (H.n (2 : Nat) (H.b (H.s (H.s (H.s (H.s (H.s H.auto))))) H.auto)) H.auto) = ((decide (t4 < (↑(List.length t0) : Int)) = true → (decide (t4 < (60 : Int)) = true → (0 : Int) ≤ t4 ∧ ∃ (n : Int), t0[Int.toNat t4]? = some [PV.int IntKind.i64 n] ∧ ¬(10 : Int) = (0 : Int) ∧ ((0 : Int) ≤ wi n (10 : Int) ∧ wi n (10 : Int) < (10 : Int)) ∧ ∃ (c : List PV), [[PV.str [(97 : UInt8)]], [PV.str [(98 : UInt8), (32 : UInt8), (99 : UInt8)]], [PV.str [(32 : UInt8)]], [PV.str [(9 : UInt8)]], [PV.str [(10 : UInt8)]], [PV.str [(13 : UInt8), (10 : UInt8)]], [PV.str [(13 : UInt8)]], [PV.str [(10 : UInt8)]], [PV.str [(61 : UInt8)]], [PV.str []]][Int.toNat (wi n (10 : Int))]? = some c ∧ (1 : Nat) ≤ List.length c ∧ ∃ (s : List UInt8), List.take (1 : Nat) c = [PV.str s] ∧ List.length t3 + List.length s ≤ maxInt ∧ J0 (St.mk [((0 : Nat), AV.pv (PV.sl t0)), ((3 : Nat), AV.pv (PV.str (t3 ++ s))), ((4 : Nat), AV.pv (PV.int IntKind.i64 (IntKind.wrap IntKind.i64 (t4 + (1 : Int)))))] [])) ∧ (decide (t4 < (60 : Int)) = false → exK (blockK (0 : Nat) (seqK (wAt C S_tx (5 : FuncId) (99997 : Nat) (CP.dn (CP.dn (CP.dn CP.top (1 : Nat)) (1 : Nat)) (1 : Nat))) (retK C (5 : FuncId) [TV.pv (PV.sl a)] Q))) (Ex.exit (0 : Nat)) (St.mk [((12 : Nat), AV.pv (PV.bool false)), ((11 : Nat), AV.pv (PV.bool (decide (t4 < (60 : Int))))), ((10 : Nat), AV.pv (PV.int IntKind.i64 t4)), ((9 : Nat), AV.pv (PV.bool true)), ((8 : Nat), AV.pv (PV.bool (decide (t4 < (↑(List.length t0) : Int))))), ((7 : Nat), AV.pv (PV.int IntKind.i64 (↑(List.length t0) : Int))), ((6 : Nat), AV.pv (PV.sl t0)), ((5 : Nat), AV.pv (PV.int IntKind.i64 t4)), ((0 : Nat), AV.pv (PV.sl t0)), ((3 : Nat), AV.pv (PV.str t3)), ((4 : Nat), AV.pv (PV.int IntKind.i64 t4))] []))) ∧ (decide (t4 < (↑(List.length t0) : Int)) = false → exK (blockK (0 : Nat) (seqK (wAt C S_tx (5 : FuncId) (99997 : Nat) (CP.dn (CP.dn (CP.dn CP.top (1 : Nat)) (1 : Nat)) (1 : Nat))) (retK C (5 : FuncId) [TV.pv (PV.sl a)] Q))) (Ex.exit (0 : Nat)) (St.mk [((12 : Nat), AV.pv (PV.bool false)), ((11 : Nat), AV.tup []), ((10 : Nat), AV.tup []), ((9 : Nat), AV.pv (PV.bool false)), ((8 : Nat), AV.pv (PV.bool (decide (t4 < (↑(List.length t0) : Int))))), ((7 : Nat), AV.pv (PV.int IntKind.i64 (↑(List.length t0) : Int))), ((6 : Nat), AV.pv (PV.sl t0)), ((5 : Nat), AV.pv (PV.int IntKind.i64 t4)), ((0 : Nat), AV.pv (PV.sl t0)), ((3 : Nat), AV.pv (PV.str t3)), ((4 : Nat), AV.pv (PV.int IntKind.i64 t4))] []))) := by kernel_rfl

def tx_s1 (t11 : Bool) (t10 : Int) (t8 : Bool) (t7 : Int) (t6 : List (List PV)) (t5 : Int) (t0 : List (List PV)) (t3 : List UInt8) (t4 : Int) : St := (St.mk [((12 : Nat), AV.pv (PV.bool false)), ((11 : Nat), AV.pv (PV.bool t11)), ((10 : Nat), AV.pv (PV.int IntKind.i64 t10)), ((9 : Nat), AV.pv (PV.bool true)), ((8 : Nat), AV.pv (PV.bool t8)), ((7 : Nat), AV.pv (PV.int IntKind.i64 t7)), ((6 : Nat), AV.pv (PV.sl t6)), ((5 : Nat), AV.pv (PV.int IntKind.i64 t5)), ((0 : Nat), AV.pv (PV.sl t0)), ((3 : Nat), AV.pv (PV.str t3)), ((4 : Nat), AV.pv (PV.int IntKind.i64 t4))] [])

def tx_s2 (t8 : Bool) (t7 : Int) (t6 : List (List PV)) (t5 : Int) (t0 : List (List PV)) (t3 : List UInt8) (t4 : Int) : St := (St.mk [((12 : Nat), AV.pv (PV.bool false)), ((11 : Nat), AV.tup []), ((10 : Nat), AV.tup []), ((9 : Nat), AV.pv (PV.bool false)), ((8 : Nat), AV.pv (PV.bool t8)), ((7 : Nat), AV.pv (PV.int IntKind.i64 t7)), ((6 : Nat), AV.pv (PV.sl t6)), ((5 : Nat), AV.pv (PV.int IntKind.i64 t5)), ((0 : Nat), AV.pv (PV.sl t0)), ((3 : Nat), AV.pv (PV.str t3)), ((4 : Nat), AV.pv (PV.int IntKind.i64 t4))] [])

theorem tx_x1 (a : List (List PV)) (t11 : Bool) (t10 : Int) (t8 : Bool) (t7 : Int) (t6 : List (List PV)) (t5 : Int) (t0 : List (List PV)) (t3 : List UInt8) (t4 : Int)  (Q : List TV × List TV → Prop) : (fun h => blockK (0 : Nat) (seqK (wAt C S_tx (5 : FuncId) (99997 : Nat) (CP.dn (CP.dn (CP.dn CP.top (1 : Nat)) (1 : Nat)) (1 : Nat))) (retK C (5 : FuncId) [TV.pv (PV.sl a)] Q)) h (Ex.exit (0 : Nat)) (tx_s1 t11 t10 t8 t7 t6 t5 t0 t3 t4)) (H.auto) = (Q ([TV.pv (PV.str t3)], [])) := by kernel_rfl

theorem tx_x2 (a : List (List PV)) (t8 : Bool) (t7 : Int) (t6 : List (List PV)) (t5 : Int) (t0 : List (List PV)) (t3 : List UInt8) (t4 : Int)  (Q : List TV × List TV → Prop) : (fun h => blockK (0 : Nat) (seqK (wAt C S_tx (5 : FuncId) (99997 : Nat) (CP.dn (CP.dn (CP.dn CP.top (1 : Nat)) (1 : Nat)) (1 : Nat))) (retK C (5 : FuncId) [TV.pv (PV.sl a)] Q)) h (Ex.exit (0 : Nat)) (tx_s2 t8 t7 t6 t5 t0 t3 t4)) (H.auto) = (Q ([TV.pv (PV.str t3)], [])) := by kernel_rfl

noncomputable def textF (es : List (List PV)) : List UInt8 := Classical.epsilon fun t => Ev C 5 [.pv (.sl es)] ([.pv (.str t)], []) ∧ t.length ≤ 1000

noncomputable def g_text : List TV → Option Alts
  | [.pv (.sl es)] => one (∃ ns : List Int, es = ns.map fun n => [.int .i64 n]) ([.pv (.str (textF es))], [])
  | _ => none

def frF (s : List UInt8) : List UInt8 := s.take (s.length - (trL s).length)
def miF (s : List UInt8) : List UInt8 := trR (trL s)
def baF (s : List UInt8) : List UInt8 := (trL s).drop (trR (trL s)).length

def g_trim : List TV → Option Alts
  | [.pv (.str s)] => one (s.length ≤ 1000) ([.pv (.str (frF s)), .pv (.str (miF s)), .pv (.str (baF s))], [])
  | _ => none

/-! ### Plain laws -/
def blC (b : UInt8) : Bool := ([32, 9] : List UInt8).contains b

theorem bl_all : (List.range 256).all (fun n => blI (n : Int) == blC (UInt8.ofNat n)) = true := by decide +kernel
theorem blI_c (c : UInt8) : blI (c.toNat : Int) = blC c := by
  have h := List.all_eq_true.1 bl_all c.toNat (List.mem_range.2 c.toNat_lt)
  simpa using h

theorem trL_drop {s : List UInt8} {k : Nat} (hk : k ≤ s.length) (h1 : ∀ (j : Nat) b, j < k → s[j]? = some b → blC b = true) (h2 : ∀ b, s[k]? = some b → blC b = false) : trL s = s.drop k := Lib.trimLeftS_drop s [32, 9] k hk h1 h2

theorem trR_take {s : List UInt8} {k : Nat} (hk : k ≤ s.length) (h1 : ∀ (j : Nat) b, k ≤ j → s[j]? = some b → blC b = true) (h2 : ∀ b, 0 < k → s[k - 1]? = some b → blC b = false) : trR s = s.take k := Lib.trimRightS_take s [32, 9] k hk h1 h2

theorem ex_front : ∀ s : List UInt8, ∃ k, k ≤ s.length ∧ (∀ (j : Nat) b, j < k → s[j]? = some b → blC b = true) ∧ (∀ b, s[k]? = some b → blC b = false)
  | [] => ⟨0, by simp, by simp, by simp⟩
  | a :: s => by
    by_cases h : blC a = true
    · obtain ⟨k, h1, h2, h3⟩ := ex_front s
      refine ⟨k + 1, by simp only [List.length_cons]; omega, fun j b hj hb => ?_, fun b hb => h3 b (by simpa using hb)⟩
      cases j with
      | zero => simp at hb; subst hb; exact h
      | succ j => exact h2 j b (by omega) (by simpa using hb)
    · exact ⟨0, by simp, fun j b hj => by omega, fun b hb => by simp at hb; subst hb; simpa using h⟩

theorem ex_back (s : List UInt8) : ∃ k, k ≤ s.length ∧ (∀ (j : Nat) b, k ≤ j → s[j]? = some b → blC b = true) ∧ (∀ b, 0 < k → s[k - 1]? = some b → blC b = false) := by
  have key : ∀ n, n ≤ s.length → (∀ (j : Nat) b, n ≤ j → s[j]? = some b → blC b = true) → ∃ k, k ≤ s.length ∧ (∀ (j : Nat) b, k ≤ j → s[j]? = some b → blC b = true) ∧ (∀ b, 0 < k → s[k - 1]? = some b → blC b = false) := by
    intro n
    induction n with
    | zero => exact fun h1 h2 => ⟨0, by omega, h2, fun b h => by omega⟩
    | succ n ih =>
      intro h1 h2
      have hn : n < s.length := by omega
      by_cases h : blC s[n] = true
      · refine ih (by omega) fun j b hj hb => ?_
        rcases Nat.lt_or_ge n j with h3 | h3
        · exact h2 j b (by omega) hb
        · have : j = n := by omega
          subst this
          rw [List.getElem?_eq_getElem hn] at hb
          simp only [Option.some.injEq] at hb
          rw [← hb]; exact h
      · refine ⟨n + 1, h1, h2, fun b _ hb => ?_⟩
        rw [Nat.add_sub_cancel, List.getElem?_eq_getElem hn] at hb
        simp only [Option.some.injEq] at hb
        rw [← hb]; simpa using h
  exact key s.length (by omega) fun j b hj hb => by
    rw [List.getElem?_eq_none hj] at hb
    exact absurd hb (by simp)

/-- What a text is parted into. -/
theorem trim_parts {s : List UInt8} {k m : Nat} (hk : k ≤ m) (hm : m ≤ s.length) (h1 : ∀ (j : Nat) b, j < k → s[j]? = some b → blC b = true) (h2 : ∀ b, s[k]? = some b → blC b = false) (h3 : ∀ (j : Nat) b, m ≤ j → s[j]? = some b → blC b = true) (h4 : ∀ b, k < m → s[m - 1]? = some b → blC b = false) : frF s = s.take k ∧ miF s = (s.drop k).take (m - k) ∧ baF s = s.drop m := by
  have e1 : trL s = s.drop k := trL_drop (by omega) h1 h2
  have e2 : trR (s.drop k) = (s.drop k).take (m - k) := by
    refine trR_take (by simp; omega) (fun j b hj hb => ?_) (fun b hpos hb => ?_)
    · rw [List.getElem?_drop] at hb
      exact h3 (k + j) b (by omega) hb
    · rw [List.getElem?_drop] at hb
      exact h4 b (by omega) (by rw [show m - 1 = k + (m - k - 1) by omega]; exact hb)
  refine ⟨?_, ?_, ?_⟩
  · rw [frF, e1, List.length_drop]; congr 1; omega
  · rw [miF, e1, e2]
  · rw [baF, e1, e2, List.length_take, List.length_drop, List.drop_drop]; congr 1; omega

theorem trim_ex (s : List UInt8) : ∃ k m, k ≤ m ∧ m ≤ s.length ∧ frF s = s.take k ∧ miF s = (s.drop k).take (m - k) ∧ baF s = s.drop m ∧ (∀ b, k < m → s[k]? = some b → blC b = false) ∧ (∀ b, k < m → s[m - 1]? = some b → blC b = false) := by
  obtain ⟨k, a1, a2, a3⟩ := ex_front s
  obtain ⟨m, b1, b2, b3⟩ := ex_back (s.drop k)
  rw [List.length_drop] at b1
  have h3 : ∀ (j : Nat) b, k + m ≤ j → s[j]? = some b → blC b = true := fun j b hj hb => b2 (j - k) b (by omega) (by rw [List.getElem?_drop, show k + (j - k) = j by omega]; exact hb)
  have h4 : ∀ b, k < k + m → s[k + m - 1]? = some b → blC b = false := fun b hj hb => b3 b (by omega) (by rw [List.getElem?_drop, show k + (m - 1) = k + m - 1 by omega]; exact hb)
  obtain ⟨c1, c2, c3⟩ := trim_parts (k := k) (m := k + m) (by omega) (by omega) a2 a3 h3 h4
  exact ⟨k, k + m, by omega, by omega, c1, c2, c3, fun b _ hb => a3 b hb, h4⟩

theorem trim_sum (s : List UInt8) : frF s ++ miF s ++ baF s = s := by
  obtain ⟨k, m, h1, h2, e1, e2, e3, _, _⟩ := trim_ex s
  rw [e1, e2, e3]
  have : s.drop m = (s.drop k).drop (m - k) := by rw [List.drop_drop]; congr 1; omega
  rw [this, List.append_assoc, List.take_append_drop, List.take_append_drop]

/-! ### In the machine -/
theorem trL_ok : ∀ ag al, g_trL ag = some al → ∀ a ∈ al, a.1 → Ev C 10 ag a.2 := by
  intro ag al hl x hx hp
  unfold g_trL at hl
  split at hl
  · split at hl
    · rename_i hc; subst hc
      have e := one_mem hl hx; subst e
      refine ev_ext (g := xTrimLeft) (by kernel_rfl) ?_
      simp only [xTrimLeft]
      rw [if_pos (by decide)]; rfl
    · exact absurd hl (by simp)
  · exact absurd hl (by simp)

theorem trR_ok : ∀ ag al, g_trR ag = some al → ∀ a ∈ al, a.1 → Ev C 11 ag a.2 := by
  intro ag al hl x hx hp
  unfold g_trR at hl
  split at hl
  · split at hl
    · rename_i hc; subst hc
      have e := one_mem hl hx; subst e
      refine ev_ext (g := xTrimRight) (by kernel_rfl) ?_
      simp only [xTrimRight]
      rw [if_pos ⟨by decide, hp⟩]; rfl
    · exact absurd hl (by simp)
  · exact absurd hl (by simp)

theorem lt_ev (s : List UInt8) (hs : s.length ≤ 1000) : Ev C 6 [.pv (.str s)] ([.pv (.str (frF s)), .pv (.str (miF s)), .pv (.str (baF s))], []) := by
  have hr := room_val
  obtain ⟨k, m, h1, h2, e1, e2, e3, _, _⟩ := trim_ex s
  have l1 : (trL s).length ≤ s.length := by
    unfold trL Lib.trimLeftS
    exact (List.dropWhile_sublist _).length_le
  have l2 : (trR (trL s)).length ≤ (trL s).length := by
    unfold trR Lib.trimRightS
    rw [List.length_reverse]
    exact Nat.le_trans (List.dropWhile_sublist _).length_le (by rw [List.length_reverse]; exact Nat.le_refl _)
  have w1 : IntKind.wrap .i64 ((s.length : Int) - ((trL s).length : Int)) = ((s.length - (trL s).length : Nat) : Int) := by rw [w64 (by omega)]; omega
  refine ev_w (specL_ok (specs_cons trL_ok (specs_cons trR_ok specs_nil))) (lt_w s _) ?_
  rw [w1]
  refine ⟨trivial, by omega, ⟨by omega, by omega, by simp only [Int.ofNat_eq_natCast]; omega⟩, ⟨by omega, by simp only [Int.ofNat_eq_natCast]; omega, by omega⟩, ?_⟩
  rw [Int.toNat_natCast, Int.toNat_natCast, Nat.sub_zero, List.take_of_length_le (l := List.drop (trR (trL s)).length (trL s)) (by simp)]
  rfl

theorem bl_ok : ∀ ag al, g_bl ag = some al → ∀ a ∈ al, a.1 → Ev C 12 ag a.2 := by
  intro ag al hl x hx hp
  unfold g_bl at hl
  split at hl
  · rename_i c
    have e := one_mem hl hx; subst e
    refine ev_w noSpec_ok (bl_w c _) ⟨fun h => ?_, fun h => ?_⟩
    · rw [blI, h]; rfl
    · rw [blI, h]; rfl
  · exact absurd hl (by simp)

theorem ft_ev (s : List UInt8) (hs : s.length ≤ 1000) : Ev C 7 [.pv (.str s)] ([.pv (.str (frF s)), .pv (.str (miF s)), .pv (.str (baF s))], []) := by
  have hS : SpecOK C S_ft := specL_ok (specs_cons bl_ok specs_nil)
  refine ev_w hS (ft_w s _) ?_
  refine loop_rule hS (by kernel_rfl) 1000 (fun n st => ∃ i : Nat, st = ft_h0 s i ∧ i ≤ s.length ∧ (∀ (j : Nat) b, j < i → s[j]? = some b → blC b = true) ∧ n = s.length - i) ?_ (n := s.length) ⟨0, rfl, by omega, fun j b h => by omega, rfl⟩
  rintro n st ⟨i, rfl, hi, hA, rfl⟩
  have two : (∀ b, s[i]? = some b → blC b = false) → LoopAt C 7 ft_c3 (ft_h3 s i s.length) (exK (blockK 2 (seqK (wAt C S_ft 7 99995 (CP.dn (CP.dn (CP.dn (CP.dn (CP.dn CP.top 1) 1) 1) 1) 1)) (retK C 7 [TV.pv (PV.str s)] (fun r => r = ([.pv (.str (frF s)), .pv (.str (miF s)), .pv (.str (baF s))], [])))))) := by
    intro hB
    refine loop_rule hS (by kernel_rfl) 1000 (fun n st => ∃ m : Nat, st = ft_h3 s i m ∧ i ≤ m ∧ m ≤ s.length ∧ (∀ (j : Nat) b, m ≤ j → s[j]? = some b → blC b = true) ∧ n = m - i) ?_ (n := s.length - i) ⟨s.length, rfl, hi, by omega, fun j b h hb => by rw [List.getElem?_eq_none h] at hb; exact absurd hb (by simp), rfl⟩
    rintro n st ⟨m, rfl, him, hm, hC, rfl⟩
    have fin : (∀ b, i < m → s[m - 1]? = some b → blC b = false) → (((0 : Int) ≤ 0 ∧ (0 : Int) ≤ i ∧ (i : Int) ≤ Int.ofNat s.length) ∧ ((0 : Int) ≤ i ∧ (i : Int) ≤ m ∧ (m : Int) ≤ Int.ofNat s.length) ∧ ((0 : Int) ≤ m ∧ (m : Int) ≤ Int.ofNat s.length ∧ Int.ofNat s.length ≤ Int.ofNat s.length) ∧ (([TV.pv (PV.str (List.take (Int.toNat (i : Int) - 0) s)), TV.pv (PV.str (List.take (Int.toNat (m : Int) - Int.toNat (i : Int)) (List.drop (Int.toNat (i : Int)) s))), TV.pv (PV.str (List.take (Int.toNat (Int.ofNat s.length) - Int.toNat (m : Int)) (List.drop (Int.toNat (m : Int)) s)))], []) : List TV × List TV) = ([.pv (.str (frF s)), .pv (.str (miF s)), .pv (.str (baF s))], [])) := by
      intro hD
      obtain ⟨e1, e2, e3⟩ := trim_parts him hm hA hB hC hD
      refine ⟨⟨by decide, by omega, by simp only [Int.ofNat_eq_natCast]; omega⟩, ⟨by omega, by omega, by simp only [Int.ofNat_eq_natCast]; omega⟩, ⟨by omega, by simp only [Int.ofNat_eq_natCast]; omega, by omega⟩, ?_⟩
      rw [e1, e2, e3, Int.toNat_natCast, Int.toNat_natCast, Nat.sub_zero, List.take_of_length_le (l := List.drop m s) (by simp)]
    refine ex_w (ft_l3 _ _ _ _ _ _) ⟨fun g => ?_, fun g => ?_⟩
    · have g : i < m := by simp at g; omega
      have w1 : IntKind.wrap .i64 ((m : Int) - 1) = ((m - 1 : Nat) : Int) := by rw [w64 (by omega)]; omega
      have hm1 : m - 1 < s.length := by omega
      rw [w1]
      refine ⟨by omega, s[m - 1], by rw [Int.toNat_natCast]; exact List.getElem?_eq_getElem hm1, trivial, fun h => ?_, fun h => ?_⟩
      · rw [blI_c] at h
        refine ⟨m - 1 - i, by omega, m - 1, rfl, by omega, by omega, fun j b hj hb => ?_, rfl⟩
        rcases Nat.lt_or_ge (m - 1) j with h3 | h3
        · exact hC j b (by omega) hb
        · have : j = m - 1 := by omega
          subst this
          rw [List.getElem?_eq_getElem hm1] at hb
          simp only [Option.some.injEq] at hb
          rw [← hb]; exact h
      · rw [blI_c] at h
        refine ex_w (ft_x4 _ _ _ _ _ _ _ _ _ _ _ _ _) (fin fun b _ hb => ?_)
        rw [List.getElem?_eq_getElem hm1] at hb
        simp only [Option.some.injEq] at hb
        rw [← hb]; exact h
    · have g : ¬ i < m := by simp at g; omega
      exact ex_w (ft_x5 _ _ _ _ _ _ _ _) (fin fun b h _ => absurd h g)
  refine ex_w (ft_l0 _ _ _ _ _) ⟨fun g => ?_, fun g => ?_⟩
  · have g : i < s.length := by simp at g; omega
    have w1 := w64s (i := i) (by omega)
    rw [w1]
    refine ⟨by omega, s[i], by rw [Int.toNat_natCast]; exact List.getElem?_eq_getElem g, trivial, fun h => ?_, fun h => ?_⟩
    · rw [blI_c] at h
      refine ⟨s.length - (i + 1), by omega, i + 1, rfl, by omega, fun j b hj hb => ?_, rfl⟩
      rcases Nat.lt_or_ge j i with h3 | h3
      · exact hA j b h3 hb
      · have : j = i := by omega
        subst this
        rw [List.getElem?_eq_getElem g] at hb
        simp only [Option.some.injEq] at hb
        rw [← hb]; exact h
    · rw [blI_c] at h
      refine ex_w (ft_x1 _ _ _ _ _ _ _ _ _ _ _ _) (two fun b hb => ?_)
      rw [List.getElem?_eq_getElem g] at hb
      simp only [Option.some.injEq] at hb
      rw [← hb]; exact h
  · have g : ¬ i < s.length := by simp at g; omega
    refine ex_w (ft_x2 _ _ _ _ _ _ _ _) (two fun b hb => ?_)
    rw [List.getElem?_eq_none (by omega)] at hb
    exact absurd hb (by simp)

theorem within_ev (a n : Int) (hn : ¬ n = 0) : Ev C 9 [.pv (.int .i64 a), .pv (.int .i64 n)] ([.pv (.int .i64 (wi a n))], []) := by
  refine ev_w noSpec_ok (wt_w a n _) ⟨hn, fun h => ?_, fun h => ?_⟩
  · rw [wi, if_pos (by simpa using h)]
  · rw [wi, if_neg (by simpa using h)]

theorem word_at {i : Nat} (h : i < 10) : ∃ s : List UInt8, [[PV.str [97]], [PV.str [98, 32, 99]], [PV.str [32]], [PV.str [9]], [PV.str [10]], [PV.str [13, 10]], [PV.str [13]], [PV.str [10]], [PV.str [61]], [PV.str []]][i]? = some [PV.str s] ∧ s.length ≤ 3 := by
  have hl : i < [[97], [98, 32, 99], [32], [9], [10], [13, 10], [13], [10], [61], ([] : List UInt8)].length := h
  refine ⟨[[97], [98, 32, 99], [32], [9], [10], [13, 10], [13], [10], [61], ([] : List UInt8)][i], ?_, ?_⟩
  · have : [[PV.str [97]], [PV.str [98, 32, 99]], [PV.str [32]], [PV.str [9]], [PV.str [10]], [PV.str [13, 10]], [PV.str [13]], [PV.str [10]], [PV.str [61]], [PV.str []]] = [[97], [98, 32, 99], [32], [9], [10], [13, 10], [13], [10], [61], ([] : List UInt8)].map fun s => [PV.str s] := rfl
    rw [this, List.getElem?_map, List.getElem?_eq_getElem hl]; rfl
  · have : ∀ x ∈ [[97], [98, 32, 99], [32], [9], [10], [13, 10], [13], [10], [61], ([] : List UInt8)], x.length ≤ 3 := by decide
    exact this _ (List.getElem_mem _)

theorem tx_ex (ns : List Int) : ∃ t : List UInt8, Ev C 5 [.pv (.sl (ns.map fun n => [.int .i64 n]))] ([.pv (.str t)], []) ∧ t.length ≤ 1000 := by
  have hm := maxInt_val
  have hS : SpecOK C S_tx := specL_ok (specs_cons (g_within_ok within_ev) specs_nil)
  have key : ∃ r, Ev C 5 [.pv (.sl (ns.map fun n => [.int .i64 n]))] r ∧ ∃ t : List UInt8, r = ([.pv (.str t)], []) ∧ t.length ≤ 1000 := by
    refine ev_wx hS (tx_w _ _) ?_
    have hl : (ns.map fun n => [PV.int .i64 n]).length = ns.length := List.length_map _
    refine loop_rule hS (by kernel_rfl) 1000 (fun n st => ∃ (i : Nat) (t : List UInt8), st = tx_h0 (ns.map fun n => [.int .i64 n]) t i ∧ i ≤ 60 ∧ t.length ≤ 3 * i ∧ n = 60 - i) ?_ (n := 60) ⟨0, [], rfl, by omega, by simp, by omega⟩
    rintro n st ⟨i, t, rfl, hi, ht, rfl⟩
    refine ex_w (tx_l0 _ _ _ _ _ _) ⟨fun g => ⟨fun g2 => ?_, fun g2 => ?_⟩, fun g => ?_⟩
    · simp only [decide_eq_true_eq] at g g2
      have hi' : i < ns.length := by omega
      have hw : 0 ≤ wi ns[i] 10 ∧ wi ns[i] 10 < 10 := wi_range (a := ns[i]) (n := 10) (by omega) (by omega)
      obtain ⟨w, hw1, hw2⟩ := word_at (i := (wi ns[i] 10).toNat) (by have := hw.2; have := hw.1; omega)
      rw [w64s (by omega)]
      refine ⟨by omega, ns[i], by rw [Int.toNat_natCast, List.getElem?_map, List.getElem?_eq_getElem hi']; rfl, by decide, hw, _, hw1, by simp, w, rfl, by omega, 60 - (i + 1), by omega, i + 1, t ++ w, rfl, by omega, by rw [List.length_append]; omega, rfl⟩
    · exact ex_w (tx_x1 _ _ _ _ _ _ _ _ _ _ _) ⟨t, rfl, by omega⟩
    · exact ex_w (tx_x2 _ _ _ _ _ _ _ _ _) ⟨t, rfl, by omega⟩
  obtain ⟨r, h1, t, rfl, h2⟩ := key
  exact ⟨t, h1, h2⟩

theorem textF_spec (ns : List Int) : Ev C 5 [.pv (.sl (ns.map fun n => [.int .i64 n]))] ([.pv (.str (textF (ns.map fun n => [.int .i64 n])))], []) ∧ (textF (ns.map fun n => [.int .i64 n])).length ≤ 1000 := by
  obtain ⟨t, h⟩ := tx_ex ns
  exact Classical.epsilon_spec (p := fun t => Ev C 5 [.pv (.sl (ns.map fun n => [.int .i64 n]))] ([.pv (.str t)], []) ∧ t.length ≤ 1000) ⟨t, h⟩

theorem text_ok : ∀ ag al, g_text ag = some al → ∀ a ∈ al, a.1 → Ev C 5 ag a.2 := by
  intro ag al hl x hx hp
  unfold g_text at hl
  split at hl
  · have e := one_mem hl hx; subst e
    obtain ⟨ns, rfl⟩ := hp
    exact (textF_spec ns).1
  · exact absurd hl (by simp)

theorem trim_ok {f : FuncId} (h : ∀ s : List UInt8, s.length ≤ 1000 → Ev C f [.pv (.str s)] ([.pv (.str (frF s)), .pv (.str (miF s)), .pv (.str (baF s))], [])) : ∀ ag al, g_trim ag = some al → ∀ a ∈ al, a.1 → Ev C f ag a.2 := by
  intro ag al hl x hx hp
  unfold g_trim at hl
  split at hl
  · have e := one_mem hl hx; subst e
    exact h _ hp
  · exact absurd hl (by simp)

end Go.Proofs.YtpcjlhhhmjgffaaDoor.Vm
