/-
  Trees as bytes, in the machine.
-/
import Derived.Test.YtmjkdghcfihfiaaSayTreeText
namespace Go.Proofs.Ytmjkdghcfihfiaa.Vm
open Go Go.RowKit
set_option linter.unusedVariables false
set_option linter.unusedSimpArgs false
set_option maxRecDepth 100000

/-- A number's lowest bytes, the lowest one first. -/
def le (n v : Nat) : List UInt8 := (List.range n).map fun i => UInt8.ofNat (v / 2 ^ (8 * i))
/-- A text, its length ahead. -/
def txB (s : List UInt8) : List UInt8 := le 2 (min s.length 65535) ++ s.take 65535

def Tr.bts : Tr → List UInt8
  | .nil => []
  | .cons n k r => txB n ++ (le 2 k.list.length ++ k.bts) ++ r.bts

def binT (t : Tr) : List UInt8 := le 2 t.list.length ++ t.bts

theorem lo_w (v n : Int) (Q : List TV × List TV → Prop) : (wFun C noSpec 77 [.pv (.int .u64 v), .pv (.int .i64 n)] Q) (H.s H.auto) = (((0 : Int) ≤ n ∧ n ≤ n ∧ n ≤ (9223372036854775807 : Int) ∧ n * (1 : Int) ≤ (140737488355328 : Int)) ∧ LoopAt C (77 : FuncId) (CP.dn (CP.dn (CP.dn (CP.dn (CP.dn CP.top (1 : Nat)) (1 : Nat)) (0 : Nat)) (1 : Nat)) (0 : Nat)) (St.mk [((0 : Nat), AV.pv (PV.int IntKind.u64 v)), ((5 : Nat), AV.own (10 : Nat)), ((10 : Nat), AV.pv (PV.int IntKind.i64 (↑(List.length (List.replicate (Int.toNat n) [PV.int IntKind.u8 (0 : Int)])) : Int))), ((11 : Nat), AV.pv (PV.int IntKind.i64 (0 : Int)))] [((10 : Nat), Obj.buf (1 : Nat) (List.replicate (Int.toNat n) [PV.int IntKind.u8 (0 : Int)]))]) (exK (blockK (0 : Nat) (seqK (wAt C noSpec (77 : FuncId) (99997 : Nat) (CP.dn (CP.dn (CP.dn CP.top (1 : Nat)) (1 : Nat)) (1 : Nat))) (retK C (77 : FuncId) [TV.pv (PV.int IntKind.u64 v), TV.pv (PV.int IntKind.i64 n)] Q))))) := by kernel_rfl

def lo_c0 : CP := (CP.dn (CP.dn (CP.dn (CP.dn (CP.dn CP.top (1 : Nat)) (1 : Nat)) (0 : Nat)) (1 : Nat)) (0 : Nat))

def lo_h0 (t0 : Int) (t10 : Int) (t11 : Int) (o10 : List (List PV)) : St := (St.mk [((0 : Nat), AV.pv (PV.int IntKind.u64 t0)), ((5 : Nat), AV.own (10 : Nat)), ((10 : Nat), AV.pv (PV.int IntKind.i64 t10)), ((11 : Nat), AV.pv (PV.int IntKind.i64 t11))] [((10 : Nat), Obj.buf (1 : Nat) o10)])

theorem lo_l0 (v n : Int) (t0 : Int) (t10 : Int) (t11 : Int) (o10 : List (List PV))  (J0 : St → Prop) (Q : List TV × List TV → Prop) : (wAt C noSpec 77 1000 (lo_c0.dn 0) (lo_h0 t0 t10 t11 o10) (loopK C 77 lo_c0 J0 (exK (blockK (0 : Nat) (seqK (wAt C noSpec (77 : FuncId) (99997 : Nat) (CP.dn (CP.dn (CP.dn CP.top (1 : Nat)) (1 : Nat)) (1 : Nat))) (retK C (77 : FuncId) [TV.pv (PV.int IntKind.u64 v), TV.pv (PV.int IntKind.i64 n)] Q)))))) (H.b (H.s (H.s (H.s (H.s (H.s H.auto))))) H.auto) = ((decide (t11 < t10) = true → ¬IntKind.wrap IntKind.i64 ((8 : Int) * t11) < (0 : Int) ∧ ((0 : Int) ≤ t11 ∧ t11 < (↑(List.length o10) : Int)) ∧ ∃ (c : List PV), o10[Int.toNat t11]? = some c ∧ (1 : Nat) ≤ List.length c ∧ List.length (List.set o10 (Int.toNat t11) (PV.int IntKind.u8 (IntKind.wrap IntKind.u8 (Int.fdiv t0 ((2 : Int) ^ min (Int.toNat (IntKind.wrap IntKind.i64 ((8 : Int) * t11))) (64 : Nat)))) :: List.drop (1 : Nat) c)) = List.length o10 ∧ J0 (St.mk [((0 : Nat), AV.pv (PV.int IntKind.u64 t0)), ((5 : Nat), AV.own (10 : Nat)), ((10 : Nat), AV.pv (PV.int IntKind.i64 t10)), ((11 : Nat), AV.pv (PV.int IntKind.i64 (IntKind.wrap IntKind.i64 (t11 + (1 : Int)))))] [((10 : Nat), Obj.buf (1 : Nat) (List.set o10 (Int.toNat t11) (PV.int IntKind.u8 (IntKind.wrap IntKind.u8 (Int.fdiv t0 ((2 : Int) ^ min (Int.toNat (IntKind.wrap IntKind.i64 ((8 : Int) * t11))) (64 : Nat)))) :: List.drop (1 : Nat) c)))])) ∧ (decide (t11 < t10) = false → ∃ (h : H), Q ([TV.own (1 : Nat) o10], []))) := by kernel_rfl

theorem wi2_w (a b : List (List PV)) (Q : List TV × List TV → Prop) : (wFun C noSpec 76 [.pv (.agg [.sl a]), .pv (.sl b)] Q) (H.s (H.s (H.s (H.s (H.s (H.s (H.s H.auto))))))) = (((0 : Int) ≤ IntKind.wrap IntKind.i64 ((↑(List.length a) : Int) + (↑(List.length b) : Int)) ∧ IntKind.wrap IntKind.i64 ((↑(List.length a) : Int) + (↑(List.length b) : Int)) ≤ IntKind.wrap IntKind.i64 ((↑(List.length a) : Int) + (↑(List.length b) : Int)) ∧ IntKind.wrap IntKind.i64 ((↑(List.length a) : Int) + (↑(List.length b) : Int)) ≤ (9223372036854775807 : Int) ∧ IntKind.wrap IntKind.i64 ((↑(List.length a) : Int) + (↑(List.length b) : Int)) * (1 : Int) ≤ (140737488355328 : Int)) ∧ rowOk (1 : Nat) a = true ∧ List.length ([] ++ (List.take (min (List.length a) (List.length (List.replicate (Int.toNat (IntKind.wrap IntKind.i64 ((↑(List.length a) : Int) + (↑(List.length b) : Int)))) [PV.int IntKind.u8 (0 : Int)]))) a ++ List.drop ((0 : Nat) + min (List.length a) (List.length (List.replicate (Int.toNat (IntKind.wrap IntKind.i64 ((↑(List.length a) : Int) + (↑(List.length b) : Int)))) [PV.int IntKind.u8 (0 : Int)]))) (List.replicate (Int.toNat (IntKind.wrap IntKind.i64 ((↑(List.length a) : Int) + (↑(List.length b) : Int)))) [PV.int IntKind.u8 (0 : Int)]))) = List.length (List.replicate (Int.toNat (IntKind.wrap IntKind.i64 ((↑(List.length a) : Int) + (↑(List.length b) : Int)))) [PV.int IntKind.u8 (0 : Int)]) ∧ ((0 : Int) ≤ (↑(min (List.length a) (List.length (List.replicate (Int.toNat (IntKind.wrap IntKind.i64 ((↑(List.length a) : Int) + (↑(List.length b) : Int)))) [PV.int IntKind.u8 (0 : Int)]))) : Int) ∧ (↑(min (List.length a) (List.length (List.replicate (Int.toNat (IntKind.wrap IntKind.i64 ((↑(List.length a) : Int) + (↑(List.length b) : Int)))) [PV.int IntKind.u8 (0 : Int)]))) : Int) ≤ Int.ofNat (List.length ([] ++ (List.take (min (List.length a) (List.length (List.replicate (Int.toNat (IntKind.wrap IntKind.i64 ((↑(List.length a) : Int) + (↑(List.length b) : Int)))) [PV.int IntKind.u8 (0 : Int)]))) a ++ List.drop ((0 : Nat) + min (List.length a) (List.length (List.replicate (Int.toNat (IntKind.wrap IntKind.i64 ((↑(List.length a) : Int) + (↑(List.length b) : Int)))) [PV.int IntKind.u8 (0 : Int)]))) (List.replicate (Int.toNat (IntKind.wrap IntKind.i64 ((↑(List.length a) : Int) + (↑(List.length b) : Int)))) [PV.int IntKind.u8 (0 : Int)])))) ∧ Int.ofNat (List.length ([] ++ (List.take (min (List.length a) (List.length (List.replicate (Int.toNat (IntKind.wrap IntKind.i64 ((↑(List.length a) : Int) + (↑(List.length b) : Int)))) [PV.int IntKind.u8 (0 : Int)]))) a ++ List.drop ((0 : Nat) + min (List.length a) (List.length (List.replicate (Int.toNat (IntKind.wrap IntKind.i64 ((↑(List.length a) : Int) + (↑(List.length b) : Int)))) [PV.int IntKind.u8 (0 : Int)]))) (List.replicate (Int.toNat (IntKind.wrap IntKind.i64 ((↑(List.length a) : Int) + (↑(List.length b) : Int)))) [PV.int IntKind.u8 (0 : Int)])))) ≤ Int.ofNat (List.length ([] ++ (List.take (min (List.length a) (List.length (List.replicate (Int.toNat (IntKind.wrap IntKind.i64 ((↑(List.length a) : Int) + (↑(List.length b) : Int)))) [PV.int IntKind.u8 (0 : Int)]))) a ++ List.drop ((0 : Nat) + min (List.length a) (List.length (List.replicate (Int.toNat (IntKind.wrap IntKind.i64 ((↑(List.length a) : Int) + (↑(List.length b) : Int)))) [PV.int IntKind.u8 (0 : Int)]))) (List.replicate (Int.toNat (IntKind.wrap IntKind.i64 ((↑(List.length a) : Int) + (↑(List.length b) : Int)))) [PV.int IntKind.u8 (0 : Int)]))))) ∧ Int.toNat (↑(min (List.length a) (List.length (List.replicate (Int.toNat (IntKind.wrap IntKind.i64 ((↑(List.length a) : Int) + (↑(List.length b) : Int)))) [PV.int IntKind.u8 (0 : Int)]))) : Int) + (Int.toNat (Int.ofNat (List.length ([] ++ (List.take (min (List.length a) (List.length (List.replicate (Int.toNat (IntKind.wrap IntKind.i64 ((↑(List.length a) : Int) + (↑(List.length b) : Int)))) [PV.int IntKind.u8 (0 : Int)]))) a ++ List.drop ((0 : Nat) + min (List.length a) (List.length (List.replicate (Int.toNat (IntKind.wrap IntKind.i64 ((↑(List.length a) : Int) + (↑(List.length b) : Int)))) [PV.int IntKind.u8 (0 : Int)]))) (List.replicate (Int.toNat (IntKind.wrap IntKind.i64 ((↑(List.length a) : Int) + (↑(List.length b) : Int)))) [PV.int IntKind.u8 (0 : Int)]))))) - Int.toNat (↑(min (List.length a) (List.length (List.replicate (Int.toNat (IntKind.wrap IntKind.i64 ((↑(List.length a) : Int) + (↑(List.length b) : Int)))) [PV.int IntKind.u8 (0 : Int)]))) : Int)) ≤ List.length ([] ++ (List.take (min (List.length a) (List.length (List.replicate (Int.toNat (IntKind.wrap IntKind.i64 ((↑(List.length a) : Int) + (↑(List.length b) : Int)))) [PV.int IntKind.u8 (0 : Int)]))) a ++ List.drop ((0 : Nat) + min (List.length a) (List.length (List.replicate (Int.toNat (IntKind.wrap IntKind.i64 ((↑(List.length a) : Int) + (↑(List.length b) : Int)))) [PV.int IntKind.u8 (0 : Int)]))) (List.replicate (Int.toNat (IntKind.wrap IntKind.i64 ((↑(List.length a) : Int) + (↑(List.length b) : Int)))) [PV.int IntKind.u8 (0 : Int)]))) ∧ rowOk (1 : Nat) b = true ∧ List.length (List.take (Int.toNat (↑(min (List.length a) (List.length (List.replicate (Int.toNat (IntKind.wrap IntKind.i64 ((↑(List.length a) : Int) + (↑(List.length b) : Int)))) [PV.int IntKind.u8 (0 : Int)]))) : Int)) ([] ++ (List.take (min (List.length a) (List.length (List.replicate (Int.toNat (IntKind.wrap IntKind.i64 ((↑(List.length a) : Int) + (↑(List.length b) : Int)))) [PV.int IntKind.u8 (0 : Int)]))) a ++ List.drop ((0 : Nat) + min (List.length a) (List.length (List.replicate (Int.toNat (IntKind.wrap IntKind.i64 ((↑(List.length a) : Int) + (↑(List.length b) : Int)))) [PV.int IntKind.u8 (0 : Int)]))) (List.replicate (Int.toNat (IntKind.wrap IntKind.i64 ((↑(List.length a) : Int) + (↑(List.length b) : Int)))) [PV.int IntKind.u8 (0 : Int)]))) ++ (List.take (min (List.length b) (Int.toNat (Int.ofNat (List.length ([] ++ (List.take (min (List.length a) (List.length (List.replicate (Int.toNat (IntKind.wrap IntKind.i64 ((↑(List.length a) : Int) + (↑(List.length b) : Int)))) [PV.int IntKind.u8 (0 : Int)]))) a ++ List.drop ((0 : Nat) + min (List.length a) (List.length (List.replicate (Int.toNat (IntKind.wrap IntKind.i64 ((↑(List.length a) : Int) + (↑(List.length b) : Int)))) [PV.int IntKind.u8 (0 : Int)]))) (List.replicate (Int.toNat (IntKind.wrap IntKind.i64 ((↑(List.length a) : Int) + (↑(List.length b) : Int)))) [PV.int IntKind.u8 (0 : Int)]))))) - Int.toNat (↑(min (List.length a) (List.length (List.replicate (Int.toNat (IntKind.wrap IntKind.i64 ((↑(List.length a) : Int) + (↑(List.length b) : Int)))) [PV.int IntKind.u8 (0 : Int)]))) : Int))) b ++ List.drop (Int.toNat (↑(min (List.length a) (List.length (List.replicate (Int.toNat (IntKind.wrap IntKind.i64 ((↑(List.length a) : Int) + (↑(List.length b) : Int)))) [PV.int IntKind.u8 (0 : Int)]))) : Int) + min (List.length b) (Int.toNat (Int.ofNat (List.length ([] ++ (List.take (min (List.length a) (List.length (List.replicate (Int.toNat (IntKind.wrap IntKind.i64 ((↑(List.length a) : Int) + (↑(List.length b) : Int)))) [PV.int IntKind.u8 (0 : Int)]))) a ++ List.drop ((0 : Nat) + min (List.length a) (List.length (List.replicate (Int.toNat (IntKind.wrap IntKind.i64 ((↑(List.length a) : Int) + (↑(List.length b) : Int)))) [PV.int IntKind.u8 (0 : Int)]))) (List.replicate (Int.toNat (IntKind.wrap IntKind.i64 ((↑(List.length a) : Int) + (↑(List.length b) : Int)))) [PV.int IntKind.u8 (0 : Int)]))))) - Int.toNat (↑(min (List.length a) (List.length (List.replicate (Int.toNat (IntKind.wrap IntKind.i64 ((↑(List.length a) : Int) + (↑(List.length b) : Int)))) [PV.int IntKind.u8 (0 : Int)]))) : Int))) ([] ++ (List.take (min (List.length a) (List.length (List.replicate (Int.toNat (IntKind.wrap IntKind.i64 ((↑(List.length a) : Int) + (↑(List.length b) : Int)))) [PV.int IntKind.u8 (0 : Int)]))) a ++ List.drop ((0 : Nat) + min (List.length a) (List.length (List.replicate (Int.toNat (IntKind.wrap IntKind.i64 ((↑(List.length a) : Int) + (↑(List.length b) : Int)))) [PV.int IntKind.u8 (0 : Int)]))) (List.replicate (Int.toNat (IntKind.wrap IntKind.i64 ((↑(List.length a) : Int) + (↑(List.length b) : Int)))) [PV.int IntKind.u8 (0 : Int)]))))) = List.length ([] ++ (List.take (min (List.length a) (List.length (List.replicate (Int.toNat (IntKind.wrap IntKind.i64 ((↑(List.length a) : Int) + (↑(List.length b) : Int)))) [PV.int IntKind.u8 (0 : Int)]))) a ++ List.drop ((0 : Nat) + min (List.length a) (List.length (List.replicate (Int.toNat (IntKind.wrap IntKind.i64 ((↑(List.length a) : Int) + (↑(List.length b) : Int)))) [PV.int IntKind.u8 (0 : Int)]))) (List.replicate (Int.toNat (IntKind.wrap IntKind.i64 ((↑(List.length a) : Int) + (↑(List.length b) : Int)))) [PV.int IntKind.u8 (0 : Int)]))) ∧ Q ([TV.own (1 : Nat) (List.take (Int.toNat (↑(min (List.length a) (List.length (List.replicate (Int.toNat (IntKind.wrap IntKind.i64 ((↑(List.length a) : Int) + (↑(List.length b) : Int)))) [PV.int IntKind.u8 (0 : Int)]))) : Int)) ([] ++ (List.take (min (List.length a) (List.length (List.replicate (Int.toNat (IntKind.wrap IntKind.i64 ((↑(List.length a) : Int) + (↑(List.length b) : Int)))) [PV.int IntKind.u8 (0 : Int)]))) a ++ List.drop ((0 : Nat) + min (List.length a) (List.length (List.replicate (Int.toNat (IntKind.wrap IntKind.i64 ((↑(List.length a) : Int) + (↑(List.length b) : Int)))) [PV.int IntKind.u8 (0 : Int)]))) (List.replicate (Int.toNat (IntKind.wrap IntKind.i64 ((↑(List.length a) : Int) + (↑(List.length b) : Int)))) [PV.int IntKind.u8 (0 : Int)]))) ++ (List.take (min (List.length b) (Int.toNat (Int.ofNat (List.length ([] ++ (List.take (min (List.length a) (List.length (List.replicate (Int.toNat (IntKind.wrap IntKind.i64 ((↑(List.length a) : Int) + (↑(List.length b) : Int)))) [PV.int IntKind.u8 (0 : Int)]))) a ++ List.drop ((0 : Nat) + min (List.length a) (List.length (List.replicate (Int.toNat (IntKind.wrap IntKind.i64 ((↑(List.length a) : Int) + (↑(List.length b) : Int)))) [PV.int IntKind.u8 (0 : Int)]))) (List.replicate (Int.toNat (IntKind.wrap IntKind.i64 ((↑(List.length a) : Int) + (↑(List.length b) : Int)))) [PV.int IntKind.u8 (0 : Int)]))))) - Int.toNat (↑(min (List.length a) (List.length (List.replicate (Int.toNat (IntKind.wrap IntKind.i64 ((↑(List.length a) : Int) + (↑(List.length b) : Int)))) [PV.int IntKind.u8 (0 : Int)]))) : Int))) b ++ List.drop (Int.toNat (↑(min (List.length a) (List.length (List.replicate (Int.toNat (IntKind.wrap IntKind.i64 ((↑(List.length a) : Int) + (↑(List.length b) : Int)))) [PV.int IntKind.u8 (0 : Int)]))) : Int) + min (List.length b) (Int.toNat (Int.ofNat (List.length ([] ++ (List.take (min (List.length a) (List.length (List.replicate (Int.toNat (IntKind.wrap IntKind.i64 ((↑(List.length a) : Int) + (↑(List.length b) : Int)))) [PV.int IntKind.u8 (0 : Int)]))) a ++ List.drop ((0 : Nat) + min (List.length a) (List.length (List.replicate (Int.toNat (IntKind.wrap IntKind.i64 ((↑(List.length a) : Int) + (↑(List.length b) : Int)))) [PV.int IntKind.u8 (0 : Int)]))) (List.replicate (Int.toNat (IntKind.wrap IntKind.i64 ((↑(List.length a) : Int) + (↑(List.length b) : Int)))) [PV.int IntKind.u8 (0 : Int)]))))) - Int.toNat (↑(min (List.length a) (List.length (List.replicate (Int.toNat (IntKind.wrap IntKind.i64 ((↑(List.length a) : Int) + (↑(List.length b) : Int)))) [PV.int IntKind.u8 (0 : Int)]))) : Int))) ([] ++ (List.take (min (List.length a) (List.length (List.replicate (Int.toNat (IntKind.wrap IntKind.i64 ((↑(List.length a) : Int) + (↑(List.length b) : Int)))) [PV.int IntKind.u8 (0 : Int)]))) a ++ List.drop ((0 : Nat) + min (List.length a) (List.length (List.replicate (Int.toNat (IntKind.wrap IntKind.i64 ((↑(List.length a) : Int) + (↑(List.length b) : Int)))) [PV.int IntKind.u8 (0 : Int)]))) (List.replicate (Int.toNat (IntKind.wrap IntKind.i64 ((↑(List.length a) : Int) + (↑(List.length b) : Int)))) [PV.int IntKind.u8 (0 : Int)])))))], [])) := by kernel_rfl

def g_low : List TV → Option Alts
  | [.pv (.int .u64 v), .pv (.int .i64 n)] => one (0 ≤ v ∧ 0 ≤ n ∧ n ≤ 8) ([.own 1 (u8s (le n.toNat v.toNat))], [])
  | _ => none

def g_wi2 : List TV → Option Alts
  | [.pv (.agg [.sl a]), .pv (.sl b)] => one (∃ x y : List UInt8, a = u8s x ∧ b = u8s y ∧ x.length + y.length ≤ 80000000) ([.own 1 (a ++ b)], [])
  | _ => none

def S_code : Specs := specL [(77, g_low), (76, g_wi2)]

theorem ci_w (a : List (List PV)) (n : Int) (Q : List TV × List TV → Prop) : (wFun C S_code 44 [.pv (.sl a), .pv (.int .i64 n)] Q) (H.s H.auto) = (((0 : Int) ≤ IntKind.wrap IntKind.u64 n ∧ (0 : Int) ≤ (8 : Int) ∧ (8 : Int) ≤ (8 : Int)) ∧ (∃ (x : List UInt8), ∃ (y : List UInt8), a = u8s x ∧ u8s (le (8 : Nat) (Int.toNat (IntKind.wrap IntKind.u64 n))) = u8s y ∧ List.length x + List.length y ≤ (80000000 : Nat)) ∧ (flatTVs [TV.own (1 : Nat) (a ++ u8s (le (8 : Nat) (Int.toNat (IntKind.wrap IntKind.u64 n))))] && true) = true ∧ Q ([TV.own (1 : Nat) (a ++ u8s (le (8 : Nat) (Int.toNat (IntKind.wrap IntKind.u64 n))))], [])) := by kernel_rfl

theorem ct_w (a : List (List PV)) (s : List UInt8) (Q : List TV × List TV → Prop) : (wFun C S_code 45 [.pv (.sl a), .pv (.str s)] Q) (H.s (H.s (H.s H.auto))) = (((0 : Int) ≤ (0 : Int) ∧ ((0 : Int) ≤ if (65535 : Int) < (↑(List.length s) : Int) then (65535 : Int) else (↑(List.length s) : Int)) ∧ (if (65535 : Int) < (↑(List.length s) : Int) then (65535 : Int) else (↑(List.length s) : Int)) ≤ Int.ofNat (List.length s)) ∧ ((0 : Int) ≤ IntKind.wrap IntKind.u64 (↑(List.length (List.take (Int.toNat (if (65535 : Int) < (↑(List.length s) : Int) then (65535 : Int) else (↑(List.length s) : Int)) - (0 : Nat)) s)) : Int) ∧ (0 : Int) ≤ (2 : Int) ∧ (2 : Int) ≤ (8 : Int)) ∧ (∃ (x : List UInt8), ∃ (y : List UInt8), a = u8s x ∧ u8s (le (2 : Nat) (Int.toNat (IntKind.wrap IntKind.u64 (↑(List.length (List.take (Int.toNat (if (65535 : Int) < (↑(List.length s) : Int) then (65535 : Int) else (↑(List.length s) : Int)) - (0 : Nat)) s)) : Int)))) = u8s y ∧ List.length x + List.length y ≤ (80000000 : Nat)) ∧ (flatTVs [TV.own (1 : Nat) (a ++ u8s (le (2 : Nat) (Int.toNat (IntKind.wrap IntKind.u64 (↑(List.length (List.take (Int.toNat (if (65535 : Int) < (↑(List.length s) : Int) then (65535 : Int) else (↑(List.length s) : Int)) - (0 : Nat)) s)) : Int)))))] && true) = true ∧ (∃ (x : List UInt8), ∃ (y : List UInt8), a ++ u8s (le (2 : Nat) (Int.toNat (IntKind.wrap IntKind.u64 (↑(List.length (List.take (Int.toNat (if (65535 : Int) < (↑(List.length s) : Int) then (65535 : Int) else (↑(List.length s) : Int)) - (0 : Nat)) s)) : Int)))) = u8s x ∧ u8s (List.take (Int.toNat (if (65535 : Int) < (↑(List.length s) : Int) then (65535 : Int) else (↑(List.length s) : Int)) - (0 : Nat)) s) = u8s y ∧ List.length x + List.length y ≤ (80000000 : Nat)) ∧ (flatTVs [TV.own (1 : Nat) (a ++ u8s (le (2 : Nat) (Int.toNat (IntKind.wrap IntKind.u64 (↑(List.length (List.take (Int.toNat (if (65535 : Int) < (↑(List.length s) : Int) then (65535 : Int) else (↑(List.length s) : Int)) - (0 : Nat)) s)) : Int)))) ++ u8s (List.take (Int.toNat (if (65535 : Int) < (↑(List.length s) : Int) then (65535 : Int) else (↑(List.length s) : Int)) - (0 : Nat)) s))] && true) = true ∧ Q ([TV.own (1 : Nat) (a ++ u8s (le (2 : Nat) (Int.toNat (IntKind.wrap IntKind.u64 (↑(List.length (List.take (Int.toNat (if (65535 : Int) < (↑(List.length s) : Int) then (65535 : Int) else (↑(List.length s) : Int)) - (0 : Nat)) s)) : Int)))) ++ u8s (List.take (Int.toNat (if (65535 : Int) < (↑(List.length s) : Int) then (65535 : Int) else (↑(List.length s) : Int)) - (0 : Nat)) s))], [])) := by kernel_rfl

theorem rby_w (a : List (List PV)) (n : Int) (Q : List TV × List TV → Prop) : (wFun C noSpec 56 [.own 1 a, .pv (.int .i64 n)] Q) (H.s H.auto) = (((List.length a + (1 : Nat)) * (1 : Nat) ≤ room ∧ List.length a + (1 : Nat) ≤ maxInt) ∧ Q ([TV.own (1 : Nat) (a ++ [[PV.int IntKind.u8 (IntKind.wrap IntKind.u8 n)]])], [])) := by kernel_rfl

theorem rtx_w (a : List (List PV)) (s : List UInt8) (Q : List TV × List TV → Prop) : (wFun C noSpec 57 [.own 1 a, .pv (.str s)] Q) (H.b (H.s (H.n (1 : Nat) (H.s (H.n (1 : Nat) (H.s (H.s H.auto)))))) (H.n (1 : Nat) (H.s (H.n (1 : Nat) (H.s (H.s H.auto)))))) = ((decide ((↑(List.length s) : Int) > (65535 : Int)) = true → ((0 : Int) ≤ (0 : Int) ∧ (0 : Int) ≤ (65535 : Int) ∧ (65535 : Int) ≤ Int.ofNat (List.length s)) ∧ ((List.length a + (2 : Nat)) * (1 : Nat) ≤ room ∧ List.length a + (2 : Nat) ≤ maxInt) ∧ ((List.length (a ++ [[PV.int IntKind.u8 (IntKind.wrap IntKind.u8 (↑(List.length (List.take (65535 : Nat) s)) : Int))], [PV.int IntKind.u8 (IntKind.wrap IntKind.u8 (Int.fdiv (↑(List.length (List.take (65535 : Nat) s)) : Int) (256 : Int)))]]) + List.length (u8s (List.take (65535 : Nat) s))) * (1 : Nat) ≤ room ∧ List.length (a ++ [[PV.int IntKind.u8 (IntKind.wrap IntKind.u8 (↑(List.length (List.take (65535 : Nat) s)) : Int))], [PV.int IntKind.u8 (IntKind.wrap IntKind.u8 (Int.fdiv (↑(List.length (List.take (65535 : Nat) s)) : Int) (256 : Int)))]]) + List.length (u8s (List.take (65535 : Nat) s)) ≤ maxInt) ∧ rowOk (1 : Nat) (u8s (List.take (65535 : Nat) s)) = true ∧ Q ([TV.own (1 : Nat) (a ++ [[PV.int IntKind.u8 (IntKind.wrap IntKind.u8 (↑(List.length (List.take (65535 : Nat) s)) : Int))], [PV.int IntKind.u8 (IntKind.wrap IntKind.u8 (Int.fdiv (↑(List.length (List.take (65535 : Nat) s)) : Int) (256 : Int)))]] ++ u8s (List.take (65535 : Nat) s))], [])) ∧ (decide ((↑(List.length s) : Int) > (65535 : Int)) = false → ((List.length a + (2 : Nat)) * (1 : Nat) ≤ room ∧ List.length a + (2 : Nat) ≤ maxInt) ∧ ((List.length (a ++ [[PV.int IntKind.u8 (IntKind.wrap IntKind.u8 (↑(List.length s) : Int))], [PV.int IntKind.u8 (IntKind.wrap IntKind.u8 (Int.fdiv (↑(List.length s) : Int) (256 : Int)))]]) + List.length (u8s s)) * (1 : Nat) ≤ room ∧ List.length (a ++ [[PV.int IntKind.u8 (IntKind.wrap IntKind.u8 (↑(List.length s) : Int))], [PV.int IntKind.u8 (IntKind.wrap IntKind.u8 (Int.fdiv (↑(List.length s) : Int) (256 : Int)))]]) + List.length (u8s s) ≤ maxInt) ∧ rowOk (1 : Nat) (u8s s) = true ∧ Q ([TV.own (1 : Nat) (a ++ [[PV.int IntKind.u8 (IntKind.wrap IntKind.u8 (↑(List.length s) : Int))], [PV.int IntKind.u8 (IntKind.wrap IntKind.u8 (Int.fdiv (↑(List.length s) : Int) (256 : Int)))]] ++ u8s s)], []))) := by kernel_rfl

def g_cint : List TV → Option Alts
  | [.pv (.sl a), .pv (.int .i64 n)] => one (a.length = 0 ∧ 0 ≤ n ∧ n ≤ 9223372036854775807) ([.own 1 (u8s (le 8 n.toNat))], [])
  | _ => none

def g_ctx : List TV → Option Alts
  | [.pv (.sl a), .pv (.str s)] => one (∃ x : List UInt8, a = u8s x ∧ x.length ≤ 40000000) ([.own 1 (a ++ u8s (txB s))], [])
  | _ => none

def g_rtx : List TV → Option Alts
  | [.own 1 a, .pv (.str s)] => one (∃ x : List UInt8, a = u8s x ∧ x.length ≤ 40000000) ([.own 1 (a ++ u8s (txB s))], [])
  | _ => none

noncomputable def g_byt (N : Nat) : List TV → Option Alts
  | [.pv (.sl a)] => one (∃ t : Tr, a = t.rows ∧ t.nodes < N ∧ (binT t).length ≤ 40000000) ([.own 1 (u8s (binT (unrow a)))], [])
  | _ => none

noncomputable def S_pb (N : Nat) : Specs := specL [(44, g_cint), (45, g_ctx), (15, g_byt N)]

theorem pb_w (N : Nat) (a : List (List PV)) (Q : List TV × List TV → Prop) : (wFun C (S_pb N) 15 [.pv (.sl a)] Q) (H.auto) = (((0 : Nat) = (0 : Nat) ∧ (0 : Int) ≤ (↑(List.length a) : Int) ∧ (↑(List.length a) : Int) ≤ (9223372036854775807 : Int)) ∧ LoopAt C (15 : FuncId) (CP.dn (CP.dn (CP.dn (CP.dn (CP.dn CP.top (1 : Nat)) (1 : Nat)) (0 : Nat)) (1 : Nat)) (0 : Nat)) (St.mk [((3 : Nat), AV.pv (PV.sl [[PV.int IntKind.u8 (↑(UInt8.toNat (UInt8.ofNat (Int.toNat (↑(List.length a) : Int) / (1 : Nat)))) : Int)], [PV.int IntKind.u8 (↑(UInt8.toNat (UInt8.ofNat (Int.toNat (↑(List.length a) : Int) / (256 : Nat)))) : Int)]])), ((10 : Nat), AV.pv (PV.sl a)), ((11 : Nat), AV.pv (PV.int IntKind.i64 (↑(List.length a) : Int))), ((12 : Nat), AV.pv (PV.int IntKind.i64 (0 : Int)))] []) (exK (blockK (0 : Nat) (seqK (wAt C (S_pb N) (15 : FuncId) (99997 : Nat) (CP.dn (CP.dn (CP.dn CP.top (1 : Nat)) (1 : Nat)) (1 : Nat))) (retK C (15 : FuncId) [TV.pv (PV.sl a)] Q))))) := by kernel_rfl

def pb_c0 : CP := (CP.dn (CP.dn (CP.dn (CP.dn (CP.dn CP.top (1 : Nat)) (1 : Nat)) (0 : Nat)) (1 : Nat)) (0 : Nat))

def pb_h0 (t3 : List (List PV)) (t10 : List (List PV)) (t11 : Int) (t12 : Int) : St := (St.mk [((3 : Nat), AV.pv (PV.sl t3)), ((10 : Nat), AV.pv (PV.sl t10)), ((11 : Nat), AV.pv (PV.int IntKind.i64 t11)), ((12 : Nat), AV.pv (PV.int IntKind.i64 t12))] [])

theorem pb_l0 (N : Nat) (a : List (List PV)) (t3 : List (List PV)) (t10 : List (List PV)) (t11 : Int) (t12 : Int)  (J0 : St → Prop) (Q : List TV × List TV → Prop) : (wAt C (S_pb N) 15 1000 (pb_c0.dn 0) (pb_h0 t3 t10 t11 t12) (loopK C 15 pb_c0 J0 (exK (blockK (0 : Nat) (seqK (wAt C (S_pb N) (15 : FuncId) (99997 : Nat) (CP.dn (CP.dn (CP.dn CP.top (1 : Nat)) (1 : Nat)) (1 : Nat))) (retK C (15 : FuncId) [TV.pv (PV.sl a)] Q)))))) (H.b (H.s (H.s (H.s (H.s H.auto)))) H.auto) = ((decide (t12 < t11) = true → (0 : Int) ≤ t12 ∧ ∃ (s : List UInt8), ∃ (es : List (List PV)), t10[Int.toNat t12]? = some [PV.str s, PV.sl es] ∧ (∃ (x : List UInt8), t3 = u8s x ∧ List.length x ≤ (40000000 : Nat)) ∧ (∃ (t : Tr), es = Tr.rows t ∧ Tr.nodes t < N ∧ List.length (binT t) ≤ (40000000 : Nat)) ∧ ((List.length (t3 ++ u8s (txB s)) + List.length (u8s (binT (unrow es)))) * (1 : Nat) ≤ room ∧ List.length (t3 ++ u8s (txB s)) + List.length (u8s (binT (unrow es))) ≤ maxInt) ∧ rowOk (1 : Nat) (u8s (binT (unrow es))) = true ∧ J0 (St.mk [((3 : Nat), AV.pv (PV.sl (t3 ++ u8s (txB s) ++ u8s (binT (unrow es))))), ((10 : Nat), AV.pv (PV.sl t10)), ((11 : Nat), AV.pv (PV.int IntKind.i64 t11)), ((12 : Nat), AV.pv (PV.int IntKind.i64 (IntKind.wrap IntKind.i64 (t12 + (1 : Int)))))] [])) ∧ (decide (t12 < t11) = false → exK (blockK (0 : Nat) (seqK (wAt C (S_pb N) (15 : FuncId) (99997 : Nat) (CP.dn (CP.dn (CP.dn CP.top (1 : Nat)) (1 : Nat)) (1 : Nat))) (retK C (15 : FuncId) [TV.pv (PV.sl a)] Q))) (Ex.exit (0 : Nat)) (St.mk [((13 : Nat), AV.pv (PV.bool false)), ((3 : Nat), AV.pv (PV.sl t3)), ((10 : Nat), AV.pv (PV.sl t10)), ((11 : Nat), AV.pv (PV.int IntKind.i64 t11)), ((12 : Nat), AV.pv (PV.int IntKind.i64 t12))] []))) := by kernel_rfl

def pb_s1 (t3 : List (List PV)) (t10 : List (List PV)) (t11 : Int) (t12 : Int) : St := (St.mk [((13 : Nat), AV.pv (PV.bool false)), ((3 : Nat), AV.pv (PV.sl t3)), ((10 : Nat), AV.pv (PV.sl t10)), ((11 : Nat), AV.pv (PV.int IntKind.i64 t11)), ((12 : Nat), AV.pv (PV.int IntKind.i64 t12))] [])

theorem pb_x1 (N : Nat) (a : List (List PV)) (t3 : List (List PV)) (t10 : List (List PV)) (t11 : Int) (t12 : Int)  (Q : List TV × List TV → Prop) : (fun h => blockK (0 : Nat) (seqK (wAt C (S_pb N) (15 : FuncId) (99997 : Nat) (CP.dn (CP.dn (CP.dn CP.top (1 : Nat)) (1 : Nat)) (1 : Nat))) (retK C (15 : FuncId) [TV.pv (PV.sl a)] Q)) h (Ex.exit (0 : Nat)) (pb_s1 t3 t10 t11 t12)) (H.s (H.s H.auto)) = ((((0 : Nat) + List.length t3) * (1 : Nat) ≤ room ∧ (0 : Nat) + List.length t3 ≤ maxInt) ∧ rowOk (1 : Nat) t3 = true ∧ Q ([TV.own (1 : Nat) t3], [])) := by kernel_rfl

noncomputable def S_rb (N : Nat) : Specs := specL [(57, g_rtx), (24, g_byt N)]

theorem rb_w (N : Nat) (a : List (List PV)) (Q : List TV × List TV → Prop) : (wFun C (S_rb N) 24 [.pv (.sl a)] Q) (H.auto) = (LoopAt C (24 : FuncId) (CP.dn (CP.dn (CP.dn (CP.dn (CP.dn CP.top (1 : Nat)) (1 : Nat)) (0 : Nat)) (1 : Nat)) (0 : Nat)) (St.mk [((0 : Nat), AV.pv (PV.sl a)), ((3 : Nat), AV.own (6 : Nat)), ((4 : Nat), AV.pv (PV.int IntKind.i64 (0 : Int)))] [((6 : Nat), Obj.buf (1 : Nat) [[PV.int IntKind.u8 (IntKind.wrap IntKind.u8 (Int.tmod (↑(List.length a) : Int) (256 : Int)))], [PV.int IntKind.u8 (IntKind.wrap IntKind.u8 (IntKind.wrap IntKind.i64 (Int.tdiv (↑(List.length a) : Int) (256 : Int))))]])]) (exK (blockK (0 : Nat) (seqK (wAt C (S_rb N) (24 : FuncId) (99997 : Nat) (CP.dn (CP.dn (CP.dn CP.top (1 : Nat)) (1 : Nat)) (1 : Nat))) (retK C (24 : FuncId) [TV.pv (PV.sl a)] Q))))) := by kernel_rfl

def rb_c0 : CP := (CP.dn (CP.dn (CP.dn (CP.dn (CP.dn CP.top (1 : Nat)) (1 : Nat)) (0 : Nat)) (1 : Nat)) (0 : Nat))

def rb_h0 (t0 : List (List PV)) (t4 : Int) (o6 : List (List PV)) : St := (St.mk [((0 : Nat), AV.pv (PV.sl t0)), ((3 : Nat), AV.own (6 : Nat)), ((4 : Nat), AV.pv (PV.int IntKind.i64 t4))] [((6 : Nat), Obj.buf (1 : Nat) o6)])

theorem rb_l0 (N : Nat) (a : List (List PV)) (t0 : List (List PV)) (t4 : Int) (o6 : List (List PV))  (J0 : St → Prop) (Q : List TV × List TV → Prop) : (wAt C (S_rb N) 24 1000 (rb_c0.dn 0) (rb_h0 t0 t4 o6) (loopK C 24 rb_c0 J0 (exK (blockK (0 : Nat) (seqK (wAt C (S_rb N) (24 : FuncId) (99997 : Nat) (CP.dn (CP.dn (CP.dn CP.top (1 : Nat)) (1 : Nat)) (1 : Nat))) (retK C (24 : FuncId) [TV.pv (PV.sl a)] Q)))))) (H.b (H.s (H.s (H.s (H.s (H.s (H.s H.auto)))))) H.auto) = ((decide (t4 < (↑(List.length t0) : Int)) = true → (0 : Int) ≤ t4 ∧ ∃ (s : List UInt8), ∃ (es : List (List PV)), t0[Int.toNat t4]? = some [PV.str s, PV.sl es] ∧ (∃ (x : List UInt8), o6 = u8s x ∧ List.length x ≤ (40000000 : Nat)) ∧ (0 : Int) ≤ t4 ∧ ∃ (s_1 : List UInt8), ∃ (es : List (List PV)), t0[Int.toNat t4]? = some [PV.str s_1, PV.sl es] ∧ (∃ (t : Tr), es = Tr.rows t ∧ Tr.nodes t < N ∧ List.length (binT t) ≤ (40000000 : Nat)) ∧ ((List.length (o6 ++ u8s (txB s)) + List.length (u8s (binT (unrow es)))) * (1 : Nat) ≤ room ∧ List.length (o6 ++ u8s (txB s)) + List.length (u8s (binT (unrow es))) ≤ maxInt) ∧ rowOk (1 : Nat) (u8s (binT (unrow es))) = true ∧ J0 (St.mk [((0 : Nat), AV.pv (PV.sl t0)), ((3 : Nat), AV.own (6 : Nat)), ((4 : Nat), AV.pv (PV.int IntKind.i64 (IntKind.wrap IntKind.i64 (t4 + (1 : Int)))))] [((6 : Nat), Obj.buf (1 : Nat) (o6 ++ u8s (txB s) ++ u8s (binT (unrow es))))])) ∧ (decide (t4 < (↑(List.length t0) : Int)) = false → ∃ (h : H), Q ([TV.own (1 : Nat) o6], []))) := by kernel_rfl

theorem u8s_app (a b : List UInt8) : u8s (a ++ b) = u8s a ++ u8s b := by simp [u8s]
theorem u8s_len (a : List UInt8) : (u8s a).length = a.length := by simp [u8s]
theorem rowOk_u8s (a : List UInt8) : rowOk 1 (u8s a) = true := by simp [rowOk, u8s]
theorem flat_u8s (a : List UInt8) : (flatTVs [TV.own 1 (u8s a)] && true) = true := by simp [flatTVs, flatTV, u8s, flatPVs, flatPV]
theorem le_two (v : Nat) : le 2 v = [UInt8.ofNat v, UInt8.ofNat (v / 256)] := by simp [le, List.range_succ]
theorem le_len (n v : Nat) : (le n v).length = n := by simp [le]
theorem le_succ (n v : Nat) : le (n + 1) v = le n v ++ [UInt8.ofNat (v / 2 ^ (8 * n))] := by simp [le, List.range_succ]
theorem w8_nat (q : Nat) : IntKind.wrap .u8 (q : Int) = ((UInt8.ofNat q).toNat : Int) := by
  have h1 : IntKind.wrap .u8 (q : Int) = (q : Int) % 256 := by simp [IntKind.wrap, IntKind.signed, IntKind.bits]
  have h2 : (UInt8.ofNat q).toNat = q % 256 := by simp
  rw [h1, h2]; omega

theorem lo_ev (v n : Nat) (hn : n ≤ 8) : Ev C 77 [.pv (.int .u64 v), .pv (.int .i64 n)] ([.own 1 (u8s (le n v))], []) := by
  refine ev_w noSpec_ok (lo_w v n _) ⟨⟨by omega, by omega, by omega, by omega⟩, ?_⟩
  refine loop_rule noSpec_ok (by kernel_rfl) 1000 (fun k st => ∃ i : Nat, st = lo_h0 v n i (u8s (le i v) ++ List.replicate (n - i) [PV.int .u8 0]) ∧ i ≤ n ∧ k = n - i) ?_ (n := n) ⟨0, by simp [lo_h0, le, u8s], by omega, by omega⟩
  rintro k st ⟨i, rfl, hi, rfl⟩
  refine ex_w (lo_l0 _ _ _ _ _ _ _ _) ⟨fun h => ?_, fun h => ?_⟩
  · simp only [decide_eq_true_eq] at h
    have w1 := w64s (i := i) (by omega)
    have w2 : IntKind.wrap .i64 (8 * (i : Int)) = ((8 * i : Nat) : Int) := by rw [w64 (by omega)]; omega
    have w3 : min (8 * i) 64 = 8 * i := by omega
    have hr : List.replicate (n - i) [PV.int IntKind.u8 0] = [PV.int .u8 0] :: List.replicate (n - (i + 1)) [PV.int .u8 0] := by
      rw [show n - i = (n - (i + 1)) + 1 by omega, List.replicate_succ]
    have hl := u8s_len (le i v)
    rw [le_len] at hl
    have hp : (2 : Int) ^ (8 * i) = ((2 ^ (8 * i) : Nat) : Int) := by rw [Int.natCast_pow]; rfl
    have hf : Int.fdiv (v : Int) ((2 ^ (8 * i) : Nat) : Int) = ((v / 2 ^ (8 * i) : Nat) : Int) := by rw [Int.ofNat_fdiv]
    rw [w1, w2]
    simp only [Int.toNat_natCast]
    rw [w3, hp, hf, w8_nat, hr]
    refine ⟨by omega, ⟨by omega, by simp only [List.length_append, List.length_cons, List.length_replicate]; omega⟩, [PV.int .u8 0], ?_, by simp, by simp, n - (i + 1), by omega, i + 1, ?_, by omega, rfl⟩
    · rw [List.getElem?_append_right (by omega), hl, Nat.sub_self]; rfl
    · rw [List.set_append_right _ _ (by omega), hl, Nat.sub_self, List.set_cons_zero, le_succ, u8s_app, List.append_assoc]; rfl
  · simp only [decide_eq_false_iff_not] at h
    have : i = n := by omega
    subst this
    exact ⟨.auto, by rw [Nat.sub_self, List.replicate_zero, List.append_nil]⟩

theorem low_ok : ∀ ag al, g_low ag = some al → ∀ a ∈ al, a.1 → Ev C 77 ag a.2 := by
  intro ag al hl x hx hp
  unfold g_low at hl
  split at hl
  · rename_i v n
    have e := one_mem hl hx; subst e
    simp only at hp
    have := lo_ev v.toNat n.toNat (by omega)
    rwa [show ((v.toNat : Nat) : Int) = v by omega, show ((n.toNat : Nat) : Int) = n by omega] at this
  · exact absurd hl (by simp)

theorem wi2_ev (x y : List UInt8) (h : x.length + y.length ≤ 80000000) : Ev C 76 [.pv (.agg [.sl (u8s x)]), .pv (.sl (u8s y))] ([.own 1 (u8s x ++ u8s y)], []) := by
  have hx := u8s_len x
  have hy := u8s_len y
  have ox := rowOk_u8s x
  have oy := rowOk_u8s y
  refine ev_w noSpec_ok (wi2_w (u8s x) (u8s y) _) ?_
  generalize u8s x = a at *
  generalize u8s y = b at *
  have w1 : IntKind.wrap .i64 ((a.length : Int) + (b.length : Int)) = ((a.length + b.length : Nat) : Int) := by rw [w64 (by omega)]; omega
  rw [w1]
  simp only [Int.toNat_natCast, List.length_replicate]
  have m1 : min a.length (a.length + b.length) = a.length := by omega
  rw [m1]
  have b1 : ([] : List (List PV)) ++ (List.take a.length a ++ List.drop (0 + a.length) (List.replicate (a.length + b.length) [PV.int IntKind.u8 0])) = a ++ List.replicate b.length [PV.int .u8 0] := by
    rw [List.nil_append, List.take_length, Nat.zero_add, List.drop_replicate, Nat.add_sub_cancel_left]
  rw [b1]
  simp only [List.length_append, List.length_replicate, Int.ofNat_eq_natCast, Int.toNat_natCast, List.take_left, Nat.add_sub_cancel_left, Nat.min_self, List.take_length]
  have d1 : List.drop (a.length + b.length) (a ++ List.replicate b.length [PV.int IntKind.u8 0]) = [] := List.drop_of_length_le (by simp)
  rw [d1]
  refine ⟨⟨by omega, by omega, by omega, by omega⟩, ox, trivial, ⟨by omega, by omega, by omega⟩, by omega, oy, by simp, by simp⟩

theorem wi2_ok : ∀ ag al, g_wi2 ag = some al → ∀ a ∈ al, a.1 → Ev C 76 ag a.2 := by
  intro ag al hl x hx hp
  unfold g_wi2 at hl
  split at hl
  · have e := one_mem hl hx; subst e
    obtain ⟨x, y, rfl, rfl, h⟩ := hp
    exact wi2_ev x y h
  · exact absurd hl (by simp)
theorem code_specs : SpecOK C S_code := specL_ok (specs_cons low_ok (specs_cons wi2_ok specs_nil))

theorem wu64 {n : Int} (h : 0 ≤ n ∧ n ≤ 9223372036854775807) : IntKind.wrap .u64 n = n := by
  have h1 : IntKind.wrap .u64 n = n % 18446744073709551616 := by simp [IntKind.wrap, IntKind.signed, IntKind.bits]
  rw [h1]; omega

theorem cint_ok : ∀ ag al, g_cint ag = some al → ∀ a ∈ al, a.1 → Ev C 44 ag a.2 := by
  intro ag al hl x hx hp
  unfold g_cint at hl
  split at hl
  · rename_i a n
    have e := one_mem hl hx; subst e
    simp only at hp
    obtain ⟨h1, h2⟩ := hp
    have : a = [] := List.length_eq_zero_iff.1 h1
    subst this
    refine ev_w code_specs (ci_w [] n _) ?_
    rw [wu64 h2, List.nil_append]
    exact ⟨⟨by omega, by omega, by omega⟩, ⟨[], _, rfl, rfl, by rw [le_len]; simp⟩, flat_u8s _, rfl⟩
  · exact absurd hl (by simp)

theorem ctx_ok : ∀ ag al, g_ctx ag = some al → ∀ a ∈ al, a.1 → Ev C 45 ag a.2 := by
  intro ag al hl x hx hp
  unfold g_ctx at hl
  split at hl
  · rename_i a s
    have e := one_mem hl hx; subst e
    obtain ⟨x, rfl, h⟩ := hp
    have e1 : (if (65535 : Int) < (s.length : Int) then (65535 : Int) else (s.length : Int)) = ((min s.length 65535 : Nat) : Int) := by split <;> omega
    have e2 : List.take (min s.length 65535) s = s.take 65535 := by
      rcases Nat.lt_or_ge 65535 s.length with h4 | h4
      · rw [Nat.min_eq_right (by omega)]
      · rw [Nat.min_eq_left (by omega), List.take_of_length_le (by omega), List.take_of_length_le (by omega)]
    have e3 : (s.take 65535).length = min s.length 65535 := by rw [List.length_take, Nat.min_comm]
    refine ev_w code_specs (ct_w (u8s x) s _) ?_
    rw [e1]
    simp only [Int.toNat_natCast, Nat.sub_zero, e2, e3]
    rw [wu64 (by omega), ← u8s_app, ← u8s_app]
    simp only [Int.toNat_natCast]
    refine ⟨⟨by omega, by omega, by simp only [Int.ofNat_eq_natCast]; omega⟩, ⟨by omega, by omega, by omega⟩, ⟨x, _, rfl, rfl, by rw [le_len]; omega⟩, flat_u8s _, ⟨_, _, rfl, rfl, by rw [List.length_append, le_len, e3]; omega⟩, flat_u8s _, ?_⟩
    rw [List.append_assoc, ← u8s_app]; rfl
  · exact absurd hl (by simp)

theorem rtx_ok : ∀ ag al, g_rtx ag = some al → ∀ a ∈ al, a.1 → Ev C 57 ag a.2 := by
  intro ag al hl x hx hp
  unfold g_rtx at hl
  split at hl
  · rename_i a s
    have e := one_mem hl hx; subst e
    obtain ⟨x, rfl, h⟩ := hp
    have hr := room_val
    have hm := maxInt_val
    have e2 : (s.take 65535).length = min s.length 65535 := by rw [List.length_take, Nat.min_comm]
    have hf : ∀ n : Nat, Int.fdiv (n : Int) 256 = ((n / 256 : Nat) : Int) := fun n => by
      rw [show (256 : Int) = ((256 : Nat) : Int) by rfl, ← Int.ofNat_fdiv]
    have two : ∀ n : Nat, [[PV.int IntKind.u8 (IntKind.wrap .u8 (n : Int))], [PV.int IntKind.u8 (IntKind.wrap .u8 (Int.fdiv (n : Int) 256))]] = u8s (le 2 n) := fun n => by
      rw [hf, w8_nat, w8_nat, le_two]; rfl
    have fin : ∀ s' : List UInt8, s' = s.take 65535 → ([TV.own 1 (u8s x ++ u8s (le 2 s'.length) ++ u8s s')], ([] : List TV)) = ([.own 1 (u8s x ++ u8s (txB s))], []) := by
      rintro s' rfl
      rw [e2, txB, u8s_app, List.append_assoc]
    refine ev_w noSpec_ok (rtx_w (u8s x) s _) ⟨fun h1 => ?_, fun h1 => ?_⟩
    · simp only [gt_iff_lt, decide_eq_true_eq] at h1
      rw [two]
      simp only [List.length_append, u8s_len, le_len, e2]
      refine ⟨⟨by omega, by omega, by simp only [Int.ofNat_eq_natCast]; omega⟩, ⟨by omega, by omega⟩, ⟨by omega, by omega⟩, rowOk_u8s _, ?_⟩
      have := fin _ rfl
      rwa [e2] at this
    · simp only [gt_iff_lt, decide_eq_false_iff_not] at h1
      have hs : s = s.take 65535 := (List.take_of_length_le (by omega)).symm
      rw [two]
      simp only [List.length_append, u8s_len, le_len]
      exact ⟨⟨by omega, by omega⟩, ⟨by omega, by omega⟩, rowOk_u8s _, fin _ hs⟩
  · exact absurd hl (by simp)

/-! ### Bytes -/
def bE (e : List UInt8 × Tr) : List UInt8 := txB e.1 ++ binT e.2
theorem bts_list : ∀ t : Tr, t.bts = t.list.flatMap bE
  | .nil => rfl
  | .cons n k r => by simp [Tr.bts, Tr.list, bE, binT, bts_list r]
theorem binT_eq (t : Tr) : binT t = le 2 t.list.length ++ t.list.flatMap bE := by rw [binT, bts_list]
theorem bts_take (l : List (List UInt8 × Tr)) (i : Nat) : ((l.take i).flatMap bE).length ≤ (l.flatMap bE).length := by
  have : l.flatMap bE = (l.take i).flatMap bE ++ (l.drop i).flatMap bE := by rw [← List.flatMap_append, List.take_append_drop]
  rw [this]; simp
theorem bts_succ {l : List (List UInt8 × Tr)} {i : Nat} (h : i < l.length) : (l.take (i + 1)).flatMap bE = (l.take i).flatMap bE ++ (txB l[i].1 ++ binT l[i].2) := by
  rw [List.take_succ_eq_append_getElem h, List.flatMap_append]; simp [bE]
theorem bts_cnt (l : List (List UInt8 × Tr)) : l.length ≤ (l.flatMap bE).length := by
  induction l with
  | nil => simp
  | cons e l ih =>
    have : 1 ≤ (bE e).length := by simp only [bE, txB, List.length_append, le_len]; omega
    simp only [List.flatMap_cons, List.length_append, List.length_cons]; omega

theorem byt_ok {f : FuncId} {N : Nat} (h : ∀ t : Tr, t.nodes < N → (binT t).length ≤ 40000000 → Ev C f [.pv (.sl t.rows)] ([.own 1 (u8s (binT t))], [])) : ∀ ag al, g_byt N ag = some al → ∀ a ∈ al, a.1 → Ev C f ag a.2 := by
  intro ag al hl x hx hp
  unfold g_byt at hl
  split at hl
  · have e := one_mem hl hx; subst e
    obtain ⟨t, rfl, h1, h2⟩ := hp
    rw [unrow_rows]
    exact h t h1 h2
  · exact absurd hl (by simp)

theorem pb_ev : ∀ (N : Nat) (t : Tr), t.nodes < N → (binT t).length ≤ 40000000 → Ev C 15 [.pv (.sl t.rows)] ([.own 1 (u8s (binT t))], [])
  | 0, t, h, _ => by omega
  | N + 1, t, h, hb => by
    have hr := room_val
    have hm := maxInt_val
    have hS : SpecOK C (S_pb N) := specL_ok (specs_cons cint_ok (specs_cons ctx_ok (specs_cons (byt_ok (pb_ev N)) specs_nil)))
    have hl := rows_len t
    have hc := bts_cnt t.list
    rw [binT_eq] at hb ⊢
    simp only [List.length_append, le_len] at hb
    have h2 : [[PV.int IntKind.u8 ((UInt8.ofNat (t.list.length / 1)).toNat : Int)], [PV.int IntKind.u8 ((UInt8.ofNat (t.list.length / 256)).toNat : Int)]] = u8s (le 2 t.list.length) := by rw [le_two, Nat.div_one]; rfl
    refine ev_w hS (pb_w N t.rows _) ?_
    rw [hl]
    simp only [Int.toNat_natCast]
    refine ⟨⟨trivial, by omega⟩, ?_⟩
    refine loop_rule hS (by kernel_rfl) 1000 (fun n st => ∃ i : Nat, st = pb_h0 (u8s (le 2 t.list.length ++ (t.list.take i).flatMap bE)) t.rows t.list.length i ∧ i ≤ t.list.length ∧ n = t.list.length - i) ?_ (n := t.list.length) ⟨0, by rw [h2]; simp [pb_h0], by omega, by omega⟩
    rintro n st ⟨i, rfl, hi, rfl⟩
    refine ex_w (pb_l0 _ _ _ _ _ _ _ _) ⟨fun h1 => ?_, fun h1 => ?_⟩
    · simp only [decide_eq_true_eq] at h1
      have hi' : i < t.list.length := by omega
      have w1 := w64s (i := i) (by omega)
      have b2 := nodes_lt (List.getElem_mem hi')
      have b3 := bts_take t.list (i + 1)
      have b4 := bts_succ hi'
      rw [b4] at b3
      simp only [List.length_append] at b3
      rw [w1]
      refine ⟨by omega, _, _, row_get t hi', ⟨_, rfl, by simp only [List.length_append, le_len]; omega⟩, ⟨_, rfl, by omega, by omega⟩, ?_⟩
      rw [unrow_rows]
      refine ⟨⟨by simp only [List.length_append, u8s_len, le_len]; omega, by simp only [List.length_append, u8s_len, le_len]; omega⟩, rowOk_u8s _, t.list.length - (i + 1), by omega, i + 1, ?_, by omega, rfl⟩
      rw [b4, ← u8s_app, ← u8s_app, List.append_assoc, List.append_assoc]; rfl
    · simp only [decide_eq_false_iff_not] at h1
      have : i = t.list.length := by omega
      subst this
      rw [List.take_length]
      refine ex_w (pb_x1 _ _ _ _ _ _ _) ⟨⟨by simp only [List.length_append, u8s_len, le_len]; omega, by simp only [List.length_append, u8s_len, le_len]; omega⟩, rowOk_u8s _, rfl⟩

theorem rb_ev : ∀ (N : Nat) (t : Tr), t.nodes < N → (binT t).length ≤ 40000000 → Ev C 24 [.pv (.sl t.rows)] ([.own 1 (u8s (binT t))], [])
  | 0, t, h, _ => by omega
  | N + 1, t, h, hb => by
    have hr := room_val
    have hm := maxInt_val
    have hS : SpecOK C (S_rb N) := specL_ok (specs_cons rtx_ok (specs_cons (byt_ok (rb_ev N)) specs_nil))
    have hl := rows_len t
    have hc := bts_cnt t.list
    rw [binT_eq] at hb ⊢
    simp only [List.length_append, le_len] at hb
    have h2 : [[PV.int IntKind.u8 (IntKind.wrap .u8 (Int.tmod (t.list.length : Int) 256))], [PV.int IntKind.u8 (IntKind.wrap .u8 (IntKind.wrap .i64 (Int.tdiv (t.list.length : Int) 256)))]] = u8s (le 2 t.list.length) := by
      have e1 : Int.tmod (t.list.length : Int) 256 = ((t.list.length % 256 : Nat) : Int) := rfl
      have e2 : Int.tdiv (t.list.length : Int) 256 = ((t.list.length / 256 : Nat) : Int) := rfl
      rw [e1, e2, w64 (by omega), w8_nat, w8_nat, le_two]
      have e3 : UInt8.ofNat (t.list.length % 256) = UInt8.ofNat t.list.length := by
        apply UInt8.toNat_inj.1; simp
      rw [e3]; rfl
    refine ev_w hS (rb_w N t.rows _) ?_
    rw [hl]
    refine loop_rule hS (by kernel_rfl) 1000 (fun n st => ∃ i : Nat, st = rb_h0 t.rows i (u8s (le 2 t.list.length ++ (t.list.take i).flatMap bE)) ∧ i ≤ t.list.length ∧ n = t.list.length - i) ?_ (n := t.list.length) ⟨0, by rw [h2]; simp [rb_h0], by omega, by omega⟩
    rintro n st ⟨i, rfl, hi, rfl⟩
    refine ex_w (rb_l0 _ _ _ _ _ _ _) ⟨fun h1 => ?_, fun h1 => ?_⟩
    · simp only [decide_eq_true_eq] at h1
      have hi' : i < t.list.length := by omega
      have w1 := w64s (i := i) (by omega)
      have b2 := nodes_lt (List.getElem_mem hi')
      have b3 := bts_take t.list (i + 1)
      have b4 := bts_succ hi'
      rw [b4] at b3
      simp only [List.length_append] at b3
      rw [w1]
      refine ⟨by omega, _, _, row_get t hi', ⟨_, rfl, by simp only [List.length_append, le_len]; omega⟩, by omega, _, _, row_get t hi', ⟨_, rfl, by omega, by omega⟩, ?_⟩
      rw [unrow_rows]
      refine ⟨⟨by simp only [List.length_append, u8s_len, le_len]; omega, by simp only [List.length_append, u8s_len, le_len]; omega⟩, rowOk_u8s _, t.list.length - (i + 1), by omega, i + 1, ?_, by omega, rfl⟩
      rw [b4, ← u8s_app, ← u8s_app, List.append_assoc, List.append_assoc]; rfl
    · simp only [decide_eq_false_iff_not] at h1
      have : i = t.list.length := by omega
      subst this
      rw [List.take_length]
      exact ⟨.auto, rfl⟩
