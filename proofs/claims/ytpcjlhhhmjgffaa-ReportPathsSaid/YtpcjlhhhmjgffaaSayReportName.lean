/-
  Names in quotes, read in the machine.
-/
import Derived.Test.YtpcjlhhhmjgffaaSayReportUnlike
import Derived.Test.YtpcjlhhhmjgffaaSayReadLaw
namespace Go.Proofs.Ytpcjlhhhmjgffaa.Vm
open Go Go.RowKit
set_option linter.unusedVariables false
set_option linter.unusedSimpArgs false
set_option maxRecDepth 100000

theorem u8t {c : UInt8} {k : Int} (n : Nat) (hn : n < 256) (hk : k = n) (h : ((c.toNat : Int) == k) = true) : c = UInt8.ofNat n := by
  have h := beq_iff_eq.1 h
  exact (u8_eq hn).1 (by omega)
theorem u8f {c : UInt8} {k : Int} (n : Nat) (hn : n < 256) (hk : k = n) (h : ((c.toNat : Int) == k) = false) : c ≠ UInt8.ofNat n := by
  have h := beq_eq_false_iff_ne.1 h
  intro e
  have := (u8_eq hn).2 e
  omega
theorem u8nt {c : UInt8} {k : Int} (n : Nat) (hn : n < 256) (hk : k = n) (h : ((c.toNat : Int) != k) = true) : c ≠ UInt8.ofNat n := u8f n hn hk (by simpa using h)
theorem u8nf {c : UInt8} {k : Int} (n : Nat) (hn : n < 256) (hk : k = n) (h : ((c.toNat : Int) != k) = false) : c = UInt8.ofNat n := u8t n hn hk (by simpa using h)
theorem w32u (c : UInt8) : IntKind.wrap .i32 (c.toNat : Int) = c.toNat := by
  have := c.toNat_lt
  exact IntWalk.i32_in _ (by omega)
theorem w8u (c : UInt8) : IntKind.wrap .u8 (c.toNat : Int) = c.toNat := by
  have := c.toNat_lt
  exact IntWalk.u8_in _ (by omega)
theorem u8s_len (a : List UInt8) : (u8s a).length = a.length := by simp [u8s]
theorem u8Row_u8s (a : List UInt8) : u8Row (u8s a) = true := by simp [u8Row, u8s]
theorem ofU8s_u8s (a : List UInt8) : ofU8s (u8s a) = a := by simp [ofU8s, u8s, Function.comp_def]
theorem u8s_one (a : List UInt8) (c : UInt8) : u8s a ++ [[.int .u8 c.toNat]] = u8s (a ++ [c]) := by simp [u8s]

theorem ixb_all : (List.range 256).all (fun n => match callN C 300 35 [.pv (.str digs), .pv (.int .u8 (n : Nat))] with | some ([.pv (.int .i64 v)], []) => v == hexV (UInt8.ofNat n) | _ => false) = true := by decide +kernel

def hexN (c : Int) : Int := hexV (UInt8.ofNat c.toNat)

def g_ixb : List TV → Option Alts
  | [.pv (.str s), .pv (.int .u8 c)] => if s = digs then one (0 ≤ c ∧ c < 256) ([.pv (.int .i64 (hexN c))], []) else none
  | _ => none

def S_hx : Specs := specL [(35, g_ixb)]

theorem hx_w (c : Int) (Q : List TV × List TV → Prop) : (wFun C S_hx 55 [.pv (.int .u8 c)] Q) (H.auto) = (((0 : Int) ≤ c ∧ c < (256 : Int)) ∧ Q ([TV.pv (PV.int IntKind.i64 (hexN c))], [])) := by kernel_rfl

theorem dg_w (c : Int) (Q : List TV × List TV → Prop) : (wFun C noSpec 56 [.pv (.int .u8 c)] Q) (H.b (H.n (2 : Nat) (H.b H.auto (H.b (H.n (2 : Nat) (H.b H.auto H.auto)) H.auto))) (H.n (3 : Nat) (H.b (H.n (2 : Nat) (H.b H.auto H.auto)) H.auto))) = ((decide (c ≥ (48 : Int)) = true → (decide (c ≤ (57 : Int)) = true → Q ([TV.pv (PV.int IntKind.i64 (IntKind.wrap IntKind.i64 (IntKind.wrap IntKind.u8 (c - (48 : Int)))))], [])) ∧ (decide (c ≤ (57 : Int)) = false → (decide (c ≥ (97 : Int)) = true → (decide (c ≤ (102 : Int)) = true → Q ([TV.pv (PV.int IntKind.i64 (IntKind.wrap IntKind.i64 (IntKind.wrap IntKind.i64 (IntKind.wrap IntKind.u8 (c - (97 : Int))) + (10 : Int))))], [])) ∧ (decide (c ≤ (102 : Int)) = false → Q ([TV.pv (PV.int IntKind.i64 (-1 : Int))], []))) ∧ (decide (c ≥ (97 : Int)) = false → Q ([TV.pv (PV.int IntKind.i64 (-1 : Int))], [])))) ∧ (decide (c ≥ (48 : Int)) = false → (decide (c ≥ (97 : Int)) = true → (decide (c ≤ (102 : Int)) = true → Q ([TV.pv (PV.int IntKind.i64 (IntKind.wrap IntKind.i64 (IntKind.wrap IntKind.i64 (IntKind.wrap IntKind.u8 (c - (97 : Int))) + (10 : Int))))], [])) ∧ (decide (c ≤ (102 : Int)) = false → Q ([TV.pv (PV.int IntKind.i64 (-1 : Int))], []))) ∧ (decide (c ≥ (97 : Int)) = false → Q ([TV.pv (PV.int IntKind.i64 (-1 : Int))], [])))) := by kernel_rfl

def g_hexV : List TV → Option Alts
  | [.pv (.int .u8 c)] => one (0 ≤ c ∧ c < 256) ([.pv (.int .i64 (hexN c))], [])
  | _ => none

def S_nm : Specs := specL [(55, g_hexV)]

theorem nm_w (s : List UInt8) (Q : List TV × List TV → Prop) : (wFun C S_nm 45 [.pv (.str s)] Q) (H.auto) = (LoopAt C (45 : FuncId) (CP.dn (CP.dn (CP.dn (CP.dn (CP.dn CP.top (1 : Nat)) (1 : Nat)) (0 : Nat)) (1 : Nat)) (0 : Nat)) (St.mk [((0 : Nat), AV.pv (PV.str s)), ((4 : Nat), AV.own (8 : Nat)), ((5 : Nat), AV.pv (PV.int IntKind.i64 (1 : Int)))] [((8 : Nat), Obj.buf (1 : Nat) [])]) (exK (blockK (0 : Nat) (seqK (wAt C S_nm (45 : FuncId) (99997 : Nat) (CP.dn (CP.dn (CP.dn CP.top (1 : Nat)) (1 : Nat)) (1 : Nat))) (retK C (45 : FuncId) [TV.pv (PV.str s)] Q))))) := by kernel_rfl

def nm_c0 : CP := (CP.dn (CP.dn (CP.dn (CP.dn (CP.dn CP.top (1 : Nat)) (1 : Nat)) (0 : Nat)) (1 : Nat)) (0 : Nat))

def nm_h0 (t0 : List UInt8) (t5 : Int) (o8 : List (List PV)) : St := (St.mk [((0 : Nat), AV.pv (PV.str t0)), ((4 : Nat), AV.own (8 : Nat)), ((5 : Nat), AV.pv (PV.int IntKind.i64 t5))] [((8 : Nat), Obj.buf (1 : Nat) o8)])

theorem nm_l0 (s : List UInt8) (t0 : List UInt8) (t5 : Int) (o8 : List (List PV))  (J0 : St → Prop) (Q : List TV × List TV → Prop) : (wAt C S_nm 45 1000 (nm_c0.dn 0) (nm_h0 t0 t5 o8) (loopK C 45 nm_c0 J0 (exK (blockK (0 : Nat) (seqK (wAt C S_nm (45 : FuncId) (99997 : Nat) (CP.dn (CP.dn (CP.dn CP.top (1 : Nat)) (1 : Nat)) (1 : Nat))) (retK C (45 : FuncId) [TV.pv (PV.str s)] Q)))))) (H.b (H.s (H.s (H.b (H.s H.auto) (H.b (H.s H.auto) (H.b (H.n (3 : Nat) (H.s (H.s (H.n (2 : Nat) (H.b (H.n (3 : Nat) (H.s (H.s (H.n (3 : Nat) (H.b (H.n (3 : Nat) (H.s (H.s (H.n (3 : Nat) (H.b (H.s (H.s (H.s (H.s (H.s H.auto))))) (H.b (H.s (H.s (H.s H.auto))) H.auto)))))) (H.n (7 : Nat) (H.b (H.s (H.s (H.s H.auto))) H.auto))))))) (H.n (14 : Nat) (H.b (H.s (H.s (H.s H.auto))) H.auto))))))) (H.n (20 : Nat) (H.b (H.s (H.s (H.s H.auto))) H.auto))))))) H.auto) = ((decide (t5 < (↑(List.length t0) : Int)) = true → (0 : Int) ≤ t5 ∧ ∃ (c : UInt8), t0[Int.toNat t5]? = some c ∧ ((IntKind.wrap IntKind.i32 (↑(UInt8.toNat c) : Int) == (34 : Int)) = true → u8Row o8 = true ∧ ∃ (h : H), Q ([TV.pv (PV.str (ofU8s o8)), TV.pv (PV.int IntKind.i64 (IntKind.wrap IntKind.i64 (t5 + (1 : Int))))], [])) ∧ ((IntKind.wrap IntKind.i32 (↑(UInt8.toNat c) : Int) == (34 : Int)) = false → ((IntKind.wrap IntKind.i32 (↑(UInt8.toNat c) : Int) != (92 : Int)) = true → ((List.length o8 + (1 : Nat)) * (1 : Nat) ≤ room ∧ List.length o8 + (1 : Nat) ≤ maxInt) ∧ J0 (St.mk [((0 : Nat), AV.pv (PV.str t0)), ((4 : Nat), AV.own (8 : Nat)), ((5 : Nat), AV.pv (PV.int IntKind.i64 (IntKind.wrap IntKind.i64 (t5 + (1 : Int)))))] [((8 : Nat), Obj.buf (1 : Nat) (o8 ++ [[PV.int IntKind.u8 (IntKind.wrap IntKind.u8 (IntKind.wrap IntKind.i32 (↑(UInt8.toNat c) : Int)))]]))])) ∧ ((IntKind.wrap IntKind.i32 (↑(UInt8.toNat c) : Int) != (92 : Int)) = false → (decide (IntKind.wrap IntKind.i64 (t5 + (3 : Int)) < (↑(List.length t0) : Int)) = true → (0 : Int) ≤ IntKind.wrap IntKind.i64 (t5 + (1 : Int)) ∧ ∃ (c : UInt8), t0[Int.toNat (IntKind.wrap IntKind.i64 (t5 + (1 : Int)))]? = some c ∧ (((↑(UInt8.toNat c) : Int) == (120 : Int)) = true → (0 : Int) ≤ IntKind.wrap IntKind.i64 (t5 + (2 : Int)) ∧ ∃ (c : UInt8), t0[Int.toNat (IntKind.wrap IntKind.i64 (t5 + (2 : Int)))]? = some c ∧ ((0 : Int) ≤ (↑(UInt8.toNat c) : Int) ∧ (↑(UInt8.toNat c) : Int) < (256 : Int)) ∧ (decide (hexN (↑(UInt8.toNat c) : Int) ≥ (0 : Int)) = true → (0 : Int) ≤ IntKind.wrap IntKind.i64 (t5 + (3 : Int)) ∧ ∃ (c : UInt8), t0[Int.toNat (IntKind.wrap IntKind.i64 (t5 + (3 : Int)))]? = some c ∧ ((0 : Int) ≤ (↑(UInt8.toNat c) : Int) ∧ (↑(UInt8.toNat c) : Int) < (256 : Int)) ∧ (decide (hexN (↑(UInt8.toNat c) : Int) ≥ (0 : Int)) = true → (0 : Int) ≤ IntKind.wrap IntKind.i64 (t5 + (2 : Int)) ∧ ∃ (c : UInt8), t0[Int.toNat (IntKind.wrap IntKind.i64 (t5 + (2 : Int)))]? = some c ∧ ((0 : Int) ≤ (↑(UInt8.toNat c) : Int) ∧ (↑(UInt8.toNat c) : Int) < (256 : Int)) ∧ (0 : Int) ≤ IntKind.wrap IntKind.i64 (t5 + (3 : Int)) ∧ ∃ (c_1 : UInt8), t0[Int.toNat (IntKind.wrap IntKind.i64 (t5 + (3 : Int)))]? = some c_1 ∧ ((0 : Int) ≤ (↑(UInt8.toNat c_1) : Int) ∧ (↑(UInt8.toNat c_1) : Int) < (256 : Int)) ∧ ((List.length o8 + (1 : Nat)) * (1 : Nat) ≤ room ∧ List.length o8 + (1 : Nat) ≤ maxInt) ∧ J0 (St.mk [((0 : Nat), AV.pv (PV.str t0)), ((4 : Nat), AV.own (8 : Nat)), ((5 : Nat), AV.pv (PV.int IntKind.i64 (IntKind.wrap IntKind.i64 (IntKind.wrap IntKind.i64 (t5 + (3 : Int)) + (1 : Int)))))] [((8 : Nat), Obj.buf (1 : Nat) (o8 ++ [[PV.int IntKind.u8 (IntKind.wrap IntKind.u8 (IntKind.wrap IntKind.i64 (IntKind.wrap IntKind.i64 ((16 : Int) * hexN (↑(UInt8.toNat c) : Int)) + hexN (↑(UInt8.toNat c_1) : Int))))]]))])) ∧ (decide (hexN (↑(UInt8.toNat c) : Int) ≥ (0 : Int)) = false → (decide (IntKind.wrap IntKind.i64 (t5 + (1 : Int)) < (↑(List.length t0) : Int)) = true → (0 : Int) ≤ IntKind.wrap IntKind.i64 (t5 + (1 : Int)) ∧ ∃ (c : UInt8), t0[Int.toNat (IntKind.wrap IntKind.i64 (t5 + (1 : Int)))]? = some c ∧ ((List.length o8 + (1 : Nat)) * (1 : Nat) ≤ room ∧ List.length o8 + (1 : Nat) ≤ maxInt) ∧ J0 (St.mk [((0 : Nat), AV.pv (PV.str t0)), ((4 : Nat), AV.own (8 : Nat)), ((5 : Nat), AV.pv (PV.int IntKind.i64 (IntKind.wrap IntKind.i64 (IntKind.wrap IntKind.i64 (t5 + (1 : Int)) + (1 : Int)))))] [((8 : Nat), Obj.buf (1 : Nat) (o8 ++ [[PV.int IntKind.u8 (↑(UInt8.toNat c) : Int)]]))])) ∧ (decide (IntKind.wrap IntKind.i64 (t5 + (1 : Int)) < (↑(List.length t0) : Int)) = false → J0 (St.mk [((0 : Nat), AV.pv (PV.str t0)), ((4 : Nat), AV.own (8 : Nat)), ((5 : Nat), AV.pv (PV.int IntKind.i64 (IntKind.wrap IntKind.i64 (t5 + (1 : Int)))))] [((8 : Nat), Obj.buf (1 : Nat) o8)])))) ∧ (decide (hexN (↑(UInt8.toNat c) : Int) ≥ (0 : Int)) = false → (decide (IntKind.wrap IntKind.i64 (t5 + (1 : Int)) < (↑(List.length t0) : Int)) = true → (0 : Int) ≤ IntKind.wrap IntKind.i64 (t5 + (1 : Int)) ∧ ∃ (c : UInt8), t0[Int.toNat (IntKind.wrap IntKind.i64 (t5 + (1 : Int)))]? = some c ∧ ((List.length o8 + (1 : Nat)) * (1 : Nat) ≤ room ∧ List.length o8 + (1 : Nat) ≤ maxInt) ∧ J0 (St.mk [((0 : Nat), AV.pv (PV.str t0)), ((4 : Nat), AV.own (8 : Nat)), ((5 : Nat), AV.pv (PV.int IntKind.i64 (IntKind.wrap IntKind.i64 (IntKind.wrap IntKind.i64 (t5 + (1 : Int)) + (1 : Int)))))] [((8 : Nat), Obj.buf (1 : Nat) (o8 ++ [[PV.int IntKind.u8 (↑(UInt8.toNat c) : Int)]]))])) ∧ (decide (IntKind.wrap IntKind.i64 (t5 + (1 : Int)) < (↑(List.length t0) : Int)) = false → J0 (St.mk [((0 : Nat), AV.pv (PV.str t0)), ((4 : Nat), AV.own (8 : Nat)), ((5 : Nat), AV.pv (PV.int IntKind.i64 (IntKind.wrap IntKind.i64 (t5 + (1 : Int)))))] [((8 : Nat), Obj.buf (1 : Nat) o8)])))) ∧ (((↑(UInt8.toNat c) : Int) == (120 : Int)) = false → (decide (IntKind.wrap IntKind.i64 (t5 + (1 : Int)) < (↑(List.length t0) : Int)) = true → (0 : Int) ≤ IntKind.wrap IntKind.i64 (t5 + (1 : Int)) ∧ ∃ (c : UInt8), t0[Int.toNat (IntKind.wrap IntKind.i64 (t5 + (1 : Int)))]? = some c ∧ ((List.length o8 + (1 : Nat)) * (1 : Nat) ≤ room ∧ List.length o8 + (1 : Nat) ≤ maxInt) ∧ J0 (St.mk [((0 : Nat), AV.pv (PV.str t0)), ((4 : Nat), AV.own (8 : Nat)), ((5 : Nat), AV.pv (PV.int IntKind.i64 (IntKind.wrap IntKind.i64 (IntKind.wrap IntKind.i64 (t5 + (1 : Int)) + (1 : Int)))))] [((8 : Nat), Obj.buf (1 : Nat) (o8 ++ [[PV.int IntKind.u8 (↑(UInt8.toNat c) : Int)]]))])) ∧ (decide (IntKind.wrap IntKind.i64 (t5 + (1 : Int)) < (↑(List.length t0) : Int)) = false → J0 (St.mk [((0 : Nat), AV.pv (PV.str t0)), ((4 : Nat), AV.own (8 : Nat)), ((5 : Nat), AV.pv (PV.int IntKind.i64 (IntKind.wrap IntKind.i64 (t5 + (1 : Int)))))] [((8 : Nat), Obj.buf (1 : Nat) o8)])))) ∧ (decide (IntKind.wrap IntKind.i64 (t5 + (3 : Int)) < (↑(List.length t0) : Int)) = false → (decide (IntKind.wrap IntKind.i64 (t5 + (1 : Int)) < (↑(List.length t0) : Int)) = true → (0 : Int) ≤ IntKind.wrap IntKind.i64 (t5 + (1 : Int)) ∧ ∃ (c : UInt8), t0[Int.toNat (IntKind.wrap IntKind.i64 (t5 + (1 : Int)))]? = some c ∧ ((List.length o8 + (1 : Nat)) * (1 : Nat) ≤ room ∧ List.length o8 + (1 : Nat) ≤ maxInt) ∧ J0 (St.mk [((0 : Nat), AV.pv (PV.str t0)), ((4 : Nat), AV.own (8 : Nat)), ((5 : Nat), AV.pv (PV.int IntKind.i64 (IntKind.wrap IntKind.i64 (IntKind.wrap IntKind.i64 (t5 + (1 : Int)) + (1 : Int)))))] [((8 : Nat), Obj.buf (1 : Nat) (o8 ++ [[PV.int IntKind.u8 (↑(UInt8.toNat c) : Int)]]))])) ∧ (decide (IntKind.wrap IntKind.i64 (t5 + (1 : Int)) < (↑(List.length t0) : Int)) = false → J0 (St.mk [((0 : Nat), AV.pv (PV.str t0)), ((4 : Nat), AV.own (8 : Nat)), ((5 : Nat), AV.pv (PV.int IntKind.i64 (IntKind.wrap IntKind.i64 (t5 + (1 : Int)))))] [((8 : Nat), Obj.buf (1 : Nat) o8)])))))) ∧ (decide (t5 < (↑(List.length t0) : Int)) = false → ∃ (h : H), Q ([TV.pv (PV.str []), TV.pv (PV.int IntKind.i64 (0 : Int))], []))) := by kernel_rfl

def S_rnm : Specs := specL [(56, g_hexV)]

theorem rnm_w (s : List UInt8) (k : Int) (Q : List TV × List TV → Prop) : (wFun C S_rnm 46 [.pv (.str s), .pv (.int .i64 k)] Q) (H.auto) = (LoopAt C (46 : FuncId) (CP.dn (CP.dn (CP.dn (CP.dn CP.top (1 : Nat)) (1 : Nat)) (0 : Nat)) (0 : Nat)) (St.mk [((0 : Nat), AV.pv (PV.str s)), ((1 : Nat), AV.pv (PV.int IntKind.i64 k)), ((7 : Nat), AV.own (14 : Nat))] [((14 : Nat), Obj.buf (1 : Nat) [])]) (exK (blockK (0 : Nat) (seqK (wAt C S_rnm (46 : FuncId) (99997 : Nat) (CP.dn (CP.dn (CP.dn CP.top (1 : Nat)) (1 : Nat)) (1 : Nat))) (retK C (46 : FuncId) [TV.pv (PV.str s), TV.pv (PV.int IntKind.i64 k)] Q))))) := by kernel_rfl

def rnm_c0 : CP := (CP.dn (CP.dn (CP.dn (CP.dn CP.top (1 : Nat)) (1 : Nat)) (0 : Nat)) (0 : Nat))

def rnm_h0 (t0 : List UInt8) (t1 : Int) (o14 : List (List PV)) : St := (St.mk [((0 : Nat), AV.pv (PV.str t0)), ((1 : Nat), AV.pv (PV.int IntKind.i64 t1)), ((7 : Nat), AV.own (14 : Nat))] [((14 : Nat), Obj.buf (1 : Nat) o14)])

theorem rnm_l0 (s : List UInt8) (k : Int) (t0 : List UInt8) (t1 : Int) (o14 : List (List PV))  (J0 : St → Prop) (Q : List TV × List TV → Prop) : (wAt C S_rnm 46 1000 (rnm_c0.dn 0) (rnm_h0 t0 t1 o14) (loopK C 46 rnm_c0 J0 (exK (blockK (0 : Nat) (seqK (wAt C S_rnm (46 : FuncId) (99997 : Nat) (CP.dn (CP.dn (CP.dn CP.top (1 : Nat)) (1 : Nat)) (1 : Nat))) (retK C (46 : FuncId) [TV.pv (PV.str s), TV.pv (PV.int IntKind.i64 k)] Q)))))) (H.b (H.n (2 : Nat) (H.s (H.s (H.n (2 : Nat) (H.b (H.s (H.s (H.b (H.s (H.s (H.s H.auto))) (H.b H.auto (H.s (H.s (H.b (H.s (H.s (H.s H.auto))) (H.b H.auto (H.n (3 : Nat) (H.s (H.s (H.n (3 : Nat) (H.b H.auto (H.n (3 : Nat) (H.s (H.s (H.n (3 : Nat) (H.b H.auto (H.s (H.s (H.s (H.s (H.s H.auto))))))))))))))))))))))) H.auto))))) H.auto) = ((decide (t1 < (↑(List.length t0) : Int)) = true → (0 : Int) ≤ t1 ∧ ∃ (c : UInt8), t0[Int.toNat t1]? = some c ∧ (((↑(UInt8.toNat c) : Int) != (34 : Int)) = true → (0 : Int) ≤ t1 ∧ ∃ (c : UInt8), t0[Int.toNat t1]? = some c ∧ (((↑(UInt8.toNat c) : Int) != (92 : Int)) = true → (0 : Int) ≤ t1 ∧ ∃ (c : UInt8), t0[Int.toNat t1]? = some c ∧ ((List.length o14 + (1 : Nat)) * (1 : Nat) ≤ room ∧ List.length o14 + (1 : Nat) ≤ maxInt) ∧ J0 (St.mk [((0 : Nat), AV.pv (PV.str t0)), ((1 : Nat), AV.pv (PV.int IntKind.i64 (IntKind.wrap IntKind.i64 (t1 + (1 : Int))))), ((7 : Nat), AV.own (14 : Nat))] [((14 : Nat), Obj.buf (1 : Nat) (o14 ++ [[PV.int IntKind.u8 (↑(UInt8.toNat c) : Int)]]))])) ∧ (((↑(UInt8.toNat c) : Int) != (92 : Int)) = false → (decide (IntKind.wrap IntKind.i64 (t1 + (1 : Int)) ≥ (↑(List.length t0) : Int)) = true → ∃ (h : H), Q ([TV.pv (PV.str []), TV.pv (PV.int IntKind.i64 (0 : Int)), TV.pv (PV.bool false)], [])) ∧ (decide (IntKind.wrap IntKind.i64 (t1 + (1 : Int)) ≥ (↑(List.length t0) : Int)) = false → (0 : Int) ≤ IntKind.wrap IntKind.i64 (t1 + (1 : Int)) ∧ ∃ (c : UInt8), t0[Int.toNat (IntKind.wrap IntKind.i64 (t1 + (1 : Int)))]? = some c ∧ (((↑(UInt8.toNat c) : Int) != (120 : Int)) = true → (0 : Int) ≤ IntKind.wrap IntKind.i64 (t1 + (1 : Int)) ∧ ∃ (c : UInt8), t0[Int.toNat (IntKind.wrap IntKind.i64 (t1 + (1 : Int)))]? = some c ∧ ((List.length o14 + (1 : Nat)) * (1 : Nat) ≤ room ∧ List.length o14 + (1 : Nat) ≤ maxInt) ∧ J0 (St.mk [((0 : Nat), AV.pv (PV.str t0)), ((1 : Nat), AV.pv (PV.int IntKind.i64 (IntKind.wrap IntKind.i64 (t1 + (2 : Int))))), ((7 : Nat), AV.own (14 : Nat))] [((14 : Nat), Obj.buf (1 : Nat) (o14 ++ [[PV.int IntKind.u8 (↑(UInt8.toNat c) : Int)]]))])) ∧ (((↑(UInt8.toNat c) : Int) != (120 : Int)) = false → (decide (IntKind.wrap IntKind.i64 (t1 + (3 : Int)) ≥ (↑(List.length t0) : Int)) = true → ∃ (h : H), Q ([TV.pv (PV.str []), TV.pv (PV.int IntKind.i64 (0 : Int)), TV.pv (PV.bool false)], [])) ∧ (decide (IntKind.wrap IntKind.i64 (t1 + (3 : Int)) ≥ (↑(List.length t0) : Int)) = false → (0 : Int) ≤ IntKind.wrap IntKind.i64 (t1 + (2 : Int)) ∧ ∃ (c : UInt8), t0[Int.toNat (IntKind.wrap IntKind.i64 (t1 + (2 : Int)))]? = some c ∧ ((0 : Int) ≤ (↑(UInt8.toNat c) : Int) ∧ (↑(UInt8.toNat c) : Int) < (256 : Int)) ∧ (decide (hexN (↑(UInt8.toNat c) : Int) < (0 : Int)) = true → ∃ (h : H), Q ([TV.pv (PV.str []), TV.pv (PV.int IntKind.i64 (0 : Int)), TV.pv (PV.bool false)], [])) ∧ (decide (hexN (↑(UInt8.toNat c) : Int) < (0 : Int)) = false → (0 : Int) ≤ IntKind.wrap IntKind.i64 (t1 + (3 : Int)) ∧ ∃ (c : UInt8), t0[Int.toNat (IntKind.wrap IntKind.i64 (t1 + (3 : Int)))]? = some c ∧ ((0 : Int) ≤ (↑(UInt8.toNat c) : Int) ∧ (↑(UInt8.toNat c) : Int) < (256 : Int)) ∧ (decide (hexN (↑(UInt8.toNat c) : Int) < (0 : Int)) = true → ∃ (h : H), Q ([TV.pv (PV.str []), TV.pv (PV.int IntKind.i64 (0 : Int)), TV.pv (PV.bool false)], [])) ∧ (decide (hexN (↑(UInt8.toNat c) : Int) < (0 : Int)) = false → (0 : Int) ≤ IntKind.wrap IntKind.i64 (t1 + (2 : Int)) ∧ ∃ (c : UInt8), t0[Int.toNat (IntKind.wrap IntKind.i64 (t1 + (2 : Int)))]? = some c ∧ ((0 : Int) ≤ (↑(UInt8.toNat c) : Int) ∧ (↑(UInt8.toNat c) : Int) < (256 : Int)) ∧ (0 : Int) ≤ IntKind.wrap IntKind.i64 (t1 + (3 : Int)) ∧ ∃ (c_1 : UInt8), t0[Int.toNat (IntKind.wrap IntKind.i64 (t1 + (3 : Int)))]? = some c_1 ∧ ((0 : Int) ≤ (↑(UInt8.toNat c_1) : Int) ∧ (↑(UInt8.toNat c_1) : Int) < (256 : Int)) ∧ ((List.length o14 + (1 : Nat)) * (1 : Nat) ≤ room ∧ List.length o14 + (1 : Nat) ≤ maxInt) ∧ J0 (St.mk [((0 : Nat), AV.pv (PV.str t0)), ((1 : Nat), AV.pv (PV.int IntKind.i64 (IntKind.wrap IntKind.i64 (t1 + (4 : Int))))), ((7 : Nat), AV.own (14 : Nat))] [((14 : Nat), Obj.buf (1 : Nat) (o14 ++ [[PV.int IntKind.u8 (IntKind.wrap IntKind.u8 (IntKind.wrap IntKind.i64 (IntKind.wrap IntKind.i64 ((16 : Int) * hexN (↑(UInt8.toNat c) : Int)) + hexN (↑(UInt8.toNat c_1) : Int))))]]))])))))))) ∧ (((↑(UInt8.toNat c) : Int) != (34 : Int)) = false → exK (blockK (0 : Nat) (seqK (wAt C S_rnm (46 : FuncId) (99997 : Nat) (CP.dn (CP.dn (CP.dn CP.top (1 : Nat)) (1 : Nat)) (1 : Nat))) (retK C (46 : FuncId) [TV.pv (PV.str s), TV.pv (PV.int IntKind.i64 k)] Q))) (Ex.exit (0 : Nat)) (St.mk [((17 : Nat), AV.pv (PV.bool false)), ((16 : Nat), AV.pv (PV.bool ((↑(UInt8.toNat c) : Int) != (34 : Int)))), ((15 : Nat), AV.pv (PV.int IntKind.u8 (↑(UInt8.toNat c) : Int))), ((14 : Nat), AV.pv (PV.int IntKind.i64 t1)), ((13 : Nat), AV.pv (PV.str t0)), ((12 : Nat), AV.pv (PV.bool true)), ((11 : Nat), AV.pv (PV.bool (decide (t1 < (↑(List.length t0) : Int))))), ((10 : Nat), AV.pv (PV.int IntKind.i64 (↑(List.length t0) : Int))), ((9 : Nat), AV.pv (PV.str t0)), ((8 : Nat), AV.pv (PV.int IntKind.i64 t1)), ((0 : Nat), AV.pv (PV.str t0)), ((1 : Nat), AV.pv (PV.int IntKind.i64 t1)), ((7 : Nat), AV.own (14 : Nat))] [((14 : Nat), Obj.buf (1 : Nat) o14)]))) ∧ (decide (t1 < (↑(List.length t0) : Int)) = false → exK (blockK (0 : Nat) (seqK (wAt C S_rnm (46 : FuncId) (99997 : Nat) (CP.dn (CP.dn (CP.dn CP.top (1 : Nat)) (1 : Nat)) (1 : Nat))) (retK C (46 : FuncId) [TV.pv (PV.str s), TV.pv (PV.int IntKind.i64 k)] Q))) (Ex.exit (0 : Nat)) (St.mk [((17 : Nat), AV.pv (PV.bool false)), ((16 : Nat), AV.tup []), ((15 : Nat), AV.tup []), ((14 : Nat), AV.tup []), ((13 : Nat), AV.tup []), ((12 : Nat), AV.pv (PV.bool false)), ((11 : Nat), AV.pv (PV.bool (decide (t1 < (↑(List.length t0) : Int))))), ((10 : Nat), AV.pv (PV.int IntKind.i64 (↑(List.length t0) : Int))), ((9 : Nat), AV.pv (PV.str t0)), ((8 : Nat), AV.pv (PV.int IntKind.i64 t1)), ((0 : Nat), AV.pv (PV.str t0)), ((1 : Nat), AV.pv (PV.int IntKind.i64 t1)), ((7 : Nat), AV.own (14 : Nat))] [((14 : Nat), Obj.buf (1 : Nat) o14)]))) := by kernel_rfl

def rnm_s1 (t16 : Bool) (t15 : Int) (t14 : Int) (t13 : List UInt8) (t11 : Bool) (t10 : Int) (t9 : List UInt8) (t8 : Int) (t0 : List UInt8) (t1 : Int) (o14 : List (List PV)) : St := (St.mk [((17 : Nat), AV.pv (PV.bool false)), ((16 : Nat), AV.pv (PV.bool t16)), ((15 : Nat), AV.pv (PV.int IntKind.u8 t15)), ((14 : Nat), AV.pv (PV.int IntKind.i64 t14)), ((13 : Nat), AV.pv (PV.str t13)), ((12 : Nat), AV.pv (PV.bool true)), ((11 : Nat), AV.pv (PV.bool t11)), ((10 : Nat), AV.pv (PV.int IntKind.i64 t10)), ((9 : Nat), AV.pv (PV.str t9)), ((8 : Nat), AV.pv (PV.int IntKind.i64 t8)), ((0 : Nat), AV.pv (PV.str t0)), ((1 : Nat), AV.pv (PV.int IntKind.i64 t1)), ((7 : Nat), AV.own (14 : Nat))] [((14 : Nat), Obj.buf (1 : Nat) o14)])

def rnm_s2 (t11 : Bool) (t10 : Int) (t9 : List UInt8) (t8 : Int) (t0 : List UInt8) (t1 : Int) (o14 : List (List PV)) : St := (St.mk [((17 : Nat), AV.pv (PV.bool false)), ((16 : Nat), AV.tup []), ((15 : Nat), AV.tup []), ((14 : Nat), AV.tup []), ((13 : Nat), AV.tup []), ((12 : Nat), AV.pv (PV.bool false)), ((11 : Nat), AV.pv (PV.bool t11)), ((10 : Nat), AV.pv (PV.int IntKind.i64 t10)), ((9 : Nat), AV.pv (PV.str t9)), ((8 : Nat), AV.pv (PV.int IntKind.i64 t8)), ((0 : Nat), AV.pv (PV.str t0)), ((1 : Nat), AV.pv (PV.int IntKind.i64 t1)), ((7 : Nat), AV.own (14 : Nat))] [((14 : Nat), Obj.buf (1 : Nat) o14)])

theorem rnm_x1 (s : List UInt8) (k : Int) (t16 : Bool) (t15 : Int) (t14 : Int) (t13 : List UInt8) (t11 : Bool) (t10 : Int) (t9 : List UInt8) (t8 : Int) (t0 : List UInt8) (t1 : Int) (o14 : List (List PV))  (Q : List TV × List TV → Prop) : (fun h => blockK (0 : Nat) (seqK (wAt C S_rnm (46 : FuncId) (99997 : Nat) (CP.dn (CP.dn (CP.dn CP.top (1 : Nat)) (1 : Nat)) (1 : Nat))) (retK C (46 : FuncId) [TV.pv (PV.str s), TV.pv (PV.int IntKind.i64 k)] Q)) h (Ex.exit (0 : Nat)) (rnm_s1 t16 t15 t14 t13 t11 t10 t9 t8 t0 t1 o14)) (H.s H.auto) = (u8Row o14 = true ∧ Q ([TV.pv (PV.str (ofU8s o14)), TV.pv (PV.int IntKind.i64 (IntKind.wrap IntKind.i64 (t1 + (1 : Int)))), TV.pv (PV.bool (decide (t1 < (↑(List.length t0) : Int))))], [])) := by kernel_rfl

theorem rnm_x2 (s : List UInt8) (k : Int) (t11 : Bool) (t10 : Int) (t9 : List UInt8) (t8 : Int) (t0 : List UInt8) (t1 : Int) (o14 : List (List PV))  (Q : List TV × List TV → Prop) : (fun h => blockK (0 : Nat) (seqK (wAt C S_rnm (46 : FuncId) (99997 : Nat) (CP.dn (CP.dn (CP.dn CP.top (1 : Nat)) (1 : Nat)) (1 : Nat))) (retK C (46 : FuncId) [TV.pv (PV.str s), TV.pv (PV.int IntKind.i64 k)] Q)) h (Ex.exit (0 : Nat)) (rnm_s2 t11 t10 t9 t8 t0 t1 o14)) (H.s H.auto) = (u8Row o14 = true ∧ Q ([TV.pv (PV.str (ofU8s o14)), TV.pv (PV.int IntKind.i64 (IntKind.wrap IntKind.i64 (t1 + (1 : Int)))), TV.pv (PV.bool (decide (t1 < (↑(List.length t0) : Int))))], [])) := by kernel_rfl

theorem hexN_c (c : UInt8) : hexN (c.toNat : Int) = hexV c := by simp [hexN]

theorem ixb_ok : ∀ ag al, g_ixb ag = some al → ∀ a ∈ al, a.1 → Ev C 35 ag a.2 := by
  intro ag al hl x hx hp
  unfold g_ixb at hl
  split at hl
  · rename_i s c
    split at hl
    · rename_i hs; subst hs
      have e := one_mem hl hx; subst e
      have h := List.all_eq_true.1 ixb_all c.toNat (List.mem_range.2 (by omega))
      have e : ((c.toNat : Nat) : Int) = c := by omega
      rw [e] at h
      split at h
      · rename_i v hv
        have h := beq_iff_eq.1 h
        rw [h] at hv
        exact Ev.of hv
      · exact absurd h (by simp)
    · exact absurd hl (by simp)
  · exact absurd hl (by simp)

theorem hx_ev (c : Int) (hc : 0 ≤ c ∧ c < 256) : Ev C 55 [.pv (.int .u8 c)] ([.pv (.int .i64 (hexN c))], []) :=
  ev_w (specL_ok (specs_cons ixb_ok specs_nil)) (hx_w c _) ⟨hc, rfl⟩

theorem dg_ev (c : Int) (hc : 0 ≤ c ∧ c < 256) : Ev C 56 [.pv (.int .u8 c)] ([.pv (.int .i64 (hexN c))], []) := by
  have e : (UInt8.ofNat c.toNat).toNat = c.toNat := by simp; omega
  have key : ∀ v : Int, v = hexN c → (([TV.pv (.int .i64 v)], ([] : List TV)) = ([.pv (.int .i64 (hexN c))], [])) := by rintro v rfl; rfl
  have x1 : 48 ≤ c → c ≤ 57 → IntKind.wrap .i64 (IntKind.wrap .u8 (c - 48)) = hexN c := by
    intro h1 h2
    rw [IntWalk.u8_in _ (by omega), IntWalk.i64_in _ (by omega), hexN, hexV, e, if_pos (by omega)]; omega
  have x2 : 97 ≤ c → c ≤ 102 → IntKind.wrap .i64 (IntKind.wrap .i64 (IntKind.wrap .u8 (c - 97)) + 10) = hexN c := by
    intro h1 h2
    rw [IntWalk.u8_in _ (by omega), IntWalk.i64_in (c - 97) (by omega), IntWalk.i64_in _ (by omega), hexN, hexV, e, if_neg (by omega), if_pos (by omega)]; omega
  have x3 : ¬ (48 ≤ c ∧ c ≤ 57) → ¬ (97 ≤ c ∧ c ≤ 102) → -1 = hexN c := by
    intro h1 h2
    rw [hexN, hexV, e, if_neg (by omega), if_neg (by omega)]
  refine ev_w noSpec_ok (dg_w c _) ⟨fun h1 => ⟨fun h2 => ?_, fun h2 => ⟨fun h3 => ⟨fun h4 => ?_, fun h4 => ?_⟩, fun h3 => ?_⟩⟩, fun h1 => ⟨fun h3 => ⟨fun h4 => ?_, fun h4 => ?_⟩, fun h3 => ?_⟩⟩ <;> simp only [decide_eq_true_eq, decide_eq_false_iff_not] at * <;> apply key
  · exact x1 (by omega) (by omega)
  · exact x2 (by omega) (by omega)
  · exact x3 (by omega) (by omega)
  · exact x3 (by omega) (by omega)
  · exact x2 (by omega) (by omega)
  · exact x3 (by omega) (by omega)
  · exact x3 (by omega) (by omega)

theorem hexV_ok {f : FuncId} (h : ∀ c : Int, 0 ≤ c ∧ c < 256 → Ev C f [.pv (.int .u8 c)] ([.pv (.int .i64 (hexN c))], [])) : ∀ ag al, g_hexV ag = some al → ∀ a ∈ al, a.1 → Ev C f ag a.2 := by
  intro ag al hl x hx hp
  unfold g_hexV at hl
  split at hl
  · have e := one_mem hl hx; subst e
    exact h _ hp
  · exact absurd hl (by simp)

theorem nm_S : SpecOK C S_nm := specL_ok (specs_cons (hexV_ok hx_ev) specs_nil)
theorem rnm_S : SpecOK C S_rnm := specL_ok (specs_cons (hexV_ok dg_ev) specs_nil)

/-- What a name's reader answers. -/
def NmP (s : List UInt8) (p : List UInt8 × Nat) : Prop := p.2 ≤ s.length ∧ (p.2 ≠ 0 → p.1.length + 2 ≤ p.2) ∧ ∀ x y : List UInt8, s.drop 1 = x.flatMap esc ++ 34 :: y → p.1 = x ∧ p.2 = 1 + (x.flatMap esc).length + 1

def nmRes (p : List UInt8 × Nat) : List TV × List TV := ([.pv (.str p.1), .pv (.int .i64 (p.2 : Nat))], [])

def nmI (s : List UInt8) (n : Nat) (st : St) : Prop := ∃ (i : Nat) (o : List UInt8), st = nm_h0 s i (u8s o) ∧ 1 ≤ i ∧ o.length + 1 ≤ i ∧ RdAt s 1 i o ∧ n = s.length + 1 - i

theorem hexes (a b : UInt8) (h1 : 0 ≤ hexV a) (h2 : 0 ≤ hexV b) : IntKind.wrap .u8 (IntKind.wrap .i64 (IntKind.wrap .i64 (16 * hexV a) + hexV b)) = (UInt8.ofNat (16 * hexV a + hexV b).toNat).toNat := by
  have k1 := hexV_le a
  have k2 := hexV_le b
  rw [IntWalk.i64_in (16 * hexV a) (by omega), IntWalk.i64_in _ (by omega), IntWalk.u8_in _ (by omega)]
  have : (16 * hexV a + hexV b).toNat < 256 := by omega
  rw [UInt8.toNat_ofNat']
  omega

theorem nm_ex (s : List UInt8) (hs : s.length ≤ 5000) : ∃ r, Ev C 45 [.pv (.str s)] r ∧ ∃ p, r = nmRes p ∧ NmP s p := by
  have hr := room_val
  have hm := maxInt_val
  refine ev_wx nm_S (nm_w _ _) ?_
  refine loop_rule nm_S (by kernel_rfl) 1000 (nmI s) ?_ (n := s.length) ⟨1, [], rfl, by omega, by simp, rd_0 s 1, by omega⟩
  rintro n st ⟨i, o, rfl, h1, h2, hR, rfl⟩
  refine ex_w (nm_l0 _ _ _ _ _ _) ⟨fun c1 => ?_, fun c1 => ?_⟩
  · simp only [decide_eq_true_eq] at c1
    have hi : i < s.length := by omega
    have w1 := w64s (i := i) (by omega)
    have w2 : IntKind.wrap .i64 ((i : Int) + 2) = ((i + 2 : Nat) : Int) := by rw [w64 (by omega)]; omega
    have w3 : IntKind.wrap .i64 ((i : Int) + 3) = ((i + 3 : Nat) : Int) := by rw [w64 (by omega)]; omega
    have w4 := w64s (i := i + 1) (by omega)
    have w5 := w64s (i := i + 3) (by omega)
    have lo : (u8s o).length = o.length := u8s_len o
    have fit : ((u8s o).length + 1) * 1 ≤ room ∧ (u8s o).length + 1 ≤ maxInt := by constructor <;> omega
    have nxt : ∀ (k : Nat) (o' : List UInt8), i < k → o'.length + 1 ≤ k → RdAt s 1 k o' → ∃ m, m < s.length + 1 - i ∧ nmI s m (nm_h0 s k (u8s o')) := fun k o' a b c => ⟨s.length + 1 - k, by omega, k, o', rfl, by omega, b, c, rfl⟩
    have fb : s[i] = 92 → (∀ h3 : i + 3 < s.length, s[i + 1] = 120 → 0 ≤ hexV s[i + 2] → 0 ≤ hexV s[i + 3] → False) → (decide (((i + 1 : Nat) : Int) < (s.length : Int)) = true → (0 : Int) ≤ ((i + 1 : Nat) : Int) ∧ ∃ c : UInt8, s[i + 1]? = some c ∧ (((u8s o).length + 1) * 1 ≤ room ∧ (u8s o).length + 1 ≤ maxInt) ∧ ∃ m, m < s.length + 1 - i ∧ nmI s m (nm_h0 s ((i + 1 + 1 : Nat) : Int) (u8s o ++ [[.int .u8 c.toNat]]))) ∧ (decide (((i + 1 : Nat) : Int) < (s.length : Int)) = false → ∃ m, m < s.length + 1 - i ∧ nmI s m (nm_h0 s ((i + 1 : Nat) : Int) (u8s o))) := by
      intro hc hx
      constructor
      · intro h3
        simp only [decide_eq_true_eq] at h3
        refine ⟨by omega, s[i + 1]'(by omega), List.getElem?_eq_getElem _, fit, ?_⟩
        rw [u8s_one]
        exact nxt (i + 2) _ (by omega) (by simp; omega) (rd_b hR (by omega) hc hx)
      · intro h3
        simp only [decide_eq_false_iff_not] at h3
        exact nxt (i + 1) _ (by omega) (by omega) fun x y e => (rd_e hR hi hc (by omega) x y e).elim
    simp only [w1, w2, w3, w4, w5, w32u, w8u, hexN_c, Int.toNat_natCast]
    refine ⟨by omega, s[i], List.getElem?_eq_getElem hi, fun c2 => ?_, fun c2 => ⟨fun c3 => ?_, fun c3 => ⟨fun c4 => ?_, fun c4 => ?_⟩⟩⟩
    · have e34 : s[i] = 34 := u8t 34 (by decide) rfl c2
      refine ⟨u8Row_u8s o, .auto, (o, i + 1), ?_, by simp only; omega, fun _ => by simp only; omega, fun x y e => ?_⟩
      · rw [ofU8s_u8s]; rfl
      · have := rd_q hR hi e34 x y e
        exact ⟨this.1, this.2⟩
    · have n34 : s[i] ≠ 34 := u8f 34 (by decide) rfl c2
      have n92 : s[i] ≠ 92 := u8nt 92 (by decide) rfl c3
      refine ⟨fit, ?_⟩
      rw [u8s_one]
      exact nxt (i + 1) _ (by omega) (by simp; omega) (rd_o hR hi n34 n92)
    · have e92 : s[i] = 92 := u8nf 92 (by decide) rfl c3
      simp only [decide_eq_true_eq] at c4
      have h3 : i + 3 < s.length := by omega
      refine ⟨by omega, s[i + 1], List.getElem?_eq_getElem _, fun c5 => ?_, fun c5 => ?_⟩
      · have e120 : s[i + 1] = 120 := u8t 120 (by decide) rfl c5
        have b2 := (s[i + 2]).toNat_lt
        have b3 := (s[i + 3]).toNat_lt
        refine ⟨by omega, s[i + 2], List.getElem?_eq_getElem _, ⟨by omega, by omega⟩, fun c6 => ?_, fun c6 => ?_⟩
        · simp only [ge_iff_le, decide_eq_true_eq] at c6
          refine ⟨by omega, s[i + 3], List.getElem?_eq_getElem _, ⟨by omega, by omega⟩, fun c7 => ?_, fun c7 => ?_⟩
          · simp only [ge_iff_le, decide_eq_true_eq] at c7
            refine ⟨by omega, s[i + 2], List.getElem?_eq_getElem _, ⟨by omega, by omega⟩, by omega, s[i + 3], List.getElem?_eq_getElem _, ⟨by omega, by omega⟩, fit, ?_⟩
            rw [hexes _ _ c6 c7, u8s_one]
            exact nxt (i + 4) _ (by omega) (by simp; omega) (rd_x hR h3 e92 e120)
          · simp only [ge_iff_le, decide_eq_false_iff_not] at c7
            exact fb e92 fun _ _ _ h => absurd h c7
        · simp only [ge_iff_le, decide_eq_false_iff_not] at c6
          exact fb e92 fun _ _ h _ => absurd h c6
      · have n120 : s[i + 1] ≠ 120 := u8f 120 (by decide) rfl c5
        exact fb e92 fun _ h _ _ => absurd h n120
    · have e92 : s[i] = 92 := u8nf 92 (by decide) rfl c3
      simp only [decide_eq_false_iff_not] at c4
      exact fb e92 fun h _ _ _ => absurd h (by omega)
  · simp only [decide_eq_false_iff_not] at c1
    refine ⟨.auto, ([], 0), rfl, by simp, fun h => absurd rfl h, fun x y e => ?_⟩
    exact (rd_end hR (by omega) x y e).elim

/-- What the document's reader answers. -/
def RnP (s : List UInt8) (a : Nat) (p : List UInt8 × Nat × Bool) : Prop := (p.2.2 = true → p.1.length + a + 1 ≤ p.2.1 ∧ p.2.1 ≤ s.length) ∧ ∀ x y : List UInt8, s.drop a = x.flatMap esc ++ 34 :: y → p.2.2 = true ∧ p.1 = x ∧ p.2.1 = a + (x.flatMap esc).length + 1

def rnRes (p : List UInt8 × Nat × Bool) : List TV × List TV := ([.pv (.str p.1), .pv (.int .i64 (p.2.1 : Nat)), .pv (.bool p.2.2)], [])

def rnI (s : List UInt8) (a n : Nat) (st : St) : Prop := ∃ (i : Nat) (o : List UInt8), st = rnm_h0 s i (u8s o) ∧ a ≤ i ∧ i ≤ 10000 ∧ o.length + a ≤ i ∧ RdAt s a i o ∧ n = s.length - i

theorem rn_ex (s : List UInt8) (a : Nat) (hs : s.length ≤ 5000) (ha : a ≤ 10000) : ∃ r, Ev C 46 [.pv (.str s), .pv (.int .i64 a)] r ∧ ∃ p, r = rnRes p ∧ RnP s a p := by
  have hr := room_val
  have hm := maxInt_val
  refine ev_wx rnm_S (rnm_w _ _ _) ?_
  refine loop_rule rnm_S (by kernel_rfl) 1000 (rnI s a) ?_ (n := s.length - a) ⟨a, [], rfl, by omega, by omega, by simp, rd_0 s a, by omega⟩
  rintro n st ⟨i, o, rfl, h1, h1', h2, hR, rfl⟩
  have bad : NoRd s a → ∃ p, (([TV.pv (PV.str []), TV.pv (PV.int IntKind.i64 0), TV.pv (PV.bool false)], []) : List TV × List TV) = rnRes p ∧ RnP s a p := fun h => ⟨([], 0, false), rfl, fun h => absurd h (by simp), fun x y e => (h x y e).elim⟩
  refine ex_w (rnm_l0 _ _ _ _ _ _ _) ⟨fun c1 => ?_, fun c1 => ?_⟩
  · simp only [decide_eq_true_eq] at c1
    have hi : i < s.length := by omega
    have w1 := w64s (i := i) (by omega)
    have w2 : IntKind.wrap .i64 ((i : Int) + 2) = ((i + 2 : Nat) : Int) := by rw [w64 (by omega)]; omega
    have w3 : IntKind.wrap .i64 ((i : Int) + 3) = ((i + 3 : Nat) : Int) := by rw [w64 (by omega)]; omega
    have w4 : IntKind.wrap .i64 ((i : Int) + 4) = ((i + 4 : Nat) : Int) := by rw [w64 (by omega)]; omega
    have lo : (u8s o).length = o.length := u8s_len o
    have fit : ((u8s o).length + 1) * 1 ≤ room ∧ (u8s o).length + 1 ≤ maxInt := by constructor <;> omega
    have nxt : ∀ (k : Nat) (o' : List UInt8), i < k → k ≤ s.length → o'.length + a ≤ k → RdAt s a k o' → ∃ m, m < s.length - i ∧ rnI s a m (rnm_h0 s k (u8s o')) := fun k o' a a' b c => ⟨s.length - k, by omega, k, o', rfl, by omega, by omega, b, c, rfl⟩
    simp only [w1, w2, w3, w4, w32u, w8u, hexN_c, Int.toNat_natCast]
    refine ⟨by omega, s[i], List.getElem?_eq_getElem hi, fun c2 => ⟨by omega, s[i], List.getElem?_eq_getElem hi, fun c3 => ⟨by omega, s[i], List.getElem?_eq_getElem hi, fit, ?_⟩, fun c3 => ⟨fun c4 => ⟨.auto, bad ?_⟩, fun c4 => ?_⟩⟩, fun c2 => ?_⟩
    · have n34 : s[i] ≠ 34 := u8nt 34 (by decide) rfl c2
      have n92 : s[i] ≠ 92 := u8nt 92 (by decide) rfl c3
      rw [u8s_one]
      exact nxt (i + 1) _ (by omega) (by omega) (by simp; omega) (rd_o hR hi n34 n92)
    · have e92 : s[i] = 92 := u8nf 92 (by decide) rfl c3
      simp only [ge_iff_le, decide_eq_true_eq] at c4
      exact rd_e hR hi e92 (by omega)
    · have e92 : s[i] = 92 := u8nf 92 (by decide) rfl c3
      simp only [ge_iff_le, decide_eq_false_iff_not] at c4
      have h3 : i + 1 < s.length := by omega
      refine ⟨by omega, s[i + 1], List.getElem?_eq_getElem _, fun c5 => ⟨by omega, s[i + 1], List.getElem?_eq_getElem _, fit, ?_⟩, fun c5 => ⟨fun c6 => ⟨.auto, bad ?_⟩, fun c6 => ?_⟩⟩
      · have n120 : s[i + 1] ≠ 120 := u8nt 120 (by decide) rfl c5
        rw [u8s_one]
        exact nxt (i + 2) _ (by omega) (by omega) (by simp; omega) (rd_b hR h3 e92 fun _ h _ _ => absurd h n120)
      · have e120 : s[i + 1] = 120 := u8nf 120 (by decide) rfl c5
        simp only [ge_iff_le, decide_eq_true_eq] at c6
        exact rd_bad hR h3 e92 e120 fun h _ _ => absurd h (by omega)
      · have e120 : s[i + 1] = 120 := u8nf 120 (by decide) rfl c5
        simp only [ge_iff_le, decide_eq_false_iff_not] at c6
        have h4 : i + 3 < s.length := by omega
        have b2 := (s[i + 2]).toNat_lt
        have b3 := (s[i + 3]).toNat_lt
        refine ⟨by omega, s[i + 2], List.getElem?_eq_getElem _, ⟨by omega, by omega⟩, fun c7 => ⟨.auto, bad ?_⟩, fun c7 => ⟨by omega, s[i + 3], List.getElem?_eq_getElem _, ⟨by omega, by omega⟩, fun c8 => ⟨.auto, bad ?_⟩, fun c8 => ?_⟩⟩
        · simp only [decide_eq_true_eq] at c7
          exact rd_bad hR h3 e92 e120 fun _ h _ => absurd h (by omega)
        · simp only [decide_eq_true_eq] at c8
          exact rd_bad hR h3 e92 e120 fun _ _ h => absurd h (by omega)
        · simp only [decide_eq_false_iff_not] at c7 c8
          refine ⟨by omega, s[i + 2], List.getElem?_eq_getElem _, ⟨by omega, by omega⟩, by omega, s[i + 3], List.getElem?_eq_getElem _, ⟨by omega, by omega⟩, fit, ?_⟩
          rw [hexes _ _ (by omega) (by omega), u8s_one]
          exact nxt (i + 4) _ (by omega) (by omega) (by simp; omega) (rd_x hR h4 e92 e120)
    · have e34 : s[i] = 34 := u8nf 34 (by decide) rfl c2
      refine ex_w (rnm_x1 _ _ _ _ _ _ _ _ _ _ _ _ _ _) ⟨u8Row_u8s o, (o, i + 1, true), ?_, fun _ => ⟨by simp only; omega, by simp only; omega⟩, fun x y e => ?_⟩
      · rw [ofU8s_u8s, w1, decide_eq_true (by omega)]; rfl
      · have := rd_q hR hi e34 x y e
        exact ⟨rfl, this.1, this.2⟩
  · simp only [decide_eq_false_iff_not] at c1
    refine ex_w (rnm_x2 _ _ _ _ _ _ _ _ _ _) ⟨u8Row_u8s o, (o, i + 1, false), ?_, fun h => absurd h (by simp), fun x y e => (rd_end hR (by omega) x y e).elim⟩
    rw [ofU8s_u8s, w64s (by omega), decide_eq_false (by omega)]; rfl

end Go.Proofs.Ytpcjlhhhmjgffaa.Vm
