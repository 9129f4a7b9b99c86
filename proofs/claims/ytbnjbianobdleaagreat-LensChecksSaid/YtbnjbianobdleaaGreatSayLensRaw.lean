/-
  Raw lenses, lenses made of them, in the machine.
-/
import Derived.Test.YtbnjbianobdleaaGreatSayLensMay
import Derived.Test.YtbnjbianobdleaaGreatSayLensSmall
namespace Go.Proofs.YtbnjbianobdleaaGreat.Vm
open Go Go.RowKit
set_option linter.unusedVariables false
set_option linter.unusedSimpArgs false
set_option maxRecDepth 100000

/-! ### Raw lenses -/
structure RD where
  o : Int
  a : Int
  b : Int
  n : Bool
  nl : List (List UInt8)
  m : Bool
  ml : List (List UInt8)
  t : Tr
inductive Rs where
  | nil
  | cons (d : RD) (k r : Rs)
def RD.row (d : RD) (k : List (List PV)) : List PV := [.int .i64 d.o, .int .i64 d.a, .int .i64 d.b, .bool d.n, .sl (d.nl.map strRow), .bool d.m, .sl (d.ml.map strRow), .sl d.t.rows, .sl k]
def Rs.rows : Rs → List (List PV)
  | .nil => []
  | .cons d k r => d.row k.rows :: r.rows
def Rs.len : Rs → Nat
  | .nil => 0
  | .cons _ _ r => r.len + 1
def Rs.nodes : Rs → Nat
  | .nil => 0
  | .cons _ k r => k.nodes + r.nodes + 1
/-- Lengths that can be. -/
def Rs.lim : Rs → Prop
  | .nil => True
  | .cons d k r => (d.nl.length ≤ 140737488351232 ∧ d.ml.length ≤ 140737488351232 ∧ d.t.list.length ≤ 140737488351232 ∧ d.t.lim 140737488351232 ∧ k.len ≤ 140737488351232) ∧ k.lim ∧ r.lim
def rawO (N : Nat) (row : List PV) : Prop := ∃ (d : RD) (k : Rs), row = d.row k.rows ∧ (Rs.cons d k .nil).nodes < N ∧ (Rs.cons d k .nil).lim
/-- How many raw parts there are, so many at most, by a call. -/
def cntP (row : List PV) (mo n : Int) : Prop := Ev C 29 [.pv (.agg row), .pv (.int .i64 mo)] ([.pv (.int .i64 n)], []) ∧ ∀ (d : RD) (k : Rs), row = d.row k.rows → 1 ≤ n ∧ (n ≤ 1 ∨ n ≤ mo) ∧ (n < mo → n = (Rs.cons d k .nil).nodes)
noncomputable def cntR (row : List PV) (mo : Int) : Int := @dite _ (∃ n : Int, cntP row mo n) (Classical.propDecidable _) (fun h => h.choose) (fun _ => 0)
/-- Trees, sets that are not too much. -/
def Rs.few : Rs → Prop
  | .nil => True
  | .cons d k r => (d.t.nodes < 200 ∧ d.nl.length ≤ 25 ∧ d.ml.length ≤ 25) ∧ k.few ∧ r.few
def few1P (row : List PV) (b : Bool) : Prop := Ev C 30 [.pv (.agg row)] ([.pv (.bool b)], []) ∧ (b = true → ∀ (d : RD) (k : Rs), row = d.row k.rows → (Rs.cons d k .nil).few)
noncomputable def few1 (row : List PV) : Bool := @dite _ (∃ b : Bool, few1P row b) (Classical.propDecidable _) (fun h => h.choose) (fun _ => false)

noncomputable def g_cnt (N : Nat) : List TV → Option Alts
  | [.pv (.agg [.int .i64 o, .int .i64 a, .int .i64 b, .bool n, .sl nl, .bool m, .sl ml, .sl t, .sl k]), .pv (.int .i64 mo)] => one (rawO N [.int .i64 o, .int .i64 a, .int .i64 b, .bool n, .sl nl, .bool m, .sl ml, .sl t, .sl k] ∧ mo ≤ 4000) ([.pv (.int .i64 (cntR [.int .i64 o, .int .i64 a, .int .i64 b, .bool n, .sl nl, .bool m, .sl ml, .sl t, .sl k] mo))], [])
  | _ => none
noncomputable def S_cnt (N : Nat) : Specs := specL [(29, g_cnt N)]

theorem cnt_w (N : Nat) (o a b : Int) (n : Bool) (nl : List (List PV)) (m : Bool) (ml t k : List (List PV)) (mo : Int) (Q : List TV × List TV → Prop) : (wFun C (S_cnt N) 29 [.pv (.agg [.int .i64 o, .int .i64 a, .int .i64 b, .bool n, .sl nl, .bool m, .sl ml, .sl t, .sl k]), .pv (.int .i64 mo)] Q) (H.auto) = (LoopAt C (29 : FuncId) (CP.dn (CP.dn (CP.dn (CP.dn (CP.dn CP.top (1 : Nat)) (1 : Nat)) (0 : Nat)) (1 : Nat)) (0 : Nat)) (St.mk [((1 : Nat), AV.pv (PV.int IntKind.i64 mo)), ((2 : Nat), AV.addr (4 : Nat) (0 : Nat) (0 : Nat)), ((5 : Nat), AV.pv (PV.int IntKind.i64 (1 : Int))), ((6 : Nat), AV.pv (PV.int IntKind.i64 (0 : Int)))] [((4 : Nat), Obj.box [AV.pv (PV.int IntKind.i64 o), AV.pv (PV.int IntKind.i64 a), AV.pv (PV.int IntKind.i64 b), AV.pv (PV.bool n), AV.pv (PV.sl nl), AV.pv (PV.bool m), AV.pv (PV.sl ml), AV.pv (PV.sl t), AV.pv (PV.sl k)])]) (exK (blockK (0 : Nat) (seqK (wAt C (S_cnt N) (29 : FuncId) (99997 : Nat) (CP.dn (CP.dn (CP.dn CP.top (1 : Nat)) (1 : Nat)) (1 : Nat))) (retK C (29 : FuncId) [TV.pv (PV.agg [PV.int IntKind.i64 o, PV.int IntKind.i64 a, PV.int IntKind.i64 b, PV.bool n, PV.sl nl, PV.bool m, PV.sl ml, PV.sl t, PV.sl k]), TV.pv (PV.int IntKind.i64 mo)] Q))))) := by kernel_rfl

def cnt_c0 : CP := (CP.dn (CP.dn (CP.dn (CP.dn (CP.dn CP.top (1 : Nat)) (1 : Nat)) (0 : Nat)) (1 : Nat)) (0 : Nat))

def cnt_h0 (t1 : Int) (t5 : Int) (t6 : Int) (o4 : Int) (o4b : Int) (o4c : Int) (o4d : Bool) (o4e : List (List PV)) (o4f : Bool) (o4g : List (List PV)) (o4h : List (List PV)) (o4i : List (List PV)) : St := (St.mk [((1 : Nat), AV.pv (PV.int IntKind.i64 t1)), ((2 : Nat), AV.addr (4 : Nat) (0 : Nat) (0 : Nat)), ((5 : Nat), AV.pv (PV.int IntKind.i64 t5)), ((6 : Nat), AV.pv (PV.int IntKind.i64 t6))] [((4 : Nat), Obj.box [AV.pv (PV.int IntKind.i64 o4), AV.pv (PV.int IntKind.i64 o4b), AV.pv (PV.int IntKind.i64 o4c), AV.pv (PV.bool o4d), AV.pv (PV.sl o4e), AV.pv (PV.bool o4f), AV.pv (PV.sl o4g), AV.pv (PV.sl o4h), AV.pv (PV.sl o4i)])])

theorem cnt_l0 (N : Nat) (o a b : Int) (n : Bool) (nl : List (List PV)) (m : Bool) (ml t k : List (List PV)) (mo : Int) (t1 : Int) (t5 : Int) (t6 : Int) (o4 : Int) (o4b : Int) (o4c : Int) (o4d : Bool) (o4e : List (List PV)) (o4f : Bool) (o4g : List (List PV)) (o4h : List (List PV)) (o4i : List (List PV))  (J0 : St → Prop) (Q : List TV × List TV → Prop) : (wAt C (S_cnt N) 29 1000 (cnt_c0.dn 0) (cnt_h0 t1 t5 t6 o4 o4b o4c o4d o4e o4f o4g o4h o4i) (loopK C 29 cnt_c0 J0 (exK (blockK (0 : Nat) (seqK (wAt C (S_cnt N) (29 : FuncId) (99997 : Nat) (CP.dn (CP.dn (CP.dn CP.top (1 : Nat)) (1 : Nat)) (1 : Nat))) (retK C (29 : FuncId) [TV.pv (PV.agg [PV.int IntKind.i64 o, PV.int IntKind.i64 a, PV.int IntKind.i64 b, PV.bool n, PV.sl nl, PV.bool m, PV.sl ml, PV.sl t, PV.sl k]), TV.pv (PV.int IntKind.i64 mo)] Q)))))) (H.b (H.n (3 : Nat) (H.b (H.s (H.s H.auto)) H.auto)) H.auto) = ((decide (t6 < (↑(List.length o4i) : Int)) = true → (decide (t5 < t1) = true → (0 : Int) ≤ t6 ∧ ∃ (n : Int), ∃ (n_1 : Int), ∃ (n_2 : Int), ∃ (b : Bool), ∃ (es : List (List PV)), ∃ (b_1 : Bool), ∃ (es_1 : List (List PV)), ∃ (es_2 : List (List PV)), ∃ (es_3 : List (List PV)), o4i[Int.toNat t6]? = some [PV.int IntKind.i64 n, PV.int IntKind.i64 n_1, PV.int IntKind.i64 n_2, PV.bool b, PV.sl es, PV.bool b_1, PV.sl es_1, PV.sl es_2, PV.sl es_3] ∧ (rawO N [PV.int IntKind.i64 n, PV.int IntKind.i64 n_1, PV.int IntKind.i64 n_2, PV.bool b, PV.sl es, PV.bool b_1, PV.sl es_1, PV.sl es_2, PV.sl es_3] ∧ IntKind.wrap IntKind.i64 (t1 - t5) ≤ (4000 : Int)) ∧ J0 (St.mk [((1 : Nat), AV.pv (PV.int IntKind.i64 t1)), ((2 : Nat), AV.addr (4 : Nat) (0 : Nat) (0 : Nat)), ((5 : Nat), AV.pv (PV.int IntKind.i64 (IntKind.wrap IntKind.i64 (t5 + cntR [PV.int IntKind.i64 n, PV.int IntKind.i64 n_1, PV.int IntKind.i64 n_2, PV.bool b, PV.sl es, PV.bool b_1, PV.sl es_1, PV.sl es_2, PV.sl es_3] (IntKind.wrap IntKind.i64 (t1 - t5)))))), ((6 : Nat), AV.pv (PV.int IntKind.i64 (IntKind.wrap IntKind.i64 (t6 + (1 : Int)))))] [((4 : Nat), Obj.box [AV.pv (PV.int IntKind.i64 o4), AV.pv (PV.int IntKind.i64 o4b), AV.pv (PV.int IntKind.i64 o4c), AV.pv (PV.bool o4d), AV.pv (PV.sl o4e), AV.pv (PV.bool o4f), AV.pv (PV.sl o4g), AV.pv (PV.sl o4h), AV.pv (PV.sl o4i)])])) ∧ (decide (t5 < t1) = false → ∃ (h : H), Q ([TV.pv (PV.int IntKind.i64 t5)], []))) ∧ (decide (t6 < (↑(List.length o4i) : Int)) = false → ∃ (h : H), Q ([TV.pv (PV.int IntKind.i64 t5)], []))) := by kernel_rfl

def g_f3 : List TV → Option Alts
  | [.pv (.agg [.bool b, .sl l])] => one True ([.pv (.bool (decide ((l.length : Int) ≤ 25)))], [])
  | _ => none
noncomputable def g_fw1 (N : Nat) : List TV → Option Alts
  | [.pv (.agg [.int .i64 o, .int .i64 a, .int .i64 b, .bool n, .sl nl, .bool m, .sl ml, .sl t, .sl k])] => one (rawO N [.int .i64 o, .int .i64 a, .int .i64 b, .bool n, .sl nl, .bool m, .sl ml, .sl t, .sl k] ∧ N ≤ 4000000) ([.pv (.bool (few1 [.int .i64 o, .int .i64 a, .int .i64 b, .bool n, .sl nl, .bool m, .sl ml, .sl t, .sl k]))], [])
  | _ => none
noncomputable def S_fw1 (N : Nat) : Specs := specL [(14, g_few), (50, g_f3), (30, g_fw1 N)]

theorem fw1_w (N : Nat) (o a b : Int) (n : Bool) (nl : List (List PV)) (m : Bool) (ml t k : List (List PV)) (Q : List TV × List TV → Prop) : (wFun C (S_fw1 N) 30 [.pv (.agg [.int .i64 o, .int .i64 a, .int .i64 b, .bool n, .sl nl, .bool m, .sl ml, .sl t, .sl k])] Q) (H.auto) = (LoopAt C (30 : FuncId) (CP.dn (CP.dn (CP.dn (CP.dn CP.top (1 : Nat)) (0 : Nat)) (1 : Nat)) (0 : Nat)) (St.mk [((1 : Nat), AV.addr (2 : Nat) (0 : Nat) (0 : Nat)), ((3 : Nat), AV.pv (PV.int IntKind.i64 (0 : Int)))] [((2 : Nat), Obj.box [AV.pv (PV.int IntKind.i64 o), AV.pv (PV.int IntKind.i64 a), AV.pv (PV.int IntKind.i64 b), AV.pv (PV.bool n), AV.pv (PV.sl nl), AV.pv (PV.bool m), AV.pv (PV.sl ml), AV.pv (PV.sl t), AV.pv (PV.sl k)])]) (exK (blockK (0 : Nat) (seqK (wAt C (S_fw1 N) (30 : FuncId) (99998 : Nat) (CP.dn (CP.dn CP.top (1 : Nat)) (1 : Nat))) (retK C (30 : FuncId) [TV.pv (PV.agg [PV.int IntKind.i64 o, PV.int IntKind.i64 a, PV.int IntKind.i64 b, PV.bool n, PV.sl nl, PV.bool m, PV.sl ml, PV.sl t, PV.sl k])] Q))))) := by kernel_rfl

def fw1_c0 : CP := (CP.dn (CP.dn (CP.dn (CP.dn CP.top (1 : Nat)) (0 : Nat)) (1 : Nat)) (0 : Nat))

def fw1_h0 (t3 : Int) (o2 : Int) (o2b : Int) (o2c : Int) (o2d : Bool) (o2e : List (List PV)) (o2f : Bool) (o2g : List (List PV)) (o2h : List (List PV)) (o2i : List (List PV)) : St := (St.mk [((1 : Nat), AV.addr (2 : Nat) (0 : Nat) (0 : Nat)), ((3 : Nat), AV.pv (PV.int IntKind.i64 t3))] [((2 : Nat), Obj.box [AV.pv (PV.int IntKind.i64 o2), AV.pv (PV.int IntKind.i64 o2b), AV.pv (PV.int IntKind.i64 o2c), AV.pv (PV.bool o2d), AV.pv (PV.sl o2e), AV.pv (PV.bool o2f), AV.pv (PV.sl o2g), AV.pv (PV.sl o2h), AV.pv (PV.sl o2i)])])

theorem fw1_l0 (N : Nat) (o a b : Int) (n : Bool) (nl : List (List PV)) (m : Bool) (ml t k : List (List PV)) (t3 : Int) (o2 : Int) (o2b : Int) (o2c : Int) (o2d : Bool) (o2e : List (List PV)) (o2f : Bool) (o2g : List (List PV)) (o2h : List (List PV)) (o2i : List (List PV))  (J0 : St → Prop) (Q : List TV × List TV → Prop) : (wAt C (S_fw1 N) 30 1000 (fw1_c0.dn 0) (fw1_h0 t3 o2 o2b o2c o2d o2e o2f o2g o2h o2i) (loopK C 30 fw1_c0 J0 (exK (blockK (0 : Nat) (seqK (wAt C (S_fw1 N) (30 : FuncId) (99998 : Nat) (CP.dn (CP.dn CP.top (1 : Nat)) (1 : Nat))) (retK C (30 : FuncId) [TV.pv (PV.agg [PV.int IntKind.i64 o, PV.int IntKind.i64 a, PV.int IntKind.i64 b, PV.bool n, PV.sl nl, PV.bool m, PV.sl ml, PV.sl t, PV.sl k])] Q)))))) (H.b (H.s (H.s (H.b H.auto H.auto))) H.auto) = ((decide (t3 < (↑(List.length o2i) : Int)) = true → (0 : Int) ≤ t3 ∧ ∃ (n : Int), ∃ (n_1 : Int), ∃ (n_2 : Int), ∃ (b : Bool), ∃ (es : List (List PV)), ∃ (b_1 : Bool), ∃ (es_1 : List (List PV)), ∃ (es_2 : List (List PV)), ∃ (es_3 : List (List PV)), o2i[Int.toNat t3]? = some [PV.int IntKind.i64 n, PV.int IntKind.i64 n_1, PV.int IntKind.i64 n_2, PV.bool b, PV.sl es, PV.bool b_1, PV.sl es_1, PV.sl es_2, PV.sl es_3] ∧ (rawO N [PV.int IntKind.i64 n, PV.int IntKind.i64 n_1, PV.int IntKind.i64 n_2, PV.bool b, PV.sl es, PV.bool b_1, PV.sl es_1, PV.sl es_2, PV.sl es_3] ∧ N ≤ (4000000 : Nat)) ∧ ((!few1 [PV.int IntKind.i64 n, PV.int IntKind.i64 n_1, PV.int IntKind.i64 n_2, PV.bool b, PV.sl es, PV.bool b_1, PV.sl es_1, PV.sl es_2, PV.sl es_3]) = true → ∃ (h : H), Q ([TV.pv (PV.bool false)], [])) ∧ ((!few1 [PV.int IntKind.i64 n, PV.int IntKind.i64 n_1, PV.int IntKind.i64 n_2, PV.bool b, PV.sl es, PV.bool b_1, PV.sl es_1, PV.sl es_2, PV.sl es_3]) = false → J0 (St.mk [((1 : Nat), AV.addr (2 : Nat) (0 : Nat) (0 : Nat)), ((3 : Nat), AV.pv (PV.int IntKind.i64 (IntKind.wrap IntKind.i64 (t3 + (1 : Int)))))] [((2 : Nat), Obj.box [AV.pv (PV.int IntKind.i64 o2), AV.pv (PV.int IntKind.i64 o2b), AV.pv (PV.int IntKind.i64 o2c), AV.pv (PV.bool o2d), AV.pv (PV.sl o2e), AV.pv (PV.bool o2f), AV.pv (PV.sl o2g), AV.pv (PV.sl o2h), AV.pv (PV.sl o2i)])]))) ∧ (decide (t3 < (↑(List.length o2i) : Int)) = false → exK (blockK (0 : Nat) (seqK (wAt C (S_fw1 N) (30 : FuncId) (99998 : Nat) (CP.dn (CP.dn CP.top (1 : Nat)) (1 : Nat))) (retK C (30 : FuncId) [TV.pv (PV.agg [PV.int IntKind.i64 o, PV.int IntKind.i64 a, PV.int IntKind.i64 b, PV.bool n, PV.sl nl, PV.bool m, PV.sl ml, PV.sl t, PV.sl k])] Q))) (Ex.exit (0 : Nat)) (St.mk [((8 : Nat), AV.pv (PV.bool false)), ((7 : Nat), AV.pv (PV.int IntKind.i64 (↑(List.length o2i) : Int))), ((6 : Nat), AV.pv (PV.sl o2i)), ((5 : Nat), AV.addr (2 : Nat) (0 : Nat) (8 : Nat)), ((4 : Nat), AV.pv (PV.int IntKind.i64 t3)), ((1 : Nat), AV.addr (2 : Nat) (0 : Nat) (0 : Nat)), ((3 : Nat), AV.pv (PV.int IntKind.i64 t3))] [((2 : Nat), Obj.box [AV.pv (PV.int IntKind.i64 o2), AV.pv (PV.int IntKind.i64 o2b), AV.pv (PV.int IntKind.i64 o2c), AV.pv (PV.bool o2d), AV.pv (PV.sl o2e), AV.pv (PV.bool o2f), AV.pv (PV.sl o2g), AV.pv (PV.sl o2h), AV.pv (PV.sl o2i)])]))) := by kernel_rfl

def fw1_s1 (t7 : Int) (t6 : List (List PV)) (t4 : Int) (t3 : Int) (o2 : Int) (o2b : Int) (o2c : Int) (o2d : Bool) (o2e : List (List PV)) (o2f : Bool) (o2g : List (List PV)) (o2h : List (List PV)) (o2i : List (List PV)) : St := (St.mk [((8 : Nat), AV.pv (PV.bool false)), ((7 : Nat), AV.pv (PV.int IntKind.i64 t7)), ((6 : Nat), AV.pv (PV.sl t6)), ((5 : Nat), AV.addr (2 : Nat) (0 : Nat) (8 : Nat)), ((4 : Nat), AV.pv (PV.int IntKind.i64 t4)), ((1 : Nat), AV.addr (2 : Nat) (0 : Nat) (0 : Nat)), ((3 : Nat), AV.pv (PV.int IntKind.i64 t3))] [((2 : Nat), Obj.box [AV.pv (PV.int IntKind.i64 o2), AV.pv (PV.int IntKind.i64 o2b), AV.pv (PV.int IntKind.i64 o2c), AV.pv (PV.bool o2d), AV.pv (PV.sl o2e), AV.pv (PV.bool o2f), AV.pv (PV.sl o2g), AV.pv (PV.sl o2h), AV.pv (PV.sl o2i)])])

theorem fw1_x1 (N : Nat) (o a b : Int) (n : Bool) (nl : List (List PV)) (m : Bool) (ml t k : List (List PV)) (t7 : Int) (t6 : List (List PV)) (t4 : Int) (t3 : Int) (o2 : Int) (o2b : Int) (o2c : Int) (o2d : Bool) (o2e : List (List PV)) (o2f : Bool) (o2g : List (List PV)) (o2h : List (List PV)) (o2i : List (List PV))  (Q : List TV × List TV → Prop) : (fun h => blockK (0 : Nat) (seqK (wAt C (S_fw1 N) (30 : FuncId) (99998 : Nat) (CP.dn (CP.dn CP.top (1 : Nat)) (1 : Nat))) (retK C (30 : FuncId) [TV.pv (PV.agg [PV.int IntKind.i64 o, PV.int IntKind.i64 a, PV.int IntKind.i64 b, PV.bool n, PV.sl nl, PV.bool m, PV.sl ml, PV.sl t, PV.sl k])] Q)) h (Ex.exit (0 : Nat)) (fw1_s1 t7 t6 t4 t3 o2 o2b o2c o2d o2e o2f o2g o2h o2i)) (H.b (H.n (3 : Nat) (H.b H.auto H.auto)) H.auto) = ((∃ (l : Tr), o2h = Tr.rows l ∧ List.length (Tr.list l) ≤ (140737488351232 : Nat) ∧ Tr.lim (140737488351232 : Nat) l) ∧ (fewF o2h = true → True ∧ (decide ((↑(List.length o2e) : Int) ≤ (25 : Int)) = true → True ∧ Q ([TV.pv (PV.bool (decide ((↑(List.length o2g) : Int) ≤ (25 : Int))))], [])) ∧ (decide ((↑(List.length o2e) : Int) ≤ (25 : Int)) = false → Q ([TV.pv (PV.bool false)], []))) ∧ (fewF o2h = false → Q ([TV.pv (PV.bool false)], []))) := by kernel_rfl

noncomputable def S_lck : Specs := specL [(33, g_may 1000)]

theorem lck_w (o : Int) (a b : List UInt8) (n : Bool) (nl : List (List PV)) (m : Bool) (ml t u k : List (List PV)) (Q : List TV × List TV → Prop) : (wFun C S_lck 10 [.pv (.agg [.int .i64 o, .str a, .str b, .bool n, .sl nl, .bool m, .sl ml, .sl t, .sl u, .sl k])] Q) (H.auto) = ((lensO (1000 : Nat) [PV.int IntKind.i64 o, PV.str a, PV.str b, PV.bool n, PV.sl nl, PV.bool m, PV.sl ml, PV.sl t, PV.sl u, PV.sl k] ∧ ((0 : Int) ≤ (0 : Int) ∧ (0 : Int) ≤ (40 : Int)) ∧ (0 : Int) ≤ (1 : Int) ∧ (1 : Int) ≤ (13 : Int)) ∧ Q ([TV.pv (PV.int IntKind.i64 (mayE [PV.int IntKind.i64 o, PV.str a, PV.str b, PV.bool n, PV.sl nl, PV.bool m, PV.sl ml, PV.sl t, PV.sl u, PV.sl k] (0 : Int) (1 : Int)))], [])) := by kernel_rfl

noncomputable def S_rlck : Specs := specL [(35, g_lwk 1000)]

theorem rlck_w (o : Int) (a b : List UInt8) (n : Bool) (nl : List (List PV)) (m : Bool) (ml t u k : List (List PV)) (Q : List TV × List TV → Prop) : (wFun C S_rlck 12 [.pv (.agg [.int .i64 o, .str a, .str b, .bool n, .sl nl, .bool m, .sl ml, .sl t, .sl u, .sl k])] Q) (H.auto) = ((lensO (1000 : Nat) [PV.int IntKind.i64 o, PV.str a, PV.str b, PV.bool n, PV.sl nl, PV.bool m, PV.sl ml, PV.sl t, PV.sl u, PV.sl k] ∧ ((0 : Int) = (0 : Int) ∧ (0 : Int) ≤ (0 : Int) ∧ (0 : Int) ≤ (40 : Int)) ∧ (0 : Int) ≤ (1 : Int) ∧ (1 : Int) ≤ (13 : Int)) ∧ Q ([TV.pv (PV.int IntKind.i64 (mayE [PV.int IntKind.i64 o, PV.str a, PV.str b, PV.bool n, PV.sl nl, PV.bool m, PV.sl ml, PV.sl t, PV.sl u, PV.sl k] (0 : Int) (1 : Int)))], [])) := by kernel_rfl

theorem w11_w (a n : Int) (Q : List TV × List TV → Prop) : (wFun C noSpec 13 [.pv (.int .i64 a), .pv (.int .i64 n)] Q) (H.s (H.b H.auto H.auto)) = (¬n = (0 : Int) ∧ (decide (Int.tmod a n < (0 : Int)) = true → Q ([TV.pv (PV.int IntKind.i64 (IntKind.wrap IntKind.i64 (Int.tmod a n + n)))], [])) ∧ (decide (Int.tmod a n < (0 : Int)) = false → Q ([TV.pv (PV.int IntKind.i64 (Int.tmod a n))], []))) := by kernel_rfl

noncomputable def S_name : Specs := specL [(13, g_within)]

theorem nam_w (n : Int) (Q : List TV × List TV → Prop) : (wFun C S_name 31 [.pv (.int .i64 n)] Q) (H.s (H.s H.auto)) = (¬(5 : Int) = (0 : Int) ∧ ((0 : Int) ≤ wi n (5 : Int) ∧ wi n (5 : Int) < (5 : Int)) ∧ ∃ (c : List PV), [[PV.str []], [PV.str [(97 : UInt8)]], [PV.str [(98 : UInt8)]], [PV.str [(99 : UInt8)]], [PV.str [(100 : UInt8)]]][Int.toNat (wi n (5 : Int))]? = some c ∧ (1 : Nat) ≤ List.length c ∧ ∃ (s : List UInt8), List.take (1 : Nat) c = [PV.str s] ∧ Q ([TV.pv (PV.str s)], [])) := by kernel_rfl

theorem kof_w (l : List (List PV)) (k : Int) (Q : List TV × List TV → Prop) : (wFun C noSpec 32 [.pv (.sl l), .pv (.int .i64 k)] Q) (H.b (H.s (H.s H.auto)) H.auto) = ((decide (k < (↑(List.length l) : Int)) = true → (0 : Int) ≤ k ∧ ∃ (n : Int), ∃ (n_1 : Int), ∃ (n_2 : Int), ∃ (b : Bool), ∃ (es : List (List PV)), ∃ (b_1 : Bool), ∃ (es_1 : List (List PV)), ∃ (es_2 : List (List PV)), ∃ (es_3 : List (List PV)), l[Int.toNat k]? = some [PV.int IntKind.i64 n, PV.int IntKind.i64 n_1, PV.int IntKind.i64 n_2, PV.bool b, PV.sl es, PV.bool b_1, PV.sl es_1, PV.sl es_2, PV.sl es_3] ∧ Q ([TV.pv (PV.agg [PV.int IntKind.i64 n, PV.int IntKind.i64 n_1, PV.int IntKind.i64 n_2, PV.bool b, PV.sl es, PV.bool b_1, PV.sl es_1, PV.sl es_2, PV.sl es_3])], [])) ∧ (decide (k < (↑(List.length l) : Int)) = false → Q ([TV.pv (PV.agg [PV.int IntKind.i64 (0 : Int), PV.int IntKind.i64 (0 : Int), PV.int IntKind.i64 (0 : Int), PV.bool false, PV.sl [], PV.bool false, PV.sl [], PV.sl [], PV.sl []])], []))) := by kernel_rfl

theorem f3_w (b : Bool) (l : List (List PV)) (Q : List TV × List TV → Prop) : (wFun C noSpec 50 [.pv (.agg [.bool b, .sl l])] Q) (H.auto) = (Q ([TV.pv (PV.bool (decide ((↑(List.length l) : Int) ≤ (25 : Int))))], [])) := by kernel_rfl

noncomputable def g_pln (N : Nat) : List TV → Option Alts
  | [.pv (.sl a)] => one (∃ t : Tr, a = t.rows ∧ t.nodes < N ∧ t.nodes ≤ 4000000) ([.own 2 a], [])
  | _ => none
noncomputable def S_pln (N : Nat) : Specs := specL [(34, g_pln N)]

theorem pln_w (N : Nat) (a : List (List PV)) (Q : List TV × List TV → Prop) : (wFun C (S_pln N) 34 [.pv (.sl a)] Q) (H.auto) = (LoopAt C (34 : FuncId) (CP.dn (CP.dn (CP.dn (CP.dn (CP.dn CP.top (1 : Nat)) (1 : Nat)) (0 : Nat)) (1 : Nat)) (0 : Nat)) (St.mk [((0 : Nat), AV.pv (PV.sl a)), ((3 : Nat), AV.own (6 : Nat)), ((4 : Nat), AV.pv (PV.int IntKind.i64 (0 : Int)))] [((6 : Nat), Obj.buf (2 : Nat) [])]) (exK (blockK (0 : Nat) (seqK (wAt C (S_pln N) (34 : FuncId) (99997 : Nat) (CP.dn (CP.dn (CP.dn CP.top (1 : Nat)) (1 : Nat)) (1 : Nat))) (retK C (34 : FuncId) [TV.pv (PV.sl a)] Q))))) := by kernel_rfl

def pln_c0 : CP := (CP.dn (CP.dn (CP.dn (CP.dn (CP.dn CP.top (1 : Nat)) (1 : Nat)) (0 : Nat)) (1 : Nat)) (0 : Nat))

def pln_h0 (t0 : List (List PV)) (t4 : Int) (o6 : List (List PV)) : St := (St.mk [((0 : Nat), AV.pv (PV.sl t0)), ((3 : Nat), AV.own (6 : Nat)), ((4 : Nat), AV.pv (PV.int IntKind.i64 t4))] [((6 : Nat), Obj.buf (2 : Nat) o6)])

theorem pln_l0 (N : Nat) (a : List (List PV)) (t0 : List (List PV)) (t4 : Int) (o6 : List (List PV))  (J0 : St → Prop) (Q : List TV × List TV → Prop) : (wAt C (S_pln N) 34 1000 (pln_c0.dn 0) (pln_h0 t0 t4 o6) (loopK C 34 pln_c0 J0 (exK (blockK (0 : Nat) (seqK (wAt C (S_pln N) (34 : FuncId) (99997 : Nat) (CP.dn (CP.dn (CP.dn CP.top (1 : Nat)) (1 : Nat)) (1 : Nat))) (retK C (34 : FuncId) [TV.pv (PV.sl a)] Q)))))) (H.b (H.s (H.s (H.s (H.s (H.s H.auto))))) H.auto) = ((decide (t4 < (↑(List.length t0) : Int)) = true → (0 : Int) ≤ t4 ∧ ∃ (s : List UInt8), ∃ (es : List (List PV)), t0[Int.toNat t4]? = some [PV.str s, PV.sl es] ∧ (0 : Int) ≤ t4 ∧ ∃ (s_1 : List UInt8), ∃ (es : List (List PV)), t0[Int.toNat t4]? = some [PV.str s_1, PV.sl es] ∧ (∃ (t : Tr), es = Tr.rows t ∧ Tr.nodes t < N ∧ Tr.nodes t ≤ (4000000 : Nat)) ∧ ((List.length o6 + (1 : Nat)) * (40 : Nat) ≤ room ∧ List.length o6 + (1 : Nat) ≤ maxInt) ∧ J0 (St.mk [((0 : Nat), AV.pv (PV.sl t0)), ((3 : Nat), AV.own (6 : Nat)), ((4 : Nat), AV.pv (PV.int IntKind.i64 (IntKind.wrap IntKind.i64 (t4 + (1 : Int)))))] [((6 : Nat), Obj.buf (2 : Nat) (o6 ++ [[PV.str s, PV.sl es]]))])) ∧ (decide (t4 < (↑(List.length t0) : Int)) = false → ∃ (h : H), Q ([TV.own (2 : Nat) o6], []))) := by kernel_rfl

/-! ### Parts of raw lenses -/
theorem RD.row_inj {p q : RD} {k l : List (List PV)} (h : p.row k = q.row l) : p = q ∧ k = l := by
  obtain ⟨o, a, b, n, nl, m, ml, t⟩ := p
  obtain ⟨o', a', b', n', nl', m', ml', t'⟩ := q
  simp only [RD.row, List.cons.injEq, PV.int.injEq, PV.bool.injEq, PV.sl.injEq, and_true, true_and] at h
  obtain ⟨h1, h2, h3, h4, h5, h6, h7, h8, h10⟩ := h
  have h5 := strs_inj h5
  have h7 := strs_inj h7
  have h8 := rows_inj h8
  subst h1 h2 h3 h4 h5 h6 h7 h8
  exact ⟨rfl, h10⟩
theorem Rs.rows_inj : ∀ {l m : Rs}, l.rows = m.rows → l = m
  | .nil, .nil, _ => rfl
  | .nil, .cons _ _ _, h => by simp [Rs.rows] at h
  | .cons _ _ _, .nil, h => by simp [Rs.rows] at h
  | .cons p k r, .cons p' k' r', h => by
    simp only [Rs.rows, List.cons.injEq] at h
    obtain ⟨h1, h2⟩ := h
    obtain ⟨h3, h4⟩ := RD.row_inj h1
    rw [h3, Rs.rows_inj h4, Rs.rows_inj h2]
def Rs.list : Rs → List (RD × Rs)
  | .nil => []
  | .cons p k r => (p, k) :: r.list
def Rs.of : List (RD × Rs) → Rs
  | [] => .nil
  | (p, k) :: r => .cons p k (Rs.of r)
theorem Rs.of_list : ∀ l : Rs, Rs.of l.list = l
  | .nil => rfl
  | .cons p k r => by simp [Rs.list, Rs.of, Rs.of_list r]
theorem Rs.rows_list : ∀ l : Rs, l.rows = l.list.map fun e => e.1.row e.2.rows
  | .nil => rfl
  | .cons p k r => by simp [Rs.rows, Rs.list, Rs.rows_list r]
theorem Rs.len_list : ∀ l : Rs, l.list.length = l.len
  | .nil => rfl
  | .cons p k r => by simp [Rs.list, Rs.len, Rs.len_list r]
theorem Rs.rows_len (l : Rs) : l.rows.length = l.len := by rw [Rs.rows_list, List.length_map, Rs.len_list]
theorem Rs.row_get (l : Rs) {i : Nat} (h : i < l.list.length) : l.rows[Int.toNat (i : Int)]? = some (l.list[i].1.row l.list[i].2.rows) := by
  rw [Int.toNat_natCast, Rs.rows_list, List.getElem?_map, List.getElem?_eq_getElem h]; rfl
theorem Rs.nodes_of : ∀ l : List (RD × Rs), ∀ e : RD × Rs, (Rs.of (e :: l)).nodes = e.2.nodes + (Rs.of l).nodes + 1 := fun l e => rfl
theorem Rs.mem_nodes : ∀ {l : Rs} {e : RD × Rs}, e ∈ l.list → (Rs.cons e.1 e.2 .nil).nodes ≤ l.nodes
  | .nil, e, h => by simp [Rs.list] at h
  | .cons p k r, e, h => by
    simp only [Rs.list, List.mem_cons] at h
    simp only [Rs.nodes]
    rcases h with rfl | h
    · simp only; omega
    · have := Rs.mem_nodes h
      simp only [Rs.nodes] at this; omega
theorem Rs.mem_lim : ∀ {l : Rs} {e : RD × Rs}, l.lim → e ∈ l.list → (Rs.cons e.1 e.2 .nil).lim
  | .nil, e, _, h => by simp [Rs.list] at h
  | .cons p k r, e, ho, h => by
    simp only [Rs.list, List.mem_cons] at h
    rcases h with rfl | h
    · exact ⟨ho.1, ho.2.1, trivial⟩
    · exact Rs.mem_lim ho.2.2 h
theorem Rs.few_of : ∀ {l : Rs}, (∀ e ∈ l.list, (Rs.cons e.1 e.2 .nil).few) → l.few
  | .nil, _ => trivial
  | .cons p k r, h => ⟨(h (p, k) (by simp [Rs.list])).1, (h (p, k) (by simp [Rs.list])).2.1, Rs.few_of fun e he => h e (by simp [Rs.list, he])⟩

theorem cntR_spec {row : List PV} {mo : Int} (h : ∃ n : Int, cntP row mo n) : cntP row mo (cntR row mo) := by
  unfold cntR
  rw [dif_pos h]
  exact h.choose_spec
theorem few1_spec {row : List PV} (h : ∃ b : Bool, few1P row b) : few1P row (few1 row) := by
  unfold few1
  rw [dif_pos h]
  exact h.choose_spec

theorem cnt_ex : ∀ (N : Nat) (d : RD) (k : Rs) (mo : Int), (Rs.cons d k .nil).nodes < N → (Rs.cons d k .nil).lim → mo ≤ 4000 → ∃ n : Int, cntP (d.row k.rows) mo n
  | 0, d, k, mo, h, _, _ => by omega
  | N + 1, d, k, mo, h, hlim, hmo => by
    have hS : SpecOK C (S_cnt N) := specL_ok (specs_cons (by
      intro ag al hl x hx hp
      unfold g_cnt at hl
      split at hl
      · have e := one_mem hl hx; subst e
        obtain ⟨⟨d', k', er, h1, h2⟩, h3⟩ := hp
        rw [er]
        exact (cntR_spec (cnt_ex N d' k' _ h1 h2 h3)).1
      · exact absurd hl (by simp)) specs_nil)
    obtain ⟨⟨_, _, _, _, l5⟩, l6, _⟩ := hlim
    have hln := Rs.len_list k
    have hrl := Rs.rows_len k
    have hnod : (Rs.cons d k .nil).nodes = k.nodes + 1 := by simp [Rs.nodes]
    obtain ⟨r, h1, n, rfl, h2, h3, h4⟩ := ev_wx (Q := fun r => ∃ n : Int, r = ([.pv (.int .i64 n)], []) ∧ 1 ≤ n ∧ (n ≤ 1 ∨ n ≤ mo) ∧ (n < mo → n = (Rs.cons d k .nil).nodes)) hS (cnt_w N d.o d.a d.b d.n (d.nl.map strRow) d.m (d.ml.map strRow) d.t.rows k.rows mo _) (by
      refine loop_rule hS (by kernel_rfl) 1000 (fun q st => ∃ (i : Nat) (n : Int), st = cnt_h0 mo n i d.o d.a d.b d.n (d.nl.map strRow) d.m (d.ml.map strRow) d.t.rows k.rows ∧ i ≤ k.len ∧ 1 ≤ n ∧ (n ≤ 1 ∨ n ≤ mo) ∧ (n < mo → n + (Rs.of (k.list.drop i)).nodes = 1 + k.nodes) ∧ q = k.len - i) ?_ (n := k.len) ⟨0, 1, rfl, by omega, by omega, .inl (by omega), fun _ => by rw [List.drop_zero, Rs.of_list], rfl⟩
      rintro q st ⟨i, n, rfl, hi, n1, n2, n3, rfl⟩
      refine ex_w (cnt_l0 _ _ _ _ _ _ _ _ _ _ _ _ _ _ _ _ _ _ _ _ _ _ _ _ _) ?_
      rw [hrl]
      refine ⟨fun g => ⟨fun g2 => ?_, fun g2 => ⟨.auto, n, rfl, n1, n2, fun h => ?_⟩⟩, fun g => ⟨.auto, n, rfl, n1, n2, fun h => ?_⟩⟩
      · simp only [decide_eq_true_eq] at g g2
        have hi' : i < k.list.length := by omega
        have hm := List.getElem_mem hi'
        have w2 : IntKind.wrap .i64 (mo - n) = mo - n := w64 (by omega)
        have hnn := Rs.mem_nodes hm
        have hkl := Rs.mem_lim l6 hm
        have hsp := cntR_spec (cnt_ex N k.list[i].1 k.list[i].2 (mo - n) (by omega) hkl (by omega))
        obtain ⟨c1, c2, c3⟩ := hsp.2 _ _ rfl
        have hd := n3 g2
        rw [List.drop_eq_getElem_cons hi', Rs.nodes_of] at hd
        refine ⟨by omega, _, _, _, _, _, _, _, _, _, Rs.row_get k hi', ?_⟩
        have eR : [PV.int IntKind.i64 k.list[i].1.o, PV.int IntKind.i64 k.list[i].1.a, PV.int IntKind.i64 k.list[i].1.b, PV.bool k.list[i].1.n, PV.sl (k.list[i].1.nl.map strRow), PV.bool k.list[i].1.m, PV.sl (k.list[i].1.ml.map strRow), PV.sl k.list[i].1.t.rows, PV.sl k.list[i].2.rows] = k.list[i].1.row k.list[i].2.rows := rfl
        rw [eR, w2]
        generalize cntR (k.list[i].1.row k.list[i].2.rows) (mo - n) = c at *
        refine ⟨⟨⟨_, _, rfl, by omega, hkl⟩, by omega⟩, k.len - (i + 1), by omega, i + 1, n + c, by rw [w64s (by omega), w64 (by omega)]; rfl, by omega, by omega, .inr (by omega), fun h => ?_, rfl⟩
        have c3 := c3 (by omega)
        simp only [Rs.nodes] at c3
        omega
      · simp only [decide_eq_false_iff_not] at g2
        omega
      · simp only [decide_eq_false_iff_not] at g
        have : i = k.list.length := by omega
        have hd := n3 h
        rw [this, List.drop_length] at hd
        simp only [Rs.of, Rs.nodes] at hd ⊢
        omega)
    exact ⟨n, h1, fun d' k' e => by
      obtain ⟨rfl, hk⟩ := RD.row_inj e
      rw [← Rs.rows_inj hk]
      exact ⟨h2, h3, h4⟩⟩

theorem f3_ok : ∀ ag al, g_f3 ag = some al → ∀ a ∈ al, a.1 → Ev C 50 ag a.2 := by
  intro ag al hl x hx hp
  unfold g_f3 at hl
  split at hl
  · have e := one_mem hl hx; subst e
    exact ev_w noSpec_ok (f3_w _ _ _) rfl
  · exact absurd hl (by simp)

theorem few1_ex : ∀ (N : Nat) (d : RD) (k : Rs), (Rs.cons d k .nil).nodes < N → (Rs.cons d k .nil).lim → N ≤ 4000000 → ∃ b : Bool, few1P (d.row k.rows) b
  | 0, d, k, h, _, _ => by omega
  | N + 1, d, k, h, hlim, hN => by
    have hS : SpecOK C (S_fw1 N) := specL_ok (specs_cons few_ok (specs_cons f3_ok (specs_cons (by
      intro ag al hl x hx hp
      unfold g_fw1 at hl
      split at hl
      · have e := one_mem hl hx; subst e
        obtain ⟨⟨d', k', er, h1, h2⟩, h3⟩ := hp
        rw [er]
        exact (few1_spec (few1_ex N d' k' h1 h2 h3)).1
      · exact absurd hl (by simp)) specs_nil)))
    obtain ⟨⟨l1, l2, l3, l4, l5⟩, l6, _⟩ := hlim
    have hln := Rs.len_list k
    have hrl := Rs.rows_len k
    have hnod : (Rs.cons d k .nil).nodes = k.nodes + 1 := by simp [Rs.nodes]
    obtain ⟨r, h1, b, rfl, h2⟩ := ev_wx (Q := fun r => ∃ b : Bool, r = ([.pv (.bool b)], []) ∧ (b = true → (Rs.cons d k .nil).few)) hS (fw1_w N d.o d.a d.b d.n (d.nl.map strRow) d.m (d.ml.map strRow) d.t.rows k.rows _) (by
      refine loop_rule hS (by kernel_rfl) 1000 (fun q st => ∃ i : Nat, st = fw1_h0 i d.o d.a d.b d.n (d.nl.map strRow) d.m (d.ml.map strRow) d.t.rows k.rows ∧ i ≤ k.len ∧ (∀ e ∈ k.list.take i, (Rs.cons e.1 e.2 .nil).few) ∧ q = k.len - i) ?_ (n := k.len) ⟨0, rfl, by omega, by simp, rfl⟩
      rintro q st ⟨i, rfl, hi, hf, rfl⟩
      refine ex_w (fw1_l0 _ _ _ _ _ _ _ _ _ _ _ _ _ _ _ _ _ _ _ _ _ _) ?_
      rw [hrl]
      refine ⟨fun g => ?_, fun g => ?_⟩
      · simp only [decide_eq_true_eq] at g
        have hi' : i < k.list.length := by omega
        have hm := List.getElem_mem hi'
        have hnn := Rs.mem_nodes hm
        have hkl := Rs.mem_lim l6 hm
        have hsp := few1_spec (few1_ex N k.list[i].1 k.list[i].2 (by omega) hkl (by omega))
        refine ⟨by omega, _, _, _, _, _, _, _, _, _, Rs.row_get k hi', ?_⟩
        have eR : [PV.int IntKind.i64 k.list[i].1.o, PV.int IntKind.i64 k.list[i].1.a, PV.int IntKind.i64 k.list[i].1.b, PV.bool k.list[i].1.n, PV.sl (k.list[i].1.nl.map strRow), PV.bool k.list[i].1.m, PV.sl (k.list[i].1.ml.map strRow), PV.sl k.list[i].1.t.rows, PV.sl k.list[i].2.rows] = k.list[i].1.row k.list[i].2.rows := rfl
        rw [eR]
        refine ⟨⟨⟨_, _, rfl, by omega, hkl⟩, by omega⟩, fun g2 => ⟨.auto, false, rfl, fun h => by simp at h⟩, fun g2 => ⟨k.len - (i + 1), by omega, i + 1, by rw [w64s (by omega)]; rfl, by omega, fun e he => ?_, rfl⟩⟩
        have g2 : few1 (k.list[i].1.row k.list[i].2.rows) = true := by simpa using g2
        rw [List.take_succ_eq_append_getElem hi', List.mem_append, List.mem_singleton] at he
        rcases he with he | rfl
        · exact hf e he
        · exact hsp.2 g2 _ _ rfl
      · simp only [decide_eq_false_iff_not] at g
        have : i = k.list.length := by omega
        rw [this, List.take_length] at hf
        refine ex_w (fw1_x1 _ _ _ _ _ _ _ _ _ _ _ _ _ _ _ _ _ _ _ _ _ _ _ _) ⟨⟨d.t, rfl, l3, l4⟩, fun g2 => ⟨trivial, fun g3 => ⟨trivial, _, rfl, fun g4 => ?_⟩, fun g3 => ⟨false, rfl, fun h => by simp at h⟩⟩, fun g2 => ⟨false, rfl, fun h => by simp at h⟩⟩
        simp only [decide_eq_true_eq, List.length_map] at g3 g4
        exact ⟨⟨few_nodes l3 l4 g2, by omega, by omega⟩, Rs.few_of hf, trivial⟩)
    exact ⟨b, h1, fun hb d' k' e => by
      obtain ⟨rfl, hk⟩ := RD.row_inj e
      rw [← Rs.rows_inj hk]
      exact h2 hb⟩

end Go.Proofs.YtbnjbianobdleaaGreat.Vm
