/-
  LinesParts, in the machine.
-/
import Derived.Test.YtpcjlhhhmjgffaaSayLinesNone
namespace Go.Proofs.Ytpcjlhhhmjgffaa.Vm
open Go Go.RowKit
set_option linter.unusedVariables false
set_option linter.unusedSimpArgs false

def g_split2 : List TV → Option Alts
  | [.pv (.str s)] => one ((linesF s).length ≤ 4000000 ∧ s.length ≤ room) ([.own 2 ((linesF s).map row)], [])
  | _ => none

theorem split2_ok : ∀ ag al, g_split2 ag = some al → ∀ a ∈ al, a.1 → Ev C 15 ag a.2 := by
  intro ag al hl x hx hp
  unfold g_split2 at hl
  split at hl
  · have e := one_mem hl hx; subst e
    exact psplit_ev _ hp.1 hp.2
  · exact absurd hl (by simp)

noncomputable def S_lp : Specs := specL [(14, g_text), (18, g_split), (22, g_put), (21, g_within1), (20, g_end), (17, g_join), (15, g_split2)]

theorem lp_w (a : List (List PV)) (k : Int) (t : List UInt8) (Q : List TV × List TV → Prop) : (wFun C S_lp 7 [.pv (.sl a), .pv (.int .i64 k), .pv (.str t)] Q) (H.auto) = (LoopAt C (7 : FuncId) (CP.dn (CP.dn (CP.dn (CP.dn (CP.dn CP.top (1 : Nat)) (1 : Nat)) (0 : Nat)) (1 : Nat)) (0 : Nat)) (St.mk [((0 : Nat), AV.pv (PV.sl a)), ((1 : Nat), AV.pv (PV.int IntKind.i64 k)), ((2 : Nat), AV.pv (PV.str t)), ((7 : Nat), AV.pv (PV.int IntKind.i64 (0 : Int)))] []) (exK (blockK (0 : Nat) (seqK (wAt C S_lp (7 : FuncId) (99997 : Nat) (CP.dn (CP.dn (CP.dn CP.top (1 : Nat)) (1 : Nat)) (1 : Nat))) (retK C (7 : FuncId) [TV.pv (PV.sl a), TV.pv (PV.int IntKind.i64 k), TV.pv (PV.str t)] Q))))) := by kernel_rfl

def lp_c0 : CP := (CP.dn (CP.dn (CP.dn (CP.dn (CP.dn CP.top (1 : Nat)) (1 : Nat)) (0 : Nat)) (1 : Nat)) (0 : Nat))

def lp_h0 (t0 : List (List PV)) (t1 : Int) (t2 : List UInt8) (t7 : Int) : St := (St.mk [((0 : Nat), AV.pv (PV.sl t0)), ((1 : Nat), AV.pv (PV.int IntKind.i64 t1)), ((2 : Nat), AV.pv (PV.str t2)), ((7 : Nat), AV.pv (PV.int IntKind.i64 t7))] [])

theorem lp_l0 (a : List (List PV)) (k : Int) (t : List UInt8) (t0 : List (List PV)) (t1 : Int) (t2 : List UInt8) (t7 : Int)  (J0 : St → Prop) (Q : List TV × List TV → Prop) : (wAt C S_lp 7 1000 (lp_c0.dn 0) (lp_h0 t0 t1 t2 t7) (loopK C 7 lp_c0 J0 (exK (blockK (0 : Nat) (seqK (wAt C S_lp (7 : FuncId) (99997 : Nat) (CP.dn (CP.dn (CP.dn CP.top (1 : Nat)) (1 : Nat)) (1 : Nat))) (retK C (7 : FuncId) [TV.pv (PV.sl a), TV.pv (PV.int IntKind.i64 k), TV.pv (PV.str t)] Q)))))) (H.b (H.s (H.s (H.b H.auto (H.n (2 : Nat) (H.s (H.s (H.n (2 : Nat) (H.b H.auto H.auto)))))))) H.auto) = ((decide (t7 < (↑(List.length t2) : Int)) = true → (0 : Int) ≤ t7 ∧ ∃ (c : UInt8), t2[Int.toNat t7]? = some c ∧ (((↑(UInt8.toNat c) : Int) == (10 : Int)) = true → ∃ (h : H), Q ([TV.pv (PV.bool true)], [])) ∧ (((↑(UInt8.toNat c) : Int) == (10 : Int)) = false → (0 : Int) ≤ t7 ∧ ∃ (c : UInt8), t2[Int.toNat t7]? = some c ∧ (((↑(UInt8.toNat c) : Int) == (13 : Int)) = true → ∃ (h : H), Q ([TV.pv (PV.bool true)], [])) ∧ (((↑(UInt8.toNat c) : Int) == (13 : Int)) = false → J0 (St.mk [((0 : Nat), AV.pv (PV.sl t0)), ((1 : Nat), AV.pv (PV.int IntKind.i64 t1)), ((2 : Nat), AV.pv (PV.str t2)), ((7 : Nat), AV.pv (PV.int IntKind.i64 (IntKind.wrap IntKind.i64 (t7 + (1 : Int)))))] [])))) ∧ (decide (t7 < (↑(List.length t2) : Int)) = false → exK (blockK (0 : Nat) (seqK (wAt C S_lp (7 : FuncId) (99997 : Nat) (CP.dn (CP.dn (CP.dn CP.top (1 : Nat)) (1 : Nat)) (1 : Nat))) (retK C (7 : FuncId) [TV.pv (PV.sl a), TV.pv (PV.int IntKind.i64 k), TV.pv (PV.str t)] Q))) (Ex.exit (0 : Nat)) (St.mk [((18 : Nat), AV.pv (PV.bool false)), ((17 : Nat), AV.pv (PV.int IntKind.i64 (↑(List.length t2) : Int))), ((16 : Nat), AV.pv (PV.str t2)), ((15 : Nat), AV.pv (PV.int IntKind.i64 t7)), ((0 : Nat), AV.pv (PV.sl t0)), ((1 : Nat), AV.pv (PV.int IntKind.i64 t1)), ((2 : Nat), AV.pv (PV.str t2)), ((7 : Nat), AV.pv (PV.int IntKind.i64 t7))] []))) := by kernel_rfl

def lp_s1 (t17 : Int) (t16 : List UInt8) (t15 : Int) (t0 : List (List PV)) (t1 : Int) (t2 : List UInt8) (t7 : Int) : St := (St.mk [((18 : Nat), AV.pv (PV.bool false)), ((17 : Nat), AV.pv (PV.int IntKind.i64 t17)), ((16 : Nat), AV.pv (PV.str t16)), ((15 : Nat), AV.pv (PV.int IntKind.i64 t15)), ((0 : Nat), AV.pv (PV.sl t0)), ((1 : Nat), AV.pv (PV.int IntKind.i64 t1)), ((2 : Nat), AV.pv (PV.str t2)), ((7 : Nat), AV.pv (PV.int IntKind.i64 t7))] [])

theorem lp_x1 (a : List (List PV)) (k : Int) (t : List UInt8) (t17 : Int) (t16 : List UInt8) (t15 : Int) (t0 : List (List PV)) (t1 : Int) (t2 : List UInt8) (t7 : Int)  (Q : List TV × List TV → Prop) : (fun h => blockK (0 : Nat) (seqK (wAt C S_lp (7 : FuncId) (99997 : Nat) (CP.dn (CP.dn (CP.dn CP.top (1 : Nat)) (1 : Nat)) (1 : Nat))) (retK C (7 : FuncId) [TV.pv (PV.sl a), TV.pv (PV.int IntKind.i64 k), TV.pv (PV.str t)] Q)) h (Ex.exit (0 : Nat)) (lp_s1 t17 t16 t15 t0 t1 t2 t7)) (H.s (H.b H.auto (H.n (2 : Nat) (H.s (H.n (2 : Nat) (H.s (H.n (3 : Nat) (H.b H.auto (H.n (2 : Nat) (H.s (H.n (2 : Nat) (H.s (H.n (5 : Nat) (H.b H.auto H.auto)))))))))))))) = ((∃ (ns : List Int), t0 = List.map (fun (n : Int) ↦ [PV.int IntKind.i64 n]) ns) ∧ List.length (textF t0) ≤ (4000000 : Nat) ∧ ¬IntKind.wrap IntKind.i64 ((↑(List.length (List.map row (linesF (textF t0)))) : Int) + (1 : Int)) = (0 : Int) ∧ (∃ (A : List Ln), ∃ (tl : List (List UInt8)), List.map row (linesF (textF t0)) = List.map row A ∧ [[PV.str t2]] = List.map (fun (t : List UInt8) ↦ [PV.str t]) tl ∧ List.length A + List.length tl ≤ (4000000 : Nat)) ∧ (flatTVs [TV.own (2 : Nat) (putR (List.map row (linesF (textF t0))) (wi t1 (IntKind.wrap IntKind.i64 ((↑(List.length (List.map row (linesF (textF t0)))) : Int) + (1 : Int)))) [[PV.str t2]])] && true) = true ∧ (((↑(List.length (putR (List.map row (linesF (textF t0))) (wi t1 (IntKind.wrap IntKind.i64 ((↑(List.length (List.map row (linesF (textF t0)))) : Int) + (1 : Int)))) [[PV.str t2]])) : Int) != IntKind.wrap IntKind.i64 ((↑(List.length (List.map row (linesF (textF t0)))) : Int) + (1 : Int))) = true → Q ([TV.pv (PV.bool false)], [])) ∧ (((↑(List.length (putR (List.map row (linesF (textF t0))) (wi t1 (IntKind.wrap IntKind.i64 ((↑(List.length (List.map row (linesF (textF t0)))) : Int) + (1 : Int)))) [[PV.str t2]])) : Int) != IntKind.wrap IntKind.i64 ((↑(List.length (List.map row (linesF (textF t0)))) : Int) + (1 : Int))) = false → ((0 : Int) ≤ wi t1 (IntKind.wrap IntKind.i64 ((↑(List.length (List.map row (linesF (textF t0)))) : Int) + (1 : Int))) ∧ wi t1 (IntKind.wrap IntKind.i64 ((↑(List.length (List.map row (linesF (textF t0)))) : Int) + (1 : Int))) < (↑(List.length (putR (List.map row (linesF (textF t0))) (wi t1 (IntKind.wrap IntKind.i64 ((↑(List.length (List.map row (linesF (textF t0)))) : Int) + (1 : Int)))) [[PV.str t2]])) : Int)) ∧ ∃ (c : List PV), (putR (List.map row (linesF (textF t0))) (wi t1 (IntKind.wrap IntKind.i64 ((↑(List.length (List.map row (linesF (textF t0)))) : Int) + (1 : Int)))) [[PV.str t2]])[Int.toNat (wi t1 (IntKind.wrap IntKind.i64 ((↑(List.length (List.map row (linesF (textF t0)))) : Int) + (1 : Int))))]? = some c ∧ (1 : Nat) ≤ List.length c ∧ ∃ (s : List UInt8), List.take (1 : Nat) c = [PV.str s] ∧ ((!s == t2) = true → Q ([TV.pv (PV.bool false)], [])) ∧ ((!s == t2) = false → ((0 : Int) ≤ wi t1 (IntKind.wrap IntKind.i64 ((↑(List.length (List.map row (linesF (textF t0)))) : Int) + (1 : Int))) ∧ wi t1 (IntKind.wrap IntKind.i64 ((↑(List.length (List.map row (linesF (textF t0)))) : Int) + (1 : Int))) < (↑(List.length (putR (List.map row (linesF (textF t0))) (wi t1 (IntKind.wrap IntKind.i64 ((↑(List.length (List.map row (linesF (textF t0)))) : Int) + (1 : Int)))) [[PV.str t2]])) : Int)) ∧ ∃ (c : List PV), (putR (List.map row (linesF (textF t0))) (wi t1 (IntKind.wrap IntKind.i64 ((↑(List.length (List.map row (linesF (textF t0)))) : Int) + (1 : Int)))) [[PV.str t2]])[Int.toNat (wi t1 (IntKind.wrap IntKind.i64 ((↑(List.length (List.map row (linesF (textF t0)))) : Int) + (1 : Int))))]? = some c ∧ (2 : Nat) ≤ List.length c ∧ ∃ (s : List UInt8), List.take (1 : Nat) (List.drop (1 : Nat) c) = [PV.str s] ∧ (∃ (A : List Ln), List.map row (linesF (textF t0)) = List.map row A) ∧ ((!s == endR (List.map row (linesF (textF t0)))) = true → Q ([TV.pv (PV.bool false)], [])) ∧ ((!s == endR (List.map row (linesF (textF t0)))) = false → LoopAt C (7 : FuncId) (CP.dn (CP.dn (CP.dn (CP.dn (CP.dn (CP.dn (CP.dn (CP.dn (CP.dn (CP.dn CP.top (1 : Nat)) (1 : Nat)) (1 : Nat)) (1 : Nat)) (1 : Nat)) (1 : Nat)) (1 : Nat)) (0 : Nat)) (1 : Nat)) (0 : Nat)) (St.mk [((8 : Nat), AV.own (16 : Nat)), ((9 : Nat), AV.pv (PV.int IntKind.i64 (wi t1 (IntKind.wrap IntKind.i64 ((↑(List.length (List.map row (linesF (textF t0)))) : Int) + (1 : Int)))))), ((10 : Nat), AV.own (20 : Nat)), ((11 : Nat), AV.pv (PV.int IntKind.i64 (0 : Int)))] [((16 : Nat), Obj.buf (2 : Nat) (List.map row (linesF (textF t0)))), ((20 : Nat), Obj.buf (2 : Nat) (putR (List.map row (linesF (textF t0))) (wi t1 (IntKind.wrap IntKind.i64 ((↑(List.length (List.map row (linesF (textF t0)))) : Int) + (1 : Int)))) [[PV.str t2]]))]) (exK (blockK (2 : Nat) (seqK (wAt C S_lp (7 : FuncId) (99992 : Nat) (CP.dn (CP.dn (CP.dn (CP.dn (CP.dn (CP.dn (CP.dn (CP.dn CP.top (1 : Nat)) (1 : Nat)) (1 : Nat)) (1 : Nat)) (1 : Nat)) (1 : Nat)) (1 : Nat)) (1 : Nat))) (retK C (7 : FuncId) [TV.pv (PV.sl a), TV.pv (PV.int IntKind.i64 k), TV.pv (PV.str t)] Q)))))))) := by kernel_rfl

def lp_c2 : CP := (CP.dn (CP.dn (CP.dn (CP.dn (CP.dn (CP.dn (CP.dn (CP.dn (CP.dn (CP.dn CP.top (1 : Nat)) (1 : Nat)) (1 : Nat)) (1 : Nat)) (1 : Nat)) (1 : Nat)) (1 : Nat)) (0 : Nat)) (1 : Nat)) (0 : Nat))

def lp_h2 (t9 : Int) (t11 : Int) (o16 : List (List PV)) (o20 : List (List PV)) : St := (St.mk [((8 : Nat), AV.own (16 : Nat)), ((9 : Nat), AV.pv (PV.int IntKind.i64 t9)), ((10 : Nat), AV.own (20 : Nat)), ((11 : Nat), AV.pv (PV.int IntKind.i64 t11))] [((16 : Nat), Obj.buf (2 : Nat) o16), ((20 : Nat), Obj.buf (2 : Nat) o20)])

theorem lp_l2 (a : List (List PV)) (k : Int) (t : List UInt8) (t9 : Int) (t11 : Int) (o16 : List (List PV)) (o20 : List (List PV))  (J2 : St → Prop) (Q : List TV × List TV → Prop) : (wAt C S_lp 7 1000 (lp_c2.dn 0) (lp_h2 t9 t11 o16 o20) (loopK C 7 lp_c2 J2 (exK (blockK (2 : Nat) (seqK (wAt C S_lp (7 : FuncId) (99992 : Nat) (CP.dn (CP.dn (CP.dn (CP.dn (CP.dn (CP.dn (CP.dn (CP.dn CP.top (1 : Nat)) (1 : Nat)) (1 : Nat)) (1 : Nat)) (1 : Nat)) (1 : Nat)) (1 : Nat)) (1 : Nat))) (retK C (7 : FuncId) [TV.pv (PV.sl a), TV.pv (PV.int IntKind.i64 k), TV.pv (PV.str t)] Q)))))) (H.b (H.b (H.s (H.s (H.s (H.s (H.b H.auto (H.n (2 : Nat) (H.s (H.n (2 : Nat) (H.s (H.n (2 : Nat) (H.b (H.n (2 : Nat) (H.s (H.n (2 : Nat) (H.s (H.n (3 : Nat) (H.s (H.n (2 : Nat) (H.s (H.n (4 : Nat) (H.b H.auto H.auto)))))))))) H.auto))))))))))) (H.s (H.s (H.s (H.s (H.b H.auto (H.n (2 : Nat) (H.s (H.n (2 : Nat) (H.s (H.n (2 : Nat) (H.b (H.n (2 : Nat) (H.s (H.n (2 : Nat) (H.s (H.n (3 : Nat) (H.s (H.n (2 : Nat) (H.s (H.n (4 : Nat) (H.b H.auto H.auto)))))))))) H.auto)))))))))))) H.auto) = ((decide (t11 < (↑(List.length o16) : Int)) = true → (decide (t11 ≥ t9) = true → ((0 : Int) ≤ IntKind.wrap IntKind.i64 (t11 + (1 : Int)) ∧ IntKind.wrap IntKind.i64 (t11 + (1 : Int)) < (↑(List.length o20) : Int)) ∧ ∃ (c : List PV), o20[Int.toNat (IntKind.wrap IntKind.i64 (t11 + (1 : Int)))]? = some c ∧ (1 : Nat) ≤ List.length c ∧ ∃ (s : List UInt8), List.take (1 : Nat) c = [PV.str s] ∧ ((0 : Int) ≤ t11 ∧ t11 < (↑(List.length o16) : Int)) ∧ ∃ (c : List PV), o16[Int.toNat t11]? = some c ∧ (1 : Nat) ≤ List.length c ∧ ∃ (s_1 : List UInt8), List.take (1 : Nat) c = [PV.str s_1] ∧ ((!s == s_1) = true → ∃ (h : H), Q ([TV.pv (PV.bool false)], [])) ∧ ((!s == s_1) = false → ((0 : Int) ≤ t11 ∧ t11 < (↑(List.length o16) : Int)) ∧ ∃ (c : List PV), o16[Int.toNat t11]? = some c ∧ (2 : Nat) ≤ List.length c ∧ ∃ (s : List UInt8), List.take (1 : Nat) (List.drop (1 : Nat) c) = [PV.str s] ∧ ((!s == []) = true → ((0 : Int) ≤ IntKind.wrap IntKind.i64 (t11 + (1 : Int)) ∧ IntKind.wrap IntKind.i64 (t11 + (1 : Int)) < (↑(List.length o20) : Int)) ∧ ∃ (c : List PV), o20[Int.toNat (IntKind.wrap IntKind.i64 (t11 + (1 : Int)))]? = some c ∧ (2 : Nat) ≤ List.length c ∧ ∃ (s : List UInt8), List.take (1 : Nat) (List.drop (1 : Nat) c) = [PV.str s] ∧ ((0 : Int) ≤ t11 ∧ t11 < (↑(List.length o16) : Int)) ∧ ∃ (c : List PV), o16[Int.toNat t11]? = some c ∧ (2 : Nat) ≤ List.length c ∧ ∃ (s_2 : List UInt8), List.take (1 : Nat) (List.drop (1 : Nat) c) = [PV.str s_2] ∧ ((!s == s_2) = true → ∃ (h : H), Q ([TV.pv (PV.bool false)], [])) ∧ ((!s == s_2) = false → J2 (St.mk [((8 : Nat), AV.own (16 : Nat)), ((9 : Nat), AV.pv (PV.int IntKind.i64 t9)), ((10 : Nat), AV.own (20 : Nat)), ((11 : Nat), AV.pv (PV.int IntKind.i64 (IntKind.wrap IntKind.i64 (t11 + (1 : Int)))))] [((16 : Nat), Obj.buf (2 : Nat) o16), ((20 : Nat), Obj.buf (2 : Nat) o20)]))) ∧ ((!s == []) = false → J2 (St.mk [((8 : Nat), AV.own (16 : Nat)), ((9 : Nat), AV.pv (PV.int IntKind.i64 t9)), ((10 : Nat), AV.own (20 : Nat)), ((11 : Nat), AV.pv (PV.int IntKind.i64 (IntKind.wrap IntKind.i64 (t11 + (1 : Int)))))] [((16 : Nat), Obj.buf (2 : Nat) o16), ((20 : Nat), Obj.buf (2 : Nat) o20)])))) ∧ (decide (t11 ≥ t9) = false → ((0 : Int) ≤ t11 ∧ t11 < (↑(List.length o20) : Int)) ∧ ∃ (c : List PV), o20[Int.toNat t11]? = some c ∧ (1 : Nat) ≤ List.length c ∧ ∃ (s : List UInt8), List.take (1 : Nat) c = [PV.str s] ∧ ((0 : Int) ≤ t11 ∧ t11 < (↑(List.length o16) : Int)) ∧ ∃ (c : List PV), o16[Int.toNat t11]? = some c ∧ (1 : Nat) ≤ List.length c ∧ ∃ (s_1 : List UInt8), List.take (1 : Nat) c = [PV.str s_1] ∧ ((!s == s_1) = true → ∃ (h : H), Q ([TV.pv (PV.bool false)], [])) ∧ ((!s == s_1) = false → ((0 : Int) ≤ t11 ∧ t11 < (↑(List.length o16) : Int)) ∧ ∃ (c : List PV), o16[Int.toNat t11]? = some c ∧ (2 : Nat) ≤ List.length c ∧ ∃ (s : List UInt8), List.take (1 : Nat) (List.drop (1 : Nat) c) = [PV.str s] ∧ ((!s == []) = true → ((0 : Int) ≤ t11 ∧ t11 < (↑(List.length o20) : Int)) ∧ ∃ (c : List PV), o20[Int.toNat t11]? = some c ∧ (2 : Nat) ≤ List.length c ∧ ∃ (s : List UInt8), List.take (1 : Nat) (List.drop (1 : Nat) c) = [PV.str s] ∧ ((0 : Int) ≤ t11 ∧ t11 < (↑(List.length o16) : Int)) ∧ ∃ (c : List PV), o16[Int.toNat t11]? = some c ∧ (2 : Nat) ≤ List.length c ∧ ∃ (s_2 : List UInt8), List.take (1 : Nat) (List.drop (1 : Nat) c) = [PV.str s_2] ∧ ((!s == s_2) = true → ∃ (h : H), Q ([TV.pv (PV.bool false)], [])) ∧ ((!s == s_2) = false → J2 (St.mk [((8 : Nat), AV.own (16 : Nat)), ((9 : Nat), AV.pv (PV.int IntKind.i64 t9)), ((10 : Nat), AV.own (20 : Nat)), ((11 : Nat), AV.pv (PV.int IntKind.i64 (IntKind.wrap IntKind.i64 (t11 + (1 : Int)))))] [((16 : Nat), Obj.buf (2 : Nat) o16), ((20 : Nat), Obj.buf (2 : Nat) o20)]))) ∧ ((!s == []) = false → J2 (St.mk [((8 : Nat), AV.own (16 : Nat)), ((9 : Nat), AV.pv (PV.int IntKind.i64 t9)), ((10 : Nat), AV.own (20 : Nat)), ((11 : Nat), AV.pv (PV.int IntKind.i64 (IntKind.wrap IntKind.i64 (t11 + (1 : Int)))))] [((16 : Nat), Obj.buf (2 : Nat) o16), ((20 : Nat), Obj.buf (2 : Nat) o20)]))))) ∧ (decide (t11 < (↑(List.length o16) : Int)) = false → exK (blockK (2 : Nat) (seqK (wAt C S_lp (7 : FuncId) (99992 : Nat) (CP.dn (CP.dn (CP.dn (CP.dn (CP.dn (CP.dn (CP.dn (CP.dn CP.top (1 : Nat)) (1 : Nat)) (1 : Nat)) (1 : Nat)) (1 : Nat)) (1 : Nat)) (1 : Nat)) (1 : Nat))) (retK C (7 : FuncId) [TV.pv (PV.sl a), TV.pv (PV.int IntKind.i64 k), TV.pv (PV.str t)] Q))) (Ex.exit (2 : Nat)) (St.mk [((72 : Nat), AV.pv (PV.bool false)), ((71 : Nat), AV.pv (PV.int IntKind.i64 (↑(List.length o16) : Int))), ((70 : Nat), AV.own (16 : Nat)), ((69 : Nat), AV.pv (PV.int IntKind.i64 t11)), ((8 : Nat), AV.own (16 : Nat)), ((9 : Nat), AV.pv (PV.int IntKind.i64 t9)), ((10 : Nat), AV.own (20 : Nat)), ((11 : Nat), AV.pv (PV.int IntKind.i64 t11))] [((16 : Nat), Obj.buf (2 : Nat) o16), ((20 : Nat), Obj.buf (2 : Nat) o20)]))) := by kernel_rfl

def lp_s3 (t71 : Int) (t69 : Int) (t9 : Int) (t11 : Int) (o16 : List (List PV)) (o20 : List (List PV)) : St := (St.mk [((72 : Nat), AV.pv (PV.bool false)), ((71 : Nat), AV.pv (PV.int IntKind.i64 t71)), ((70 : Nat), AV.own (16 : Nat)), ((69 : Nat), AV.pv (PV.int IntKind.i64 t69)), ((8 : Nat), AV.own (16 : Nat)), ((9 : Nat), AV.pv (PV.int IntKind.i64 t9)), ((10 : Nat), AV.own (20 : Nat)), ((11 : Nat), AV.pv (PV.int IntKind.i64 t11))] [((16 : Nat), Obj.buf (2 : Nat) o16), ((20 : Nat), Obj.buf (2 : Nat) o20)])

theorem lp_x3 (a : List (List PV)) (k : Int) (t : List UInt8) (t71 : Int) (t69 : Int) (t9 : Int) (t11 : Int) (o16 : List (List PV)) (o20 : List (List PV))  (Q : List TV × List TV → Prop) : (fun h => blockK (2 : Nat) (seqK (wAt C S_lp (7 : FuncId) (99992 : Nat) (CP.dn (CP.dn (CP.dn (CP.dn (CP.dn (CP.dn (CP.dn (CP.dn CP.top (1 : Nat)) (1 : Nat)) (1 : Nat)) (1 : Nat)) (1 : Nat)) (1 : Nat)) (1 : Nat)) (1 : Nat))) (retK C (7 : FuncId) [TV.pv (PV.sl a), TV.pv (PV.int IntKind.i64 k), TV.pv (PV.str t)] Q)) h (Ex.exit (2 : Nat)) (lp_s3 t71 t69 t9 t11 o16 o20)) (H.auto) = (((∃ (A : List Ln), o20 = List.map row A ∧ List.length A ≤ room) ∧ List.length (joinR o20) ≤ room) ∧ (List.length (linesF (joinR o20)) ≤ (4000000 : Nat) ∧ List.length (joinR o20) ≤ room) ∧ Q ([TV.pv (PV.bool ((↑(List.length (List.map row (linesF (joinR o20)))) : Int) == (↑(List.length o20) : Int)))], [])) := by kernel_rfl

/-! ### How many lines there are -/
def GoodL (X : List Ln) : Prop := ∀ j (h : j < X.length), (10 : UInt8) ∉ X[j].1 ∧ (X[j].2 = [10] ∨ X[j].2 = [13, 10] ∨ (j + 1 = X.length ∧ X[j].2 = [] ∧ ¬ X[j].1 = []))

theorem linesG_cut : ∀ (p acc r : List UInt8), (10 : UInt8) ∉ p → linesG acc (p ++ 10 :: r) = strip (acc ++ p) :: linesG [] r
  | [], acc, r, _ => by simp [linesG]
  | c :: p, acc, r, h => by
    simp only [List.mem_cons, not_or] at h
    have hc : ¬ c = 10 := fun e => h.1 e.symm
    have := linesG_cut p (acc ++ [c]) r h.2
    simp only [List.cons_append, linesG, hc, if_false, this]
    simp
theorem linesG_none : ∀ (p acc : List UInt8), (10 : UInt8) ∉ p → linesG acc p = if acc ++ p = [] then [] else [(acc ++ p, [])]
  | [], acc, _ => by simp [linesG]
  | c :: p, acc, h => by
    simp only [List.mem_cons, not_or] at h
    have hc : ¬ c = 10 := fun e => h.1 e.symm
    have := linesG_none p (acc ++ [c]) h.2
    simp only [linesG, hc, if_false, this]
    simp

theorem good_tail {x : Ln} {X : List Ln} (h : GoodL (x :: X)) : GoodL X := fun j hj => by
  have := h (j + 1) (by simpa using hj)
  simpa using this

theorem good_count : ∀ X : List Ln, GoodL X → (linesF (X.flatMap fun x => x.1 ++ x.2)).length = X.length
  | [], _ => rfl
  | (a, b) :: X, h => by
    have ih := good_count X (good_tail h)
    obtain ⟨h1, h2⟩ := h 0 (by simp)
    simp only [List.getElem_cons_zero, List.length_cons] at h1 h2
    simp only [List.flatMap_cons, List.length_cons]
    rcases h2 with rfl | rfl | ⟨h3, rfl, h4⟩
    · rw [show a ++ [10] ++ (X.flatMap fun x => x.1 ++ x.2) = a ++ 10 :: X.flatMap fun x => x.1 ++ x.2 by simp]
      unfold linesF at ih ⊢
      rw [linesG_cut a [] _ h1, List.length_cons, ih]
    · rw [show a ++ [13, 10] ++ (X.flatMap fun x => x.1 ++ x.2) = (a ++ [13]) ++ 10 :: X.flatMap fun x => x.1 ++ x.2 by simp]
      unfold linesF at ih ⊢
      rw [linesG_cut (a ++ [13]) [] _ (by simpa using h1), List.length_cons, ih]
    · have : X = [] := List.length_eq_zero_iff.1 (by omega)
      subst this
      unfold linesF
      rw [List.flatMap_nil, List.append_nil, List.append_nil, linesG_none a [] h1]
      simp [h4]

theorem strip_good (p : List UInt8) (h : (10 : UInt8) ∉ p) : (10 : UInt8) ∉ (strip p).1 ∧ ((strip p).2 = [10] ∨ (strip p).2 = [13, 10]) := by
  unfold strip
  split
  · exact ⟨fun hm => h (List.mem_of_mem_take hm), .inr rfl⟩
  · exact ⟨h, .inl rfl⟩

theorem linesG_good : ∀ (s acc : List UInt8), (10 : UInt8) ∉ acc → GoodL (linesG acc s)
  | [], acc, h, j, hj => by
    simp only [linesG] at hj ⊢
    split at hj
    · simp at hj
    · rename_i hne
      have hj0 : j = 0 := by simpa using hj
      subst hj0
      simp [hne, h]
  | c :: r, acc, h, j, hj => by
    by_cases hc : c = 10
    · have e : linesG acc (c :: r) = strip acc :: linesG [] r := by simp [linesG, hc]
      simp only [e] at hj ⊢
      cases j with
      | zero =>
        obtain ⟨h1, h2⟩ := strip_good acc h
        refine ⟨h1, h2.imp id .inl⟩
      | succ j =>
        have := linesG_good r [] (by simp) j (by simpa using hj)
        simpa using this
    · have e : linesG acc (c :: r) = linesG (acc ++ [c]) r := by simp [linesG, hc]
      simp only [e] at hj ⊢
      exact linesG_good r (acc ++ [c]) (by simp; exact ⟨h, fun e => hc e.symm⟩) j hj

theorem endR_good (s : List UInt8) : endR ((linesF s).map row) = [10] ∨ endR ((linesF s).map row) = [13, 10] := by
  rcases endR_of (linesF s) with ⟨_, e⟩ | ⟨x, r, h, e⟩
  · exact .inl e
  · rw [e]
    split
    · exact .inl rfl
    · rename_i hx
      have hg := linesG_good s [] (by simp)
      have h' : linesG [] s = x :: r := h
      have := hg 0 (by rw [h']; simp)
      simp only [h', List.getElem_cons_zero] at this
      rcases this.2 with h2 | h2 | h2
      · exact .inl h2
      · exact .inr h2
      · exact absurd h2.2.1 hx

/-! ### Where a line is put -/
theorem fixTo_get (e : List UInt8) (M : List Ln) (i j : Nat) : (fixTo e M i)[j]? = if j < i then M[j]?.map (fixL e) else M[j]? := by
  unfold fixTo
  rcases Nat.lt_or_ge j i with h | h
  · rw [if_pos h]
    rcases Nat.lt_or_ge j M.length with h2 | h2
    · rw [List.getElem?_append_left (by simp; omega), List.getElem?_map, List.getElem?_take, if_pos h]
    · rw [List.getElem?_append_right (by simp; omega)]
      rw [List.getElem?_eq_none (by simp; omega), List.getElem?_eq_none h2]; rfl
  · rw [if_neg (by omega)]
    rcases Nat.lt_or_ge i M.length with h2 | h2
    · rw [List.getElem?_append_right (by simp; omega), List.getElem?_drop]
      congr 1; simp; omega
    · rw [List.getElem?_eq_none (by simp; omega), List.getElem?_eq_none (by omega)]

theorem mid_get (L : List Ln) (c : Nat) (hc : c ≤ L.length) (y : Ln) (j : Nat) : (L.take c ++ [y] ++ L.drop c)[j]? = if j < c then L[j]? else if j = c then some y else L[j - 1]? := by
  rcases Nat.lt_trichotomy j c with h | h | h
  · rw [if_pos h, List.append_assoc, List.getElem?_append_left (by simp; omega), List.getElem?_take, if_pos h]
  · subst h
    rw [if_neg (by omega), if_pos rfl, List.append_assoc, List.getElem?_append_right (by simp; omega)]
    have : j - (L.take j).length = 0 := by simp; omega
    rw [this]; simp
  · rw [if_neg (by omega), if_neg (by omega), List.getElem?_append_right (by simp; omega), List.getElem?_drop]
    congr 1; simp; omega

def tot (X : List Ln) : Nat := (X.flatMap fun x => x.1 ++ x.2).length
theorem tot_app (A B : List Ln) : tot (A ++ B) = tot A + tot B := by simp [tot]
theorem tot_fix (e : List UInt8) (he : e.length ≤ 2) : ∀ A : List Ln, tot (A.map (fixL e)) ≤ tot A + 2 * A.length
  | [] => by simp [tot]
  | x :: A => by
    have ih := tot_fix e he A
    simp only [tot, List.map_cons, List.flatMap_cons, List.length_append, List.length_cons] at ih ⊢
    have : (fixL e x).1.length + (fixL e x).2.length ≤ x.1.length + x.2.length + 2 := by
      unfold fixL; split <;> simp_all <;> omega
    omega

/-- What is asked of lines with one put in. -/
structure Parts (L X : List Ln) (c : Nat) (t e : List UInt8) : Prop where
  len : X.length = L.length + 1
  at_ : X[c]? = some (t, e)
  rest : ∀ i (h : i < L.length), ∃ x, X[if c ≤ i then i + 1 else i]? = some x ∧ x.1 = L[i].1 ∧ (¬ L[i].2 = [] → x.2 = L[i].2)
  good : GoodL X
  size : tot X ≤ tot L + t.length + 2 * L.length + 4

theorem parts_of (s t : List UInt8) (c : Nat) (hc : c ≤ (linesF s).length) (ht : (10 : UInt8) ∉ t) : Parts (linesF s) (putF (linesF s) c [t]) c t (endR ((linesF s).map row)) := by
  have hcl : cl c (linesF s).length = c := by unfold cl; split <;> (try split at *) <;> omega
  have he := endR_good s
  have hg := linesG_good s [] (by simp)
  generalize hE : endR ((linesF s).map row) = e at *
  have hL : linesG [] s = linesF s := rfl
  rw [hL] at hg
  generalize linesF s = L at *
  have hX : putF L c [t] = fixTo e (L.take c ++ [(t, e)] ++ L.drop c) L.length := by
    unfold putF
    rw [hcl, hE]
    rfl
  have hlen : (putF L c [t]).length = L.length + 1 := by rw [hX, fixTo_len]; simp; omega
  have he0 : ¬ e = [] := by rcases he with rfl | rfl <;> simp
  have hfe : ∀ a : List UInt8, fixL e (a, e) = (a, e) := fun a => by simp [fixL, he0]
  have hget : ∀ j, (putF L c [t])[j]? = if j < L.length then ((if j < c then L[j]? else if j = c then some (t, e) else L[j - 1]?).map (fixL e)) else (if j < c then L[j]? else if j = c then some (t, e) else L[j - 1]?) := by
    intro j; rw [hX, fixTo_get, mid_get L c hc]
  refine ⟨hlen, ?_, fun i hi => ?_, fun j hj => ?_, ?_⟩
  · rw [hget, if_neg (Nat.lt_irrefl c), if_pos rfl]
    split <;> simp [hfe]
  · have hi? : L[i]? = some L[i] := List.getElem?_eq_getElem hi
    by_cases hci : c ≤ i
    · rw [if_pos hci, hget, if_neg (show ¬ i + 1 < c by omega), if_neg (show ¬ i + 1 = c by omega), Nat.add_sub_cancel, hi?]
      split
      · exact ⟨_, rfl, by unfold fixL; split <;> rfl, fun h => by simp [fixL, h]⟩
      · exact ⟨_, rfl, rfl, fun _ => rfl⟩
    · rw [if_neg hci, hget, if_pos hi, if_pos (show i < c by omega), hi?]
      exact ⟨_, rfl, by unfold fixL; split <;> rfl, fun h => by simp [fixL, h]⟩
  · have hj? : (putF L c [t])[j]? = some (putF L c [t])[j] := List.getElem?_eq_getElem hj
    rw [hlen] at hj ⊢
    generalize (putF L c [t])[j] = x at *
    rw [hget] at hj?
    have hfix : ∀ (y : Ln) (i : Nat) (hi : i < L.length), L[i] = y → (10 : UInt8) ∉ (fixL e y).1 ∧ ((fixL e y).2 = [10] ∨ (fixL e y).2 = [13, 10]) := by
      intro y i hi hy
      obtain ⟨g1, g2⟩ := hg i hi
      rw [hy] at g1 g2
      unfold fixL
      split
      · exact ⟨g1, he⟩
      · rename_i hne
        exact ⟨g1, g2.imp id fun h => h.elim id fun h => absurd h.2.1 hne⟩
    have hmid : (10 : UInt8) ∉ t ∧ (e = [10] ∨ e = [13, 10]) := ⟨ht, he⟩
    by_cases h1 : j < L.length
    · rw [if_pos h1] at hj?
      by_cases h2 : j < c
      · rw [if_pos h2, List.getElem?_eq_getElem h1] at hj?
        simp only [Option.map_some, Option.some.injEq] at hj?
        subst hj?
        have := hfix _ j h1 rfl
        exact ⟨this.1, this.2.imp id .inl⟩
      · rw [if_neg h2] at hj?
        by_cases h3 : j = c
        · rw [if_pos h3] at hj?
          simp only [Option.map_some, Option.some.injEq, hfe] at hj?
          subst hj?
          exact ⟨hmid.1, hmid.2.imp id .inl⟩
        · rw [if_neg h3, List.getElem?_eq_getElem (show j - 1 < L.length by omega)] at hj?
          simp only [Option.map_some, Option.some.injEq] at hj?
          subst hj?
          have := hfix _ (j - 1) (by omega) rfl
          exact ⟨this.1, this.2.imp id .inl⟩
    · rw [if_neg h1, if_neg (show ¬ j < c by omega)] at hj?
      by_cases h3 : j = c
      · rw [if_pos h3] at hj?
        simp only [Option.some.injEq] at hj?
        subst hj?
        exact ⟨hmid.1, hmid.2.imp id .inl⟩
      · have hj1 : j - 1 < L.length := by omega
        rw [if_neg h3, List.getElem?_eq_getElem hj1] at hj?
        simp only [Option.some.injEq] at hj?
        subst hj?
        obtain ⟨g1, g2⟩ := hg (j - 1) hj1
        exact ⟨g1, g2.imp id fun h => h.imp id fun h => ⟨by omega, h.2⟩⟩
  · have he2 : e.length ≤ 2 := by rcases he with rfl | rfl <;> simp
    rw [hX]
    unfold fixTo
    rw [tot_app]
    have h1 := tot_fix e he2 ((L.take c ++ [(t, e)] ++ L.drop c).take L.length)
    have h2 : tot ((L.take c ++ [(t, e)] ++ L.drop c).take L.length) + tot ((L.take c ++ [(t, e)] ++ L.drop c).drop L.length) = tot (L.take c ++ [(t, e)] ++ L.drop c) := by
      rw [← tot_app, List.take_append_drop]
    have h3 : tot (L.take c) + tot (L.drop c) = tot L := by rw [← tot_app, List.take_append_drop]
    have h4 : tot [(t, e)] = t.length + e.length := by simp [tot]
    rw [tot_app, tot_app, h4] at h2
    simp only [List.length_take, List.length_append, List.length_drop, List.length_singleton] at h1
    omega

/-! ### LinesParts -/
theorem lp_specs : SpecOK C S_lp := specL_ok (specs_cons text_ok (specs_cons rsplit_ok (specs_cons putL_ok (specs_cons within1_ok (specs_cons rend_ok (specs_cons join_ok (specs_cons split2_ok specs_nil)))))))

theorem joinR_tot (A : List Ln) : (joinR (A.map row)).length = tot A := by rw [joinR_rows]; rfl

set_option maxRecDepth 100000 in
theorem lp_loop (a : List (List PV)) (k : Int) (t0 s t e : List UInt8) (c : Nat) (X : List Ln) (hs : s.length ≤ 1000) (hc : c ≤ (linesF s).length) (hX : Parts (linesF s) X c t e) (ht : t.length ≤ 140737488351232) :
    LoopAt C 7 lp_c2 (lp_h2 c 0 ((linesF s).map row) (X.map row)) (exK (blockK 2 (seqK (wAt C S_lp 7 99992 (CP.dn (CP.dn (CP.dn (CP.dn (CP.dn (CP.dn (CP.dn (CP.dn CP.top 1) 1) 1) 1) 1) 1) 1) 1)) (retK C 7 [TV.pv (PV.sl a), TV.pv (PV.int IntKind.i64 k), TV.pv (PV.str t0)] (fun r => r = good))))) := by
  have hr := room_val
  have l1 := lines_len s []
  have l2 : (linesF s).length ≤ 1000 := Nat.le_trans (by simpa [linesF] using l1) hs
  have lj : tot (linesF s) = s.length := by
    have := lines_join s []
    unfold tot linesF; rw [this]; simp
  generalize linesF s = L at *
  refine loop_rule lp_specs (by kernel_rfl) 1000 (fun n st => ∃ i : Nat, st = lp_h2 c i (L.map row) (X.map row) ∧ i ≤ L.length ∧ n = L.length - i) ?_ (n := L.length) ⟨0, rfl, by omega, rfl⟩
  rintro n st ⟨i, rfl, hi, rfl⟩
  refine ⟨_, (lp_l2 _ _ _ _ _ _ _ _ _).mpr ⟨fun h => ?_, fun h => ?_⟩⟩
  · simp only [List.length_map, decide_eq_true_eq] at h
    have hi' : i < L.length := by omega
    have w1 : IntKind.wrap .i64 ((i : Int) + 1) = ((i + 1 : Nat) : Int) := by rw [IntWalk.i64_in _ (by omega)]; omega
    obtain ⟨x, hx, hx1, hx2⟩ := hX.rest i hi'
    have hlen := hX.len
    have gi := row_at L hi'
    have hr : (X.map row)[if c ≤ i then i + 1 else i]? = some (row x) := by rw [List.getElem?_map, hx]; rfl
    have fin : ∃ m, m < L.length - i ∧ ∃ j : Nat, St.mk [((8 : Nat), AV.own (16 : Nat)), ((9 : Nat), AV.pv (PV.int IntKind.i64 (c : Int))), ((10 : Nat), AV.own (20 : Nat)), ((11 : Nat), AV.pv (PV.int IntKind.i64 (IntKind.wrap IntKind.i64 ((i : Int) + (1 : Int)))))] [((16 : Nat), Obj.buf (2 : Nat) (L.map row)), ((20 : Nat), Obj.buf (2 : Nat) (X.map row))] = lp_h2 c j (L.map row) (X.map row) ∧ j ≤ L.length ∧ m = L.length - j :=
      ⟨L.length - (i + 1), by omega, i + 1, by rw [w1]; rfl, by omega, rfl⟩
    simp only [List.length_map, Int.toNat_natCast]
    refine ⟨fun h2 => ?_, fun h2 => ?_⟩
    · simp only [ge_iff_le, decide_eq_true_eq] at h2
      rw [if_pos (show c ≤ i by omega)] at hr
      rw [w1, Int.toNat_natCast]
      rw [w1] at fin
      refine ⟨by omega, row x, hr, by simp [row], x.1, rfl, by omega, row L[i], gi, by simp [row], L[i].1, rfl, fun h3 => ?_, fun _ => ⟨by omega, row L[i], gi, by simp [row], L[i].2, rfl, fun h4 => ?_, fun _ => fin⟩⟩
      · rw [hx1] at h3; simp at h3
      · refine ⟨by omega, row x, hr, by simp [row], x.2, rfl, by omega, row L[i], gi, by simp [row], L[i].2, rfl, fun h5 => ?_, fun _ => fin⟩
        rw [hx2 (by simpa using h4)] at h5; simp at h5
    · simp only [ge_iff_le, decide_eq_false_iff_not] at h2
      rw [if_neg (show ¬ c ≤ i by omega)] at hr
      refine ⟨by omega, row x, hr, by simp [row], x.1, rfl, by omega, row L[i], gi, by simp [row], L[i].1, rfl, fun h3 => ?_, fun _ => ⟨by omega, row L[i], gi, by simp [row], L[i].2, rfl, fun h4 => ?_, fun _ => fin⟩⟩
      · rw [hx1] at h3; simp at h3
      · refine ⟨by omega, row x, hr, by simp [row], x.2, rfl, by omega, row L[i], gi, by simp [row], L[i].2, rfl, fun h5 => ?_, fun _ => fin⟩
        rw [hx2 (by simpa using h4)] at h5; simp at h5
  · have hlen := hX.len
    have hsz := hX.size
    have hj := joinR_tot X
    have hcnt : (linesF (joinR (X.map row))).length = X.length := by rw [joinR_rows]; exact good_count X hX.good
    refine ⟨_, (lp_x3 _ _ _ _ _ _ _ _ _ _).mpr ⟨⟨⟨X, rfl, by omega⟩, by omega⟩, ⟨by omega, by omega⟩, ?_⟩⟩
    simp only [List.length_map, hcnt]
    simp [good]

set_option maxRecDepth 100000 in
theorem lp_ev (ns : List Int) (k : Int) (t : List UInt8) (ht : t.length ≤ 140737488351232) : Ev C 7 [.pv (.sl (ns.map fun n => [.int .i64 n])), .pv (.int .i64 k), .pv (.str t)] good := by
  have hr := room_val
  refine ev_of lp_specs ((lp_w _ _ _ _).mpr ?_)
  refine loop_rule lp_specs (by kernel_rfl) 1000 (fun n st => ∃ i : Nat, st = lp_h0 (ns.map fun n => [.int .i64 n]) k t i ∧ i ≤ t.length ∧ (10 : UInt8) ∉ t.take i ∧ n = t.length - i) ?_ (n := t.length) ⟨0, rfl, by omega, by simp, rfl⟩
  rintro n st ⟨i, rfl, hi, hc, rfl⟩
  refine ⟨_, (lp_l0 _ _ _ _ _ _ _ _ _).mpr ⟨fun h => ?_, fun h => ?_⟩⟩
  · simp only [decide_eq_true_eq] at h
    have hi' : i < t.length := by omega
    have w1 : IntKind.wrap .i64 ((i : Int) + 1) = ((i + 1 : Nat) : Int) := by rw [IntWalk.i64_in _ (by omega)]; omega
    have gi : t[((i : Int)).toNat]? = some t[i] := by rw [Int.toNat_natCast]; exact List.getElem?_eq_getElem hi'
    refine ⟨by omega, t[i], gi, fun _ => ⟨.auto, rfl⟩, fun h1 => ⟨by omega, t[i], gi, fun _ => ⟨.auto, rfl⟩, fun _ => ⟨t.length - (i + 1), by omega, i + 1, by rw [w1]; rfl, by omega, ?_, rfl⟩⟩⟩
    rw [List.take_succ_eq_append_getElem hi']
    simp only [List.mem_append, List.mem_singleton, not_or]
    refine ⟨hc, fun e => ?_⟩
    rw [← e] at h1
    simp at h1
  · simp only [decide_eq_false_iff_not] at h
    have : i = t.length := by omega
    subst this
    rw [List.take_length] at hc
    refine ⟨_, (lp_x1 _ _ _ _ _ _ _ _ _ _ _).mpr ?_⟩
    have hs := textF_len (ns.map fun n => [.int .i64 n])
    refine ⟨⟨ns, rfl⟩, by omega, ?_⟩
    generalize textF (ns.map fun n => [.int .i64 n]) = s at *
    have l1 := lines_len s []
    have l2 : (linesF s).length ≤ 1000 := Nat.le_trans (by simpa [linesF] using l1) hs
    have w1 : IntKind.wrap .i64 ((↑(List.length ((linesF s).map row)) : Int) + (1 : Int)) = (((linesF s).length + 1 : Nat) : Int) := by rw [List.length_map, IntWalk.i64_in _ (by omega)]; omega
    have hw := wi_range (a := k) (n := (linesF s).length + 1) (by omega) (by omega)
    rw [w1]
    obtain ⟨c, hk⟩ : ∃ c : Nat, wi k (((linesF s).length + 1 : Nat) : Int) = (c : Int) := ⟨(wi k (((linesF s).length + 1 : Nat) : Int)).toNat, by omega⟩
    have hX := parts_of s t c (by omega) hc
    have hp := putR_rows (linesF s) c [t]
    have hcl : c ≤ (linesF s).length := by omega
    rw [hk]
    simp only [List.map_cons, List.map_nil] at hp
    rw [hp]
    have hlen := hX.len
    have gx : ((putF (linesF s) c [t]).map row)[((c : Int)).toNat]? = some (row (t, endR ((linesF s).map row))) := by rw [Int.toNat_natCast, List.getElem?_map, hX.at_]; rfl
    have go := lp_loop (ns.map fun n => [.int .i64 n]) k t s t _ c _ hs hcl hX ht
    generalize putF (linesF s) c [t] = X at *
    simp only [List.length_map]
    refine ⟨by omega, ⟨linesF s, [t], rfl, rfl, by simp; omega⟩, flat_rows X, fun h2 => ?_, fun _ => ⟨⟨by omega, by omega⟩, _, gx, by simp [row], t, rfl, fun h2 => ?_, fun _ => ⟨⟨by omega, by omega⟩, _, gx, by simp [row], _, rfl, ⟨linesF s, rfl⟩, fun h2 => ?_, fun _ => go⟩⟩⟩
    · rw [hlen] at h2; simp at h2
    · simp at h2
    · simp at h2

theorem LinesParts_calls {p q : Prop} (ns : List Int) (_h1 : p) (k : Int) (_h2 : q) (t : List UInt8) (h3 : t.length ≤ 140737488351232) {w : World} {args : List Value} (hr : RepA w noCells [.sl (ns.map fun n => [.int .i64 n]), .int .i64 k, .str t] args) : Calls Try.prog 7 args.toArray w fun e w' => e = .returned (.bool true) ∧ Below w.heap.size w w' := by
  obtain ⟨j, h⟩ := (lp_ev ns k t h3).get
  exact law_calls (C := C) progOKp Try.func7 (by kernel_rfl) (sound h) hr

end Go.Proofs.Ytpcjlhhhmjgffaa.Vm
