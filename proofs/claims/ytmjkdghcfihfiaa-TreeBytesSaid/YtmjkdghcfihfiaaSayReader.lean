/-
  Readers of bytes, in the machine.
-/
import Derived.Test.YtmjkdghcfihfiaaSayTreeCheck
namespace Go.Proofs.Ytmjkdghcfihfiaa.Vm
open Go Go.RowKit
set_option linter.unusedVariables false
set_option linter.unusedSimpArgs false
set_option maxRecDepth 100000

def S_new : Specs := specL [(76, g_wi2)]

theorem nw_w (a : List (List PV)) (Q : List TV × List TV → Prop) : (wFun C S_new 52 [.pv (.sl a)] Q) (H.auto) = ((∃ (x : List UInt8), ∃ (y : List UInt8), a = u8s x ∧ [] = u8s y ∧ List.length x + List.length y ≤ (80000000 : Nat)) ∧ Q ([TV.ptr [TV.pv (PV.sl (a ++ [])), TV.pv (PV.int IntKind.i64 (0 : Int))]], [])) := by kernel_rfl

theorem tk_w (a : List (List PV)) (n : Int) (Q : List TV × List TV → Prop) : (wFun C noSpec 114 [.ptr [.pv (.sl a)], .pv (.int .i64 n)] Q) (H.b H.auto (H.s (H.s (H.s (H.s H.auto))))) = ((decide (n > (↑(List.length a) : Int)) = true → Q ([TV.pv (PV.sl []), TV.pv (PV.bool false)], [TV.ptr [TV.pv (PV.sl a)]])) ∧ (decide (n > (↑(List.length a) : Int)) = false → rowOk (1 : Nat) a = true ∧ ((0 : Int) ≤ (0 : Int) ∧ (0 : Int) ≤ n ∧ n ≤ Int.ofNat (List.length a)) ∧ rowOk (1 : Nat) a = true ∧ ((0 : Int) ≤ n ∧ n ≤ Int.ofNat (List.length a) ∧ Int.ofNat (List.length a) ≤ Int.ofNat (List.length a)) ∧ Q ([TV.pv (PV.sl (List.take (Int.toNat n - (0 : Nat)) a)), TV.pv (PV.bool true)], [TV.ptr [TV.pv (PV.sl (List.take (Int.toNat (Int.ofNat (List.length a)) - Int.toNat n) (List.drop (Int.toNat n) a)))]]))) := by kernel_rfl

def g_take : List TV → Option Alts
  | [.ptr [.pv (.sl a)], .pv (.int .i64 n)] => some [((a.length : Int) < n, [.pv (.sl []), .pv (.bool false)], [.ptr [.pv (.sl a)]]), ((0 ≤ n ∧ n ≤ (a.length : Int)) ∧ rowOk 1 a = true, [.pv (.sl (a.take n.toNat)), .pv (.bool true)], [.ptr [.pv (.sl (a.drop n.toNat))]])]
  | _ => none

/-- So many bytes, what is left, how it went. -/
def bytR (a : List (List PV)) (e n : Int) : List (List PV) := if e = 0 ∧ n ≤ a.length then a.take n.toNat else []

def bytS (a : List (List PV)) (e n : Int) : List (List PV) := if e = 0 ∧ n ≤ a.length then a.drop n.toNat else a

def bytE (a : List (List PV)) (e n : Int) : Int := if e = 0 ∧ ¬ n ≤ a.length then 8 else e

def leV : List UInt8 → Nat
  | [] => 0
  | a :: l => a.toNat + 256 * leV l

def numV (a : List (List PV)) : Int := (leV (ofU8s a) : Nat)

def S_byt : Specs := specL [(114, g_take)]

theorem byt_w (a : List (List PV)) (n e : Int) (Q : List TV × List TV → Prop) : (wFun C S_byt 96 [.ptr [.pv (.sl a), .pv (.int .i64 e)], .pv (.int .i64 n)] Q) (H.b H.auto (H.b H.auto (H.b H.auto H.auto))) = (((e != (0 : Int)) = true → Q ([TV.pv (PV.sl [])], [TV.ptr [TV.pv (PV.sl a), TV.pv (PV.int IntKind.i64 e)]])) ∧ ((e != (0 : Int)) = false → orAll [((↑(List.length a) : Int) < n, [TV.pv (PV.sl []), TV.pv (PV.bool false)], [TV.ptr [TV.pv (PV.sl a)]]), (((0 : Int) ≤ n ∧ n ≤ (↑(List.length a) : Int)) ∧ rowOk (1 : Nat) a = true, [TV.pv (PV.sl (List.take (Int.toNat n) a)), TV.pv (PV.bool true)], [TV.ptr [TV.pv (PV.sl (List.drop (Int.toNat n) a))]])] ∧ ((↑(List.length a) : Int) < n → Q ([TV.pv (PV.sl [])], [TV.ptr [TV.pv (PV.sl a), TV.pv (PV.int IntKind.i64 (8 : Int))]])) ∧ (((0 : Int) ≤ n ∧ n ≤ (↑(List.length a) : Int)) ∧ rowOk (1 : Nat) a = true → Q ([TV.pv (PV.sl (List.take (Int.toNat n) a))], [TV.ptr [TV.pv (PV.sl (List.drop (Int.toNat n) a)), TV.pv (PV.int IntKind.i64 e)]])) ∧ True)) := by kernel_rfl

def g_bytes : List TV → Option Alts
  | [.ptr [.pv (.sl a), .pv (.int .i64 e)], .pv (.int .i64 n)] => one ((∃ l : List UInt8, a = u8s l) ∧ 0 ≤ n) ([.pv (.sl (bytR a e n))], [.ptr [.pv (.sl (bytS a e n)), .pv (.int .i64 (bytE a e n))]])
  | _ => none

def S_num : Specs := specL [(96, g_bytes)]

theorem num_w (a : List (List PV)) (n e : Int) (Q : List TV × List TV → Prop) : (wFun C S_num 95 [.ptr [.pv (.sl a), .pv (.int .i64 e)], .pv (.int .i64 n)] Q) (H.auto) = (((∃ (l : List UInt8), a = u8s l) ∧ (0 : Int) ≤ n) ∧ LoopAt C (95 : FuncId) (CP.dn (CP.dn (CP.dn (CP.dn (CP.dn CP.top (1 : Nat)) (1 : Nat)) (0 : Nat)) (1 : Nat)) (0 : Nat)) (St.mk [((5 : Nat), AV.pv (PV.int IntKind.u64 (0 : Int))), ((10 : Nat), AV.pv (PV.sl (bytR a e n))), ((11 : Nat), AV.pv (PV.int IntKind.i64 (↑(List.length (bytR a e n)) : Int))), ((12 : Nat), AV.pv (PV.int IntKind.i64 (0 : Int)))] [((1 : Nat), Obj.box [AV.pv (PV.sl (bytS a e n)), AV.pv (PV.int IntKind.i64 (bytE a e n))])]) (exK (blockK (0 : Nat) (seqK (wAt C S_num (95 : FuncId) (99997 : Nat) (CP.dn (CP.dn (CP.dn CP.top (1 : Nat)) (1 : Nat)) (1 : Nat))) (retK C (95 : FuncId) [TV.ptr [TV.pv (PV.sl a), TV.pv (PV.int IntKind.i64 e)], TV.pv (PV.int IntKind.i64 n)] Q))))) := by kernel_rfl

def num_c0 : CP := (CP.dn (CP.dn (CP.dn (CP.dn (CP.dn CP.top (1 : Nat)) (1 : Nat)) (0 : Nat)) (1 : Nat)) (0 : Nat))

def num_h0 (t5 : Int) (t10 : List (List PV)) (t11 : Int) (t12 : Int) (o1 : List (List PV)) (o1b : Int) : St := (St.mk [((5 : Nat), AV.pv (PV.int IntKind.u64 t5)), ((10 : Nat), AV.pv (PV.sl t10)), ((11 : Nat), AV.pv (PV.int IntKind.i64 t11)), ((12 : Nat), AV.pv (PV.int IntKind.i64 t12))] [((1 : Nat), Obj.box [AV.pv (PV.sl o1), AV.pv (PV.int IntKind.i64 o1b)])])

theorem num_l0 (a : List (List PV)) (n e : Int) (t5 : Int) (t10 : List (List PV)) (t11 : Int) (t12 : Int) (o1 : List (List PV)) (o1b : Int)  (J0 : St → Prop) (Q : List TV × List TV → Prop) : (wAt C S_num 95 1000 (num_c0.dn 0) (num_h0 t5 t10 t11 t12 o1 o1b) (loopK C 95 num_c0 J0 (exK (blockK (0 : Nat) (seqK (wAt C S_num (95 : FuncId) (99997 : Nat) (CP.dn (CP.dn (CP.dn CP.top (1 : Nat)) (1 : Nat)) (1 : Nat))) (retK C (95 : FuncId) [TV.ptr [TV.pv (PV.sl a), TV.pv (PV.int IntKind.i64 e)], TV.pv (PV.int IntKind.i64 n)] Q)))))) (H.b (H.s (H.s (H.s H.auto))) H.auto) = ((decide (t12 < t11) = true → (0 : Int) ≤ t12 ∧ ∃ (n : Int), t10[Int.toNat t12]? = some [PV.int IntKind.u8 n] ∧ ¬IntKind.wrap IntKind.i64 ((8 : Int) * t12) < (0 : Int) ∧ J0 (St.mk [((5 : Nat), AV.pv (PV.int IntKind.u64 (ior IntKind.u64 t5 (IntKind.wrap IntKind.u64 (IntKind.wrap IntKind.u64 n * (2 : Int) ^ min (Int.toNat (IntKind.wrap IntKind.i64 ((8 : Int) * t12))) (64 : Nat)))))), ((10 : Nat), AV.pv (PV.sl t10)), ((11 : Nat), AV.pv (PV.int IntKind.i64 t11)), ((12 : Nat), AV.pv (PV.int IntKind.i64 (IntKind.wrap IntKind.i64 (t12 + (1 : Int)))))] [((1 : Nat), Obj.box [AV.pv (PV.sl o1), AV.pv (PV.int IntKind.i64 o1b)])])) ∧ (decide (t12 < t11) = false → ∃ (h : H), Q ([TV.pv (PV.int IntKind.u64 t5)], [TV.ptr [TV.pv (PV.sl o1), TV.pv (PV.int IntKind.i64 o1b)]]))) := by kernel_rfl

def g_num : List TV → Option Alts
  | [.ptr [.pv (.sl a), .pv (.int .i64 e)], .pv (.int .i64 n)] => one ((∃ l : List UInt8, a = u8s l) ∧ 0 ≤ n ∧ n ≤ 2) ([.pv (.int .u64 (numV (bytR a e n)))], [.ptr [.pv (.sl (bytS a e n)), .pv (.int .i64 (bytE a e n))]])
  | _ => none

def S_rb1 : Specs := specL [(95, g_num)]

theorem bt_w (a : List (List PV)) (e : Int) (Q : List TV × List TV → Prop) : (wFun C S_rb1 79 [.ptr [.pv (.sl a), .pv (.int .i64 e)]] Q) (H.auto) = (((∃ (l : List UInt8), a = u8s l) ∧ (0 : Int) ≤ (1 : Int) ∧ (1 : Int) ≤ (2 : Int)) ∧ Q ([TV.pv (PV.int IntKind.i64 (IntKind.wrap IntKind.i64 (numV (bytR a e (1 : Int)))))], [TV.ptr [TV.pv (PV.sl (bytS a e (1 : Int))), TV.pv (PV.int IntKind.i64 (bytE a e (1 : Int)))]])) := by kernel_rfl

def S_rt1 : Specs := specL [(95, g_num), (96, g_bytes)]

theorem rt_w (a : List (List PV)) (e : Int) (Q : List TV × List TV → Prop) : (wFun C S_rt1 80 [.ptr [.pv (.sl a), .pv (.int .i64 e)]] Q) (H.s H.auto) = (((∃ (l : List UInt8), a = u8s l) ∧ (0 : Int) ≤ (2 : Int) ∧ (2 : Int) ≤ (2 : Int)) ∧ ((∃ (l : List UInt8), bytS a e (2 : Int) = u8s l) ∧ (0 : Int) ≤ IntKind.wrap IntKind.i64 (numV (bytR a e (2 : Int)))) ∧ u8Row (bytR (bytS a e (2 : Int)) (bytE a e (2 : Int)) (IntKind.wrap IntKind.i64 (numV (bytR a e (2 : Int))))) = true ∧ Q ([TV.pv (PV.str (ofU8s (bytR (bytS a e (2 : Int)) (bytE a e (2 : Int)) (IntKind.wrap IntKind.i64 (numV (bytR a e (2 : Int)))))))], [TV.ptr [TV.pv (PV.sl (bytS (bytS a e (2 : Int)) (bytE a e (2 : Int)) (IntKind.wrap IntKind.i64 (numV (bytR a e (2 : Int)))))), TV.pv (PV.int IntKind.i64 (bytE (bytS a e (2 : Int)) (bytE a e (2 : Int)) (IntKind.wrap IntKind.i64 (numV (bytR a e (2 : Int))))))]])) := by kernel_rfl

theorem fl_w (a : List (List PV)) (e v : Int) (Q : List TV × List TV → Prop) : (wFun C noSpec 97 [.ptr [.pv (.sl a), .pv (.int .i64 e)], .pv (.int .i64 v)] Q) (H.b H.auto H.auto) = (((e == (0 : Int)) = true → Q ([], [TV.ptr [TV.pv (PV.sl a), TV.pv (PV.int IntKind.i64 v)]])) ∧ ((e == (0 : Int)) = false → Q ([], [TV.ptr [TV.pv (PV.sl a), TV.pv (PV.int IntKind.i64 e)]]))) := by kernel_rfl

theorem en_w (a : List (List PV)) (e : Int) (Q : List TV × List TV → Prop) : (wFun C noSpec 55 [.ptr [.pv (.sl a), .pv (.int .i64 e)]] Q) (H.b (H.n (7 : Nat) (H.b H.auto H.auto)) H.auto) = (((e == (0 : Int)) = true → (decide ((↑(List.length a) : Int) > (0 : Int)) = true → Q ([TV.pv (PV.int IntKind.i64 (9 : Int))], [TV.ptr [TV.pv (PV.sl a), TV.pv (PV.int IntKind.i64 e)]])) ∧ (decide ((↑(List.length a) : Int) > (0 : Int)) = false → Q ([TV.pv (PV.int IntKind.i64 e)], [TV.ptr [TV.pv (PV.sl a), TV.pv (PV.int IntKind.i64 e)]]))) ∧ ((e == (0 : Int)) = false → Q ([TV.pv (PV.int IntKind.i64 e)], [TV.ptr [TV.pv (PV.sl a), TV.pv (PV.int IntKind.i64 e)]]))) := by kernel_rfl

/-- What a text's reader answers. -/
def txtR (a : List (List PV)) (e : Int) : List UInt8 := ofU8s (bytR (bytS a e 2) (bytE a e 2) (numV (bytR a e 2)))

def txtS (a : List (List PV)) (e : Int) : List (List PV) := bytS (bytS a e 2) (bytE a e 2) (numV (bytR a e 2))

def txtE (a : List (List PV)) (e : Int) : Int := bytE (bytS a e 2) (bytE a e 2) (numV (bytR a e 2))

def g_bt : List TV → Option Alts
  | [.ptr [.pv (.sl a), .pv (.int .i64 e)]] => one (∃ l : List UInt8, a = u8s l) ([.pv (.int .i64 (numV (bytR a e 1)))], [.ptr [.pv (.sl (bytS a e 1)), .pv (.int .i64 (bytE a e 1))]])
  | _ => none

def g_rt : List TV → Option Alts
  | [.ptr [.pv (.sl a), .pv (.int .i64 e)]] => one (∃ l : List UInt8, a = u8s l) ([.pv (.str (txtR a e))], [.ptr [.pv (.sl (txtS a e)), .pv (.int .i64 (txtE a e))]])
  | _ => none

def g_fl : List TV → Option Alts
  | [.ptr [.pv (.sl a), .pv (.int .i64 e)], .pv (.int .i64 v)] => one True ([], [.ptr [.pv (.sl a), .pv (.int .i64 (if e = 0 then v else e))]])
  | _ => none

def endE (a : List (List PV)) (e : Int) : Int := if e = 0 ∧ 0 < a.length then 9 else e

def g_en : List TV → Option Alts
  | [.ptr [.pv (.sl a), .pv (.int .i64 e)]] => one True ([.pv (.int .i64 (endE a e))], [.ptr [.pv (.sl a), .pv (.int .i64 e)]])
  | _ => none

def S_cut1 : Specs := specL [(55, g_en)]

theorem cu_w (a : List (List PV)) (e n m r : Int) (Q : List TV × List TV → Prop) : (wFun C S_cut1 54 [.ptr [.ptr [.pv (.sl a), .pv (.int .i64 e)], .pv (.int .i64 n), .pv (.int .i64 m), .pv (.int .i64 r)]] Q) (H.b (H.n (2 : Nat) (H.b (H.n (2 : Nat) (H.b H.auto H.auto)) H.auto)) H.auto) = (True ∧ ((r == (0 : Int)) = true → ((endE a e != (0 : Int)) = true → ((endE a e != (9 : Int)) = true → Q ([TV.pv (PV.bool (endE a e != (0 : Int)))], [TV.ptr [TV.ptr [TV.pv (PV.sl a), TV.pv (PV.int IntKind.i64 e)], TV.pv (PV.int IntKind.i64 n), TV.pv (PV.int IntKind.i64 m), TV.pv (PV.int IntKind.i64 (endE a e))]])) ∧ ((endE a e != (9 : Int)) = false → Q ([TV.pv (PV.bool (r != (0 : Int)))], [TV.ptr [TV.ptr [TV.pv (PV.sl a), TV.pv (PV.int IntKind.i64 e)], TV.pv (PV.int IntKind.i64 n), TV.pv (PV.int IntKind.i64 m), TV.pv (PV.int IntKind.i64 r)]]))) ∧ ((endE a e != (0 : Int)) = false → Q ([TV.pv (PV.bool (r != (0 : Int)))], [TV.ptr [TV.ptr [TV.pv (PV.sl a), TV.pv (PV.int IntKind.i64 e)], TV.pv (PV.int IntKind.i64 n), TV.pv (PV.int IntKind.i64 m), TV.pv (PV.int IntKind.i64 r)]]))) ∧ ((r == (0 : Int)) = false → Q ([TV.pv (PV.bool (r != (0 : Int)))], [TV.ptr [TV.ptr [TV.pv (PV.sl a), TV.pv (PV.int IntKind.i64 e)], TV.pv (PV.int IntKind.i64 n), TV.pv (PV.int IntKind.i64 m), TV.pv (PV.int IntKind.i64 r)]]))) := by kernel_rfl

def S_fail : Specs := specL [(97, g_fl)]

theorem fa_w (a : List (List PV)) (e n m r v : Int) (Q : List TV × List TV → Prop) : (wFun C S_fail 81 [.ptr [.ptr [.pv (.sl a), .pv (.int .i64 e)], .pv (.int .i64 n), .pv (.int .i64 m), .pv (.int .i64 r)], .pv (.int .i64 v)] Q) (H.b H.auto H.auto) = (((r == (0 : Int)) = true → True ∧ Q ([], [TV.ptr [TV.ptr [TV.pv (PV.sl a), TV.pv (PV.int IntKind.i64 (if e = (0 : Int) then v else e))], TV.pv (PV.int IntKind.i64 n), TV.pv (PV.int IntKind.i64 m), TV.pv (PV.int IntKind.i64 v)]])) ∧ ((r == (0 : Int)) = false → True ∧ Q ([], [TV.ptr [TV.ptr [TV.pv (PV.sl a), TV.pv (PV.int IntKind.i64 (if e = (0 : Int) then v else e))], TV.pv (PV.int IntKind.i64 n), TV.pv (PV.int IntKind.i64 m), TV.pv (PV.int IntKind.i64 r)]]))) := by kernel_rfl

def cutE (a : List (List PV)) (e r : Int) : Int := if r = 0 ∧ endE a e ≠ 0 ∧ endE a e ≠ 9 then endE a e else r

def g_cut : List TV → Option Alts
  | [.ptr [.ptr [.pv (.sl a), .pv (.int .i64 e)], .pv (.int .i64 n), .pv (.int .i64 m), .pv (.int .i64 r)]] => one True ([.pv (.bool (cutE a e r != 0))], [.ptr [.ptr [.pv (.sl a), .pv (.int .i64 e)], .pv (.int .i64 n), .pv (.int .i64 m), .pv (.int .i64 (cutE a e r))]])
  | _ => none

def failE (e v : Int) : Int := if e = 0 then v else e

def g_fail : List TV → Option Alts
  | [.ptr [.ptr [.pv (.sl a), .pv (.int .i64 e)], .pv (.int .i64 n), .pv (.int .i64 m), .pv (.int .i64 r)], .pv (.int .i64 v)] => one True ([], [.ptr [.ptr [.pv (.sl a), .pv (.int .i64 (failE e v))], .pv (.int .i64 n), .pv (.int .i64 m), .pv (.int .i64 (failE r v))]])
  | _ => none

/-! ### What these come to -/
theorem u8s_take (l : List UInt8) (n : Nat) : (u8s l).take n = u8s (l.take n) := by simp [u8s, List.map_take]
theorem u8s_drop (l : List UInt8) (n : Nat) : (u8s l).drop n = u8s (l.drop n) := by simp [u8s, List.map_drop]
theorem bytS_u8 (l : List UInt8) (e n : Int) : ∃ q, bytS (u8s l) e n = u8s q := by
  unfold bytS; split
  · exact ⟨_, u8s_drop _ _⟩
  · exact ⟨l, rfl⟩
theorem bytR_u8 (l : List UInt8) (e n : Int) : ∃ q, bytR (u8s l) e n = u8s q ∧ (q.length : Int) ≤ max n 0 := by
  unfold bytR; split
  · exact ⟨_, u8s_take _ _, by rw [List.length_take]; omega⟩
  · exact ⟨[], rfl, by simp; omega⟩
theorem leV_two : ∀ {l : List UInt8}, l.length ≤ 2 → leV l < 65536
  | [], _ => by simp [leV]
  | [a], _ => by have := a.toNat_lt; simp only [leV]; omega
  | [a, b], _ => by have := a.toNat_lt; have := b.toNat_lt; simp only [leV]; omega
  | _ :: _ :: _ :: _, h => by simp at h

theorem byt_ev (l : List UInt8) (n e : Int) (hn : 0 ≤ n) : Ev C 96 [.ptr [.pv (.sl (u8s l)), .pv (.int .i64 e)], .pv (.int .i64 n)] ([.pv (.sl (bytR (u8s l) e n))], [.ptr [.pv (.sl (bytS (u8s l) e n)), .pv (.int .i64 (bytE (u8s l) e n))]]) := by
  have hS : SpecOK C S_byt := specL_ok (specs_cons (by
    intro ag al hl x hx hp
    unfold g_take at hl
    split at hl
    · rename_i a n
      simp only [Option.some.injEq] at hl; subst hl
      simp only [List.mem_cons, List.not_mem_nil, or_false] at hx
      rcases hx with rfl | rfl
      · have hp : (a.length : Int) < n := hp
        refine ev_w noSpec_ok (tk_w a n _) ⟨fun _ => rfl, fun h => ?_⟩
        simp only [gt_iff_lt, decide_eq_false_iff_not] at h
        omega
      · obtain ⟨hp, hro⟩ : (0 ≤ n ∧ n ≤ (a.length : Int)) ∧ rowOk 1 a = true := hp
        refine ev_w noSpec_ok (tk_w a n _) ⟨fun h => ?_, fun h => ⟨hro, ⟨by decide, hp.1, hp.2⟩, hro, ⟨hp.1, hp.2, by omega⟩, ?_⟩⟩
        · simp only [gt_iff_lt, decide_eq_true_eq] at h
          omega
        · have e1 : List.take (Int.toNat (Int.ofNat a.length) - Int.toNat n) (List.drop (Int.toNat n) a) = List.drop (Int.toNat n) a := List.take_of_length_le (by simp)
          rw [e1, Nat.sub_zero]
    · exact absurd hl (by simp)) specs_nil)
  refine ev_w hS (byt_w (u8s l) n e _) ⟨fun h => ?_, fun h => ?_⟩
  · have h : e ≠ 0 := by simpa using h
    rw [bytR, bytS, bytE, if_neg (fun q => h q.1), if_neg (fun q => h q.1), if_neg (fun q => h q.1)]
  · have h : e = 0 := by simpa using h
    refine ⟨?_, fun h2 => ?_, fun h2 => ?_, trivial⟩
    · by_cases h2 : ((u8s l).length : Int) < n
      · exact .inl h2
      · exact .inr ⟨⟨hn, by omega⟩, rowOk_u8s l⟩
    · rw [bytR, bytS, bytE, if_neg (fun q => by omega), if_neg (fun q => by omega), if_pos ⟨h, by omega⟩]
    · rw [bytR, bytS, bytE, if_pos ⟨h, h2.1.2⟩, if_pos ⟨h, h2.1.2⟩, if_neg (fun q => q.2 h2.1.2)]

theorem bytes_ok : ∀ ag al, g_bytes ag = some al → ∀ a ∈ al, a.1 → Ev C 96 ag a.2 := by
  intro ag al hl x hx hp
  unfold g_bytes at hl
  split at hl
  · have e := one_mem hl hx; subst e
    obtain ⟨⟨l, rfl⟩, h⟩ := hp
    exact byt_ev _ _ _ h
  · exact absurd hl (by simp)

theorem num_or (a b : UInt8) : ior .u64 (a.toNat : Int) (IntKind.wrap .u64 (IntKind.wrap .u64 (b.toNat : Int) * 2 ^ min (Int.toNat (IntKind.wrap .i64 (8 * 1))) 64)) = ((a.toNat + 256 * b.toNat : Nat) : Int) := by
  have h : (List.range 256).all (fun x => (List.range 256).all fun y => ior .u64 (x : Int) (IntKind.wrap .u64 (IntKind.wrap .u64 (y : Int) * 2 ^ min (Int.toNat (IntKind.wrap .i64 (8 * 1))) 64)) == ((x + 256 * y : Nat) : Int)) = true := by decide +kernel
  have h1 := List.all_eq_true.1 (List.all_eq_true.1 h a.toNat (List.mem_range.2 a.toNat_lt)) b.toNat (List.mem_range.2 b.toNat_lt)
  simpa using h1
theorem num_or0 (a : UInt8) : ior .u64 0 (IntKind.wrap .u64 (IntKind.wrap .u64 (a.toNat : Int) * 2 ^ min (Int.toNat (IntKind.wrap .i64 (8 * 0))) 64)) = (a.toNat : Int) := by
  have h : (List.range 256).all (fun x => ior .u64 0 (IntKind.wrap .u64 (IntKind.wrap .u64 (x : Int) * 2 ^ min (Int.toNat (IntKind.wrap .i64 (8 * 0))) 64)) == (x : Int)) = true := by decide +kernel
  have h1 := List.all_eq_true.1 h a.toNat (List.mem_range.2 a.toNat_lt)
  simpa using h1

theorem u8s_get {l : List UInt8} {i : Nat} (h : i < l.length) : (u8s l)[Int.toNat (i : Int)]? = some [.int .u8 (l[i].toNat)] := by
  simp [u8s, h]

theorem num_ev (l : List UInt8) (n e : Int) (hn : 0 ≤ n ∧ n ≤ 2) : Ev C 95 [.ptr [.pv (.sl (u8s l)), .pv (.int .i64 e)], .pv (.int .i64 n)] ([.pv (.int .u64 (numV (bytR (u8s l) e n)))], [.ptr [.pv (.sl (bytS (u8s l) e n)), .pv (.int .i64 (bytE (u8s l) e n))]]) := by
  have hS : SpecOK C S_num := specL_ok (specs_cons bytes_ok specs_nil)
  refine ev_w hS (num_w (u8s l) n e _) ⟨⟨⟨l, rfl⟩, hn.1⟩, ?_⟩
  obtain ⟨q, hq, hql⟩ := bytR_u8 l e n
  rw [hq]
  have hl2 : q.length ≤ 2 := by omega
  have hlq : (u8s q).length = q.length := u8s_len q
  have hv : numV (u8s q) = (leV q : Nat) := by rw [numV, ofU8s_u8s]
  rw [hv]
  refine loop_rule hS (by kernel_rfl) 1000 (fun k st => ∃ i : Nat, st = num_h0 ((leV (q.take i) : Nat)) (u8s q) q.length i (bytS (u8s l) e n) (bytE (u8s l) e n) ∧ i ≤ q.length ∧ k = q.length - i) ?_ (n := q.length) ⟨0, by rw [hlq]; rfl, by omega, rfl⟩
  rintro k st ⟨i, rfl, hi, rfl⟩
  refine ex_w (num_l0 _ _ _ _ _ _ _ _ _ _ _) ⟨fun g => ?_, fun g => ?_⟩
  · simp only [decide_eq_true_eq] at g
    have hi' : i < q.length := by omega
    have w1 := w64s (i := i) (by omega)
    have w2 : IntKind.wrap .i64 (8 * (i : Int)) = 8 * (i : Int) := w64 (by omega)
    rw [w1]
    refine ⟨by omega, _, u8s_get hi', by omega, q.length - (i + 1), by omega, i + 1, ?_, by omega, rfl⟩
    match q, i, hi', hl2 with
    | a :: q, 0, _, _ => simp only [List.take_zero, leV, List.getElem_cons_zero]; rw [show ((0 : Nat) : Int) = 0 from rfl, num_or0]; simp [leV]; rfl
    | a :: b :: q, 1, _, _ => simp only [List.take_succ_cons, List.take_zero, leV, List.getElem_cons_succ, List.getElem_cons_zero]; rw [show ((1 : Nat) : Int) = 1 from rfl, show ((a.toNat + 256 * 0 : Nat) : Int) = (a.toNat : Int) by omega, num_or]; rfl
    | _, i + 2, h1, h2 => omega
  · simp only [decide_eq_false_iff_not] at g
    refine ⟨.auto, ?_⟩
    rw [List.take_of_length_le (by omega)]

theorem num_ok : ∀ ag al, g_num ag = some al → ∀ a ∈ al, a.1 → Ev C 95 ag a.2 := by
  intro ag al hl x hx hp
  unfold g_num at hl
  split at hl
  · have e := one_mem hl hx; subst e
    obtain ⟨⟨l, rfl⟩, h⟩ := hp
    exact num_ev _ _ _ h
  · exact absurd hl (by simp)

theorem numV_lt (l : List UInt8) (e n : Int) (hn : n ≤ 2) : 0 ≤ numV (bytR (u8s l) e n) ∧ numV (bytR (u8s l) e n) < 65536 := by
  obtain ⟨q, hq, hql⟩ := bytR_u8 l e n
  rw [hq, numV, ofU8s_u8s]
  have := leV_two (l := q) (by omega)
  omega

theorem bt_ok : ∀ ag al, g_bt ag = some al → ∀ a ∈ al, a.1 → Ev C 79 ag a.2 := by
  intro ag al hl x hx hp
  unfold g_bt at hl
  split at hl
  · rename_i a e
    have e' := one_mem hl hx; subst e'
    obtain ⟨l, rfl⟩ := hp
    have := numV_lt l e 1 (by decide)
    refine ev_w (specL_ok (specs_cons num_ok specs_nil)) (bt_w (u8s l) e _) ⟨⟨⟨l, rfl⟩, by decide, by decide⟩, ?_⟩
    rw [w64 (by omega)]
  · exact absurd hl (by simp)

theorem rt_ok : ∀ ag al, g_rt ag = some al → ∀ a ∈ al, a.1 → Ev C 80 ag a.2 := by
  intro ag al hl x hx hp
  unfold g_rt at hl
  split at hl
  · rename_i a e
    have e' := one_mem hl hx; subst e'
    obtain ⟨l, rfl⟩ := hp
    have hv := numV_lt l e 2 (by decide)
    have w : IntKind.wrap .i64 (numV (bytR (u8s l) e 2)) = numV (bytR (u8s l) e 2) := w64 (by omega)
    obtain ⟨q, hq⟩ := bytS_u8 l e 2
    refine ev_w (specL_ok (specs_cons num_ok (specs_cons bytes_ok specs_nil))) (rt_w (u8s l) e _) ?_
    rw [w]
    refine ⟨⟨⟨l, rfl⟩, by decide, by decide⟩, ⟨⟨q, hq⟩, by omega⟩, ?_, rfl⟩
    rw [hq]
    obtain ⟨z, hz, _⟩ := bytR_u8 q (bytE (u8s l) e 2) (numV (bytR (u8s l) e 2))
    rw [hz]; exact u8Row_u8s z
  · exact absurd hl (by simp)

theorem fl_ok : ∀ ag al, g_fl ag = some al → ∀ a ∈ al, a.1 → Ev C 97 ag a.2 := by
  intro ag al hl x hx hp
  unfold g_fl at hl
  split at hl
  · rename_i a e v
    have e' := one_mem hl hx; subst e'
    refine ev_w noSpec_ok (fl_w a e v _) ⟨fun h => ?_, fun h => ?_⟩
    · rw [if_pos (by simpa using h)]
    · rw [if_neg (by simpa using h)]
  · exact absurd hl (by simp)

theorem en_ok : ∀ ag al, g_en ag = some al → ∀ a ∈ al, a.1 → Ev C 55 ag a.2 := by
  intro ag al hl x hx hp
  unfold g_en at hl
  split at hl
  · rename_i a e
    have e' := one_mem hl hx; subst e'
    refine ev_w noSpec_ok (en_w a e _) ⟨fun h => ⟨fun h2 => ?_, fun h2 => ?_⟩, fun h => ?_⟩
    · have h : e = 0 := by simpa using h
      simp only [gt_iff_lt, decide_eq_true_eq] at h2
      rw [endE, if_pos ⟨h, by omega⟩]
    · simp only [gt_iff_lt, decide_eq_false_iff_not] at h2
      rw [endE, if_neg (fun q => by omega)]
    · have h : e ≠ 0 := by simpa using h
      rw [endE, if_neg (fun q => h q.1)]
  · exact absurd hl (by simp)

theorem cut_ok : ∀ ag al, g_cut ag = some al → ∀ a ∈ al, a.1 → Ev C 54 ag a.2 := by
  intro ag al hl x hx hp
  unfold g_cut at hl
  split at hl
  · rename_i a e n m r
    have e' := one_mem hl hx; subst e'
    refine ev_w (specL_ok (specs_cons en_ok specs_nil)) (cu_w a e n m r _) ⟨trivial, fun h => ⟨fun h2 => ⟨fun h3 => ?_, fun h3 => ?_⟩, fun h2 => ?_⟩, fun h => ?_⟩
    · rw [cutE, if_pos ⟨by simpa using h, by simpa using h2, by simpa using h3⟩]
    · rw [cutE, if_neg (fun q => q.2.2 (by simpa using h3))]
    · rw [cutE, if_neg (fun q => q.2.1 (by simpa using h2))]
    · rw [cutE, if_neg (fun q => by simp [q.1] at h)]
  · exact absurd hl (by simp)

theorem fail_ok : ∀ ag al, g_fail ag = some al → ∀ a ∈ al, a.1 → Ev C 81 ag a.2 := by
  intro ag al hl x hx hp
  unfold g_fail at hl
  split at hl
  · rename_i a e n m r v
    have e' := one_mem hl hx; subst e'
    refine ev_w (specL_ok (specs_cons fl_ok specs_nil)) (fa_w a e n m r v _) ⟨fun h => ⟨trivial, ?_⟩, fun h => ⟨trivial, ?_⟩⟩
    · rw [failE, failE, if_pos (show r = 0 by simpa using h)]
    · rw [failE, failE, if_neg (show ¬ r = 0 by simpa using h)]
  · exact absurd hl (by simp)

end Go.Proofs.Ytmjkdghcfihfiaa.Vm
