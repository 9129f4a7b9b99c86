/-
  Bytes read as trees by the document, in the machine.
-/
import Derived.Test.YtmjkdghcfihfiaaSayReadTree
namespace Go.Proofs.Ytmjkdghcfihfiaa.Vm
open Go Go.RowKit
set_option linter.unusedVariables false
set_option linter.unusedSimpArgs false
set_option maxRecDepth 100000

/-- Where the document's reader stands then. -/
def rtP (a : List (List PV)) (p e n : Int) : Int := if e = 0 ∧ n ≤ (a.drop p.toNat).length then p + n else p

def txtP (a : List (List PV)) (p e : Int) : Int := rtP a (rtP a p e 2) (bytE (a.drop p.toNat) e 2) (numV (bytR (a.drop p.toNat) e 2))

theorem rtk_w (a : List (List PV)) (p e n : Int) (Q : List TV × List TV → Prop) : (wFun C noSpec 98 [.ptr [.pv (.sl a), .pv (.int .i64 p), .pv (.int .i64 e)], .pv (.int .i64 n)] Q) (H.b (H.n (12 : Nat) (H.b H.auto (H.b H.auto (H.s (H.s H.auto))))) (H.n (13 : Nat) (H.b H.auto (H.s (H.s H.auto))))) = (((e == (0 : Int)) = true → (decide (IntKind.wrap IntKind.i64 ((↑(List.length a) : Int) - p) < n) = true → Q ([TV.pv (PV.sl [])], [TV.ptr [TV.pv (PV.sl a), TV.pv (PV.int IntKind.i64 p), TV.pv (PV.int IntKind.i64 (8 : Int))]])) ∧ (decide (IntKind.wrap IntKind.i64 ((↑(List.length a) : Int) - p) < n) = false → ((e != (0 : Int)) = true → Q ([TV.pv (PV.sl [])], [TV.ptr [TV.pv (PV.sl a), TV.pv (PV.int IntKind.i64 p), TV.pv (PV.int IntKind.i64 e)]])) ∧ ((e != (0 : Int)) = false → rowOk (1 : Nat) a = true ∧ ((0 : Int) ≤ IntKind.wrap IntKind.i64 (IntKind.wrap IntKind.i64 (p + n) - n) ∧ IntKind.wrap IntKind.i64 (IntKind.wrap IntKind.i64 (p + n) - n) ≤ IntKind.wrap IntKind.i64 (p + n) ∧ IntKind.wrap IntKind.i64 (p + n) ≤ Int.ofNat (List.length a)) ∧ Q ([TV.pv (PV.sl (List.take (Int.toNat (IntKind.wrap IntKind.i64 (p + n)) - Int.toNat (IntKind.wrap IntKind.i64 (IntKind.wrap IntKind.i64 (p + n) - n))) (List.drop (Int.toNat (IntKind.wrap IntKind.i64 (IntKind.wrap IntKind.i64 (p + n) - n))) a)))], [TV.ptr [TV.pv (PV.sl a), TV.pv (PV.int IntKind.i64 (IntKind.wrap IntKind.i64 (p + n))), TV.pv (PV.int IntKind.i64 e)]])))) ∧ ((e == (0 : Int)) = false → ((e != (0 : Int)) = true → Q ([TV.pv (PV.sl [])], [TV.ptr [TV.pv (PV.sl a), TV.pv (PV.int IntKind.i64 p), TV.pv (PV.int IntKind.i64 e)]])) ∧ ((e != (0 : Int)) = false → rowOk (1 : Nat) a = true ∧ ((0 : Int) ≤ IntKind.wrap IntKind.i64 (IntKind.wrap IntKind.i64 (p + n) - n) ∧ IntKind.wrap IntKind.i64 (IntKind.wrap IntKind.i64 (p + n) - n) ≤ IntKind.wrap IntKind.i64 (p + n) ∧ IntKind.wrap IntKind.i64 (p + n) ≤ Int.ofNat (List.length a)) ∧ Q ([TV.pv (PV.sl (List.take (Int.toNat (IntKind.wrap IntKind.i64 (p + n)) - Int.toNat (IntKind.wrap IntKind.i64 (IntKind.wrap IntKind.i64 (p + n) - n))) (List.drop (Int.toNat (IntKind.wrap IntKind.i64 (IntKind.wrap IntKind.i64 (p + n) - n))) a)))], [TV.ptr [TV.pv (PV.sl a), TV.pv (PV.int IntKind.i64 (IntKind.wrap IntKind.i64 (p + n))), TV.pv (PV.int IntKind.i64 e)]])))) := by kernel_rfl

def g_rtk : List TV → Option Alts
  | [.ptr [.pv (.sl a), .pv (.int .i64 p), .pv (.int .i64 e)], .pv (.int .i64 n)] => one ((∃ l : List UInt8, a = u8s l ∧ l.length ≤ 140737488355328) ∧ (0 ≤ p ∧ p ≤ (a.length : Int)) ∧ 0 ≤ n ∧ n ≤ 70000) ([.pv (.sl (bytR (a.drop p.toNat) e n))], [.ptr [.pv (.sl a), .pv (.int .i64 (rtP a p e n)), .pv (.int .i64 (bytE (a.drop p.toNat) e n))]])
  | _ => none

def S_rby : Specs := specL [(98, g_rtk)]

theorem rbb_w (a : List (List PV)) (p e : Int) (Q : List TV × List TV → Prop) : (wFun C S_rby 82 [.ptr [.pv (.sl a), .pv (.int .i64 p), .pv (.int .i64 e)]] Q) (H.b H.auto (H.n (1 : Nat) (H.s H.auto))) = (((∃ (l : List UInt8), a = u8s l ∧ List.length l ≤ (140737488355328 : Nat)) ∧ ((0 : Int) ≤ p ∧ p ≤ (↑(List.length a) : Int)) ∧ (0 : Int) ≤ (1 : Int) ∧ (1 : Int) ≤ (70000 : Int)) ∧ (((↑(List.length (bytR (List.drop (Int.toNat p) a) e (1 : Int))) : Int) == (0 : Int)) = true → Q ([TV.pv (PV.int IntKind.i64 (0 : Int))], [TV.ptr [TV.pv (PV.sl a), TV.pv (PV.int IntKind.i64 (rtP a p e (1 : Int))), TV.pv (PV.int IntKind.i64 (bytE (List.drop (Int.toNat p) a) e (1 : Int)))]])) ∧ (((↑(List.length (bytR (List.drop (Int.toNat p) a) e (1 : Int))) : Int) == (0 : Int)) = false → ∃ (n : Int), (bytR (List.drop (Int.toNat p) a) e (1 : Int))[(0 : Nat)]? = some [PV.int IntKind.u8 n] ∧ Q ([TV.pv (PV.int IntKind.i64 (IntKind.wrap IntKind.i64 n))], [TV.ptr [TV.pv (PV.sl a), TV.pv (PV.int IntKind.i64 (rtP a p e (1 : Int))), TV.pv (PV.int IntKind.i64 (bytE (List.drop (Int.toNat p) a) e (1 : Int)))]]))) := by kernel_rfl

theorem rte_w (a : List (List PV)) (p e : Int) (Q : List TV × List TV → Prop) : (wFun C S_rby 83 [.ptr [.pv (.sl a), .pv (.int .i64 p), .pv (.int .i64 e)]] Q) (H.b H.auto (H.n (1 : Nat) (H.s (H.n (1 : Nat) (H.s (H.s H.auto)))))) = (((∃ (l : List UInt8), a = u8s l ∧ List.length l ≤ (140737488355328 : Nat)) ∧ ((0 : Int) ≤ p ∧ p ≤ (↑(List.length a) : Int)) ∧ (0 : Int) ≤ (2 : Int) ∧ (2 : Int) ≤ (70000 : Int)) ∧ (((↑(List.length (bytR (List.drop (Int.toNat p) a) e (2 : Int))) : Int) == (0 : Int)) = true → Q ([TV.pv (PV.str [])], [TV.ptr [TV.pv (PV.sl a), TV.pv (PV.int IntKind.i64 (rtP a p e (2 : Int))), TV.pv (PV.int IntKind.i64 (bytE (List.drop (Int.toNat p) a) e (2 : Int)))]])) ∧ (((↑(List.length (bytR (List.drop (Int.toNat p) a) e (2 : Int))) : Int) == (0 : Int)) = false → ∃ (n : Int), (bytR (List.drop (Int.toNat p) a) e (2 : Int))[(0 : Nat)]? = some [PV.int IntKind.u8 n] ∧ ∃ (n_1 : Int), (bytR (List.drop (Int.toNat p) a) e (2 : Int))[(1 : Nat)]? = some [PV.int IntKind.u8 n_1] ∧ ((∃ (l : List UInt8), a = u8s l ∧ List.length l ≤ (140737488355328 : Nat)) ∧ ((0 : Int) ≤ rtP a p e (2 : Int) ∧ rtP a p e (2 : Int) ≤ (↑(List.length a) : Int)) ∧ (0 : Int) ≤ IntKind.wrap IntKind.i64 (IntKind.wrap IntKind.i64 n + IntKind.wrap IntKind.i64 ((256 : Int) * IntKind.wrap IntKind.i64 n_1)) ∧ IntKind.wrap IntKind.i64 (IntKind.wrap IntKind.i64 n + IntKind.wrap IntKind.i64 ((256 : Int) * IntKind.wrap IntKind.i64 n_1)) ≤ (70000 : Int)) ∧ u8Row (bytR (List.drop (Int.toNat (rtP a p e (2 : Int))) a) (bytE (List.drop (Int.toNat p) a) e (2 : Int)) (IntKind.wrap IntKind.i64 (IntKind.wrap IntKind.i64 n + IntKind.wrap IntKind.i64 ((256 : Int) * IntKind.wrap IntKind.i64 n_1)))) = true ∧ Q ([TV.pv (PV.str (ofU8s (bytR (List.drop (Int.toNat (rtP a p e (2 : Int))) a) (bytE (List.drop (Int.toNat p) a) e (2 : Int)) (IntKind.wrap IntKind.i64 (IntKind.wrap IntKind.i64 n + IntKind.wrap IntKind.i64 ((256 : Int) * IntKind.wrap IntKind.i64 n_1))))))], [TV.ptr [TV.pv (PV.sl a), TV.pv (PV.int IntKind.i64 (rtP a (rtP a p e (2 : Int)) (bytE (List.drop (Int.toNat p) a) e (2 : Int)) (IntKind.wrap IntKind.i64 (IntKind.wrap IntKind.i64 n + IntKind.wrap IntKind.i64 ((256 : Int) * IntKind.wrap IntKind.i64 n_1))))), TV.pv (PV.int IntKind.i64 (bytE (List.drop (Int.toNat (rtP a p e (2 : Int))) a) (bytE (List.drop (Int.toNat p) a) e (2 : Int)) (IntKind.wrap IntKind.i64 (IntKind.wrap IntKind.i64 n + IntKind.wrap IntKind.i64 ((256 : Int) * IntKind.wrap IntKind.i64 n_1)))))]]))) := by kernel_rfl

theorem rff_w (a : List (List PV)) (p e v : Int) (Q : List TV × List TV → Prop) : (wFun C noSpec 84 [.ptr [.pv (.sl a), .pv (.int .i64 p), .pv (.int .i64 e)], .pv (.int .i64 v)] Q) (H.b H.auto H.auto) = (((e == (0 : Int)) = true → Q ([], [TV.ptr [TV.pv (PV.sl a), TV.pv (PV.int IntKind.i64 p), TV.pv (PV.int IntKind.i64 v)]])) ∧ ((e == (0 : Int)) = false → Q ([], [TV.ptr [TV.pv (PV.sl a), TV.pv (PV.int IntKind.i64 p), TV.pv (PV.int IntKind.i64 e)]]))) := by kernel_rfl

def g_rby : List TV → Option Alts
  | [.ptr [.pv (.sl a), .pv (.int .i64 p), .pv (.int .i64 e)]] => one ((∃ l : List UInt8, a = u8s l ∧ l.length ≤ 140737488355328) ∧ (0 ≤ p ∧ p ≤ (a.length : Int))) ([.pv (.int .i64 (numV (bytR (a.drop p.toNat) e 1)))], [.ptr [.pv (.sl a), .pv (.int .i64 (rtP a p e 1)), .pv (.int .i64 (bytE (a.drop p.toNat) e 1))]])
  | _ => none

def g_rte : List TV → Option Alts
  | [.ptr [.pv (.sl a), .pv (.int .i64 p), .pv (.int .i64 e)]] => one ((∃ l : List UInt8, a = u8s l ∧ l.length ≤ 140737488355328) ∧ (0 ≤ p ∧ p ≤ (a.length : Int))) ([.pv (.str (txtR (a.drop p.toNat) e))], [.ptr [.pv (.sl a), .pv (.int .i64 (txtP a p e)), .pv (.int .i64 (txtE (a.drop p.toNat) e))]])
  | _ => none

def g_rfl : List TV → Option Alts
  | [.ptr [.pv (.sl a), .pv (.int .i64 p), .pv (.int .i64 e)], .pv (.int .i64 v)] => one True ([], [.ptr [.pv (.sl a), .pv (.int .i64 p), .pv (.int .i64 (failE e v))]])
  | _ => none

/-- An answer of the document's reader of trees. -/
structure RvV where
  isNil : Bool
  t : List (List PV)
  p : Int
  e : Int
  n : Int

def rvRes (a : List (List PV)) (ce : Int) (v : RvV) : List TV × List TV := (if v.isNil then [.pv (.sl [])] else [.own 2 v.t], [.ptr [.ptr [.pv (.sl a), .pv (.int .i64 v.p), .pv (.int .i64 v.e)], .pv (.int .i64 v.n), .pv (.int .i64 ce)]])

def RvP (b : List UInt8) (R : PRes Tr) (v : RvV) : Prop := match R with
  | .error x => v.e = x
  | .ok (t, l, n) => v.isNil = false ∧ v.t = t.rows ∧ v.e = 0 ∧ v.n = n ∧ (0 ≤ v.p ∧ v.p ≤ (b.length : Int)) ∧ b.drop v.p.toNat = l

noncomputable def rvV (a : List (List PV)) (p n d : Int) : RvV := @Classical.epsilon _ ⟨⟨true, [], 0, 0, 0⟩⟩ fun v => Ev C 60 [.ptr [.ptr [.pv (.sl a), .pv (.int .i64 p), .pv (.int .i64 0)], .pv (.int .i64 n), .pv (.int .i64 0)], .pv (.int .i64 d)] (rvRes a 0 v) ∧ RvP (ofU8s a) (parseD (13 - d).toNat d ((ofU8s a).drop p.toNat) n) v

noncomputable def rpNil (a : List (List PV)) (p n d : Int) : Bool := (rvV a p n d).isNil
noncomputable def rpT (a : List (List PV)) (p n d : Int) : List (List PV) := (rvV a p n d).t
noncomputable def rpP (a : List (List PV)) (p n d : Int) : Int := (rvV a p n d).p
noncomputable def rpE (a : List (List PV)) (p n d : Int) : Int := (rvV a p n d).e
noncomputable def rpN (a : List (List PV)) (p n d : Int) : Int := (rvV a p n d).n

noncomputable def g_rpt (f : Nat) : List TV → Option Alts
  | [.ptr [.ptr [.pv (.sl a), .pv (.int .i64 p), .pv (.int .i64 e)], .pv (.int .i64 n), .pv (.int .i64 ce)], .pv (.int .i64 d)] => some
    [((((∃ l : List UInt8, a = u8s l ∧ l.length ≤ 140737488355328) ∧ (0 ≤ p ∧ p ≤ (a.length : Int)) ∧ e = 0 ∧ ce = 0 ∧ (0 ≤ n ∧ n ≤ 400) ∧ d + f = 13 ∧ 0 ≤ d) ∧ rpNil a p n d = true), [.pv (.sl [])], [.ptr [.ptr [.pv (.sl a), .pv (.int .i64 (rpP a p n d)), .pv (.int .i64 (rpE a p n d))], .pv (.int .i64 (rpN a p n d)), .pv (.int .i64 ce)]]),
     ((((∃ l : List UInt8, a = u8s l ∧ l.length ≤ 140737488355328) ∧ (0 ≤ p ∧ p ≤ (a.length : Int)) ∧ e = 0 ∧ ce = 0 ∧ (0 ≤ n ∧ n ≤ 400) ∧ d + f = 13 ∧ 0 ≤ d) ∧ rpNil a p n d = false), [.own 2 (rpT a p n d)], [.ptr [.ptr [.pv (.sl a), .pv (.int .i64 (rpP a p n d)), .pv (.int .i64 (rpE a p n d))], .pv (.int .i64 (rpN a p n d)), .pv (.int .i64 ce)]])]
  | _ => none

noncomputable def S_rpt (f : Nat) : Specs := specL [(82, g_rby), (83, g_rte), (84, g_rfl), (60, g_rpt f)]

theorem rpt_w (f : Nat) (a : List (List PV)) (p n ce d : Int) (Q : List TV × List TV → Prop) : (wFun C (S_rpt f) 60 [.ptr [.ptr [.pv (.sl a), .pv (.int .i64 p), .pv (.int .i64 0)], .pv (.int .i64 n), .pv (.int .i64 ce)], .pv (.int .i64 d)] Q) (H.auto) = (((∃ (l : List UInt8), a = u8s l ∧ List.length l ≤ (140737488355328 : Nat)) ∧ (0 : Int) ≤ p ∧ p ≤ (↑(List.length a) : Int)) ∧ ((∃ (l : List UInt8), a = u8s l ∧ List.length l ≤ (140737488355328 : Nat)) ∧ (0 : Int) ≤ rtP a p (0 : Int) (1 : Int) ∧ rtP a p (0 : Int) (1 : Int) ≤ (↑(List.length a) : Int)) ∧ LoopAt C (60 : FuncId) (CP.dn (CP.dn (CP.dn (CP.dn (CP.dn (CP.dn (CP.dn CP.top (1 : Nat)) (1 : Nat)) (1 : Nat)) (1 : Nat)) (0 : Nat)) (1 : Nat)) (0 : Nat)) (St.mk [((0 : Nat), AV.addr (1 : Nat) (0 : Nat) (0 : Nat)), ((1 : Nat), AV.pv (PV.int IntKind.i64 d)), ((5 : Nat), AV.pv (PV.int IntKind.i64 (IntKind.wrap IntKind.i64 (numV (bytR (List.drop (Int.toNat p) a) (0 : Int) (1 : Int)) + IntKind.wrap IntKind.i64 ((256 : Int) * numV (bytR (List.drop (Int.toNat (rtP a p (0 : Int) (1 : Int))) a) (bytE (List.drop (Int.toNat p) a) (0 : Int) (1 : Int)) (1 : Int))))))), ((6 : Nat), AV.own (12 : Nat)), ((7 : Nat), AV.pv (PV.int IntKind.i64 (0 : Int)))] [((1 : Nat), Obj.box [AV.addr (4001 : Nat) (0 : Nat) (0 : Nat), AV.pv (PV.int IntKind.i64 n), AV.pv (PV.int IntKind.i64 ce)]), ((12 : Nat), Obj.buf (2 : Nat) []), ((4001 : Nat), Obj.box [AV.pv (PV.sl a), AV.pv (PV.int IntKind.i64 (rtP a (rtP a p (0 : Int) (1 : Int)) (bytE (List.drop (Int.toNat p) a) (0 : Int) (1 : Int)) (1 : Int))), AV.pv (PV.int IntKind.i64 (bytE (List.drop (Int.toNat (rtP a p (0 : Int) (1 : Int))) a) (bytE (List.drop (Int.toNat p) a) (0 : Int) (1 : Int)) (1 : Int)))])]) (exK (blockK (0 : Nat) (seqK (wAt C (S_rpt f) (60 : FuncId) (99995 : Nat) (CP.dn (CP.dn (CP.dn (CP.dn (CP.dn CP.top (1 : Nat)) (1 : Nat)) (1 : Nat)) (1 : Nat)) (1 : Nat))) (retK C (60 : FuncId) [TV.ptr [TV.ptr [TV.pv (PV.sl a), TV.pv (PV.int IntKind.i64 p), TV.pv (PV.int IntKind.i64 (0 : Int))], TV.pv (PV.int IntKind.i64 n), TV.pv (PV.int IntKind.i64 ce)], TV.pv (PV.int IntKind.i64 d)] Q))))) := by kernel_rfl

def rpt_c0 : CP := (CP.dn (CP.dn (CP.dn (CP.dn (CP.dn (CP.dn (CP.dn CP.top (1 : Nat)) (1 : Nat)) (1 : Nat)) (1 : Nat)) (0 : Nat)) (1 : Nat)) (0 : Nat))

def rpt_h0 (t1 : Int) (t5 : Int) (t7 : Int) (o1 : Int) (o1b : Int) (o12 : List (List PV)) (o4001 : List (List PV)) (o4001b : Int) (o4001c : Int) : St := (St.mk [((0 : Nat), AV.addr (1 : Nat) (0 : Nat) (0 : Nat)), ((1 : Nat), AV.pv (PV.int IntKind.i64 t1)), ((5 : Nat), AV.pv (PV.int IntKind.i64 t5)), ((6 : Nat), AV.own (12 : Nat)), ((7 : Nat), AV.pv (PV.int IntKind.i64 t7))] [((1 : Nat), Obj.box [AV.addr (4001 : Nat) (0 : Nat) (0 : Nat), AV.pv (PV.int IntKind.i64 o1), AV.pv (PV.int IntKind.i64 o1b)]), ((12 : Nat), Obj.buf (2 : Nat) o12), ((4001 : Nat), Obj.box [AV.pv (PV.sl o4001), AV.pv (PV.int IntKind.i64 o4001b), AV.pv (PV.int IntKind.i64 o4001c)])])

theorem rpt_l0 (f : Nat) (a : List (List PV)) (p n ce d : Int) (t1 : Int) (t5 : Int) (t7 : Int) (o1 : Int) (o1b : Int) (o12 : List (List PV)) (o4001 : List (List PV)) (o4001b : Int) (o4001c : Int)  (J0 : St → Prop) (Q : List TV × List TV → Prop) : (wAt C (S_rpt f) 60 1000 (rpt_c0.dn 0) (rpt_h0 t1 t5 t7 o1 o1b o12 o4001 o4001b o4001c) (loopK C 60 rpt_c0 J0 (exK (blockK (0 : Nat) (seqK (wAt C (S_rpt f) (60 : FuncId) (99995 : Nat) (CP.dn (CP.dn (CP.dn (CP.dn (CP.dn CP.top (1 : Nat)) (1 : Nat)) (1 : Nat)) (1 : Nat)) (1 : Nat))) (retK C (60 : FuncId) [TV.ptr [TV.ptr [TV.pv (PV.sl a), TV.pv (PV.int IntKind.i64 p), TV.pv (PV.int IntKind.i64 (0 : Int))], TV.pv (PV.int IntKind.i64 n), TV.pv (PV.int IntKind.i64 ce)], TV.pv (PV.int IntKind.i64 d)] Q)))))) (H.b (H.b H.auto (H.b (H.b H.auto (H.b (H.b H.auto (H.s H.auto)) (H.b (H.b H.auto (H.s H.auto)) H.auto))) (H.b (H.b H.auto (H.b (H.b H.auto (H.s H.auto)) (H.b (H.b H.auto (H.s H.auto)) H.auto))) (H.b (H.b H.auto (H.b (H.b H.auto (H.s H.auto)) (H.b (H.b H.auto (H.s H.auto)) H.auto))) (H.b (H.n (4 : Nat) (H.s (H.n (2 : Nat) (H.s (H.n (2 : Nat) (H.b (H.b H.auto (H.b (H.b H.auto (H.s H.auto)) (H.b (H.b H.auto (H.s H.auto)) H.auto))) (H.b H.auto (H.b (H.b H.auto (H.s H.auto)) (H.b (H.b H.auto (H.s H.auto)) H.auto))))))))) (H.n (9 : Nat) (H.b H.auto (H.b (H.b H.auto (H.s H.auto)) (H.b (H.b H.auto (H.s H.auto)) H.auto))))))))) H.auto) = ((decide (t7 < t5) = true → ((∃ (l : List UInt8), o4001 = u8s l ∧ List.length l ≤ (140737488355328 : Nat)) ∧ (0 : Int) ≤ o4001b ∧ o4001b ≤ (↑(List.length o4001) : Int)) ∧ ((txtE (List.drop (Int.toNat o4001b) o4001) o4001c != (0 : Int)) = true → ∃ (h : H), Q ([TV.pv (PV.sl [])], [TV.ptr [TV.ptr [TV.pv (PV.sl o4001), TV.pv (PV.int IntKind.i64 (txtP o4001 o4001b o4001c)), TV.pv (PV.int IntKind.i64 (txtE (List.drop (Int.toNat o4001b) o4001) o4001c))], TV.pv (PV.int IntKind.i64 o1), TV.pv (PV.int IntKind.i64 o1b)]])) ∧ ((txtE (List.drop (Int.toNat o4001b) o4001) o4001c != (0 : Int)) = false → (decide (IntKind.wrap IntKind.i64 (o1 + (1 : Int)) > (400 : Int)) = true → True ∧ ((failE (txtE (List.drop (Int.toNat o4001b) o4001) o4001c) (4 : Int) != (0 : Int)) = true → ∃ (h : H), Q ([TV.pv (PV.sl [])], [TV.ptr [TV.ptr [TV.pv (PV.sl o4001), TV.pv (PV.int IntKind.i64 (txtP o4001 o4001b o4001c)), TV.pv (PV.int IntKind.i64 (failE (txtE (List.drop (Int.toNat o4001b) o4001) o4001c) (4 : Int)))], TV.pv (PV.int IntKind.i64 (IntKind.wrap IntKind.i64 (o1 + (1 : Int)))), TV.pv (PV.int IntKind.i64 o1b)]])) ∧ ((failE (txtE (List.drop (Int.toNat o4001b) o4001) o4001c) (4 : Int) != (0 : Int)) = false → orAll [(((∃ (l : List UInt8), o4001 = u8s l ∧ List.length l ≤ (140737488355328 : Nat)) ∧ ((0 : Int) ≤ txtP o4001 o4001b o4001c ∧ txtP o4001 o4001b o4001c ≤ (↑(List.length o4001) : Int)) ∧ failE (txtE (List.drop (Int.toNat o4001b) o4001) o4001c) (4 : Int) = (0 : Int) ∧ o1b = (0 : Int) ∧ ((0 : Int) ≤ IntKind.wrap IntKind.i64 (o1 + (1 : Int)) ∧ IntKind.wrap IntKind.i64 (o1 + (1 : Int)) ≤ (400 : Int)) ∧ IntKind.wrap IntKind.i64 (t1 + (1 : Int)) + (↑f : Int) = (13 : Int) ∧ (0 : Int) ≤ IntKind.wrap IntKind.i64 (t1 + (1 : Int))) ∧ rpNil o4001 (txtP o4001 o4001b o4001c) (IntKind.wrap IntKind.i64 (o1 + (1 : Int))) (IntKind.wrap IntKind.i64 (t1 + (1 : Int))) = true, [TV.pv (PV.sl [])], [TV.ptr [TV.ptr [TV.pv (PV.sl o4001), TV.pv (PV.int IntKind.i64 (rpP o4001 (txtP o4001 o4001b o4001c) (IntKind.wrap IntKind.i64 (o1 + (1 : Int))) (IntKind.wrap IntKind.i64 (t1 + (1 : Int))))), TV.pv (PV.int IntKind.i64 (rpE o4001 (txtP o4001 o4001b o4001c) (IntKind.wrap IntKind.i64 (o1 + (1 : Int))) (IntKind.wrap IntKind.i64 (t1 + (1 : Int)))))], TV.pv (PV.int IntKind.i64 (rpN o4001 (txtP o4001 o4001b o4001c) (IntKind.wrap IntKind.i64 (o1 + (1 : Int))) (IntKind.wrap IntKind.i64 (t1 + (1 : Int))))), TV.pv (PV.int IntKind.i64 o1b)]]), (((∃ (l : List UInt8), o4001 = u8s l ∧ List.length l ≤ (140737488355328 : Nat)) ∧ ((0 : Int) ≤ txtP o4001 o4001b o4001c ∧ txtP o4001 o4001b o4001c ≤ (↑(List.length o4001) : Int)) ∧ failE (txtE (List.drop (Int.toNat o4001b) o4001) o4001c) (4 : Int) = (0 : Int) ∧ o1b = (0 : Int) ∧ ((0 : Int) ≤ IntKind.wrap IntKind.i64 (o1 + (1 : Int)) ∧ IntKind.wrap IntKind.i64 (o1 + (1 : Int)) ≤ (400 : Int)) ∧ IntKind.wrap IntKind.i64 (t1 + (1 : Int)) + (↑f : Int) = (13 : Int) ∧ (0 : Int) ≤ IntKind.wrap IntKind.i64 (t1 + (1 : Int))) ∧ rpNil o4001 (txtP o4001 o4001b o4001c) (IntKind.wrap IntKind.i64 (o1 + (1 : Int))) (IntKind.wrap IntKind.i64 (t1 + (1 : Int))) = false, [TV.own (2 : Nat) (rpT o4001 (txtP o4001 o4001b o4001c) (IntKind.wrap IntKind.i64 (o1 + (1 : Int))) (IntKind.wrap IntKind.i64 (t1 + (1 : Int))))], [TV.ptr [TV.ptr [TV.pv (PV.sl o4001), TV.pv (PV.int IntKind.i64 (rpP o4001 (txtP o4001 o4001b o4001c) (IntKind.wrap IntKind.i64 (o1 + (1 : Int))) (IntKind.wrap IntKind.i64 (t1 + (1 : Int))))), TV.pv (PV.int IntKind.i64 (rpE o4001 (txtP o4001 o4001b o4001c) (IntKind.wrap IntKind.i64 (o1 + (1 : Int))) (IntKind.wrap IntKind.i64 (t1 + (1 : Int)))))], TV.pv (PV.int IntKind.i64 (rpN o4001 (txtP o4001 o4001b o4001c) (IntKind.wrap IntKind.i64 (o1 + (1 : Int))) (IntKind.wrap IntKind.i64 (t1 + (1 : Int))))), TV.pv (PV.int IntKind.i64 o1b)]])] ∧ (((∃ (l : List UInt8), o4001 = u8s l ∧ List.length l ≤ (140737488355328 : Nat)) ∧ ((0 : Int) ≤ txtP o4001 o4001b o4001c ∧ txtP o4001 o4001b o4001c ≤ (↑(List.length o4001) : Int)) ∧ failE (txtE (List.drop (Int.toNat o4001b) o4001) o4001c) (4 : Int) = (0 : Int) ∧ o1b = (0 : Int) ∧ ((0 : Int) ≤ IntKind.wrap IntKind.i64 (o1 + (1 : Int)) ∧ IntKind.wrap IntKind.i64 (o1 + (1 : Int)) ≤ (400 : Int)) ∧ IntKind.wrap IntKind.i64 (t1 + (1 : Int)) + (↑f : Int) = (13 : Int) ∧ (0 : Int) ≤ IntKind.wrap IntKind.i64 (t1 + (1 : Int))) ∧ rpNil o4001 (txtP o4001 o4001b o4001c) (IntKind.wrap IntKind.i64 (o1 + (1 : Int))) (IntKind.wrap IntKind.i64 (t1 + (1 : Int))) = true → ((rpE o4001 (txtP o4001 o4001b o4001c) (IntKind.wrap IntKind.i64 (o1 + (1 : Int))) (IntKind.wrap IntKind.i64 (t1 + (1 : Int))) != (0 : Int)) = true → ∃ (h : H), Q ([TV.pv (PV.sl [])], [TV.ptr [TV.ptr [TV.pv (PV.sl o4001), TV.pv (PV.int IntKind.i64 (rpP o4001 (txtP o4001 o4001b o4001c) (IntKind.wrap IntKind.i64 (o1 + (1 : Int))) (IntKind.wrap IntKind.i64 (t1 + (1 : Int))))), TV.pv (PV.int IntKind.i64 (rpE o4001 (txtP o4001 o4001b o4001c) (IntKind.wrap IntKind.i64 (o1 + (1 : Int))) (IntKind.wrap IntKind.i64 (t1 + (1 : Int)))))], TV.pv (PV.int IntKind.i64 (rpN o4001 (txtP o4001 o4001b o4001c) (IntKind.wrap IntKind.i64 (o1 + (1 : Int))) (IntKind.wrap IntKind.i64 (t1 + (1 : Int))))), TV.pv (PV.int IntKind.i64 o1b)]])) ∧ ((rpE o4001 (txtP o4001 o4001b o4001c) (IntKind.wrap IntKind.i64 (o1 + (1 : Int))) (IntKind.wrap IntKind.i64 (t1 + (1 : Int))) != (0 : Int)) = false → ((List.length o12 + (1 : Nat)) * (40 : Nat) ≤ room ∧ List.length o12 + (1 : Nat) ≤ maxInt) ∧ J0 (St.mk [((0 : Nat), AV.addr (1 : Nat) (0 : Nat) (0 : Nat)), ((1 : Nat), AV.pv (PV.int IntKind.i64 t1)), ((5 : Nat), AV.pv (PV.int IntKind.i64 t5)), ((6 : Nat), AV.own (12 : Nat)), ((7 : Nat), AV.pv (PV.int IntKind.i64 (IntKind.wrap IntKind.i64 (t7 + (1 : Int)))))] [((1 : Nat), Obj.box [AV.addr (4001 : Nat) (0 : Nat) (0 : Nat), AV.pv (PV.int IntKind.i64 (rpN o4001 (txtP o4001 o4001b o4001c) (IntKind.wrap IntKind.i64 (o1 + (1 : Int))) (IntKind.wrap IntKind.i64 (t1 + (1 : Int))))), AV.pv (PV.int IntKind.i64 o1b)]), ((12 : Nat), Obj.buf (2 : Nat) (o12 ++ [[PV.str (txtR (List.drop (Int.toNat o4001b) o4001) o4001c), PV.sl []]])), ((4001 : Nat), Obj.box [AV.pv (PV.sl o4001), AV.pv (PV.int IntKind.i64 (rpP o4001 (txtP o4001 o4001b o4001c) (IntKind.wrap IntKind.i64 (o1 + (1 : Int))) (IntKind.wrap IntKind.i64 (t1 + (1 : Int))))), AV.pv (PV.int IntKind.i64 (rpE o4001 (txtP o4001 o4001b o4001c) (IntKind.wrap IntKind.i64 (o1 + (1 : Int))) (IntKind.wrap IntKind.i64 (t1 + (1 : Int)))))])]))) ∧ (((∃ (l : List UInt8), o4001 = u8s l ∧ List.length l ≤ (140737488355328 : Nat)) ∧ ((0 : Int) ≤ txtP o4001 o4001b o4001c ∧ txtP o4001 o4001b o4001c ≤ (↑(List.length o4001) : Int)) ∧ failE (txtE (List.drop (Int.toNat o4001b) o4001) o4001c) (4 : Int) = (0 : Int) ∧ o1b = (0 : Int) ∧ ((0 : Int) ≤ IntKind.wrap IntKind.i64 (o1 + (1 : Int)) ∧ IntKind.wrap IntKind.i64 (o1 + (1 : Int)) ≤ (400 : Int)) ∧ IntKind.wrap IntKind.i64 (t1 + (1 : Int)) + (↑f : Int) = (13 : Int) ∧ (0 : Int) ≤ IntKind.wrap IntKind.i64 (t1 + (1 : Int))) ∧ rpNil o4001 (txtP o4001 o4001b o4001c) (IntKind.wrap IntKind.i64 (o1 + (1 : Int))) (IntKind.wrap IntKind.i64 (t1 + (1 : Int))) = false → ((rpE o4001 (txtP o4001 o4001b o4001c) (IntKind.wrap IntKind.i64 (o1 + (1 : Int))) (IntKind.wrap IntKind.i64 (t1 + (1 : Int))) != (0 : Int)) = true → ∃ (h : H), Q ([TV.pv (PV.sl [])], [TV.ptr [TV.ptr [TV.pv (PV.sl o4001), TV.pv (PV.int IntKind.i64 (rpP o4001 (txtP o4001 o4001b o4001c) (IntKind.wrap IntKind.i64 (o1 + (1 : Int))) (IntKind.wrap IntKind.i64 (t1 + (1 : Int))))), TV.pv (PV.int IntKind.i64 (rpE o4001 (txtP o4001 o4001b o4001c) (IntKind.wrap IntKind.i64 (o1 + (1 : Int))) (IntKind.wrap IntKind.i64 (t1 + (1 : Int)))))], TV.pv (PV.int IntKind.i64 (rpN o4001 (txtP o4001 o4001b o4001c) (IntKind.wrap IntKind.i64 (o1 + (1 : Int))) (IntKind.wrap IntKind.i64 (t1 + (1 : Int))))), TV.pv (PV.int IntKind.i64 o1b)]])) ∧ ((rpE o4001 (txtP o4001 o4001b o4001c) (IntKind.wrap IntKind.i64 (o1 + (1 : Int))) (IntKind.wrap IntKind.i64 (t1 + (1 : Int))) != (0 : Int)) = false → ((List.length o12 + (1 : Nat)) * (40 : Nat) ≤ room ∧ List.length o12 + (1 : Nat) ≤ maxInt) ∧ J0 (St.mk [((0 : Nat), AV.addr (1 : Nat) (0 : Nat) (0 : Nat)), ((1 : Nat), AV.pv (PV.int IntKind.i64 t1)), ((5 : Nat), AV.pv (PV.int IntKind.i64 t5)), ((6 : Nat), AV.own (12 : Nat)), ((7 : Nat), AV.pv (PV.int IntKind.i64 (IntKind.wrap IntKind.i64 (t7 + (1 : Int)))))] [((1 : Nat), Obj.box [AV.addr (4001 : Nat) (0 : Nat) (0 : Nat), AV.pv (PV.int IntKind.i64 (rpN o4001 (txtP o4001 o4001b o4001c) (IntKind.wrap IntKind.i64 (o1 + (1 : Int))) (IntKind.wrap IntKind.i64 (t1 + (1 : Int))))), AV.pv (PV.int IntKind.i64 o1b)]), ((12 : Nat), Obj.buf (2 : Nat) (o12 ++ [[PV.str (txtR (List.drop (Int.toNat o4001b) o4001) o4001c), PV.sl (rpT o4001 (txtP o4001 o4001b o4001c) (IntKind.wrap IntKind.i64 (o1 + (1 : Int))) (IntKind.wrap IntKind.i64 (t1 + (1 : Int))))]])), ((4001 : Nat), Obj.box [AV.pv (PV.sl o4001), AV.pv (PV.int IntKind.i64 (rpP o4001 (txtP o4001 o4001b o4001c) (IntKind.wrap IntKind.i64 (o1 + (1 : Int))) (IntKind.wrap IntKind.i64 (t1 + (1 : Int))))), AV.pv (PV.int IntKind.i64 (rpE o4001 (txtP o4001 o4001b o4001c) (IntKind.wrap IntKind.i64 (o1 + (1 : Int))) (IntKind.wrap IntKind.i64 (t1 + (1 : Int)))))])]))) ∧ True)) ∧ (decide (IntKind.wrap IntKind.i64 (o1 + (1 : Int)) > (400 : Int)) = false → (decide (t1 > (12 : Int)) = true → True ∧ ((failE (txtE (List.drop (Int.toNat o4001b) o4001) o4001c) (11 : Int) != (0 : Int)) = true → ∃ (h : H), Q ([TV.pv (PV.sl [])], [TV.ptr [TV.ptr [TV.pv (PV.sl o4001), TV.pv (PV.int IntKind.i64 (txtP o4001 o4001b o4001c)), TV.pv (PV.int IntKind.i64 (failE (txtE (List.drop (Int.toNat o4001b) o4001) o4001c) (11 : Int)))], TV.pv (PV.int IntKind.i64 (IntKind.wrap IntKind.i64 (o1 + (1 : Int)))), TV.pv (PV.int IntKind.i64 o1b)]])) ∧ ((failE (txtE (List.drop (Int.toNat o4001b) o4001) o4001c) (11 : Int) != (0 : Int)) = false → orAll [(((∃ (l : List UInt8), o4001 = u8s l ∧ List.length l ≤ (140737488355328 : Nat)) ∧ ((0 : Int) ≤ txtP o4001 o4001b o4001c ∧ txtP o4001 o4001b o4001c ≤ (↑(List.length o4001) : Int)) ∧ failE (txtE (List.drop (Int.toNat o4001b) o4001) o4001c) (11 : Int) = (0 : Int) ∧ o1b = (0 : Int) ∧ ((0 : Int) ≤ IntKind.wrap IntKind.i64 (o1 + (1 : Int)) ∧ IntKind.wrap IntKind.i64 (o1 + (1 : Int)) ≤ (400 : Int)) ∧ IntKind.wrap IntKind.i64 (t1 + (1 : Int)) + (↑f : Int) = (13 : Int) ∧ (0 : Int) ≤ IntKind.wrap IntKind.i64 (t1 + (1 : Int))) ∧ rpNil o4001 (txtP o4001 o4001b o4001c) (IntKind.wrap IntKind.i64 (o1 + (1 : Int))) (IntKind.wrap IntKind.i64 (t1 + (1 : Int))) = true, [TV.pv (PV.sl [])], [TV.ptr [TV.ptr [TV.pv (PV.sl o4001), TV.pv (PV.int IntKind.i64 (rpP o4001 (txtP o4001 o4001b o4001c) (IntKind.wrap IntKind.i64 (o1 + (1 : Int))) (IntKind.wrap IntKind.i64 (t1 + (1 : Int))))), TV.pv (PV.int IntKind.i64 (rpE o4001 (txtP o4001 o4001b o4001c) (IntKind.wrap IntKind.i64 (o1 + (1 : Int))) (IntKind.wrap IntKind.i64 (t1 + (1 : Int)))))], TV.pv (PV.int IntKind.i64 (rpN o4001 (txtP o4001 o4001b o4001c) (IntKind.wrap IntKind.i64 (o1 + (1 : Int))) (IntKind.wrap IntKind.i64 (t1 + (1 : Int))))), TV.pv (PV.int IntKind.i64 o1b)]]), (((∃ (l : List UInt8), o4001 = u8s l ∧ List.length l ≤ (140737488355328 : Nat)) ∧ ((0 : Int) ≤ txtP o4001 o4001b o4001c ∧ txtP o4001 o4001b o4001c ≤ (↑(List.length o4001) : Int)) ∧ failE (txtE (List.drop (Int.toNat o4001b) o4001) o4001c) (11 : Int) = (0 : Int) ∧ o1b = (0 : Int) ∧ ((0 : Int) ≤ IntKind.wrap IntKind.i64 (o1 + (1 : Int)) ∧ IntKind.wrap IntKind.i64 (o1 + (1 : Int)) ≤ (400 : Int)) ∧ IntKind.wrap IntKind.i64 (t1 + (1 : Int)) + (↑f : Int) = (13 : Int) ∧ (0 : Int) ≤ IntKind.wrap IntKind.i64 (t1 + (1 : Int))) ∧ rpNil o4001 (txtP o4001 o4001b o4001c) (IntKind.wrap IntKind.i64 (o1 + (1 : Int))) (IntKind.wrap IntKind.i64 (t1 + (1 : Int))) = false, [TV.own (2 : Nat) (rpT o4001 (txtP o4001 o4001b o4001c) (IntKind.wrap IntKind.i64 (o1 + (1 : Int))) (IntKind.wrap IntKind.i64 (t1 + (1 : Int))))], [TV.ptr [TV.ptr [TV.pv (PV.sl o4001), TV.pv (PV.int IntKind.i64 (rpP o4001 (txtP o4001 o4001b o4001c) (IntKind.wrap IntKind.i64 (o1 + (1 : Int))) (IntKind.wrap IntKind.i64 (t1 + (1 : Int))))), TV.pv (PV.int IntKind.i64 (rpE o4001 (txtP o4001 o4001b o4001c) (IntKind.wrap IntKind.i64 (o1 + (1 : Int))) (IntKind.wrap IntKind.i64 (t1 + (1 : Int)))))], TV.pv (PV.int IntKind.i64 (rpN o4001 (txtP o4001 o4001b o4001c) (IntKind.wrap IntKind.i64 (o1 + (1 : Int))) (IntKind.wrap IntKind.i64 (t1 + (1 : Int))))), TV.pv (PV.int IntKind.i64 o1b)]])] ∧ (((∃ (l : List UInt8), o4001 = u8s l ∧ List.length l ≤ (140737488355328 : Nat)) ∧ ((0 : Int) ≤ txtP o4001 o4001b o4001c ∧ txtP o4001 o4001b o4001c ≤ (↑(List.length o4001) : Int)) ∧ failE (txtE (List.drop (Int.toNat o4001b) o4001) o4001c) (11 : Int) = (0 : Int) ∧ o1b = (0 : Int) ∧ ((0 : Int) ≤ IntKind.wrap IntKind.i64 (o1 + (1 : Int)) ∧ IntKind.wrap IntKind.i64 (o1 + (1 : Int)) ≤ (400 : Int)) ∧ IntKind.wrap IntKind.i64 (t1 + (1 : Int)) + (↑f : Int) = (13 : Int) ∧ (0 : Int) ≤ IntKind.wrap IntKind.i64 (t1 + (1 : Int))) ∧ rpNil o4001 (txtP o4001 o4001b o4001c) (IntKind.wrap IntKind.i64 (o1 + (1 : Int))) (IntKind.wrap IntKind.i64 (t1 + (1 : Int))) = true → ((rpE o4001 (txtP o4001 o4001b o4001c) (IntKind.wrap IntKind.i64 (o1 + (1 : Int))) (IntKind.wrap IntKind.i64 (t1 + (1 : Int))) != (0 : Int)) = true → ∃ (h : H), Q ([TV.pv (PV.sl [])], [TV.ptr [TV.ptr [TV.pv (PV.sl o4001), TV.pv (PV.int IntKind.i64 (rpP o4001 (txtP o4001 o4001b o4001c) (IntKind.wrap IntKind.i64 (o1 + (1 : Int))) (IntKind.wrap IntKind.i64 (t1 + (1 : Int))))), TV.pv (PV.int IntKind.i64 (rpE o4001 (txtP o4001 o4001b o4001c) (IntKind.wrap IntKind.i64 (o1 + (1 : Int))) (IntKind.wrap IntKind.i64 (t1 + (1 : Int)))))], TV.pv (PV.int IntKind.i64 (rpN o4001 (txtP o4001 o4001b o4001c) (IntKind.wrap IntKind.i64 (o1 + (1 : Int))) (IntKind.wrap IntKind.i64 (t1 + (1 : Int))))), TV.pv (PV.int IntKind.i64 o1b)]])) ∧ ((rpE o4001 (txtP o4001 o4001b o4001c) (IntKind.wrap IntKind.i64 (o1 + (1 : Int))) (IntKind.wrap IntKind.i64 (t1 + (1 : Int))) != (0 : Int)) = false → ((List.length o12 + (1 : Nat)) * (40 : Nat) ≤ room ∧ List.length o12 + (1 : Nat) ≤ maxInt) ∧ J0 (St.mk [((0 : Nat), AV.addr (1 : Nat) (0 : Nat) (0 : Nat)), ((1 : Nat), AV.pv (PV.int IntKind.i64 t1)), ((5 : Nat), AV.pv (PV.int IntKind.i64 t5)), ((6 : Nat), AV.own (12 : Nat)), ((7 : Nat), AV.pv (PV.int IntKind.i64 (IntKind.wrap IntKind.i64 (t7 + (1 : Int)))))] [((1 : Nat), Obj.box [AV.addr (4001 : Nat) (0 : Nat) (0 : Nat), AV.pv (PV.int IntKind.i64 (rpN o4001 (txtP o4001 o4001b o4001c) (IntKind.wrap IntKind.i64 (o1 + (1 : Int))) (IntKind.wrap IntKind.i64 (t1 + (1 : Int))))), AV.pv (PV.int IntKind.i64 o1b)]), ((12 : Nat), Obj.buf (2 : Nat) (o12 ++ [[PV.str (txtR (List.drop (Int.toNat o4001b) o4001) o4001c), PV.sl []]])), ((4001 : Nat), Obj.box [AV.pv (PV.sl o4001), AV.pv (PV.int IntKind.i64 (rpP o4001 (txtP o4001 o4001b o4001c) (IntKind.wrap IntKind.i64 (o1 + (1 : Int))) (IntKind.wrap IntKind.i64 (t1 + (1 : Int))))), AV.pv (PV.int IntKind.i64 (rpE o4001 (txtP o4001 o4001b o4001c) (IntKind.wrap IntKind.i64 (o1 + (1 : Int))) (IntKind.wrap IntKind.i64 (t1 + (1 : Int)))))])]))) ∧ (((∃ (l : List UInt8), o4001 = u8s l ∧ List.length l ≤ (140737488355328 : Nat)) ∧ ((0 : Int) ≤ txtP o4001 o4001b o4001c ∧ txtP o4001 o4001b o4001c ≤ (↑(List.length o4001) : Int)) ∧ failE (txtE (List.drop (Int.toNat o4001b) o4001) o4001c) (11 : Int) = (0 : Int) ∧ o1b = (0 : Int) ∧ ((0 : Int) ≤ IntKind.wrap IntKind.i64 (o1 + (1 : Int)) ∧ IntKind.wrap IntKind.i64 (o1 + (1 : Int)) ≤ (400 : Int)) ∧ IntKind.wrap IntKind.i64 (t1 + (1 : Int)) + (↑f : Int) = (13 : Int) ∧ (0 : Int) ≤ IntKind.wrap IntKind.i64 (t1 + (1 : Int))) ∧ rpNil o4001 (txtP o4001 o4001b o4001c) (IntKind.wrap IntKind.i64 (o1 + (1 : Int))) (IntKind.wrap IntKind.i64 (t1 + (1 : Int))) = false → ((rpE o4001 (txtP o4001 o4001b o4001c) (IntKind.wrap IntKind.i64 (o1 + (1 : Int))) (IntKind.wrap IntKind.i64 (t1 + (1 : Int))) != (0 : Int)) = true → ∃ (h : H), Q ([TV.pv (PV.sl [])], [TV.ptr [TV.ptr [TV.pv (PV.sl o4001), TV.pv (PV.int IntKind.i64 (rpP o4001 (txtP o4001 o4001b o4001c) (IntKind.wrap IntKind.i64 (o1 + (1 : Int))) (IntKind.wrap IntKind.i64 (t1 + (1 : Int))))), TV.pv (PV.int IntKind.i64 (rpE o4001 (txtP o4001 o4001b o4001c) (IntKind.wrap IntKind.i64 (o1 + (1 : Int))) (IntKind.wrap IntKind.i64 (t1 + (1 : Int)))))], TV.pv (PV.int IntKind.i64 (rpN o4001 (txtP o4001 o4001b o4001c) (IntKind.wrap IntKind.i64 (o1 + (1 : Int))) (IntKind.wrap IntKind.i64 (t1 + (1 : Int))))), TV.pv (PV.int IntKind.i64 o1b)]])) ∧ ((rpE o4001 (txtP o4001 o4001b o4001c) (IntKind.wrap IntKind.i64 (o1 + (1 : Int))) (IntKind.wrap IntKind.i64 (t1 + (1 : Int))) != (0 : Int)) = false → ((List.length o12 + (1 : Nat)) * (40 : Nat) ≤ room ∧ List.length o12 + (1 : Nat) ≤ maxInt) ∧ J0 (St.mk [((0 : Nat), AV.addr (1 : Nat) (0 : Nat) (0 : Nat)), ((1 : Nat), AV.pv (PV.int IntKind.i64 t1)), ((5 : Nat), AV.pv (PV.int IntKind.i64 t5)), ((6 : Nat), AV.own (12 : Nat)), ((7 : Nat), AV.pv (PV.int IntKind.i64 (IntKind.wrap IntKind.i64 (t7 + (1 : Int)))))] [((1 : Nat), Obj.box [AV.addr (4001 : Nat) (0 : Nat) (0 : Nat), AV.pv (PV.int IntKind.i64 (rpN o4001 (txtP o4001 o4001b o4001c) (IntKind.wrap IntKind.i64 (o1 + (1 : Int))) (IntKind.wrap IntKind.i64 (t1 + (1 : Int))))), AV.pv (PV.int IntKind.i64 o1b)]), ((12 : Nat), Obj.buf (2 : Nat) (o12 ++ [[PV.str (txtR (List.drop (Int.toNat o4001b) o4001) o4001c), PV.sl (rpT o4001 (txtP o4001 o4001b o4001c) (IntKind.wrap IntKind.i64 (o1 + (1 : Int))) (IntKind.wrap IntKind.i64 (t1 + (1 : Int))))]])), ((4001 : Nat), Obj.box [AV.pv (PV.sl o4001), AV.pv (PV.int IntKind.i64 (rpP o4001 (txtP o4001 o4001b o4001c) (IntKind.wrap IntKind.i64 (o1 + (1 : Int))) (IntKind.wrap IntKind.i64 (t1 + (1 : Int))))), AV.pv (PV.int IntKind.i64 (rpE o4001 (txtP o4001 o4001b o4001c) (IntKind.wrap IntKind.i64 (o1 + (1 : Int))) (IntKind.wrap IntKind.i64 (t1 + (1 : Int)))))])]))) ∧ True)) ∧ (decide (t1 > (12 : Int)) = false → (decide ((↑(List.length (txtR (List.drop (Int.toNat o4001b) o4001) o4001c)) : Int) > (80 : Int)) = true → True ∧ ((failE (txtE (List.drop (Int.toNat o4001b) o4001) o4001c) (5 : Int) != (0 : Int)) = true → ∃ (h : H), Q ([TV.pv (PV.sl [])], [TV.ptr [TV.ptr [TV.pv (PV.sl o4001), TV.pv (PV.int IntKind.i64 (txtP o4001 o4001b o4001c)), TV.pv (PV.int IntKind.i64 (failE (txtE (List.drop (Int.toNat o4001b) o4001) o4001c) (5 : Int)))], TV.pv (PV.int IntKind.i64 (IntKind.wrap IntKind.i64 (o1 + (1 : Int)))), TV.pv (PV.int IntKind.i64 o1b)]])) ∧ ((failE (txtE (List.drop (Int.toNat o4001b) o4001) o4001c) (5 : Int) != (0 : Int)) = false → orAll [(((∃ (l : List UInt8), o4001 = u8s l ∧ List.length l ≤ (140737488355328 : Nat)) ∧ ((0 : Int) ≤ txtP o4001 o4001b o4001c ∧ txtP o4001 o4001b o4001c ≤ (↑(List.length o4001) : Int)) ∧ failE (txtE (List.drop (Int.toNat o4001b) o4001) o4001c) (5 : Int) = (0 : Int) ∧ o1b = (0 : Int) ∧ ((0 : Int) ≤ IntKind.wrap IntKind.i64 (o1 + (1 : Int)) ∧ IntKind.wrap IntKind.i64 (o1 + (1 : Int)) ≤ (400 : Int)) ∧ IntKind.wrap IntKind.i64 (t1 + (1 : Int)) + (↑f : Int) = (13 : Int) ∧ (0 : Int) ≤ IntKind.wrap IntKind.i64 (t1 + (1 : Int))) ∧ rpNil o4001 (txtP o4001 o4001b o4001c) (IntKind.wrap IntKind.i64 (o1 + (1 : Int))) (IntKind.wrap IntKind.i64 (t1 + (1 : Int))) = true, [TV.pv (PV.sl [])], [TV.ptr [TV.ptr [TV.pv (PV.sl o4001), TV.pv (PV.int IntKind.i64 (rpP o4001 (txtP o4001 o4001b o4001c) (IntKind.wrap IntKind.i64 (o1 + (1 : Int))) (IntKind.wrap IntKind.i64 (t1 + (1 : Int))))), TV.pv (PV.int IntKind.i64 (rpE o4001 (txtP o4001 o4001b o4001c) (IntKind.wrap IntKind.i64 (o1 + (1 : Int))) (IntKind.wrap IntKind.i64 (t1 + (1 : Int)))))], TV.pv (PV.int IntKind.i64 (rpN o4001 (txtP o4001 o4001b o4001c) (IntKind.wrap IntKind.i64 (o1 + (1 : Int))) (IntKind.wrap IntKind.i64 (t1 + (1 : Int))))), TV.pv (PV.int IntKind.i64 o1b)]]), (((∃ (l : List UInt8), o4001 = u8s l ∧ List.length l ≤ (140737488355328 : Nat)) ∧ ((0 : Int) ≤ txtP o4001 o4001b o4001c ∧ txtP o4001 o4001b o4001c ≤ (↑(List.length o4001) : Int)) ∧ failE (txtE (List.drop (Int.toNat o4001b) o4001) o4001c) (5 : Int) = (0 : Int) ∧ o1b = (0 : Int) ∧ ((0 : Int) ≤ IntKind.wrap IntKind.i64 (o1 + (1 : Int)) ∧ IntKind.wrap IntKind.i64 (o1 + (1 : Int)) ≤ (400 : Int)) ∧ IntKind.wrap IntKind.i64 (t1 + (1 : Int)) + (↑f : Int) = (13 : Int) ∧ (0 : Int) ≤ IntKind.wrap IntKind.i64 (t1 + (1 : Int))) ∧ rpNil o4001 (txtP o4001 o4001b o4001c) (IntKind.wrap IntKind.i64 (o1 + (1 : Int))) (IntKind.wrap IntKind.i64 (t1 + (1 : Int))) = false, [TV.own (2 : Nat) (rpT o4001 (txtP o4001 o4001b o4001c) (IntKind.wrap IntKind.i64 (o1 + (1 : Int))) (IntKind.wrap IntKind.i64 (t1 + (1 : Int))))], [TV.ptr [TV.ptr [TV.pv (PV.sl o4001), TV.pv (PV.int IntKind.i64 (rpP o4001 (txtP o4001 o4001b o4001c) (IntKind.wrap IntKind.i64 (o1 + (1 : Int))) (IntKind.wrap IntKind.i64 (t1 + (1 : Int))))), TV.pv (PV.int IntKind.i64 (rpE o4001 (txtP o4001 o4001b o4001c) (IntKind.wrap IntKind.i64 (o1 + (1 : Int))) (IntKind.wrap IntKind.i64 (t1 + (1 : Int)))))], TV.pv (PV.int IntKind.i64 (rpN o4001 (txtP o4001 o4001b o4001c) (IntKind.wrap IntKind.i64 (o1 + (1 : Int))) (IntKind.wrap IntKind.i64 (t1 + (1 : Int))))), TV.pv (PV.int IntKind.i64 o1b)]])] ∧ (((∃ (l : List UInt8), o4001 = u8s l ∧ List.length l ≤ (140737488355328 : Nat)) ∧ ((0 : Int) ≤ txtP o4001 o4001b o4001c ∧ txtP o4001 o4001b o4001c ≤ (↑(List.length o4001) : Int)) ∧ failE (txtE (List.drop (Int.toNat o4001b) o4001) o4001c) (5 : Int) = (0 : Int) ∧ o1b = (0 : Int) ∧ ((0 : Int) ≤ IntKind.wrap IntKind.i64 (o1 + (1 : Int)) ∧ IntKind.wrap IntKind.i64 (o1 + (1 : Int)) ≤ (400 : Int)) ∧ IntKind.wrap IntKind.i64 (t1 + (1 : Int)) + (↑f : Int) = (13 : Int) ∧ (0 : Int) ≤ IntKind.wrap IntKind.i64 (t1 + (1 : Int))) ∧ rpNil o4001 (txtP o4001 o4001b o4001c) (IntKind.wrap IntKind.i64 (o1 + (1 : Int))) (IntKind.wrap IntKind.i64 (t1 + (1 : Int))) = true → ((rpE o4001 (txtP o4001 o4001b o4001c) (IntKind.wrap IntKind.i64 (o1 + (1 : Int))) (IntKind.wrap IntKind.i64 (t1 + (1 : Int))) != (0 : Int)) = true → ∃ (h : H), Q ([TV.pv (PV.sl [])], [TV.ptr [TV.ptr [TV.pv (PV.sl o4001), TV.pv (PV.int IntKind.i64 (rpP o4001 (txtP o4001 o4001b o4001c) (IntKind.wrap IntKind.i64 (o1 + (1 : Int))) (IntKind.wrap IntKind.i64 (t1 + (1 : Int))))), TV.pv (PV.int IntKind.i64 (rpE o4001 (txtP o4001 o4001b o4001c) (IntKind.wrap IntKind.i64 (o1 + (1 : Int))) (IntKind.wrap IntKind.i64 (t1 + (1 : Int)))))], TV.pv (PV.int IntKind.i64 (rpN o4001 (txtP o4001 o4001b o4001c) (IntKind.wrap IntKind.i64 (o1 + (1 : Int))) (IntKind.wrap IntKind.i64 (t1 + (1 : Int))))), TV.pv (PV.int IntKind.i64 o1b)]])) ∧ ((rpE o4001 (txtP o4001 o4001b o4001c) (IntKind.wrap IntKind.i64 (o1 + (1 : Int))) (IntKind.wrap IntKind.i64 (t1 + (1 : Int))) != (0 : Int)) = false → ((List.length o12 + (1 : Nat)) * (40 : Nat) ≤ room ∧ List.length o12 + (1 : Nat) ≤ maxInt) ∧ J0 (St.mk [((0 : Nat), AV.addr (1 : Nat) (0 : Nat) (0 : Nat)), ((1 : Nat), AV.pv (PV.int IntKind.i64 t1)), ((5 : Nat), AV.pv (PV.int IntKind.i64 t5)), ((6 : Nat), AV.own (12 : Nat)), ((7 : Nat), AV.pv (PV.int IntKind.i64 (IntKind.wrap IntKind.i64 (t7 + (1 : Int)))))] [((1 : Nat), Obj.box [AV.addr (4001 : Nat) (0 : Nat) (0 : Nat), AV.pv (PV.int IntKind.i64 (rpN o4001 (txtP o4001 o4001b o4001c) (IntKind.wrap IntKind.i64 (o1 + (1 : Int))) (IntKind.wrap IntKind.i64 (t1 + (1 : Int))))), AV.pv (PV.int IntKind.i64 o1b)]), ((12 : Nat), Obj.buf (2 : Nat) (o12 ++ [[PV.str (txtR (List.drop (Int.toNat o4001b) o4001) o4001c), PV.sl []]])), ((4001 : Nat), Obj.box [AV.pv (PV.sl o4001), AV.pv (PV.int IntKind.i64 (rpP o4001 (txtP o4001 o4001b o4001c) (IntKind.wrap IntKind.i64 (o1 + (1 : Int))) (IntKind.wrap IntKind.i64 (t1 + (1 : Int))))), AV.pv (PV.int IntKind.i64 (rpE o4001 (txtP o4001 o4001b o4001c) (IntKind.wrap IntKind.i64 (o1 + (1 : Int))) (IntKind.wrap IntKind.i64 (t1 + (1 : Int)))))])]))) ∧ (((∃ (l : List UInt8), o4001 = u8s l ∧ List.length l ≤ (140737488355328 : Nat)) ∧ ((0 : Int) ≤ txtP o4001 o4001b o4001c ∧ txtP o4001 o4001b o4001c ≤ (↑(List.length o4001) : Int)) ∧ failE (txtE (List.drop (Int.toNat o4001b) o4001) o4001c) (5 : Int) = (0 : Int) ∧ o1b = (0 : Int) ∧ ((0 : Int) ≤ IntKind.wrap IntKind.i64 (o1 + (1 : Int)) ∧ IntKind.wrap IntKind.i64 (o1 + (1 : Int)) ≤ (400 : Int)) ∧ IntKind.wrap IntKind.i64 (t1 + (1 : Int)) + (↑f : Int) = (13 : Int) ∧ (0 : Int) ≤ IntKind.wrap IntKind.i64 (t1 + (1 : Int))) ∧ rpNil o4001 (txtP o4001 o4001b o4001c) (IntKind.wrap IntKind.i64 (o1 + (1 : Int))) (IntKind.wrap IntKind.i64 (t1 + (1 : Int))) = false → ((rpE o4001 (txtP o4001 o4001b o4001c) (IntKind.wrap IntKind.i64 (o1 + (1 : Int))) (IntKind.wrap IntKind.i64 (t1 + (1 : Int))) != (0 : Int)) = true → ∃ (h : H), Q ([TV.pv (PV.sl [])], [TV.ptr [TV.ptr [TV.pv (PV.sl o4001), TV.pv (PV.int IntKind.i64 (rpP o4001 (txtP o4001 o4001b o4001c) (IntKind.wrap IntKind.i64 (o1 + (1 : Int))) (IntKind.wrap IntKind.i64 (t1 + (1 : Int))))), TV.pv (PV.int IntKind.i64 (rpE o4001 (txtP o4001 o4001b o4001c) (IntKind.wrap IntKind.i64 (o1 + (1 : Int))) (IntKind.wrap IntKind.i64 (t1 + (1 : Int)))))], TV.pv (PV.int IntKind.i64 (rpN o4001 (txtP o4001 o4001b o4001c) (IntKind.wrap IntKind.i64 (o1 + (1 : Int))) (IntKind.wrap IntKind.i64 (t1 + (1 : Int))))), TV.pv (PV.int IntKind.i64 o1b)]])) ∧ ((rpE o4001 (txtP o4001 o4001b o4001c) (IntKind.wrap IntKind.i64 (o1 + (1 : Int))) (IntKind.wrap IntKind.i64 (t1 + (1 : Int))) != (0 : Int)) = false → ((List.length o12 + (1 : Nat)) * (40 : Nat) ≤ room ∧ List.length o12 + (1 : Nat) ≤ maxInt) ∧ J0 (St.mk [((0 : Nat), AV.addr (1 : Nat) (0 : Nat) (0 : Nat)), ((1 : Nat), AV.pv (PV.int IntKind.i64 t1)), ((5 : Nat), AV.pv (PV.int IntKind.i64 t5)), ((6 : Nat), AV.own (12 : Nat)), ((7 : Nat), AV.pv (PV.int IntKind.i64 (IntKind.wrap IntKind.i64 (t7 + (1 : Int)))))] [((1 : Nat), Obj.box [AV.addr (4001 : Nat) (0 : Nat) (0 : Nat), AV.pv (PV.int IntKind.i64 (rpN o4001 (txtP o4001 o4001b o4001c) (IntKind.wrap IntKind.i64 (o1 + (1 : Int))) (IntKind.wrap IntKind.i64 (t1 + (1 : Int))))), AV.pv (PV.int IntKind.i64 o1b)]), ((12 : Nat), Obj.buf (2 : Nat) (o12 ++ [[PV.str (txtR (List.drop (Int.toNat o4001b) o4001) o4001c), PV.sl (rpT o4001 (txtP o4001 o4001b o4001c) (IntKind.wrap IntKind.i64 (o1 + (1 : Int))) (IntKind.wrap IntKind.i64 (t1 + (1 : Int))))]])), ((4001 : Nat), Obj.box [AV.pv (PV.sl o4001), AV.pv (PV.int IntKind.i64 (rpP o4001 (txtP o4001 o4001b o4001c) (IntKind.wrap IntKind.i64 (o1 + (1 : Int))) (IntKind.wrap IntKind.i64 (t1 + (1 : Int))))), AV.pv (PV.int IntKind.i64 (rpE o4001 (txtP o4001 o4001b o4001c) (IntKind.wrap IntKind.i64 (o1 + (1 : Int))) (IntKind.wrap IntKind.i64 (t1 + (1 : Int)))))])]))) ∧ True)) ∧ (decide ((↑(List.length (txtR (List.drop (Int.toNat o4001b) o4001) o4001c)) : Int) > (80 : Int)) = false → (decide (t7 > (0 : Int)) = true → ((0 : Int) ≤ IntKind.wrap IntKind.i64 (t7 - (1 : Int)) ∧ IntKind.wrap IntKind.i64 (t7 - (1 : Int)) < (↑(List.length o12) : Int)) ∧ ∃ (c : List PV), o12[Int.toNat (IntKind.wrap IntKind.i64 (t7 - (1 : Int)))]? = some c ∧ (1 : Nat) ≤ List.length c ∧ ∃ (s : List UInt8), List.take (1 : Nat) c = [PV.str s] ∧ ((Op.bytesLess (txtR (List.drop (Int.toNat o4001b) o4001) o4001c) s || txtR (List.drop (Int.toNat o4001b) o4001) o4001c == s) = true → True ∧ ((failE (txtE (List.drop (Int.toNat o4001b) o4001) o4001c) (12 : Int) != (0 : Int)) = true → ∃ (h : H), Q ([TV.pv (PV.sl [])], [TV.ptr [TV.ptr [TV.pv (PV.sl o4001), TV.pv (PV.int IntKind.i64 (txtP o4001 o4001b o4001c)), TV.pv (PV.int IntKind.i64 (failE (txtE (List.drop (Int.toNat o4001b) o4001) o4001c) (12 : Int)))], TV.pv (PV.int IntKind.i64 (IntKind.wrap IntKind.i64 (o1 + (1 : Int)))), TV.pv (PV.int IntKind.i64 o1b)]])) ∧ ((failE (txtE (List.drop (Int.toNat o4001b) o4001) o4001c) (12 : Int) != (0 : Int)) = false → orAll [(((∃ (l : List UInt8), o4001 = u8s l ∧ List.length l ≤ (140737488355328 : Nat)) ∧ ((0 : Int) ≤ txtP o4001 o4001b o4001c ∧ txtP o4001 o4001b o4001c ≤ (↑(List.length o4001) : Int)) ∧ failE (txtE (List.drop (Int.toNat o4001b) o4001) o4001c) (12 : Int) = (0 : Int) ∧ o1b = (0 : Int) ∧ ((0 : Int) ≤ IntKind.wrap IntKind.i64 (o1 + (1 : Int)) ∧ IntKind.wrap IntKind.i64 (o1 + (1 : Int)) ≤ (400 : Int)) ∧ IntKind.wrap IntKind.i64 (t1 + (1 : Int)) + (↑f : Int) = (13 : Int) ∧ (0 : Int) ≤ IntKind.wrap IntKind.i64 (t1 + (1 : Int))) ∧ rpNil o4001 (txtP o4001 o4001b o4001c) (IntKind.wrap IntKind.i64 (o1 + (1 : Int))) (IntKind.wrap IntKind.i64 (t1 + (1 : Int))) = true, [TV.pv (PV.sl [])], [TV.ptr [TV.ptr [TV.pv (PV.sl o4001), TV.pv (PV.int IntKind.i64 (rpP o4001 (txtP o4001 o4001b o4001c) (IntKind.wrap IntKind.i64 (o1 + (1 : Int))) (IntKind.wrap IntKind.i64 (t1 + (1 : Int))))), TV.pv (PV.int IntKind.i64 (rpE o4001 (txtP o4001 o4001b o4001c) (IntKind.wrap IntKind.i64 (o1 + (1 : Int))) (IntKind.wrap IntKind.i64 (t1 + (1 : Int)))))], TV.pv (PV.int IntKind.i64 (rpN o4001 (txtP o4001 o4001b o4001c) (IntKind.wrap IntKind.i64 (o1 + (1 : Int))) (IntKind.wrap IntKind.i64 (t1 + (1 : Int))))), TV.pv (PV.int IntKind.i64 o1b)]]), (((∃ (l : List UInt8), o4001 = u8s l ∧ List.length l ≤ (140737488355328 : Nat)) ∧ ((0 : Int) ≤ txtP o4001 o4001b o4001c ∧ txtP o4001 o4001b o4001c ≤ (↑(List.length o4001) : Int)) ∧ failE (txtE (List.drop (Int.toNat o4001b) o4001) o4001c) (12 : Int) = (0 : Int) ∧ o1b = (0 : Int) ∧ ((0 : Int) ≤ IntKind.wrap IntKind.i64 (o1 + (1 : Int)) ∧ IntKind.wrap IntKind.i64 (o1 + (1 : Int)) ≤ (400 : Int)) ∧ IntKind.wrap IntKind.i64 (t1 + (1 : Int)) + (↑f : Int) = (13 : Int) ∧ (0 : Int) ≤ IntKind.wrap IntKind.i64 (t1 + (1 : Int))) ∧ rpNil o4001 (txtP o4001 o4001b o4001c) (IntKind.wrap IntKind.i64 (o1 + (1 : Int))) (IntKind.wrap IntKind.i64 (t1 + (1 : Int))) = false, [TV.own (2 : Nat) (rpT o4001 (txtP o4001 o4001b o4001c) (IntKind.wrap IntKind.i64 (o1 + (1 : Int))) (IntKind.wrap IntKind.i64 (t1 + (1 : Int))))], [TV.ptr [TV.ptr [TV.pv (PV.sl o4001), TV.pv (PV.int IntKind.i64 (rpP o4001 (txtP o4001 o4001b o4001c) (IntKind.wrap IntKind.i64 (o1 + (1 : Int))) (IntKind.wrap IntKind.i64 (t1 + (1 : Int))))), TV.pv (PV.int IntKind.i64 (rpE o4001 (txtP o4001 o4001b o4001c) (IntKind.wrap IntKind.i64 (o1 + (1 : Int))) (IntKind.wrap IntKind.i64 (t1 + (1 : Int)))))], TV.pv (PV.int IntKind.i64 (rpN o4001 (txtP o4001 o4001b o4001c) (IntKind.wrap IntKind.i64 (o1 + (1 : Int))) (IntKind.wrap IntKind.i64 (t1 + (1 : Int))))), TV.pv (PV.int IntKind.i64 o1b)]])] ∧ (((∃ (l : List UInt8), o4001 = u8s l ∧ List.length l ≤ (140737488355328 : Nat)) ∧ ((0 : Int) ≤ txtP o4001 o4001b o4001c ∧ txtP o4001 o4001b o4001c ≤ (↑(List.length o4001) : Int)) ∧ failE (txtE (List.drop (Int.toNat o4001b) o4001) o4001c) (12 : Int) = (0 : Int) ∧ o1b = (0 : Int) ∧ ((0 : Int) ≤ IntKind.wrap IntKind.i64 (o1 + (1 : Int)) ∧ IntKind.wrap IntKind.i64 (o1 + (1 : Int)) ≤ (400 : Int)) ∧ IntKind.wrap IntKind.i64 (t1 + (1 : Int)) + (↑f : Int) = (13 : Int) ∧ (0 : Int) ≤ IntKind.wrap IntKind.i64 (t1 + (1 : Int))) ∧ rpNil o4001 (txtP o4001 o4001b o4001c) (IntKind.wrap IntKind.i64 (o1 + (1 : Int))) (IntKind.wrap IntKind.i64 (t1 + (1 : Int))) = true → ((rpE o4001 (txtP o4001 o4001b o4001c) (IntKind.wrap IntKind.i64 (o1 + (1 : Int))) (IntKind.wrap IntKind.i64 (t1 + (1 : Int))) != (0 : Int)) = true → ∃ (h : H), Q ([TV.pv (PV.sl [])], [TV.ptr [TV.ptr [TV.pv (PV.sl o4001), TV.pv (PV.int IntKind.i64 (rpP o4001 (txtP o4001 o4001b o4001c) (IntKind.wrap IntKind.i64 (o1 + (1 : Int))) (IntKind.wrap IntKind.i64 (t1 + (1 : Int))))), TV.pv (PV.int IntKind.i64 (rpE o4001 (txtP o4001 o4001b o4001c) (IntKind.wrap IntKind.i64 (o1 + (1 : Int))) (IntKind.wrap IntKind.i64 (t1 + (1 : Int)))))], TV.pv (PV.int IntKind.i64 (rpN o4001 (txtP o4001 o4001b o4001c) (IntKind.wrap IntKind.i64 (o1 + (1 : Int))) (IntKind.wrap IntKind.i64 (t1 + (1 : Int))))), TV.pv (PV.int IntKind.i64 o1b)]])) ∧ ((rpE o4001 (txtP o4001 o4001b o4001c) (IntKind.wrap IntKind.i64 (o1 + (1 : Int))) (IntKind.wrap IntKind.i64 (t1 + (1 : Int))) != (0 : Int)) = false → ((List.length o12 + (1 : Nat)) * (40 : Nat) ≤ room ∧ List.length o12 + (1 : Nat) ≤ maxInt) ∧ J0 (St.mk [((0 : Nat), AV.addr (1 : Nat) (0 : Nat) (0 : Nat)), ((1 : Nat), AV.pv (PV.int IntKind.i64 t1)), ((5 : Nat), AV.pv (PV.int IntKind.i64 t5)), ((6 : Nat), AV.own (12 : Nat)), ((7 : Nat), AV.pv (PV.int IntKind.i64 (IntKind.wrap IntKind.i64 (t7 + (1 : Int)))))] [((1 : Nat), Obj.box [AV.addr (4001 : Nat) (0 : Nat) (0 : Nat), AV.pv (PV.int IntKind.i64 (rpN o4001 (txtP o4001 o4001b o4001c) (IntKind.wrap IntKind.i64 (o1 + (1 : Int))) (IntKind.wrap IntKind.i64 (t1 + (1 : Int))))), AV.pv (PV.int IntKind.i64 o1b)]), ((12 : Nat), Obj.buf (2 : Nat) (o12 ++ [[PV.str (txtR (List.drop (Int.toNat o4001b) o4001) o4001c), PV.sl []]])), ((4001 : Nat), Obj.box [AV.pv (PV.sl o4001), AV.pv (PV.int IntKind.i64 (rpP o4001 (txtP o4001 o4001b o4001c) (IntKind.wrap IntKind.i64 (o1 + (1 : Int))) (IntKind.wrap IntKind.i64 (t1 + (1 : Int))))), AV.pv (PV.int IntKind.i64 (rpE o4001 (txtP o4001 o4001b o4001c) (IntKind.wrap IntKind.i64 (o1 + (1 : Int))) (IntKind.wrap IntKind.i64 (t1 + (1 : Int)))))])]))) ∧ (((∃ (l : List UInt8), o4001 = u8s l ∧ List.length l ≤ (140737488355328 : Nat)) ∧ ((0 : Int) ≤ txtP o4001 o4001b o4001c ∧ txtP o4001 o4001b o4001c ≤ (↑(List.length o4001) : Int)) ∧ failE (txtE (List.drop (Int.toNat o4001b) o4001) o4001c) (12 : Int) = (0 : Int) ∧ o1b = (0 : Int) ∧ ((0 : Int) ≤ IntKind.wrap IntKind.i64 (o1 + (1 : Int)) ∧ IntKind.wrap IntKind.i64 (o1 + (1 : Int)) ≤ (400 : Int)) ∧ IntKind.wrap IntKind.i64 (t1 + (1 : Int)) + (↑f : Int) = (13 : Int) ∧ (0 : Int) ≤ IntKind.wrap IntKind.i64 (t1 + (1 : Int))) ∧ rpNil o4001 (txtP o4001 o4001b o4001c) (IntKind.wrap IntKind.i64 (o1 + (1 : Int))) (IntKind.wrap IntKind.i64 (t1 + (1 : Int))) = false → ((rpE o4001 (txtP o4001 o4001b o4001c) (IntKind.wrap IntKind.i64 (o1 + (1 : Int))) (IntKind.wrap IntKind.i64 (t1 + (1 : Int))) != (0 : Int)) = true → ∃ (h : H), Q ([TV.pv (PV.sl [])], [TV.ptr [TV.ptr [TV.pv (PV.sl o4001), TV.pv (PV.int IntKind.i64 (rpP o4001 (txtP o4001 o4001b o4001c) (IntKind.wrap IntKind.i64 (o1 + (1 : Int))) (IntKind.wrap IntKind.i64 (t1 + (1 : Int))))), TV.pv (PV.int IntKind.i64 (rpE o4001 (txtP o4001 o4001b o4001c) (IntKind.wrap IntKind.i64 (o1 + (1 : Int))) (IntKind.wrap IntKind.i64 (t1 + (1 : Int)))))], TV.pv (PV.int IntKind.i64 (rpN o4001 (txtP o4001 o4001b o4001c) (IntKind.wrap IntKind.i64 (o1 + (1 : Int))) (IntKind.wrap IntKind.i64 (t1 + (1 : Int))))), TV.pv (PV.int IntKind.i64 o1b)]])) ∧ ((rpE o4001 (txtP o4001 o4001b o4001c) (IntKind.wrap IntKind.i64 (o1 + (1 : Int))) (IntKind.wrap IntKind.i64 (t1 + (1 : Int))) != (0 : Int)) = false → ((List.length o12 + (1 : Nat)) * (40 : Nat) ≤ room ∧ List.length o12 + (1 : Nat) ≤ maxInt) ∧ J0 (St.mk [((0 : Nat), AV.addr (1 : Nat) (0 : Nat) (0 : Nat)), ((1 : Nat), AV.pv (PV.int IntKind.i64 t1)), ((5 : Nat), AV.pv (PV.int IntKind.i64 t5)), ((6 : Nat), AV.own (12 : Nat)), ((7 : Nat), AV.pv (PV.int IntKind.i64 (IntKind.wrap IntKind.i64 (t7 + (1 : Int)))))] [((1 : Nat), Obj.box [AV.addr (4001 : Nat) (0 : Nat) (0 : Nat), AV.pv (PV.int IntKind.i64 (rpN o4001 (txtP o4001 o4001b o4001c) (IntKind.wrap IntKind.i64 (o1 + (1 : Int))) (IntKind.wrap IntKind.i64 (t1 + (1 : Int))))), AV.pv (PV.int IntKind.i64 o1b)]), ((12 : Nat), Obj.buf (2 : Nat) (o12 ++ [[PV.str (txtR (List.drop (Int.toNat o4001b) o4001) o4001c), PV.sl (rpT o4001 (txtP o4001 o4001b o4001c) (IntKind.wrap IntKind.i64 (o1 + (1 : Int))) (IntKind.wrap IntKind.i64 (t1 + (1 : Int))))]])), ((4001 : Nat), Obj.box [AV.pv (PV.sl o4001), AV.pv (PV.int IntKind.i64 (rpP o4001 (txtP o4001 o4001b o4001c) (IntKind.wrap IntKind.i64 (o1 + (1 : Int))) (IntKind.wrap IntKind.i64 (t1 + (1 : Int))))), AV.pv (PV.int IntKind.i64 (rpE o4001 (txtP o4001 o4001b o4001c) (IntKind.wrap IntKind.i64 (o1 + (1 : Int))) (IntKind.wrap IntKind.i64 (t1 + (1 : Int)))))])]))) ∧ True)) ∧ ((Op.bytesLess (txtR (List.drop (Int.toNat o4001b) o4001) o4001c) s || txtR (List.drop (Int.toNat o4001b) o4001) o4001c == s) = false → ((txtE (List.drop (Int.toNat o4001b) o4001) o4001c != (0 : Int)) = true → ∃ (h : H), Q ([TV.pv (PV.sl [])], [TV.ptr [TV.ptr [TV.pv (PV.sl o4001), TV.pv (PV.int IntKind.i64 (txtP o4001 o4001b o4001c)), TV.pv (PV.int IntKind.i64 (txtE (List.drop (Int.toNat o4001b) o4001) o4001c))], TV.pv (PV.int IntKind.i64 (IntKind.wrap IntKind.i64 (o1 + (1 : Int)))), TV.pv (PV.int IntKind.i64 o1b)]])) ∧ ((txtE (List.drop (Int.toNat o4001b) o4001) o4001c != (0 : Int)) = false → orAll [(((∃ (l : List UInt8), o4001 = u8s l ∧ List.length l ≤ (140737488355328 : Nat)) ∧ ((0 : Int) ≤ txtP o4001 o4001b o4001c ∧ txtP o4001 o4001b o4001c ≤ (↑(List.length o4001) : Int)) ∧ txtE (List.drop (Int.toNat o4001b) o4001) o4001c = (0 : Int) ∧ o1b = (0 : Int) ∧ ((0 : Int) ≤ IntKind.wrap IntKind.i64 (o1 + (1 : Int)) ∧ IntKind.wrap IntKind.i64 (o1 + (1 : Int)) ≤ (400 : Int)) ∧ IntKind.wrap IntKind.i64 (t1 + (1 : Int)) + (↑f : Int) = (13 : Int) ∧ (0 : Int) ≤ IntKind.wrap IntKind.i64 (t1 + (1 : Int))) ∧ rpNil o4001 (txtP o4001 o4001b o4001c) (IntKind.wrap IntKind.i64 (o1 + (1 : Int))) (IntKind.wrap IntKind.i64 (t1 + (1 : Int))) = true, [TV.pv (PV.sl [])], [TV.ptr [TV.ptr [TV.pv (PV.sl o4001), TV.pv (PV.int IntKind.i64 (rpP o4001 (txtP o4001 o4001b o4001c) (IntKind.wrap IntKind.i64 (o1 + (1 : Int))) (IntKind.wrap IntKind.i64 (t1 + (1 : Int))))), TV.pv (PV.int IntKind.i64 (rpE o4001 (txtP o4001 o4001b o4001c) (IntKind.wrap IntKind.i64 (o1 + (1 : Int))) (IntKind.wrap IntKind.i64 (t1 + (1 : Int)))))], TV.pv (PV.int IntKind.i64 (rpN o4001 (txtP o4001 o4001b o4001c) (IntKind.wrap IntKind.i64 (o1 + (1 : Int))) (IntKind.wrap IntKind.i64 (t1 + (1 : Int))))), TV.pv (PV.int IntKind.i64 o1b)]]), (((∃ (l : List UInt8), o4001 = u8s l ∧ List.length l ≤ (140737488355328 : Nat)) ∧ ((0 : Int) ≤ txtP o4001 o4001b o4001c ∧ txtP o4001 o4001b o4001c ≤ (↑(List.length o4001) : Int)) ∧ txtE (List.drop (Int.toNat o4001b) o4001) o4001c = (0 : Int) ∧ o1b = (0 : Int) ∧ ((0 : Int) ≤ IntKind.wrap IntKind.i64 (o1 + (1 : Int)) ∧ IntKind.wrap IntKind.i64 (o1 + (1 : Int)) ≤ (400 : Int)) ∧ IntKind.wrap IntKind.i64 (t1 + (1 : Int)) + (↑f : Int) = (13 : Int) ∧ (0 : Int) ≤ IntKind.wrap IntKind.i64 (t1 + (1 : Int))) ∧ rpNil o4001 (txtP o4001 o4001b o4001c) (IntKind.wrap IntKind.i64 (o1 + (1 : Int))) (IntKind.wrap IntKind.i64 (t1 + (1 : Int))) = false, [TV.own (2 : Nat) (rpT o4001 (txtP o4001 o4001b o4001c) (IntKind.wrap IntKind.i64 (o1 + (1 : Int))) (IntKind.wrap IntKind.i64 (t1 + (1 : Int))))], [TV.ptr [TV.ptr [TV.pv (PV.sl o4001), TV.pv (PV.int IntKind.i64 (rpP o4001 (txtP o4001 o4001b o4001c) (IntKind.wrap IntKind.i64 (o1 + (1 : Int))) (IntKind.wrap IntKind.i64 (t1 + (1 : Int))))), TV.pv (PV.int IntKind.i64 (rpE o4001 (txtP o4001 o4001b o4001c) (IntKind.wrap IntKind.i64 (o1 + (1 : Int))) (IntKind.wrap IntKind.i64 (t1 + (1 : Int)))))], TV.pv (PV.int IntKind.i64 (rpN o4001 (txtP o4001 o4001b o4001c) (IntKind.wrap IntKind.i64 (o1 + (1 : Int))) (IntKind.wrap IntKind.i64 (t1 + (1 : Int))))), TV.pv (PV.int IntKind.i64 o1b)]])] ∧ (((∃ (l : List UInt8), o4001 = u8s l ∧ List.length l ≤ (140737488355328 : Nat)) ∧ ((0 : Int) ≤ txtP o4001 o4001b o4001c ∧ txtP o4001 o4001b o4001c ≤ (↑(List.length o4001) : Int)) ∧ txtE (List.drop (Int.toNat o4001b) o4001) o4001c = (0 : Int) ∧ o1b = (0 : Int) ∧ ((0 : Int) ≤ IntKind.wrap IntKind.i64 (o1 + (1 : Int)) ∧ IntKind.wrap IntKind.i64 (o1 + (1 : Int)) ≤ (400 : Int)) ∧ IntKind.wrap IntKind.i64 (t1 + (1 : Int)) + (↑f : Int) = (13 : Int) ∧ (0 : Int) ≤ IntKind.wrap IntKind.i64 (t1 + (1 : Int))) ∧ rpNil o4001 (txtP o4001 o4001b o4001c) (IntKind.wrap IntKind.i64 (o1 + (1 : Int))) (IntKind.wrap IntKind.i64 (t1 + (1 : Int))) = true → ((rpE o4001 (txtP o4001 o4001b o4001c) (IntKind.wrap IntKind.i64 (o1 + (1 : Int))) (IntKind.wrap IntKind.i64 (t1 + (1 : Int))) != (0 : Int)) = true → ∃ (h : H), Q ([TV.pv (PV.sl [])], [TV.ptr [TV.ptr [TV.pv (PV.sl o4001), TV.pv (PV.int IntKind.i64 (rpP o4001 (txtP o4001 o4001b o4001c) (IntKind.wrap IntKind.i64 (o1 + (1 : Int))) (IntKind.wrap IntKind.i64 (t1 + (1 : Int))))), TV.pv (PV.int IntKind.i64 (rpE o4001 (txtP o4001 o4001b o4001c) (IntKind.wrap IntKind.i64 (o1 + (1 : Int))) (IntKind.wrap IntKind.i64 (t1 + (1 : Int)))))], TV.pv (PV.int IntKind.i64 (rpN o4001 (txtP o4001 o4001b o4001c) (IntKind.wrap IntKind.i64 (o1 + (1 : Int))) (IntKind.wrap IntKind.i64 (t1 + (1 : Int))))), TV.pv (PV.int IntKind.i64 o1b)]])) ∧ ((rpE o4001 (txtP o4001 o4001b o4001c) (IntKind.wrap IntKind.i64 (o1 + (1 : Int))) (IntKind.wrap IntKind.i64 (t1 + (1 : Int))) != (0 : Int)) = false → ((List.length o12 + (1 : Nat)) * (40 : Nat) ≤ room ∧ List.length o12 + (1 : Nat) ≤ maxInt) ∧ J0 (St.mk [((0 : Nat), AV.addr (1 : Nat) (0 : Nat) (0 : Nat)), ((1 : Nat), AV.pv (PV.int IntKind.i64 t1)), ((5 : Nat), AV.pv (PV.int IntKind.i64 t5)), ((6 : Nat), AV.own (12 : Nat)), ((7 : Nat), AV.pv (PV.int IntKind.i64 (IntKind.wrap IntKind.i64 (t7 + (1 : Int)))))] [((1 : Nat), Obj.box [AV.addr (4001 : Nat) (0 : Nat) (0 : Nat), AV.pv (PV.int IntKind.i64 (rpN o4001 (txtP o4001 o4001b o4001c) (IntKind.wrap IntKind.i64 (o1 + (1 : Int))) (IntKind.wrap IntKind.i64 (t1 + (1 : Int))))), AV.pv (PV.int IntKind.i64 o1b)]), ((12 : Nat), Obj.buf (2 : Nat) (o12 ++ [[PV.str (txtR (List.drop (Int.toNat o4001b) o4001) o4001c), PV.sl []]])), ((4001 : Nat), Obj.box [AV.pv (PV.sl o4001), AV.pv (PV.int IntKind.i64 (rpP o4001 (txtP o4001 o4001b o4001c) (IntKind.wrap IntKind.i64 (o1 + (1 : Int))) (IntKind.wrap IntKind.i64 (t1 + (1 : Int))))), AV.pv (PV.int IntKind.i64 (rpE o4001 (txtP o4001 o4001b o4001c) (IntKind.wrap IntKind.i64 (o1 + (1 : Int))) (IntKind.wrap IntKind.i64 (t1 + (1 : Int)))))])]))) ∧ (((∃ (l : List UInt8), o4001 = u8s l ∧ List.length l ≤ (140737488355328 : Nat)) ∧ ((0 : Int) ≤ txtP o4001 o4001b o4001c ∧ txtP o4001 o4001b o4001c ≤ (↑(List.length o4001) : Int)) ∧ txtE (List.drop (Int.toNat o4001b) o4001) o4001c = (0 : Int) ∧ o1b = (0 : Int) ∧ ((0 : Int) ≤ IntKind.wrap IntKind.i64 (o1 + (1 : Int)) ∧ IntKind.wrap IntKind.i64 (o1 + (1 : Int)) ≤ (400 : Int)) ∧ IntKind.wrap IntKind.i64 (t1 + (1 : Int)) + (↑f : Int) = (13 : Int) ∧ (0 : Int) ≤ IntKind.wrap IntKind.i64 (t1 + (1 : Int))) ∧ rpNil o4001 (txtP o4001 o4001b o4001c) (IntKind.wrap IntKind.i64 (o1 + (1 : Int))) (IntKind.wrap IntKind.i64 (t1 + (1 : Int))) = false → ((rpE o4001 (txtP o4001 o4001b o4001c) (IntKind.wrap IntKind.i64 (o1 + (1 : Int))) (IntKind.wrap IntKind.i64 (t1 + (1 : Int))) != (0 : Int)) = true → ∃ (h : H), Q ([TV.pv (PV.sl [])], [TV.ptr [TV.ptr [TV.pv (PV.sl o4001), TV.pv (PV.int IntKind.i64 (rpP o4001 (txtP o4001 o4001b o4001c) (IntKind.wrap IntKind.i64 (o1 + (1 : Int))) (IntKind.wrap IntKind.i64 (t1 + (1 : Int))))), TV.pv (PV.int IntKind.i64 (rpE o4001 (txtP o4001 o4001b o4001c) (IntKind.wrap IntKind.i64 (o1 + (1 : Int))) (IntKind.wrap IntKind.i64 (t1 + (1 : Int)))))], TV.pv (PV.int IntKind.i64 (rpN o4001 (txtP o4001 o4001b o4001c) (IntKind.wrap IntKind.i64 (o1 + (1 : Int))) (IntKind.wrap IntKind.i64 (t1 + (1 : Int))))), TV.pv (PV.int IntKind.i64 o1b)]])) ∧ ((rpE o4001 (txtP o4001 o4001b o4001c) (IntKind.wrap IntKind.i64 (o1 + (1 : Int))) (IntKind.wrap IntKind.i64 (t1 + (1 : Int))) != (0 : Int)) = false → ((List.length o12 + (1 : Nat)) * (40 : Nat) ≤ room ∧ List.length o12 + (1 : Nat) ≤ maxInt) ∧ J0 (St.mk [((0 : Nat), AV.addr (1 : Nat) (0 : Nat) (0 : Nat)), ((1 : Nat), AV.pv (PV.int IntKind.i64 t1)), ((5 : Nat), AV.pv (PV.int IntKind.i64 t5)), ((6 : Nat), AV.own (12 : Nat)), ((7 : Nat), AV.pv (PV.int IntKind.i64 (IntKind.wrap IntKind.i64 (t7 + (1 : Int)))))] [((1 : Nat), Obj.box [AV.addr (4001 : Nat) (0 : Nat) (0 : Nat), AV.pv (PV.int IntKind.i64 (rpN o4001 (txtP o4001 o4001b o4001c) (IntKind.wrap IntKind.i64 (o1 + (1 : Int))) (IntKind.wrap IntKind.i64 (t1 + (1 : Int))))), AV.pv (PV.int IntKind.i64 o1b)]), ((12 : Nat), Obj.buf (2 : Nat) (o12 ++ [[PV.str (txtR (List.drop (Int.toNat o4001b) o4001) o4001c), PV.sl (rpT o4001 (txtP o4001 o4001b o4001c) (IntKind.wrap IntKind.i64 (o1 + (1 : Int))) (IntKind.wrap IntKind.i64 (t1 + (1 : Int))))]])), ((4001 : Nat), Obj.box [AV.pv (PV.sl o4001), AV.pv (PV.int IntKind.i64 (rpP o4001 (txtP o4001 o4001b o4001c) (IntKind.wrap IntKind.i64 (o1 + (1 : Int))) (IntKind.wrap IntKind.i64 (t1 + (1 : Int))))), AV.pv (PV.int IntKind.i64 (rpE o4001 (txtP o4001 o4001b o4001c) (IntKind.wrap IntKind.i64 (o1 + (1 : Int))) (IntKind.wrap IntKind.i64 (t1 + (1 : Int)))))])]))) ∧ True))) ∧ (decide (t7 > (0 : Int)) = false → ((txtE (List.drop (Int.toNat o4001b) o4001) o4001c != (0 : Int)) = true → ∃ (h : H), Q ([TV.pv (PV.sl [])], [TV.ptr [TV.ptr [TV.pv (PV.sl o4001), TV.pv (PV.int IntKind.i64 (txtP o4001 o4001b o4001c)), TV.pv (PV.int IntKind.i64 (txtE (List.drop (Int.toNat o4001b) o4001) o4001c))], TV.pv (PV.int IntKind.i64 (IntKind.wrap IntKind.i64 (o1 + (1 : Int)))), TV.pv (PV.int IntKind.i64 o1b)]])) ∧ ((txtE (List.drop (Int.toNat o4001b) o4001) o4001c != (0 : Int)) = false → orAll [(((∃ (l : List UInt8), o4001 = u8s l ∧ List.length l ≤ (140737488355328 : Nat)) ∧ ((0 : Int) ≤ txtP o4001 o4001b o4001c ∧ txtP o4001 o4001b o4001c ≤ (↑(List.length o4001) : Int)) ∧ txtE (List.drop (Int.toNat o4001b) o4001) o4001c = (0 : Int) ∧ o1b = (0 : Int) ∧ ((0 : Int) ≤ IntKind.wrap IntKind.i64 (o1 + (1 : Int)) ∧ IntKind.wrap IntKind.i64 (o1 + (1 : Int)) ≤ (400 : Int)) ∧ IntKind.wrap IntKind.i64 (t1 + (1 : Int)) + (↑f : Int) = (13 : Int) ∧ (0 : Int) ≤ IntKind.wrap IntKind.i64 (t1 + (1 : Int))) ∧ rpNil o4001 (txtP o4001 o4001b o4001c) (IntKind.wrap IntKind.i64 (o1 + (1 : Int))) (IntKind.wrap IntKind.i64 (t1 + (1 : Int))) = true, [TV.pv (PV.sl [])], [TV.ptr [TV.ptr [TV.pv (PV.sl o4001), TV.pv (PV.int IntKind.i64 (rpP o4001 (txtP o4001 o4001b o4001c) (IntKind.wrap IntKind.i64 (o1 + (1 : Int))) (IntKind.wrap IntKind.i64 (t1 + (1 : Int))))), TV.pv (PV.int IntKind.i64 (rpE o4001 (txtP o4001 o4001b o4001c) (IntKind.wrap IntKind.i64 (o1 + (1 : Int))) (IntKind.wrap IntKind.i64 (t1 + (1 : Int)))))], TV.pv (PV.int IntKind.i64 (rpN o4001 (txtP o4001 o4001b o4001c) (IntKind.wrap IntKind.i64 (o1 + (1 : Int))) (IntKind.wrap IntKind.i64 (t1 + (1 : Int))))), TV.pv (PV.int IntKind.i64 o1b)]]), (((∃ (l : List UInt8), o4001 = u8s l ∧ List.length l ≤ (140737488355328 : Nat)) ∧ ((0 : Int) ≤ txtP o4001 o4001b o4001c ∧ txtP o4001 o4001b o4001c ≤ (↑(List.length o4001) : Int)) ∧ txtE (List.drop (Int.toNat o4001b) o4001) o4001c = (0 : Int) ∧ o1b = (0 : Int) ∧ ((0 : Int) ≤ IntKind.wrap IntKind.i64 (o1 + (1 : Int)) ∧ IntKind.wrap IntKind.i64 (o1 + (1 : Int)) ≤ (400 : Int)) ∧ IntKind.wrap IntKind.i64 (t1 + (1 : Int)) + (↑f : Int) = (13 : Int) ∧ (0 : Int) ≤ IntKind.wrap IntKind.i64 (t1 + (1 : Int))) ∧ rpNil o4001 (txtP o4001 o4001b o4001c) (IntKind.wrap IntKind.i64 (o1 + (1 : Int))) (IntKind.wrap IntKind.i64 (t1 + (1 : Int))) = false, [TV.own (2 : Nat) (rpT o4001 (txtP o4001 o4001b o4001c) (IntKind.wrap IntKind.i64 (o1 + (1 : Int))) (IntKind.wrap IntKind.i64 (t1 + (1 : Int))))], [TV.ptr [TV.ptr [TV.pv (PV.sl o4001), TV.pv (PV.int IntKind.i64 (rpP o4001 (txtP o4001 o4001b o4001c) (IntKind.wrap IntKind.i64 (o1 + (1 : Int))) (IntKind.wrap IntKind.i64 (t1 + (1 : Int))))), TV.pv (PV.int IntKind.i64 (rpE o4001 (txtP o4001 o4001b o4001c) (IntKind.wrap IntKind.i64 (o1 + (1 : Int))) (IntKind.wrap IntKind.i64 (t1 + (1 : Int)))))], TV.pv (PV.int IntKind.i64 (rpN o4001 (txtP o4001 o4001b o4001c) (IntKind.wrap IntKind.i64 (o1 + (1 : Int))) (IntKind.wrap IntKind.i64 (t1 + (1 : Int))))), TV.pv (PV.int IntKind.i64 o1b)]])] ∧ (((∃ (l : List UInt8), o4001 = u8s l ∧ List.length l ≤ (140737488355328 : Nat)) ∧ ((0 : Int) ≤ txtP o4001 o4001b o4001c ∧ txtP o4001 o4001b o4001c ≤ (↑(List.length o4001) : Int)) ∧ txtE (List.drop (Int.toNat o4001b) o4001) o4001c = (0 : Int) ∧ o1b = (0 : Int) ∧ ((0 : Int) ≤ IntKind.wrap IntKind.i64 (o1 + (1 : Int)) ∧ IntKind.wrap IntKind.i64 (o1 + (1 : Int)) ≤ (400 : Int)) ∧ IntKind.wrap IntKind.i64 (t1 + (1 : Int)) + (↑f : Int) = (13 : Int) ∧ (0 : Int) ≤ IntKind.wrap IntKind.i64 (t1 + (1 : Int))) ∧ rpNil o4001 (txtP o4001 o4001b o4001c) (IntKind.wrap IntKind.i64 (o1 + (1 : Int))) (IntKind.wrap IntKind.i64 (t1 + (1 : Int))) = true → ((rpE o4001 (txtP o4001 o4001b o4001c) (IntKind.wrap IntKind.i64 (o1 + (1 : Int))) (IntKind.wrap IntKind.i64 (t1 + (1 : Int))) != (0 : Int)) = true → ∃ (h : H), Q ([TV.pv (PV.sl [])], [TV.ptr [TV.ptr [TV.pv (PV.sl o4001), TV.pv (PV.int IntKind.i64 (rpP o4001 (txtP o4001 o4001b o4001c) (IntKind.wrap IntKind.i64 (o1 + (1 : Int))) (IntKind.wrap IntKind.i64 (t1 + (1 : Int))))), TV.pv (PV.int IntKind.i64 (rpE o4001 (txtP o4001 o4001b o4001c) (IntKind.wrap IntKind.i64 (o1 + (1 : Int))) (IntKind.wrap IntKind.i64 (t1 + (1 : Int)))))], TV.pv (PV.int IntKind.i64 (rpN o4001 (txtP o4001 o4001b o4001c) (IntKind.wrap IntKind.i64 (o1 + (1 : Int))) (IntKind.wrap IntKind.i64 (t1 + (1 : Int))))), TV.pv (PV.int IntKind.i64 o1b)]])) ∧ ((rpE o4001 (txtP o4001 o4001b o4001c) (IntKind.wrap IntKind.i64 (o1 + (1 : Int))) (IntKind.wrap IntKind.i64 (t1 + (1 : Int))) != (0 : Int)) = false → ((List.length o12 + (1 : Nat)) * (40 : Nat) ≤ room ∧ List.length o12 + (1 : Nat) ≤ maxInt) ∧ J0 (St.mk [((0 : Nat), AV.addr (1 : Nat) (0 : Nat) (0 : Nat)), ((1 : Nat), AV.pv (PV.int IntKind.i64 t1)), ((5 : Nat), AV.pv (PV.int IntKind.i64 t5)), ((6 : Nat), AV.own (12 : Nat)), ((7 : Nat), AV.pv (PV.int IntKind.i64 (IntKind.wrap IntKind.i64 (t7 + (1 : Int)))))] [((1 : Nat), Obj.box [AV.addr (4001 : Nat) (0 : Nat) (0 : Nat), AV.pv (PV.int IntKind.i64 (rpN o4001 (txtP o4001 o4001b o4001c) (IntKind.wrap IntKind.i64 (o1 + (1 : Int))) (IntKind.wrap IntKind.i64 (t1 + (1 : Int))))), AV.pv (PV.int IntKind.i64 o1b)]), ((12 : Nat), Obj.buf (2 : Nat) (o12 ++ [[PV.str (txtR (List.drop (Int.toNat o4001b) o4001) o4001c), PV.sl []]])), ((4001 : Nat), Obj.box [AV.pv (PV.sl o4001), AV.pv (PV.int IntKind.i64 (rpP o4001 (txtP o4001 o4001b o4001c) (IntKind.wrap IntKind.i64 (o1 + (1 : Int))) (IntKind.wrap IntKind.i64 (t1 + (1 : Int))))), AV.pv (PV.int IntKind.i64 (rpE o4001 (txtP o4001 o4001b o4001c) (IntKind.wrap IntKind.i64 (o1 + (1 : Int))) (IntKind.wrap IntKind.i64 (t1 + (1 : Int)))))])]))) ∧ (((∃ (l : List UInt8), o4001 = u8s l ∧ List.length l ≤ (140737488355328 : Nat)) ∧ ((0 : Int) ≤ txtP o4001 o4001b o4001c ∧ txtP o4001 o4001b o4001c ≤ (↑(List.length o4001) : Int)) ∧ txtE (List.drop (Int.toNat o4001b) o4001) o4001c = (0 : Int) ∧ o1b = (0 : Int) ∧ ((0 : Int) ≤ IntKind.wrap IntKind.i64 (o1 + (1 : Int)) ∧ IntKind.wrap IntKind.i64 (o1 + (1 : Int)) ≤ (400 : Int)) ∧ IntKind.wrap IntKind.i64 (t1 + (1 : Int)) + (↑f : Int) = (13 : Int) ∧ (0 : Int) ≤ IntKind.wrap IntKind.i64 (t1 + (1 : Int))) ∧ rpNil o4001 (txtP o4001 o4001b o4001c) (IntKind.wrap IntKind.i64 (o1 + (1 : Int))) (IntKind.wrap IntKind.i64 (t1 + (1 : Int))) = false → ((rpE o4001 (txtP o4001 o4001b o4001c) (IntKind.wrap IntKind.i64 (o1 + (1 : Int))) (IntKind.wrap IntKind.i64 (t1 + (1 : Int))) != (0 : Int)) = true → ∃ (h : H), Q ([TV.pv (PV.sl [])], [TV.ptr [TV.ptr [TV.pv (PV.sl o4001), TV.pv (PV.int IntKind.i64 (rpP o4001 (txtP o4001 o4001b o4001c) (IntKind.wrap IntKind.i64 (o1 + (1 : Int))) (IntKind.wrap IntKind.i64 (t1 + (1 : Int))))), TV.pv (PV.int IntKind.i64 (rpE o4001 (txtP o4001 o4001b o4001c) (IntKind.wrap IntKind.i64 (o1 + (1 : Int))) (IntKind.wrap IntKind.i64 (t1 + (1 : Int)))))], TV.pv (PV.int IntKind.i64 (rpN o4001 (txtP o4001 o4001b o4001c) (IntKind.wrap IntKind.i64 (o1 + (1 : Int))) (IntKind.wrap IntKind.i64 (t1 + (1 : Int))))), TV.pv (PV.int IntKind.i64 o1b)]])) ∧ ((rpE o4001 (txtP o4001 o4001b o4001c) (IntKind.wrap IntKind.i64 (o1 + (1 : Int))) (IntKind.wrap IntKind.i64 (t1 + (1 : Int))) != (0 : Int)) = false → ((List.length o12 + (1 : Nat)) * (40 : Nat) ≤ room ∧ List.length o12 + (1 : Nat) ≤ maxInt) ∧ J0 (St.mk [((0 : Nat), AV.addr (1 : Nat) (0 : Nat) (0 : Nat)), ((1 : Nat), AV.pv (PV.int IntKind.i64 t1)), ((5 : Nat), AV.pv (PV.int IntKind.i64 t5)), ((6 : Nat), AV.own (12 : Nat)), ((7 : Nat), AV.pv (PV.int IntKind.i64 (IntKind.wrap IntKind.i64 (t7 + (1 : Int)))))] [((1 : Nat), Obj.box [AV.addr (4001 : Nat) (0 : Nat) (0 : Nat), AV.pv (PV.int IntKind.i64 (rpN o4001 (txtP o4001 o4001b o4001c) (IntKind.wrap IntKind.i64 (o1 + (1 : Int))) (IntKind.wrap IntKind.i64 (t1 + (1 : Int))))), AV.pv (PV.int IntKind.i64 o1b)]), ((12 : Nat), Obj.buf (2 : Nat) (o12 ++ [[PV.str (txtR (List.drop (Int.toNat o4001b) o4001) o4001c), PV.sl (rpT o4001 (txtP o4001 o4001b o4001c) (IntKind.wrap IntKind.i64 (o1 + (1 : Int))) (IntKind.wrap IntKind.i64 (t1 + (1 : Int))))]])), ((4001 : Nat), Obj.box [AV.pv (PV.sl o4001), AV.pv (PV.int IntKind.i64 (rpP o4001 (txtP o4001 o4001b o4001c) (IntKind.wrap IntKind.i64 (o1 + (1 : Int))) (IntKind.wrap IntKind.i64 (t1 + (1 : Int))))), AV.pv (PV.int IntKind.i64 (rpE o4001 (txtP o4001 o4001b o4001c) (IntKind.wrap IntKind.i64 (o1 + (1 : Int))) (IntKind.wrap IntKind.i64 (t1 + (1 : Int)))))])]))) ∧ True))))))) ∧ (decide (t7 < t5) = false → ∃ (h : H), Q ([TV.own (2 : Nat) o12], [TV.ptr [TV.ptr [TV.pv (PV.sl o4001), TV.pv (PV.int IntKind.i64 o4001b), TV.pv (PV.int IntKind.i64 o4001c)], TV.pv (PV.int IntKind.i64 o1), TV.pv (PV.int IntKind.i64 o1b)]]))) := by kernel_rfl

theorem start_ref (kid : List UInt8 → Int → PRes Tr) (d : Int) (l : List UInt8) (n : Int) : ∃ (N : Nat) (q : List UInt8) (e : Int), N ≤ 65535 ∧ numV (bytR (u8s l) 0 1) + 256 * numV (bytR (bytS (u8s l) 0 1) (bytE (u8s l) 0 1) 1) = (N : Int) ∧ bytS (bytS (u8s l) 0 1) (bytE (u8s l) 0 1) 1 = u8s q ∧ bytE (bytS (u8s l) 0 1) (bytE (u8s l) 0 1) 1 = e ∧ ((e = 0 ∧ totF kid d l n = parseL kid d N none q n) ∨ (e = 8 ∧ totF kid d l n = .error 8)) := by
  match l with
  | [] =>
    refine ⟨0, [], 8, by omega, ?_, ?_, ?_, .inr ⟨rfl, rfl⟩⟩
    · simp [bytR, bytS, bytE, u8s, numV, ofU8s, leV]
    · simp [bytS, bytE, u8s]
    · simp [bytS, bytE, u8s]
  | [a] =>
    have := a.toNat_lt
    refine ⟨a.toNat, [], 8, by omega, ?_, ?_, ?_, .inr ⟨rfl, rfl⟩⟩
    · simp [bytR, bytS, bytE, u8s, numV, ofU8s, leV]
    · simp [bytS, bytE, u8s]
    · simp [bytS, bytE, u8s]
  | a :: b :: l =>
    have := a.toNat_lt
    have := b.toNat_lt
    have h1 : (1 : Int) ≤ (l.length : Int) + 1 + 1 := by omega
    have h2 : (1 : Int) ≤ (l.length : Int) + 1 := by omega
    refine ⟨a.toNat + 256 * b.toNat, l, 0, by omega, ?_, ?_, ?_, .inl ⟨rfl, rfl⟩⟩
    · simp [bytR, bytS, bytE, u8s, numV, ofU8s, leV, h1, h2]
    · simp [bytS, bytE, u8s, h1, h2]
    · simp [bytS, bytE, u8s, h1, h2]

theorem rtP_range {a : List (List PV)} {p : Int} (hp : 0 ≤ p ∧ p ≤ (a.length : Int)) (e : Int) {n : Int} (hn : 0 ≤ n) : 0 ≤ rtP a p e n ∧ rtP a p e n ≤ (a.length : Int) := by
  unfold rtP
  split
  · rename_i h
    rw [List.length_drop] at h
    omega
  · exact hp

theorem drop_rtP {a : List (List PV)} {p : Int} (hp : 0 ≤ p ∧ p ≤ (a.length : Int)) (e : Int) {n : Int} (hn : 0 ≤ n) : a.drop (rtP a p e n).toNat = bytS (a.drop p.toNat) e n := by
  unfold rtP bytS
  split
  · rw [List.drop_drop]; congr 1; omega
  · rfl

theorem rtk_ok : ∀ ag al, g_rtk ag = some al → ∀ a ∈ al, a.1 → Ev C 98 ag a.2 := by
  intro ag al hl x hx hp
  unfold g_rtk at hl
  split at hl
  · rename_i a p e n
    have e' := one_mem hl hx; subst e'
    obtain ⟨⟨l, rfl, hll⟩, hp, hn⟩ := hp
    have hlu := u8s_len l
    have hX : ((u8s l).drop p.toNat).length = l.length - p.toNat := by rw [List.length_drop, hlu]
    have w1 : IntKind.wrap .i64 (((u8s l).length : Int) - p) = ((u8s l).length : Int) - p := w64 (by omega)
    have w2 : IntKind.wrap .i64 (p + n) = p + n := w64 (by omega)
    have w3 : IntKind.wrap .i64 (p + n - n) = p := by rw [w64 (by omega)]; omega
    have bad : e ≠ 0 → (([TV.pv (PV.sl [])], [TV.ptr [TV.pv (PV.sl (u8s l)), TV.pv (PV.int .i64 p), TV.pv (PV.int .i64 e)]]) : List TV × List TV) = ([TV.pv (PV.sl (bytR ((u8s l).drop p.toNat) e n))], [TV.ptr [TV.pv (PV.sl (u8s l)), TV.pv (PV.int .i64 (rtP (u8s l) p e n)), TV.pv (PV.int .i64 (bytE ((u8s l).drop p.toNat) e n))]]) := by
      intro h
      rw [bytR, rtP, bytE, if_neg (fun q => h q.1), if_neg (fun q => h q.1), if_neg (fun q => h q.1)]
    refine ev_w noSpec_ok (rtk_w (u8s l) p e n _) ?_
    rw [w1, w2, w3]
    refine ⟨fun h => ⟨fun h2 => ?_, fun h2 => ⟨fun h3 => ?_, fun h3 => ⟨rowOk_u8s l, ⟨by omega, by omega, ?_⟩, ?_⟩⟩⟩, fun h => ⟨fun h3 => ?_, fun h3 => ?_⟩⟩
    · have h : e = 0 := by simpa using h
      simp only [decide_eq_true_eq] at h2
      rw [bytR, rtP, bytE, if_neg (fun q => by omega), if_neg (fun q => by omega), if_pos ⟨h, by omega⟩]
    · exact bad (by simpa using h3)
    · simp only [decide_eq_false_iff_not] at h2
      simp only [Int.ofNat_eq_natCast]; omega
    · have h : e = 0 := by simpa using h
      simp only [decide_eq_false_iff_not] at h2
      have hle : n ≤ (((u8s l).drop p.toNat).length : Int) := by omega
      rw [bytR, rtP, bytE, if_pos ⟨h, hle⟩, if_pos ⟨h, hle⟩, if_neg (fun q => q.2 hle)]
      have : (p + n).toNat - p.toNat = n.toNat := by omega
      rw [this]
    · exact bad (by simpa using h)
    · have h : e ≠ 0 := by simpa using h
      have h3 : e = 0 := by simpa using h3
      exact absurd h3 h
  · exact absurd hl (by simp)

theorem rby_S : SpecOK C S_rby := specL_ok (specs_cons rtk_ok specs_nil)

theorem drop_u8 (l : List UInt8) (p : Int) : (u8s l).drop p.toNat = u8s (l.drop p.toNat) := u8s_drop _ _

theorem bytR_one (l : List UInt8) (e : Int) : (bytR (u8s l) e 1 = []) ∨ ∃ c : UInt8, bytR (u8s l) e 1 = u8s [c] := by
  obtain ⟨q, hq, hl⟩ := bytR_u8 l e 1
  rw [hq]
  match q, hl with
  | [], _ => exact .inl rfl
  | [c], _ => exact .inr ⟨c, rfl⟩
  | _ :: _ :: _, h => simp only [List.length_cons] at h; omega

theorem bytR_two (l : List UInt8) (e : Int) : (bytR (u8s l) e 2 = [] ∧ bytE (u8s l) e 2 ≠ 0) ∨ (∃ c d : UInt8, bytR (u8s l) e 2 = u8s [c, d] ∧ bytE (u8s l) e 2 = 0) := by
  by_cases h : e = 0 ∧ (2 : Int) ≤ ((u8s l).length : Int)
  · right
    have hl := u8s_len l
    match l, hl with
    | a :: b :: l, _ => exact ⟨a, b, by rw [bytR, if_pos h, u8s_take]; rfl, by rw [bytE, if_neg (fun q => q.2 h.2)]; exact h.1⟩
    | [a], hl => simp only [List.length_cons, List.length_nil] at hl; omega
    | [], hl => simp only [List.length_nil] at hl; omega
  · left
    rw [bytR, if_neg h]
    refine ⟨rfl, ?_⟩
    unfold bytE
    split
    · decide
    · rename_i h2
      intro h0
      exact h2 ⟨h0, fun h3 => h ⟨h0, h3⟩⟩

theorem rby_ok : ∀ ag al, g_rby ag = some al → ∀ a ∈ al, a.1 → Ev C 82 ag a.2 := by
  intro ag al hl x hx hp
  unfold g_rby at hl
  split at hl
  · rename_i a p e
    have e' := one_mem hl hx; subst e'
    obtain ⟨⟨l, rfl, hll⟩, hp⟩ := hp
    refine ev_w rby_S (rbb_w (u8s l) p e _) ⟨⟨⟨l, rfl, hll⟩, hp, by decide, by decide⟩, ?_⟩
    rw [drop_u8]
    rcases bytR_one (l.drop p.toNat) e with h | ⟨c, h⟩
    · rw [h]
      exact ⟨fun _ => rfl, fun h2 => absurd h2 (by decide)⟩
    · rw [h]
      have := c.toNat_lt
      refine ⟨fun h2 => absurd h2 (by simp [u8s]), fun _ => ⟨c.toNat, rfl, ?_⟩⟩
      rw [w64 (by omega), numV, ofU8s_u8s]
      simp [leV]
  · exact absurd hl (by simp)

theorem txt_short {a : List (List PV)} {e : Int} (h : bytE a e 2 ≠ 0) : txtR a e = [] ∧ txtE a e = bytE a e 2 ∧ ∀ p : Int, 0 ≤ p → True := by
  refine ⟨?_, ?_, fun _ _ => trivial⟩
  · rw [txtR, bytR, if_neg (fun q => h q.1)]; rfl
  · rw [txtE]
    generalize bytE a e 2 = z at *
    rw [bytE, if_neg (fun q => h q.1)]

theorem rte_ok : ∀ ag al, g_rte ag = some al → ∀ a ∈ al, a.1 → Ev C 83 ag a.2 := by
  intro ag al hl x hx hp
  unfold g_rte at hl
  split at hl
  · rename_i a p e
    have e' := one_mem hl hx; subst e'
    obtain ⟨⟨l, rfl, hll⟩, hp⟩ := hp
    refine ev_w rby_S (rte_w (u8s l) p e _) ⟨⟨⟨l, rfl, hll⟩, hp, by decide, by decide⟩, ?_⟩
    have hp2 := rtP_range hp e (n := 2) (by decide)
    have hd2 := drop_rtP hp e (n := 2) (by decide)
    rw [hd2]
    obtain ⟨q, hq⟩ := bytS_u8 (l.drop p.toNat) e 2
    unfold txtP
    rw [drop_u8] at *
    rcases bytR_two (l.drop p.toNat) e with ⟨h, hne⟩ | ⟨c, d, h, h0⟩
    · obtain ⟨t1, t2, _⟩ := txt_short hne
      rw [t1, t2, h]
      refine ⟨fun _ => ?_, fun h2 => absurd h2 (by decide)⟩
      have : rtP (u8s l) (rtP (u8s l) p e 2) (bytE (u8s (l.drop p.toNat)) e 2) (numV []) = rtP (u8s l) p e 2 := by
        generalize rtP (u8s l) p e 2 = z
        rw [rtP, if_neg (fun q => hne q.1)]
      rw [this]
    · have b1 := c.toNat_lt
      have b2 := d.toNat_lt
      have hw : IntKind.wrap .i64 (IntKind.wrap .i64 (c.toNat : Int) + IntKind.wrap .i64 (256 * IntKind.wrap .i64 (d.toNat : Int))) = numV (u8s [c, d]) := by
        rw [IntWalk.i64_in (c.toNat : Int) (by omega), IntWalk.i64_in (d.toNat : Int) (by omega), IntWalk.i64_in (256 * (d.toNat : Int)) (by omega), IntWalk.i64_in _ (by omega), numV, ofU8s_u8s]
        simp [leV]
      have hv : 0 ≤ numV (u8s [c, d]) ∧ numV (u8s [c, d]) < 65536 := by
        rw [numV, ofU8s_u8s]
        have := leV_two (l := [c, d]) (by simp)
        omega
      rw [h]
      refine ⟨fun h2 => absurd h2 (by simp [u8s]), fun _ => ⟨c.toNat, rfl, d.toNat, rfl, ?_⟩⟩
      rw [hw]
      refine ⟨⟨⟨l, rfl, hll⟩, hp2, by omega, by omega⟩, ?_, ?_⟩
      · rw [hq]
        obtain ⟨z, hz, _⟩ := bytR_u8 q (bytE (u8s (l.drop p.toNat)) e 2) (numV (u8s [c, d]))
        rw [hz]; exact u8Row_u8s z
      · rw [txtR, txtE, h]
  · exact absurd hl (by simp)

theorem rfl_ok : ∀ ag al, g_rfl ag = some al → ∀ a ∈ al, a.1 → Ev C 84 ag a.2 := by
  intro ag al hl x hx hp
  unfold g_rfl at hl
  split at hl
  · rename_i a p e v
    have e' := one_mem hl hx; subst e'
    refine ev_w noSpec_ok (rff_w a p e v _) ⟨fun h => ?_, fun h => ?_⟩
    · rw [failE, if_pos (by simpa using h)]
    · rw [failE, if_neg (by simpa using h)]
  · exact absurd hl (by simp)

theorem txtP_range {a : List (List PV)} {p : Int} (hp : 0 ≤ p ∧ p ≤ (a.length : Int)) {l : List UInt8} (ha : a = u8s l) (e : Int) : (0 ≤ txtP a p e ∧ txtP a p e ≤ (a.length : Int)) ∧ a.drop (txtP a p e).toNat = txtS (a.drop p.toNat) e := by
  subst ha
  have hp2 := rtP_range hp e (n := 2) (by decide)
  have hd2 := drop_rtP hp e (n := 2) (by decide)
  have hv := numV_lt (l.drop p.toNat) e 2 (by decide)
  rw [← drop_u8] at hv
  unfold txtP txtS
  refine ⟨rtP_range hp2 _ hv.1, ?_⟩
  rw [drop_rtP hp2 _ hv.1, hd2]

theorem shape {t b : Bool} {X Cn Co Yn Yo Zn Zo : Prop} {rn ro : List TV × List TV} (ht : t = false) (hor : Cn ∨ Co) (h1 : b = true → Yn ∧ Yo) (h2 : b = false → (Cn → Zn) ∧ (Co → Zo)) : (t = true → X) ∧ (t = false → orAll [(Cn, rn), (Co, ro)] ∧ (Cn → (b = true → Yn) ∧ (b = false → Zn)) ∧ (Co → (b = true → Yo) ∧ (b = false → Zo)) ∧ True) :=
  ⟨fun h => by rw [ht] at h; exact absurd h (by simp), fun _ => ⟨hor, fun c => ⟨fun h => (h1 h).1, fun h => (h2 h).1 c⟩, fun c => ⟨fun h => (h1 h).2, fun h => (h2 h).2 c⟩, trivial⟩⟩

theorem shapeF {v : Int} {Y X : Prop} (hv : v ≠ 0) (h : Y) : True ∧ ((v != 0) = true → Y) ∧ ((v != 0) = false → X) :=
  ⟨trivial, fun _ => h, fun h => absurd (by simpa using h) hv⟩

def rptI (b : List UInt8) (ce : Int) (tot : PRes (List Edge)) (kid : List UInt8 → Int → PRes Tr) (d : Int) (N k : Nat) (st : St) : Prop := ∃ (i : Nat) (o : List (List PV)) (p e n : Int), st = rpt_h0 d N i n ce o (u8s b) p e ∧ i ≤ N ∧ (0 ≤ p ∧ p ≤ ((u8s b).length : Int)) ∧ ((e = 0 ∧ (0 ≤ n ∧ n ≤ 400) ∧ ∃ es : List Edge, es.length = i ∧ o = es.map rowE ∧ tot = preP es (parseL kid d (N - i) (lastE es) (b.drop p.toNat) n)) ∨ (isErr e ∧ tot = .error e)) ∧ k = N - i

theorem rpt_ev (kid : List UInt8 → Int → PRes Tr) (f : Nat) (d : Int) (hS : SpecOK C (S_rpt f)) (hd : 0 ≤ d ∧ d ≤ 13) (hk : d ≤ 12 → d + 1 + f = 13 ∧ kid = parseD f (d + 1)) (b : List UInt8) (hb : b.length ≤ 140737488355328) (hV : d ≤ 12 → ∀ (p n : Int), (0 ≤ p ∧ p ≤ (b.length : Int)) → (0 ≤ n ∧ n ≤ 400) → RvP b (parseD f (d + 1) (b.drop p.toNat) n) (rvV (u8s b) p n (d + 1))) (p n : Int) (hp : 0 ≤ p ∧ p ≤ (b.length : Int)) (hn : 0 ≤ n ∧ n ≤ 400) :
    ∃ r, Ev C 60 [.ptr [.ptr [.pv (.sl (u8s b)), .pv (.int .i64 p), .pv (.int .i64 0)], .pv (.int .i64 n), .pv (.int .i64 0)], .pv (.int .i64 d)] r ∧ ∃ v, r = rvRes (u8s b) 0 v ∧ RvP b (parseT kid d (b.drop p.toNat) n) v := by
  have hr := room_val
  have hm := maxInt_val
  have hbl := u8s_len b
  have hp' : 0 ≤ p ∧ p ≤ ((u8s b).length : Int) := by omega
  rw [parseT_tot]
  obtain ⟨N, q, e0, hN, hs1, hs2, hs3, hs4⟩ := start_ref kid d (b.drop p.toNat) n
  have hr1 := rtP_range hp' 0 (n := 1) (by decide)
  have hd1 := drop_rtP hp' 0 (n := 1) (by decide)
  have hr2 := rtP_range hr1 (bytE ((u8s b).drop p.toNat) 0 1) (n := 1) (by decide)
  have hd2 := drop_rtP hr1 (bytE ((u8s b).drop p.toNat) 0 1) (n := 1) (by decide)
  have ep : (u8s b).drop p.toNat = u8s (b.drop p.toNat) := drop_u8 b p
  rw [ep] at hd1
  rw [hd1, ep, hs2] at hd2
  rw [ep] at hr2
  have hv1 := numV_lt (b.drop p.toNat) 0 1 (by decide)
  obtain ⟨q1, hq1⟩ := bytS_u8 (b.drop p.toNat) 0 1
  have hv2 := numV_lt q1 (bytE (u8s (b.drop p.toNat)) 0 1) 1 (by decide)
  rw [← hq1] at hv2
  refine ev_wx hS (rpt_w f (u8s b) p n 0 d _) ⟨⟨⟨b, rfl, hb⟩, hp'⟩, ⟨⟨b, rfl, hb⟩, hr1⟩, ?_⟩
  rw [ep, hd1, IntWalk.i64_in (256 * numV (bytR (bytS (u8s (b.drop p.toNat)) 0 1) (bytE (u8s (b.drop p.toNat)) 0 1) 1)) (by omega), IntWalk.i64_in _ (by omega), hs1, hs3]
  generalize rtP (u8s b) (rtP (u8s b) p 0 1) (bytE (u8s (b.drop p.toNat)) 0 1) 1 = p0 at *
  have hq0 : b.drop p0.toNat = q := by
    have := congrArg ofU8s hd2
    rw [drop_u8, ofU8s_u8s, ofU8s_u8s] at this
    exact this
  generalize totF kid d (b.drop p.toNat) n = tot at *
  refine loop_rule hS (by kernel_rfl) 1000 (rptI b 0 tot kid d N) ?_ (n := N) ⟨0, [], p0, e0, n, rfl, by omega, hr2, ?_, by omega⟩
  · rintro k st ⟨i, o, p, e, n, rfl, hi, hp, hst, rfl⟩
    have bad : ∀ p e n : Int, tot = .error e → ∃ v, (([TV.pv (PV.sl [])], [TV.ptr [TV.ptr [TV.pv (PV.sl (u8s b)), TV.pv (PV.int .i64 p), TV.pv (PV.int .i64 e)], TV.pv (PV.int .i64 n), TV.pv (PV.int .i64 0)]]) : List TV × List TV) = rvRes (u8s b) 0 v ∧ RvP b (finT tot) v := fun p e n h => ⟨⟨true, [], p, e, n⟩, rfl, by rw [h]; exact rfl⟩
    refine ex_w (rpt_l0 _ _ _ _ _ _ _ _ _ _ _ _ _ _ _ _ _) ⟨fun g => ?_, fun g => ?_⟩
    · have hi' : i < N := by
        have g : (i : Int) < (N : Int) := by simpa using g
        omega
      have w1 := w64s (i := i) (by omega)
      have w2 : IntKind.wrap .i64 (d + 1) = d + 1 := w64 (by omega)
      rw [w1, w2, drop_u8 b p]
      obtain ⟨hpr, hpd⟩ := txtP_range hp rfl e
      rw [drop_u8, drop_u8] at hpd
      refine ⟨⟨⟨b, rfl, hb⟩, hp⟩, fun g2 => ⟨.auto, bad _ _ _ ?_⟩, fun g2 => ?_⟩
      · have g2 : txtE (u8s (b.drop p.toNat)) e ≠ 0 := bne_iff_ne.1 g2
        rcases hst with ⟨rfl, hn, es, hel, rfl, htot⟩ | ⟨he, htot⟩
        · cases hrd : readN (b.drop p.toNat) with
          | none =>
            obtain ⟨j, hj⟩ : ∃ j, N - i = j + 1 := ⟨N - i - 1, by omega⟩
            rw [txt_none hrd, htot, hj, parseL, hrd]
            rfl
          | some xl => exact absurd (txt_some (x := xl.1) (l' := xl.2) hrd).2.2 g2
        · have h0 : e ≠ 0 := by unfold isErr at he; omega
          rw [txtE_bad _ h0]; exact htot
      · have g2 : txtE (u8s (b.drop p.toNat)) e = 0 := by simpa using g2
        obtain ⟨rfl, hn, es, hel, rfl, htot⟩ : e = 0 ∧ (0 ≤ n ∧ n ≤ 400) ∧ ∃ es : List Edge, es.length = i ∧ o = es.map rowE ∧ tot = preP es (parseL kid d (N - i) (lastE es) (b.drop p.toNat) n) := by
          rcases hst with h | ⟨he, htot⟩
          · exact h
          · have h0 : e ≠ 0 := by unfold isErr at he; omega
            rw [txtE_bad _ h0] at g2
            exact absurd g2 h0
        cases hrd : readN (b.drop p.toNat) with
        | none => rw [txt_none hrd] at g2; exact absurd g2 (by decide)
        | some xl =>
          obtain ⟨x, l2⟩ := xl
          obtain ⟨t1, t2, t3⟩ := txt_some hrd
          have w3 : IntKind.wrap .i64 (n + 1) = n + 1 := w64 (by omega)
          have hfe : ∀ v : Int, failE 0 v = v := fun v => by rw [failE, if_pos rfl]
          rw [t1, t3, w3]
          simp only [hfe]
          have hl2 : b.drop (txtP (u8s b) p 0).toNat = l2 := by
            rw [t2] at hpd
            have := congrArg ofU8s hpd
            rw [ofU8s_u8s, ofU8s_u8s] at this
            exact this
          generalize txtP (u8s b) p 0 = p2 at *
          obtain ⟨j, hj⟩ : ∃ j, N - i = j + 1 := ⟨N - i - 1, by omega⟩
          rw [hj, parseL, hrd] at htot
          simp only at htot
          have badV : ∀ v : Int, fitV (n + 1) d (lastE es) x = v → v ≠ 0 → tot = .error v := by
            intro v hv h0
            rw [hv, if_pos h0] at htot
            rw [htot]; rfl
          have hlen : (es.map rowE).length = i := by rw [List.length_map]; exact hel
          have fit : ((es.map rowE).length + 1) * 40 ≤ room ∧ (es.map rowE).length + 1 ≤ maxInt := ⟨by omega, by omega⟩
          have facts : fitV (n + 1) d (lastE es) x = 0 → n + 1 ≤ 400 ∧ d + 1 + f = 13 ∧ (rpE (u8s b) p2 (n + 1) (d + 1) ≠ 0 → tot = .error (rpE (u8s b) p2 (n + 1) (d + 1))) ∧ (rpE (u8s b) p2 (n + 1) (d + 1) = 0 → rpNil (u8s b) p2 (n + 1) (d + 1) = false ∧ ∃ m, m < N - i ∧ rptI b 0 tot kid d N m (rpt_h0 d N ((i + 1 : Nat) : Int) (rpN (u8s b) p2 (n + 1) (d + 1)) 0 (es.map rowE ++ [[PV.str x, PV.sl (rpT (u8s b) p2 (n + 1) (d + 1))]]) (u8s b) (rpP (u8s b) p2 (n + 1) (d + 1)) (rpE (u8s b) p2 (n + 1) (d + 1)))) := by
            intro g3
            have hz := fitV_zero g3
            obtain ⟨hk1, hk2⟩ := hk hz.2.1
            have hP := hV hz.2.1 p2 (n + 1) (by omega) ⟨by omega, hz.1⟩
            have hG := parseD_good f (d + 1) l2 (n + 1) hk1 hz.1
            rw [if_neg (by simpa using g3), hk2] at htot
            rw [hl2] at hP
            refine ⟨hz.1, hk1, ?_⟩
            simp only [rpE, rpNil, rpN, rpT, rpP]
            generalize rvV (u8s b) p2 (n + 1) (d + 1) = v at *
            cases hR : parseD f (d + 1) l2 (n + 1) with
            | error z =>
              rw [hR] at hP hG htot
              have hP : v.e = z := hP
              have hG : isErr z := hG
              refine ⟨fun _ => by rw [htot, hP]; rfl, fun h0 => ?_⟩
              unfold isErr at hG
              omega
            | ok z =>
              obtain ⟨t, l3, n3⟩ := z
              rw [hR] at hP hG htot
              obtain ⟨p1, p2', p3, p4, p5, p6⟩ := hP
              obtain ⟨g4, g5⟩ := hG
              refine ⟨fun h0 => absurd p3 h0, fun _ => ⟨p1, N - (i + 1), by omega, i + 1, _, v.p, v.e, v.n, rfl, by omega, by omega, .inl ⟨p3, ⟨by rw [p4]; omega, by rw [p4]; exact g5⟩, es ++ [(x, t)], by simp; omega, by rw [p2', List.map_append]; rfl, ?_⟩, rfl⟩⟩
              have ej : N - (i + 1) = j := by omega
              have el : lastE (es ++ [(x, t)]) = some x := by rw [lastE, List.getLast?_concat]; rfl
              rw [htot, p4, p6, ej, el, ← hk2]
              simp only
              cases parseL kid d j (some x) l3 n3 with
              | error z => rfl
              | ok z => obtain ⟨a, b, c⟩ := z; simp [preP]
          refine ⟨fun g3 => shapeF (by decide) ⟨.auto, bad _ _ _ (badV 4 ?_ (by decide))⟩, fun g3 => ⟨fun g4 => shapeF (by decide) ⟨.auto, bad _ _ _ (badV 11 ?_ (by decide))⟩, fun g4 => ⟨fun g5 => shapeF (by decide) ⟨.auto, bad _ _ _ (badV 5 ?_ (by decide))⟩, fun g5 => ?_⟩⟩⟩
          · rw [fitV, if_pos (by simpa using g3)]
          all_goals have k1 : ¬ 400 < n + 1 := by simpa using g3
          · rw [fitV, if_neg k1, if_pos (by simpa using g4)]
          all_goals have k2 : ¬ 12 < d := by simpa using g4
          · simp only [gt_iff_lt, decide_eq_true_eq] at g5
            rw [fitV, if_neg k1, if_neg k2, if_pos (by omega)]
          simp only [gt_iff_lt, decide_eq_false_iff_not] at g5
          have k3 : ¬ 80 < x.length := by omega
          refine ⟨fun g6 => ?_, fun g6 => ?_⟩
          · simp only [gt_iff_lt, decide_eq_true_eq] at g6
            have hpos : 0 < es.length := by omega
            have hi1 : es.length - 1 < es.length := by omega
            have w4 : IntKind.wrap .i64 ((i : Int) - 1) = ((es.length - 1 : Nat) : Int) := by rw [w64 (by omega)]; omega
            have eg : lastE es = some es[es.length - 1].1 := by rw [lastE, List.getLast?_eq_getElem?, List.getElem?_eq_getElem hi1]; rfl
            have eb : badP (some es[es.length - 1].1) x = (Op.bytesLess x es[es.length - 1].1 || x == es[es.length - 1].1) := rfl
            rw [w4]
            refine ⟨⟨by omega, by omega⟩, rowE es[es.length - 1], by rw [Int.toNat_natCast, List.getElem?_map, List.getElem?_eq_getElem hi1]; rfl, by simp [rowE], es[es.length - 1].1, rfl, fun g7 => shapeF (by decide) ⟨.auto, bad _ _ _ (badV 12 ?_ (by decide))⟩, fun g7 => ?_⟩
            · rw [fitV, if_neg k1, if_neg k2, if_neg k3, eg, eb, if_pos g7]
            · have g3 : fitV (n + 1) d (lastE es) x = 0 := by rw [fitV, if_neg k1, if_neg k2, if_neg k3, eg, eb, if_neg (by rw [g7]; simp)]
              obtain ⟨f1, f2, f3, f4⟩ := facts g3
              refine shape (by decide) ?_ (fun hb => ?_) (fun hb => ⟨fun c => ?_, fun c => ⟨fit, (f4 (by simpa using hb)).2⟩⟩)
              · cases hb2 : rpNil (u8s b) p2 (n + 1) (d + 1) with
                | true => exact .inl ⟨⟨⟨b, rfl, hb⟩, hpr, trivial, trivial, ⟨by omega, f1⟩, f2, by omega⟩, rfl⟩
                | false => exact .inr ⟨⟨⟨b, rfl, hb⟩, hpr, trivial, trivial, ⟨by omega, f1⟩, f2, by omega⟩, rfl⟩
              · have h3 := f3 (bne_iff_ne.1 hb)
                exact ⟨⟨.auto, bad _ _ _ h3⟩, ⟨.auto, bad _ _ _ h3⟩⟩
              · have h4 := (f4 (by simpa using hb)).1
                rw [c.2] at h4; exact absurd h4 (by simp)
          · simp only [gt_iff_lt, decide_eq_false_iff_not] at g6
            have : es = [] := List.eq_nil_of_length_eq_zero (by omega)
            have g3 : fitV (n + 1) d (lastE es) x = 0 := by rw [fitV, if_neg k1, if_neg k2, if_neg k3, this]; rfl
            obtain ⟨f1, f2, f3, f4⟩ := facts g3
            refine shape (by decide) ?_ (fun hb => ?_) (fun hb => ⟨fun c => ?_, fun c => ⟨fit, (f4 (by simpa using hb)).2⟩⟩)
            · cases hb2 : rpNil (u8s b) p2 (n + 1) (d + 1) with
              | true => exact .inl ⟨⟨⟨b, rfl, hb⟩, hpr, trivial, trivial, ⟨by omega, f1⟩, f2, by omega⟩, rfl⟩
              | false => exact .inr ⟨⟨⟨b, rfl, hb⟩, hpr, trivial, trivial, ⟨by omega, f1⟩, f2, by omega⟩, rfl⟩
            · have h3 := f3 (bne_iff_ne.1 hb)
              exact ⟨⟨.auto, bad _ _ _ h3⟩, ⟨.auto, bad _ _ _ h3⟩⟩
            · have h4 := (f4 (by simpa using hb)).1
              rw [c.2] at h4; exact absurd h4 (by simp)
    · have hiN : i = N := by
        have g : ¬ (i : Int) < (N : Int) := by simpa using g
        omega
      subst hiN
      refine ⟨.auto, ⟨false, o, p, e, n⟩, rfl, ?_⟩
      rcases hst with ⟨rfl, hn, es, hel, rfl, htot⟩ | ⟨he, htot⟩
      · rw [Nat.sub_self, parseL] at htot
        rw [htot]
        refine ⟨rfl, ?_, rfl, rfl, ⟨hp.1, by show p ≤ _; omega⟩, rfl⟩
        simp only [List.append_nil, rows_of]
      · rw [htot]
        exact rfl
  · rcases hs4 with ⟨rfl, h⟩ | ⟨rfl, h⟩
    · exact .inl ⟨rfl, hn, [], rfl, rfl, by rw [preP_nil, h, hq0]; rfl⟩
    · exact .inr ⟨by simp [isErr], h⟩

theorem rvV_spec {f : Nat} {d : Int} (hd : d + f = 13) {b : List UInt8} {p n : Int} (h : ∃ r, Ev C 60 [.ptr [.ptr [.pv (.sl (u8s b)), .pv (.int .i64 p), .pv (.int .i64 0)], .pv (.int .i64 n), .pv (.int .i64 0)], .pv (.int .i64 d)] r ∧ ∃ v, r = rvRes (u8s b) 0 v ∧ RvP b (parseD f d (b.drop p.toNat) n) v) :
    Ev C 60 [.ptr [.ptr [.pv (.sl (u8s b)), .pv (.int .i64 p), .pv (.int .i64 0)], .pv (.int .i64 n), .pv (.int .i64 0)], .pv (.int .i64 d)] (rvRes (u8s b) 0 (rvV (u8s b) p n d)) ∧ RvP b (parseD f d (b.drop p.toNat) n) (rvV (u8s b) p n d) := by
  obtain ⟨r, h1, v, rfl, h2⟩ := h
  have ef : (13 - d).toNat = f := by omega
  have := Classical.epsilon_spec (p := fun v => Ev C 60 [.ptr [.ptr [.pv (.sl (u8s b)), .pv (.int .i64 p), .pv (.int .i64 0)], .pv (.int .i64 n), .pv (.int .i64 0)], .pv (.int .i64 d)] (rvRes (u8s b) 0 v) ∧ RvP (ofU8s (u8s b)) (parseD (13 - d).toNat d ((ofU8s (u8s b)).drop p.toNat) n) v) ⟨v, h1, by rw [ef, ofU8s_u8s]; exact h2⟩
  have hP : RvP (ofU8s (u8s b)) (parseD (13 - d).toNat d ((ofU8s (u8s b)).drop p.toNat) n) = RvP b (parseD f d (b.drop p.toNat) n) := by rw [ef, ofU8s_u8s]
  refine ⟨this.1, ?_⟩
  rw [← hP]
  exact this.2

theorem rpt_ok' {f : Nat} (h : ∀ d : Int, d + f = 13 → 0 ≤ d → ∀ (b : List UInt8) (p n : Int), b.length ≤ 140737488355328 → (0 ≤ p ∧ p ≤ (b.length : Int)) → (0 ≤ n ∧ n ≤ 400) → ∃ r, Ev C 60 [.ptr [.ptr [.pv (.sl (u8s b)), .pv (.int .i64 p), .pv (.int .i64 0)], .pv (.int .i64 n), .pv (.int .i64 0)], .pv (.int .i64 d)] r ∧ ∃ v, r = rvRes (u8s b) 0 v ∧ RvP b (parseD f d (b.drop p.toNat) n) v) : ∀ ag al, g_rpt f ag = some al → ∀ a ∈ al, a.1 → Ev C 60 ag a.2 := by
  intro ag al hl x hx hp
  unfold g_rpt at hl
  split at hl
  · rename_i a p e n ce d
    simp only [Option.some.injEq] at hl; subst hl
    simp only [List.mem_cons, List.not_mem_nil, or_false] at hx
    rcases hx with rfl | rfl
    · obtain ⟨⟨⟨b, rfl, hb⟩, hpp, rfl, rfl, hn, hd, h0⟩, hnil⟩ := hp
      rw [u8s_len] at hpp
      have hv := (rvV_spec hd (h d hd h0 b p n hb hpp hn)).1
      have hnil : (rvV (u8s b) p n d).isNil = true := hnil
      rw [rvRes, hnil] at hv
      exact hv
    · obtain ⟨⟨⟨b, rfl, hb⟩, hpp, rfl, rfl, hn, hd, h0⟩, hnil⟩ := hp
      rw [u8s_len] at hpp
      have hv := (rvV_spec hd (h d hd h0 b p n hb hpp hn)).1
      have hnil : (rvV (u8s b) p n d).isNil = false := hnil
      rw [rvRes, hnil] at hv
      exact hv
  · exact absurd hl (by simp)

theorem rpt_specs {f : Nat} (h : ∀ ag al, g_rpt f ag = some al → ∀ a ∈ al, a.1 → Ev C 60 ag a.2) : SpecOK C (S_rpt f) := specL_ok (specs_cons rby_ok (specs_cons rte_ok (specs_cons rfl_ok (specs_cons h specs_nil))))

theorem rtree_ex : ∀ (f : Nat) (d : Int), d + f = 13 → 0 ≤ d → ∀ (b : List UInt8) (p n : Int), b.length ≤ 140737488355328 → (0 ≤ p ∧ p ≤ (b.length : Int)) → (0 ≤ n ∧ n ≤ 400) → ∃ r, Ev C 60 [.ptr [.ptr [.pv (.sl (u8s b)), .pv (.int .i64 p), .pv (.int .i64 0)], .pv (.int .i64 n), .pv (.int .i64 0)], .pv (.int .i64 d)] r ∧ ∃ v, r = rvRes (u8s b) 0 v ∧ RvP b (parseD f d (b.drop p.toNat) n) v
  | 0, d, hd, h0, b, p, n, hb, hp, hn => by
    have hS : SpecOK C (S_rpt 14) := rpt_specs (rpt_ok' fun d h1 h2 => by omega)
    exact rpt_ev (fun _ _ => .error 1) 14 d hS ⟨h0, by omega⟩ (fun h => by omega) b hb (fun h => by omega) p n hp hn
  | f + 1, d, hd, h0, b, p, n, hb, hp, hn => by
    have ih := rtree_ex f
    have hS : SpecOK C (S_rpt f) := rpt_specs (rpt_ok' ih)
    exact rpt_ev (parseD f (d + 1)) f d hS ⟨h0, by omega⟩ (fun h => ⟨by omega, rfl⟩) b hb (fun h p n hp hn => (rvV_spec (by omega) (ih (d + 1) (by omega) (by omega) b p n hb hp hn)).2) p n hp hn

end Go.Proofs.Ytmjkdghcfihfiaa.Vm
