/-
  Trees checked, in the machine.
-/
import Derived.Test.YtbnjbianobdleaaGreatSayTreeSame
import Derived.Test.YtbnjbianobdleaaGreatSayRaw
namespace Go.Proofs.YtbnjbianobdleaaGreat.Vm
open Go Go.RowKit
set_option linter.unusedVariables false
set_option linter.unusedSimpArgs false
set_option maxRecDepth 100000

/-- Is a name not behind this one? -/
def badP : Option (List UInt8) → List UInt8 → Bool
  | none, _ => false
  | some y, x => Op.bytesLess x y || x == y

/-- The error of an edge, the n-th, so deep, of this name, behind that of another one. -/
def fitV (n d : Int) (p : Option (List UInt8)) (x : List UInt8) : Int :=
  if 400 < n then 4 else if 12 < d then 11 else if 80 < x.length then 5 else if badP p x then 12 else 0

/-- The last edge's name. -/
def lastN (a : List (List PV)) : Option (List UInt8) := match a.getLast? with
  | some [.str y, .sl _] => some y
  | _ => none

def fitE (n d : Int) (x : List UInt8) (a : List (List PV)) : Int := fitV n d (lastN a) x

theorem more_w (n : Int) (Q : List TV × List TV → Prop) : (wFun C noSpec 117 [.ptr [.pv (.int .i64 n), .pv (.int .i64 400)]] Q) (H.auto) = (Q ([TV.pv (PV.bool (decide (IntKind.wrap IntKind.i64 (n + (1 : Int)) ≤ (400 : Int))))], [TV.ptr [TV.pv (PV.int IntKind.i64 (IntKind.wrap IntKind.i64 (n + (1 : Int)))), TV.pv (PV.int IntKind.i64 (400 : Int))]])) := by kernel_rfl

def g_more : List TV → Option Alts
  | [.ptr [.pv (.int .i64 n), .pv (.int .i64 m)]] => one (m = 400) ([.pv (.bool (decide (IntKind.wrap .i64 (n + 1) ≤ 400)))], [.ptr [.pv (.int .i64 (IntKind.wrap .i64 (n + 1))), .pv (.int .i64 m)]])
  | _ => none

def S_fit : Specs := specL [(117, g_more)]

theorem fit_w (n d : Int) (x : List UInt8) (a : List (List PV)) (Q : List TV × List TV → Prop) : (wFun C S_fit 102 [.ptr [.pv (.int .i64 n), .pv (.int .i64 400)], .pv (.int .i64 d), .pv (.str x), .pv (.sl a)] Q) (H.b H.auto (H.b H.auto (H.b H.auto (H.b (H.n (5 : Nat) (H.s (H.s (H.n (4 : Nat) (H.b H.auto H.auto))))) H.auto)))) = ((400 : Int) = (400 : Int) ∧ ((!decide (IntKind.wrap IntKind.i64 (n + (1 : Int)) ≤ (400 : Int))) = true → Q ([TV.pv (PV.int IntKind.i64 (4 : Int))], [TV.ptr [TV.pv (PV.int IntKind.i64 (IntKind.wrap IntKind.i64 (n + (1 : Int)))), TV.pv (PV.int IntKind.i64 (400 : Int))]])) ∧ ((!decide (IntKind.wrap IntKind.i64 (n + (1 : Int)) ≤ (400 : Int))) = false → (decide (d > (12 : Int)) = true → Q ([TV.pv (PV.int IntKind.i64 (11 : Int))], [TV.ptr [TV.pv (PV.int IntKind.i64 (IntKind.wrap IntKind.i64 (n + (1 : Int)))), TV.pv (PV.int IntKind.i64 (400 : Int))]])) ∧ (decide (d > (12 : Int)) = false → (decide ((↑(List.length x) : Int) > (80 : Int)) = true → Q ([TV.pv (PV.int IntKind.i64 (5 : Int))], [TV.ptr [TV.pv (PV.int IntKind.i64 (IntKind.wrap IntKind.i64 (n + (1 : Int)))), TV.pv (PV.int IntKind.i64 (400 : Int))]])) ∧ (decide ((↑(List.length x) : Int) > (80 : Int)) = false → (decide ((↑(List.length a) : Int) > (0 : Int)) = true → (0 : Int) ≤ IntKind.wrap IntKind.i64 ((↑(List.length a) : Int) - (1 : Int)) ∧ ∃ (s : List UInt8), ∃ (es : List (List PV)), a[Int.toNat (IntKind.wrap IntKind.i64 ((↑(List.length a) : Int) - (1 : Int)))]? = some [PV.str s, PV.sl es] ∧ ((Op.bytesLess x s || x == s) = true → Q ([TV.pv (PV.int IntKind.i64 (12 : Int))], [TV.ptr [TV.pv (PV.int IntKind.i64 (IntKind.wrap IntKind.i64 (n + (1 : Int)))), TV.pv (PV.int IntKind.i64 (400 : Int))]])) ∧ ((Op.bytesLess x s || x == s) = false → Q ([TV.pv (PV.int IntKind.i64 (0 : Int))], [TV.ptr [TV.pv (PV.int IntKind.i64 (IntKind.wrap IntKind.i64 (n + (1 : Int)))), TV.pv (PV.int IntKind.i64 (400 : Int))]]))) ∧ (decide ((↑(List.length a) : Int) > (0 : Int)) = false → Q ([TV.pv (PV.int IntKind.i64 (0 : Int))], [TV.ptr [TV.pv (PV.int IntKind.i64 (IntKind.wrap IntKind.i64 (n + (1 : Int)))), TV.pv (PV.int IntKind.i64 (400 : Int))]])))))) := by kernel_rfl

def g_fit : List TV → Option Alts
  | [.ptr [.pv (.int .i64 n), .pv (.int .i64 m)], .pv (.int .i64 d), .pv (.str x), .pv (.sl a)] => one (m = 400 ∧ (0 ≤ n ∧ n ≤ 4000000000) ∧ ∃ l : List Edge, a = l.map rowE ∧ l.length ≤ 4000000) ([.pv (.int .i64 (fitE (n + 1) d x a))], [.ptr [.pv (.int .i64 (n + 1)), .pv (.int .i64 m)]])
  | _ => none

/-- The error of a tree's edges, and how many were counted. -/
def chkF : Tr → Option (List UInt8) → Int → Int → Int × Int
  | .nil, _, _, n => (n, 0)
  | .cons x k r, p, d, n => if fitV (n + 1) d p x ≠ 0 then (n + 1, fitV (n + 1) d p x) else if (chkF k none (d + 1) (n + 1)).2 ≠ 0 then chkF k none (d + 1) (n + 1) else chkF r (some x) d (chkF k none (d + 1) (n + 1)).1

noncomputable def chkN (a : List (List PV)) (d n : Int) : Int := (chkF (unrow a) none d n).1

noncomputable def chkE (a : List (List PV)) (d n : Int) : Int := (chkF (unrow a) none d n).2

noncomputable def g_chk (N : Nat) : List TV → Option Alts
  | [.ptr [.pv (.int .i64 n), .pv (.int .i64 m)], .pv (.int .i64 d), .pv (.sl a)] => one (m = 400 ∧ (0 ≤ n ∧ n ≤ 400) ∧ (0 ≤ d ∧ d ≤ 13) ∧ ∃ t : Tr, a = t.rows ∧ t.nodes < N ∧ t.nodes ≤ 4000000) ([.pv (.int .i64 (chkE a d n))], [.ptr [.pv (.int .i64 (chkN a d n)), .pv (.int .i64 m)]])
  | _ => none

noncomputable def S_chk (N : Nat) : Specs := specL [(102, g_fit), (84, g_chk N)]

theorem chk_w (N : Nat) (n d : Int) (a : List (List PV)) (Q : List TV × List TV → Prop) : (wFun C (S_chk N) 84 [.ptr [.pv (.int .i64 n), .pv (.int .i64 400)], .pv (.int .i64 d), .pv (.sl a)] Q) (H.auto) = (LoopAt C (84 : FuncId) (CP.dn (CP.dn (CP.dn (CP.dn CP.top (1 : Nat)) (0 : Nat)) (1 : Nat)) (0 : Nat)) (St.mk [((0 : Nat), AV.addr (1 : Nat) (0 : Nat) (0 : Nat)), ((1 : Nat), AV.pv (PV.int IntKind.i64 d)), ((2 : Nat), AV.pv (PV.sl a)), ((11 : Nat), AV.pv (PV.sl a)), ((12 : Nat), AV.pv (PV.int IntKind.i64 (↑(List.length a) : Int))), ((13 : Nat), AV.pv (PV.int IntKind.i64 (0 : Int)))] [((1 : Nat), Obj.box [AV.pv (PV.int IntKind.i64 n), AV.pv (PV.int IntKind.i64 (400 : Int))])]) (exK (blockK (0 : Nat) (seqK (wAt C (S_chk N) (84 : FuncId) (99998 : Nat) (CP.dn (CP.dn CP.top (1 : Nat)) (1 : Nat))) (retK C (84 : FuncId) [TV.ptr [TV.pv (PV.int IntKind.i64 n), TV.pv (PV.int IntKind.i64 (400 : Int))], TV.pv (PV.int IntKind.i64 d), TV.pv (PV.sl a)] Q))))) := by kernel_rfl

def chk_c0 : CP := (CP.dn (CP.dn (CP.dn (CP.dn CP.top (1 : Nat)) (0 : Nat)) (1 : Nat)) (0 : Nat))

def chk_h0 (t1 : Int) (t2 : List (List PV)) (t11 : List (List PV)) (t12 : Int) (t13 : Int) (o1 : Int) (o1b : Int) : St := (St.mk [((0 : Nat), AV.addr (1 : Nat) (0 : Nat) (0 : Nat)), ((1 : Nat), AV.pv (PV.int IntKind.i64 t1)), ((2 : Nat), AV.pv (PV.sl t2)), ((11 : Nat), AV.pv (PV.sl t11)), ((12 : Nat), AV.pv (PV.int IntKind.i64 t12)), ((13 : Nat), AV.pv (PV.int IntKind.i64 t13))] [((1 : Nat), Obj.box [AV.pv (PV.int IntKind.i64 o1), AV.pv (PV.int IntKind.i64 o1b)])])

theorem chk_l0 (N : Nat) (n d : Int) (a : List (List PV)) (t1 : Int) (t2 : List (List PV)) (t11 : List (List PV)) (t12 : Int) (t13 : Int) (o1 : Int) (o1b : Int)  (J0 : St → Prop) (Q : List TV × List TV → Prop) : (wAt C (S_chk N) 84 1000 (chk_c0.dn 0) (chk_h0 t1 t2 t11 t12 t13 o1 o1b) (loopK C 84 chk_c0 J0 (exK (blockK (0 : Nat) (seqK (wAt C (S_chk N) (84 : FuncId) (99998 : Nat) (CP.dn (CP.dn CP.top (1 : Nat)) (1 : Nat))) (retK C (84 : FuncId) [TV.ptr [TV.pv (PV.int IntKind.i64 n), TV.pv (PV.int IntKind.i64 (400 : Int))], TV.pv (PV.int IntKind.i64 d), TV.pv (PV.sl a)] Q)))))) (H.b (H.s (H.s (H.s (H.s (H.b H.auto (H.b H.auto H.auto)))))) H.auto) = ((decide (t13 < t12) = true → (0 : Int) ≤ t13 ∧ ∃ (s : List UInt8), ∃ (es : List (List PV)), t11[Int.toNat t13]? = some [PV.str s, PV.sl es] ∧ rowOk (2 : Nat) t2 = true ∧ ((0 : Int) ≤ (0 : Int) ∧ (0 : Int) ≤ t13 ∧ t13 ≤ Int.ofNat (List.length t2)) ∧ (o1b = (400 : Int) ∧ ((0 : Int) ≤ o1 ∧ o1 ≤ (4000000000 : Int)) ∧ ∃ (l : List Proofs.YtbnjbianobdleaaGreat.Vm.Edge), List.take (Int.toNat t13 - (0 : Nat)) t2 = List.map rowE l ∧ List.length l ≤ (4000000 : Nat)) ∧ ((fitE (o1 + (1 : Int)) t1 s (List.take (Int.toNat t13 - (0 : Nat)) t2) != (0 : Int)) = true → ∃ (h : H), Q ([TV.pv (PV.int IntKind.i64 (fitE (o1 + (1 : Int)) t1 s (List.take (Int.toNat t13 - (0 : Nat)) t2)))], [TV.ptr [TV.pv (PV.int IntKind.i64 (o1 + (1 : Int))), TV.pv (PV.int IntKind.i64 o1b)]])) ∧ ((fitE (o1 + (1 : Int)) t1 s (List.take (Int.toNat t13 - (0 : Nat)) t2) != (0 : Int)) = false → (o1b = (400 : Int) ∧ ((0 : Int) ≤ o1 + (1 : Int) ∧ o1 + (1 : Int) ≤ (400 : Int)) ∧ ((0 : Int) ≤ IntKind.wrap IntKind.i64 (t1 + (1 : Int)) ∧ IntKind.wrap IntKind.i64 (t1 + (1 : Int)) ≤ (13 : Int)) ∧ ∃ (t : Tr), es = Tr.rows t ∧ Tr.nodes t < N ∧ Tr.nodes t ≤ (4000000 : Nat)) ∧ ((chkE es (IntKind.wrap IntKind.i64 (t1 + (1 : Int))) (o1 + (1 : Int)) != (0 : Int)) = true → ∃ (h : H), Q ([TV.pv (PV.int IntKind.i64 (chkE es (IntKind.wrap IntKind.i64 (t1 + (1 : Int))) (o1 + (1 : Int))))], [TV.ptr [TV.pv (PV.int IntKind.i64 (chkN es (IntKind.wrap IntKind.i64 (t1 + (1 : Int))) (o1 + (1 : Int)))), TV.pv (PV.int IntKind.i64 o1b)]])) ∧ ((chkE es (IntKind.wrap IntKind.i64 (t1 + (1 : Int))) (o1 + (1 : Int)) != (0 : Int)) = false → J0 (St.mk [((0 : Nat), AV.addr (1 : Nat) (0 : Nat) (0 : Nat)), ((1 : Nat), AV.pv (PV.int IntKind.i64 t1)), ((2 : Nat), AV.pv (PV.sl t2)), ((11 : Nat), AV.pv (PV.sl t11)), ((12 : Nat), AV.pv (PV.int IntKind.i64 t12)), ((13 : Nat), AV.pv (PV.int IntKind.i64 (IntKind.wrap IntKind.i64 (t13 + (1 : Int)))))] [((1 : Nat), Obj.box [AV.pv (PV.int IntKind.i64 (chkN es (IntKind.wrap IntKind.i64 (t1 + (1 : Int))) (o1 + (1 : Int)))), AV.pv (PV.int IntKind.i64 o1b)])])))) ∧ (decide (t13 < t12) = false → ∃ (h : H), Q ([TV.pv (PV.int IntKind.i64 (0 : Int))], [TV.ptr [TV.pv (PV.int IntKind.i64 o1), TV.pv (PV.int IntKind.i64 o1b)]]))) := by kernel_rfl

noncomputable def S_chkA : Specs := specL [(84, g_chk 4000000)]

theorem tck_w (a : List (List PV)) (Q : List TV × List TV → Prop) : (wFun C S_chkA 58 [.pv (.sl a)] Q) (H.auto) = (((400 : Int) = (400 : Int) ∧ ((0 : Int) ≤ (0 : Int) ∧ (0 : Int) ≤ (400 : Int)) ∧ ((0 : Int) ≤ (1 : Int) ∧ (1 : Int) ≤ (13 : Int)) ∧ ∃ (t : Tr), a = Tr.rows t ∧ Tr.nodes t < (4000000 : Nat) ∧ Tr.nodes t ≤ (4000000 : Nat)) ∧ Q ([TV.pv (PV.int IntKind.i64 (chkE a (1 : Int) (0 : Int)))], [])) := by kernel_rfl

noncomputable def g_walk (N : Nat) : List TV → Option Alts
  | [.ptr [.pv (.int .i64 n), .pv (.int .i64 e)], .pv (.sl a), .pv (.int .i64 d)] => one (e = 0 ∧ (0 ≤ n ∧ n ≤ 400) ∧ (0 ≤ d ∧ d ≤ 13) ∧ ∃ t : Tr, a = t.rows ∧ t.nodes < N ∧ t.nodes ≤ 4000000) ([], [.ptr [.pv (.int .i64 (chkN a d n)), .pv (.int .i64 (chkE a d n))]])
  | _ => none

noncomputable def S_walk (N : Nat) : Specs := specL [(98, g_walk N)]

theorem wlk_w (N : Nat) (n d : Int) (a : List (List PV)) (Q : List TV × List TV → Prop) : (wFun C (S_walk N) 98 [.ptr [.pv (.int .i64 n), .pv (.int .i64 0)], .pv (.sl a), .pv (.int .i64 d)] Q) (H.auto) = (LoopAt C (98 : FuncId) (CP.dn (CP.dn CP.top (1 : Nat)) (0 : Nat)) (St.mk [((0 : Nat), AV.addr (1 : Nat) (0 : Nat) (0 : Nat)), ((1 : Nat), AV.pv (PV.sl a)), ((2 : Nat), AV.pv (PV.int IntKind.i64 d)), ((6 : Nat), AV.pv (PV.int IntKind.i64 (0 : Int)))] [((1 : Nat), Obj.box [AV.pv (PV.int IntKind.i64 n), AV.pv (PV.int IntKind.i64 (0 : Int))])]) (exK (blockK (0 : Nat) (retK C (98 : FuncId) [TV.ptr [TV.pv (PV.int IntKind.i64 n), TV.pv (PV.int IntKind.i64 (0 : Int))], TV.pv (PV.sl a), TV.pv (PV.int IntKind.i64 d)] Q)))) := by kernel_rfl

def wlk_c0 : CP := (CP.dn (CP.dn CP.top (1 : Nat)) (0 : Nat))

def wlk_h0 (t1 : List (List PV)) (t2 : Int) (t6 : Int) (o1 : Int) (o1b : Int) : St := (St.mk [((0 : Nat), AV.addr (1 : Nat) (0 : Nat) (0 : Nat)), ((1 : Nat), AV.pv (PV.sl t1)), ((2 : Nat), AV.pv (PV.int IntKind.i64 t2)), ((6 : Nat), AV.pv (PV.int IntKind.i64 t6))] [((1 : Nat), Obj.box [AV.pv (PV.int IntKind.i64 o1), AV.pv (PV.int IntKind.i64 o1b)])])

theorem wlk_l0 (N : Nat) (n d : Int) (a : List (List PV)) (t1 : List (List PV)) (t2 : Int) (t6 : Int) (o1 : Int) (o1b : Int)  (J0 : St → Prop) (Q : List TV × List TV → Prop) : (wAt C (S_walk N) 98 1000 (wlk_c0.dn 0) (wlk_h0 t1 t2 t6 o1 o1b) (loopK C 98 wlk_c0 J0 (exK (blockK (0 : Nat) (retK C (98 : FuncId) [TV.ptr [TV.pv (PV.int IntKind.i64 n), TV.pv (PV.int IntKind.i64 (0 : Int))], TV.pv (PV.sl a), TV.pv (PV.int IntKind.i64 d)] Q))))) (H.b (H.n (5 : Nat) (H.b (H.b H.auto (H.b H.auto (H.s (H.s (H.b H.auto (H.b (H.n (2 : Nat) (H.s (H.s (H.n (6 : Nat) (H.s (H.s (H.n (4 : Nat) (H.b H.auto (H.s (H.s H.auto)))))))))) (H.n (13 : Nat) (H.s (H.s H.auto))))))))) H.auto)) H.auto) = ((decide (t6 < (↑(List.length t1) : Int)) = true → ((o1b == (0 : Int)) = true → (decide (IntKind.wrap IntKind.i64 (o1 + (1 : Int)) > (400 : Int)) = true → J0 (St.mk [((0 : Nat), AV.addr (1 : Nat) (0 : Nat) (0 : Nat)), ((1 : Nat), AV.pv (PV.sl t1)), ((2 : Nat), AV.pv (PV.int IntKind.i64 t2)), ((6 : Nat), AV.pv (PV.int IntKind.i64 (IntKind.wrap IntKind.i64 (t6 + (1 : Int)))))] [((1 : Nat), Obj.box [AV.pv (PV.int IntKind.i64 (IntKind.wrap IntKind.i64 (o1 + (1 : Int)))), AV.pv (PV.int IntKind.i64 (4 : Int))])])) ∧ (decide (IntKind.wrap IntKind.i64 (o1 + (1 : Int)) > (400 : Int)) = false → (decide (t2 > (12 : Int)) = true → J0 (St.mk [((0 : Nat), AV.addr (1 : Nat) (0 : Nat) (0 : Nat)), ((1 : Nat), AV.pv (PV.sl t1)), ((2 : Nat), AV.pv (PV.int IntKind.i64 t2)), ((6 : Nat), AV.pv (PV.int IntKind.i64 (IntKind.wrap IntKind.i64 (t6 + (1 : Int)))))] [((1 : Nat), Obj.box [AV.pv (PV.int IntKind.i64 (IntKind.wrap IntKind.i64 (o1 + (1 : Int)))), AV.pv (PV.int IntKind.i64 (11 : Int))])])) ∧ (decide (t2 > (12 : Int)) = false → (0 : Int) ≤ t6 ∧ ∃ (s : List UInt8), ∃ (es : List (List PV)), t1[Int.toNat t6]? = some [PV.str s, PV.sl es] ∧ (decide ((↑(List.length s) : Int) > (80 : Int)) = true → J0 (St.mk [((0 : Nat), AV.addr (1 : Nat) (0 : Nat) (0 : Nat)), ((1 : Nat), AV.pv (PV.sl t1)), ((2 : Nat), AV.pv (PV.int IntKind.i64 t2)), ((6 : Nat), AV.pv (PV.int IntKind.i64 (IntKind.wrap IntKind.i64 (t6 + (1 : Int)))))] [((1 : Nat), Obj.box [AV.pv (PV.int IntKind.i64 (IntKind.wrap IntKind.i64 (o1 + (1 : Int)))), AV.pv (PV.int IntKind.i64 (5 : Int))])])) ∧ (decide ((↑(List.length s) : Int) > (80 : Int)) = false → (decide (t6 > (0 : Int)) = true → (0 : Int) ≤ t6 ∧ ∃ (s : List UInt8), ∃ (es : List (List PV)), t1[Int.toNat t6]? = some [PV.str s, PV.sl es] ∧ (0 : Int) ≤ IntKind.wrap IntKind.i64 (t6 - (1 : Int)) ∧ ∃ (s_1 : List UInt8), ∃ (es : List (List PV)), t1[Int.toNat (IntKind.wrap IntKind.i64 (t6 - (1 : Int)))]? = some [PV.str s_1, PV.sl es] ∧ ((Op.bytesLess s s_1 || s == s_1) = true → J0 (St.mk [((0 : Nat), AV.addr (1 : Nat) (0 : Nat) (0 : Nat)), ((1 : Nat), AV.pv (PV.sl t1)), ((2 : Nat), AV.pv (PV.int IntKind.i64 t2)), ((6 : Nat), AV.pv (PV.int IntKind.i64 (IntKind.wrap IntKind.i64 (t6 + (1 : Int)))))] [((1 : Nat), Obj.box [AV.pv (PV.int IntKind.i64 (IntKind.wrap IntKind.i64 (o1 + (1 : Int)))), AV.pv (PV.int IntKind.i64 (12 : Int))])])) ∧ ((Op.bytesLess s s_1 || s == s_1) = false → (0 : Int) ≤ t6 ∧ ∃ (s : List UInt8), ∃ (es : List (List PV)), t1[Int.toNat t6]? = some [PV.str s, PV.sl es] ∧ (o1b = (0 : Int) ∧ ((0 : Int) ≤ IntKind.wrap IntKind.i64 (o1 + (1 : Int)) ∧ IntKind.wrap IntKind.i64 (o1 + (1 : Int)) ≤ (400 : Int)) ∧ ((0 : Int) ≤ IntKind.wrap IntKind.i64 (t2 + (1 : Int)) ∧ IntKind.wrap IntKind.i64 (t2 + (1 : Int)) ≤ (13 : Int)) ∧ ∃ (t : Tr), es = Tr.rows t ∧ Tr.nodes t < N ∧ Tr.nodes t ≤ (4000000 : Nat)) ∧ J0 (St.mk [((0 : Nat), AV.addr (1 : Nat) (0 : Nat) (0 : Nat)), ((1 : Nat), AV.pv (PV.sl t1)), ((2 : Nat), AV.pv (PV.int IntKind.i64 t2)), ((6 : Nat), AV.pv (PV.int IntKind.i64 (IntKind.wrap IntKind.i64 (t6 + (1 : Int)))))] [((1 : Nat), Obj.box [AV.pv (PV.int IntKind.i64 (chkN es (IntKind.wrap IntKind.i64 (t2 + (1 : Int))) (IntKind.wrap IntKind.i64 (o1 + (1 : Int))))), AV.pv (PV.int IntKind.i64 (chkE es (IntKind.wrap IntKind.i64 (t2 + (1 : Int))) (IntKind.wrap IntKind.i64 (o1 + (1 : Int)))))])]))) ∧ (decide (t6 > (0 : Int)) = false → (0 : Int) ≤ t6 ∧ ∃ (s : List UInt8), ∃ (es : List (List PV)), t1[Int.toNat t6]? = some [PV.str s, PV.sl es] ∧ (o1b = (0 : Int) ∧ ((0 : Int) ≤ IntKind.wrap IntKind.i64 (o1 + (1 : Int)) ∧ IntKind.wrap IntKind.i64 (o1 + (1 : Int)) ≤ (400 : Int)) ∧ ((0 : Int) ≤ IntKind.wrap IntKind.i64 (t2 + (1 : Int)) ∧ IntKind.wrap IntKind.i64 (t2 + (1 : Int)) ≤ (13 : Int)) ∧ ∃ (t : Tr), es = Tr.rows t ∧ Tr.nodes t < N ∧ Tr.nodes t ≤ (4000000 : Nat)) ∧ J0 (St.mk [((0 : Nat), AV.addr (1 : Nat) (0 : Nat) (0 : Nat)), ((1 : Nat), AV.pv (PV.sl t1)), ((2 : Nat), AV.pv (PV.int IntKind.i64 t2)), ((6 : Nat), AV.pv (PV.int IntKind.i64 (IntKind.wrap IntKind.i64 (t6 + (1 : Int)))))] [((1 : Nat), Obj.box [AV.pv (PV.int IntKind.i64 (chkN es (IntKind.wrap IntKind.i64 (t2 + (1 : Int))) (IntKind.wrap IntKind.i64 (o1 + (1 : Int))))), AV.pv (PV.int IntKind.i64 (chkE es (IntKind.wrap IntKind.i64 (t2 + (1 : Int))) (IntKind.wrap IntKind.i64 (o1 + (1 : Int)))))])])))))) ∧ ((o1b == (0 : Int)) = false → ∃ (h : H), Q ([], [TV.ptr [TV.pv (PV.int IntKind.i64 o1), TV.pv (PV.int IntKind.i64 o1b)]]))) ∧ (decide (t6 < (↑(List.length t1) : Int)) = false → ∃ (h : H), Q ([], [TV.ptr [TV.pv (PV.int IntKind.i64 o1), TV.pv (PV.int IntKind.i64 o1b)]]))) := by kernel_rfl

noncomputable def S_walkA : Specs := specL [(98, g_walk 4000000)]

theorem rck_w (a : List (List PV)) (Q : List TV × List TV → Prop) : (wFun C S_walkA 75 [.pv (.sl a)] Q) (H.auto) = (((0 : Int) = (0 : Int) ∧ ((0 : Int) ≤ (0 : Int) ∧ (0 : Int) ≤ (400 : Int)) ∧ ((0 : Int) ≤ (1 : Int) ∧ (1 : Int) ≤ (13 : Int)) ∧ ∃ (t : Tr), a = Tr.rows t ∧ Tr.nodes t < (4000000 : Nat) ∧ Tr.nodes t ≤ (4000000 : Nat)) ∧ Q ([TV.pv (PV.int IntKind.i64 (chkE a (1 : Int) (0 : Int)))], [])) := by kernel_rfl

theorem lastN_map (l : List Edge) : lastN (l.map rowE) = l.getLast?.map Prod.fst := by
  unfold lastN
  rw [List.getLast?_map]
  cases l.getLast? with
  | none => rfl
  | some e => rfl

theorem fitV_zero {n d : Int} {p : Option (List UInt8)} {x : List UInt8} (h : fitV n d p x = 0) : n ≤ 400 ∧ d ≤ 12 ∧ x.length ≤ 80 := by
  unfold fitV at h
  split at h
  · exact absurd h (by decide)
  · split at h
    · exact absurd h (by decide)
    · split at h
      · exact absurd h (by decide)
      · omega

theorem chkF_count : ∀ (t : Tr) (p : Option (List UInt8)) (d n : Int), n ≤ 400 → n ≤ (chkF t p d n).1 ∧ (chkF t p d n).1 ≤ 401 ∧ ((chkF t p d n).2 = 0 → (chkF t p d n).1 ≤ 400)
  | .nil, p, d, n, h => by simp only [chkF]; omega
  | .cons x k r, p, d, n, h => by
    simp only [chkF]
    split
    · simp only; omega
    · rename_i h1
      have hz := fitV_zero (Decidable.not_not.1 h1)
      have hk := chkF_count k none (d + 1) (n + 1) hz.1
      split
      · omega
      · rename_i h2
        have h3 := hk.2.2 (Decidable.not_not.1 h2)
        have hr := chkF_count r (some x) d (chkF k none (d + 1) (n + 1)).1 h3
        omega

def lastP (l : List Edge) (i : Nat) : Option (List UInt8) := (l.take i).getLast?.map Prod.fst

theorem lastP_succ {l : List Edge} {i : Nat} (h : i < l.length) : lastP l (i + 1) = some l[i].1 := by
  rw [lastP, List.take_succ_eq_append_getElem h, List.getLast?_concat]; rfl

theorem chk_step {l : List Edge} {i : Nat} (h : i < l.length) (p : Option (List UInt8)) (d c : Int) : chkF (Tr.of (l.drop i)) p d c = if fitV (c + 1) d p l[i].1 ≠ 0 then (c + 1, fitV (c + 1) d p l[i].1) else if (chkF l[i].2 none (d + 1) (c + 1)).2 ≠ 0 then chkF l[i].2 none (d + 1) (c + 1) else chkF (Tr.of (l.drop (i + 1))) (some l[i].1) d (chkF l[i].2 none (d + 1) (c + 1)).1 := by
  rw [List.drop_eq_getElem_cons h]
  rfl

theorem fit_ev (n d : Int) (x : List UInt8) (l : List Edge) (hn : 0 ≤ n ∧ n ≤ 4000000000) (hl : l.length ≤ 4000000) : Ev C 102 [.ptr [.pv (.int .i64 n), .pv (.int .i64 400)], .pv (.int .i64 d), .pv (.str x), .pv (.sl (l.map rowE))] ([.pv (.int .i64 (fitE (n + 1) d x (l.map rowE)))], [.ptr [.pv (.int .i64 (n + 1)), .pv (.int .i64 400)]]) := by
  have hS : SpecOK C S_fit := specL_ok (specs_cons (by
    intro ag al hl x hx hp
    unfold g_more at hl
    split at hl
    · have e := one_mem hl hx; subst e
      have hp : _ = (400 : Int) := hp
      subst hp
      exact ev_w noSpec_ok (more_w _ _) rfl
    · exact absurd hl (by simp)) specs_nil)
  have w1 : IntKind.wrap .i64 (n + 1) = n + 1 := w64 (by omega)
  have hlen : (l.map rowE).length = l.length := List.length_map _
  rw [fitE, lastN_map]
  refine ev_w hS (fit_w n d x (l.map rowE) _) ?_
  rw [w1]
  refine ⟨rfl, fun h1 => ?_, fun h1 => ⟨fun h2 => ?_, fun h2 => ⟨fun h3 => ?_, fun h3 => ⟨fun h4 => ?_, fun h4 => ?_⟩⟩⟩⟩
  · have : 400 < n + 1 := by simpa using h1
    rw [fitV, if_pos this]
  all_goals have k1 : ¬ 400 < n + 1 := by simpa using h1
  · have k2 : 12 < d := by simpa using h2
    rw [fitV, if_neg k1, if_pos k2]
  all_goals have k2 : ¬ 12 < d := by simpa using h2
  · simp only [gt_iff_lt, decide_eq_true_eq] at h3
    rw [fitV, if_neg k1, if_neg k2, if_pos (by omega)]
  all_goals
    simp only [gt_iff_lt, decide_eq_false_iff_not] at h3
    have k3 : ¬ 80 < x.length := by omega
  · simp only [gt_iff_lt, decide_eq_true_eq] at h4
    have hpos : 0 < l.length := by omega
    have w2 : IntKind.wrap .i64 (((l.map rowE).length : Int) - 1) = ((l.length - 1 : Nat) : Int) := by rw [w64 (by omega)]; omega
    have hi : l.length - 1 < l.length := by omega
    have eg : l.getLast? = some l[l.length - 1] := by rw [List.getLast?_eq_getElem?, List.getElem?_eq_getElem hi]
    rw [w2, eg]
    refine ⟨by omega, l[l.length - 1].1, l[l.length - 1].2.rows, by rw [Int.toNat_natCast, List.getElem?_map, List.getElem?_eq_getElem hi]; rfl, fun h5 => ?_, fun h5 => ?_⟩
    · have eb : badP (Option.map Prod.fst (some l[l.length - 1])) x = (Op.bytesLess x l[l.length - 1].1 || x == l[l.length - 1].1) := rfl
      rw [fitV, if_neg k1, if_neg k2, if_neg k3, eb, if_pos h5]
    · have eb : badP (Option.map Prod.fst (some l[l.length - 1])) x = (Op.bytesLess x l[l.length - 1].1 || x == l[l.length - 1].1) := rfl
      rw [fitV, if_neg k1, if_neg k2, if_neg k3, eb, if_neg (by rw [h5]; simp)]
  · simp only [gt_iff_lt, decide_eq_false_iff_not] at h4
    have : l = [] := List.eq_nil_of_length_eq_zero (by omega)
    subst this
    rw [fitV, if_neg k1, if_neg k2, if_neg k3]; rfl

theorem fit_ok : ∀ ag al, g_fit ag = some al → ∀ a ∈ al, a.1 → Ev C 102 ag a.2 := by
  intro ag al hl x hx hp
  unfold g_fit at hl
  split at hl
  · have e := one_mem hl hx; subst e
    obtain ⟨rfl, h1, l, rfl, h2⟩ := hp
    exact fit_ev _ _ _ _ h1 h2
  · exact absurd hl (by simp)

theorem chkN_rows (t : Tr) (d n : Int) : chkN t.rows d n = (chkF t none d n).1 := by rw [chkN, unrow_rows]
theorem chkE_rows (t : Tr) (d n : Int) : chkE t.rows d n = (chkF t none d n).2 := by rw [chkE, unrow_rows]

theorem rows_take (t : Tr) (i : Nat) : t.rows.take i = (t.list.take i).map rowE := by rw [rows_list, List.map_take]

theorem chk_ev : ∀ (N : Nat) (t : Tr), t.nodes < N → t.nodes ≤ 4000000 → ∀ n d : Int, (0 ≤ n ∧ n ≤ 400) → (0 ≤ d ∧ d ≤ 13) → Ev C 84 [.ptr [.pv (.int .i64 n), .pv (.int .i64 400)], .pv (.int .i64 d), .pv (.sl t.rows)] ([.pv (.int .i64 (chkF t none d n).2)], [.ptr [.pv (.int .i64 (chkF t none d n).1), .pv (.int .i64 400)]])
  | 0, t, h, _, _, _, _, _ => by omega
  | N + 1, t, h, hb, n, d, hn, hd => by
    have hS : SpecOK C (S_chk N) := specL_ok (specs_cons fit_ok (specs_cons (by
      intro ag al hl x hx hp
      unfold g_chk at hl
      split at hl
      · have e := one_mem hl hx; subst e
        obtain ⟨rfl, h1, h2, t, rfl, h3, h4⟩ := hp
        rw [chkN_rows, chkE_rows]
        exact chk_ev N t h3 h4 _ _ h1 h2
      · exact absurd hl (by simp)) specs_nil))
    have hlt := rows_len t
    have hnl := list_le_nodes t
    refine ev_w hS (chk_w N n d t.rows _) ?_
    refine loop_rule hS (by kernel_rfl) 1000 (fun k st => ∃ (i : Nat) (c : Int), st = chk_h0 d t.rows t.rows t.list.length i c 400 ∧ i ≤ t.list.length ∧ (0 ≤ c ∧ c ≤ 400) ∧ chkF t none d n = chkF (Tr.of (t.list.drop i)) (lastP t.list i) d c ∧ k = t.list.length - i) ?_ (n := t.list.length) ⟨0, n, by rw [hlt]; rfl, by omega, hn, by rw [List.drop_zero, of_list]; rfl, rfl⟩
    rintro k st ⟨i, c, rfl, hi, hc, he, rfl⟩
    refine ex_w (chk_l0 _ _ _ _ _ _ _ _ _ _ _ _ _) ⟨fun g => ?_, fun g => ?_⟩
    · simp only [decide_eq_true_eq] at g
      have hi' : i < t.list.length := by omega
      have w1 := w64s (i := i) (by omega)
      have w2 : IntKind.wrap .i64 (d + 1) = d + 1 := w64 (by omega)
      have hk := nodes_lt (List.getElem_mem hi')
      rw [chk_step hi'] at he
      have ef : fitE (c + 1) d t.list[i].1 (List.take (Int.toNat (i : Int) - 0) t.rows) = fitV (c + 1) d (lastP t.list i) t.list[i].1 := by
        rw [Int.toNat_natCast, Nat.sub_zero, rows_take, fitE, lastN_map]; rfl
      refine ⟨by omega, t.list[i].1, t.list[i].2.rows, row_get t hi', by rw [rows_list]; exact rowOk_edges _, ⟨by omega, by omega, by simp only [Int.ofNat_eq_natCast]; omega⟩, ⟨rfl, by omega, t.list.take i, by rw [Int.toNat_natCast, Nat.sub_zero, rows_take], by rw [List.length_take]; omega⟩, ?_⟩
      rw [ef, w2, chkE_rows, chkN_rows]
      refine ⟨fun g2 => ⟨.auto, ?_⟩, fun g2 => ?_⟩
      · have g2 := bne_iff_ne.1 g2
        rw [he, if_pos g2]
      · have g2 : fitV (c + 1) d (lastP t.list i) t.list[i].1 = 0 := by simpa using g2
        have hz := fitV_zero g2
        rw [if_neg (by simpa using g2)] at he
        refine ⟨⟨rfl, ⟨by omega, by omega⟩, ⟨by omega, by omega⟩, t.list[i].2, rfl, by omega, by omega⟩, fun g3 => ⟨.auto, ?_⟩, fun g3 => ?_⟩
        · have g3 := bne_iff_ne.1 g3
          rw [he, if_pos g3]
        · have g3 : (chkF t.list[i].2 none (d + 1) (c + 1)).2 = 0 := by simpa using g3
          have hcnt := chkF_count t.list[i].2 none (d + 1) (c + 1) hz.1
          rw [if_neg (by simpa using g3)] at he
          rw [w1]
          exact ⟨t.list.length - (i + 1), by omega, i + 1, _, rfl, by omega, ⟨by omega, hcnt.2.2 g3⟩, by rw [lastP_succ hi']; exact he, rfl⟩
    · simp only [decide_eq_false_iff_not] at g
      have : i = t.list.length := by omega
      subst this
      rw [List.drop_length] at he
      refine ⟨.auto, ?_⟩
      rw [he]; rfl

theorem wlk_ev : ∀ (N : Nat) (t : Tr), t.nodes < N → t.nodes ≤ 4000000 → ∀ n d : Int, (0 ≤ n ∧ n ≤ 400) → (0 ≤ d ∧ d ≤ 13) → Ev C 98 [.ptr [.pv (.int .i64 n), .pv (.int .i64 0)], .pv (.sl t.rows), .pv (.int .i64 d)] ([], [.ptr [.pv (.int .i64 (chkF t none d n).1), .pv (.int .i64 (chkF t none d n).2)]])
  | 0, t, h, _, _, _, _, _ => by omega
  | N + 1, t, h, hb, n, d, hn, hd => by
    have hS : SpecOK C (S_walk N) := specL_ok (specs_cons (by
      intro ag al hl x hx hp
      unfold g_walk at hl
      split at hl
      · have e := one_mem hl hx; subst e
        obtain ⟨rfl, h1, h2, t, rfl, h3, h4⟩ := hp
        rw [chkN_rows, chkE_rows]
        exact wlk_ev N t h3 h4 _ _ h1 h2
      · exact absurd hl (by simp)) specs_nil)
    have hlt := rows_len t
    have hnl := list_le_nodes t
    refine ev_w hS (wlk_w N n d t.rows _) ?_
    refine loop_rule hS (by kernel_rfl) 1000 (fun k st => ∃ (i : Nat) (c e : Int), st = wlk_h0 t.rows d i c e ∧ i ≤ t.list.length ∧ (0 ≤ c ∧ c ≤ 401) ∧ ((e = 0 ∧ c ≤ 400 ∧ chkF t none d n = chkF (Tr.of (t.list.drop i)) (lastP t.list i) d c) ∨ (e ≠ 0 ∧ chkF t none d n = (c, e))) ∧ k = t.list.length - i) ?_ (n := t.list.length) ⟨0, n, 0, rfl, by omega, by omega, .inl ⟨rfl, by omega, by rw [List.drop_zero, of_list]; rfl⟩, rfl⟩
    rintro k st ⟨i, c, e, rfl, hi, hc, he, rfl⟩
    refine ex_w (wlk_l0 _ _ _ _ _ _ _ _ _ _ _) ⟨fun g => ⟨fun g1 => ?_, fun g1 => ?_⟩, fun g => ?_⟩
    · simp only [decide_eq_true_eq] at g
      have g1 := beq_iff_eq.1 g1
      subst g1
      obtain ⟨hc4, he⟩ : c ≤ 400 ∧ chkF t none d n = chkF (Tr.of (t.list.drop i)) (lastP t.list i) d c := by
        rcases he with ⟨_, hc4, he⟩ | ⟨hne, _⟩
        · exact ⟨hc4, he⟩
        · exact absurd rfl hne
      have hi' : i < t.list.length := by omega
      have w1 := w64s (i := i) (by omega)
      have w2 : IntKind.wrap .i64 (d + 1) = d + 1 := w64 (by omega)
      have w3 : IntKind.wrap .i64 (c + 1) = c + 1 := w64 (by omega)
      have hk := nodes_lt (List.getElem_mem hi')
      rw [chk_step hi'] at he
      have bad : ∀ v : Int, fitV (c + 1) d (lastP t.list i) t.list[i].1 = v → v ≠ 0 → ∃ m, m < t.list.length - i ∧ ∃ (i' : Nat) (c' e' : Int), wlk_h0 t.rows d ((i + 1 : Nat) : Int) (c + 1) v = wlk_h0 t.rows d i' c' e' ∧ i' ≤ t.list.length ∧ (0 ≤ c' ∧ c' ≤ 401) ∧ ((e' = 0 ∧ c' ≤ 400 ∧ chkF t none d n = chkF (Tr.of (t.list.drop i')) (lastP t.list i') d c') ∨ (e' ≠ 0 ∧ chkF t none d n = (c', e'))) ∧ m = t.list.length - i' := by
        intro v hv hv0
        rw [hv, if_pos hv0] at he
        exact ⟨t.list.length - (i + 1), by omega, i + 1, c + 1, v, rfl, by omega, by omega, .inr ⟨hv0, he⟩, rfl⟩
      have good' : fitV (c + 1) d (lastP t.list i) t.list[i].1 = 0 → (∃ (s : List UInt8) (es : List (List PV)), t.rows[Int.toNat (i : Int)]? = some [PV.str s, PV.sl es] ∧ (True ∧ (0 ≤ c + 1 ∧ c + 1 ≤ 400) ∧ (0 ≤ d + 1 ∧ d + 1 ≤ 13) ∧ ∃ u : Tr, es = u.rows ∧ u.nodes < N ∧ u.nodes ≤ 4000000) ∧ ∃ m, m < t.list.length - i ∧ ∃ (i' : Nat) (c' e' : Int), wlk_h0 t.rows d ((i + 1 : Nat) : Int) (chkN es (d + 1) (c + 1)) (chkE es (d + 1) (c + 1)) = wlk_h0 t.rows d i' c' e' ∧ i' ≤ t.list.length ∧ (0 ≤ c' ∧ c' ≤ 401) ∧ ((e' = 0 ∧ c' ≤ 400 ∧ chkF t none d n = chkF (Tr.of (t.list.drop i')) (lastP t.list i') d c') ∨ (e' ≠ 0 ∧ chkF t none d n = (c', e'))) ∧ m = t.list.length - i') := by
        intro hz0
        have hz := fitV_zero hz0
        rw [if_neg (by simpa using hz0)] at he
        refine ⟨t.list[i].1, t.list[i].2.rows, row_get t hi', ⟨trivial, ⟨by omega, by omega⟩, ⟨by omega, by omega⟩, t.list[i].2, rfl, by omega, by omega⟩, ?_⟩
        rw [chkN_rows, chkE_rows]
        have hcnt := chkF_count t.list[i].2 none (d + 1) (c + 1) hz.1
        refine ⟨t.list.length - (i + 1), by omega, i + 1, _, _, rfl, by omega, ⟨by omega, by omega⟩, ?_, rfl⟩
        by_cases g3 : (chkF t.list[i].2 none (d + 1) (c + 1)).2 = 0
        · rw [if_neg (by simpa using g3)] at he
          exact .inl ⟨g3, hcnt.2.2 g3, by rw [lastP_succ hi']; exact he⟩
        · rw [if_pos g3] at he
          exact .inr ⟨g3, he⟩
      simp only [w1, w2, w3]
      refine ⟨fun g2 => ?_, fun g2 => ⟨fun g3 => ?_, fun g3 => ?_⟩⟩
      · exact bad 4 (by rw [fitV, if_pos (by simpa using g2)]) (by decide)
      all_goals have k1 : ¬ 400 < c + 1 := by simpa using g2
      · exact bad 11 (by rw [fitV, if_neg k1, if_pos (by simpa using g3)]) (by decide)
      have k2 : ¬ 12 < d := by simpa using g3
      refine ⟨by omega, _, _, row_get t hi', fun g4 => ?_, fun g4 => ?_⟩
      · simp only [gt_iff_lt, decide_eq_true_eq] at g4
        exact bad 5 (by rw [fitV, if_neg k1, if_neg k2, if_pos (by omega)]) (by decide)
      simp only [gt_iff_lt, decide_eq_false_iff_not] at g4
      have k3 : ¬ 80 < t.list[i].1.length := by omega
      refine ⟨fun g5 => ?_, fun g5 => ?_⟩
      · simp only [gt_iff_lt, decide_eq_true_eq] at g5
        obtain ⟨j, rfl⟩ : ∃ j, i = j + 1 := ⟨i - 1, by omega⟩
        have hj : j < t.list.length := by omega
        have w4 : IntKind.wrap .i64 (((j + 1 : Nat) : Int) - 1) = ((j : Nat) : Int) := by rw [w64 (by omega)]; omega
        rw [w4]
        have hl := lastP_succ hj
        refine ⟨by omega, _, _, row_get t hi', by omega, _, _, row_get t hj, fun g6 => ?_, fun g6 => ?_⟩
        · have eb : badP (some t.list[j].1) t.list[j + 1].1 = (Op.bytesLess t.list[j + 1].1 t.list[j].1 || t.list[j + 1].1 == t.list[j].1) := rfl
          exact bad 12 (by rw [fitV, if_neg k1, if_neg k2, if_neg k3, hl, eb, if_pos g6]) (by decide)
        · have eb : badP (some t.list[j].1) t.list[j + 1].1 = (Op.bytesLess t.list[j + 1].1 t.list[j].1 || t.list[j + 1].1 == t.list[j].1) := rfl
          exact ⟨by omega, good' (by rw [fitV, if_neg k1, if_neg k2, if_neg k3, hl, eb, if_neg (by rw [g6]; simp)])⟩
      · simp only [gt_iff_lt, decide_eq_false_iff_not] at g5
        have : i = 0 := by omega
        subst this
        exact ⟨by omega, good' (by rw [fitV, if_neg k1, if_neg k2, if_neg k3]; rfl)⟩
    · have g1 : e ≠ 0 := by simpa using g1
      rcases he with ⟨h0, _⟩ | ⟨_, he⟩
      · exact absurd h0 g1
      · exact ⟨.auto, by rw [he]⟩
    · simp only [decide_eq_false_iff_not] at g
      have : i = t.list.length := by omega
      subst this
      refine ⟨.auto, ?_⟩
      rcases he with ⟨rfl, _, he⟩ | ⟨_, he⟩
      · rw [List.drop_length] at he; rw [he]; rfl
      · rw [he]

theorem chkA_ok {N : Nat} : ∀ ag al, g_chk N ag = some al → ∀ a ∈ al, a.1 → Ev C 84 ag a.2 := by
  intro ag al hl x hx hp
  unfold g_chk at hl
  split at hl
  · have e := one_mem hl hx; subst e
    obtain ⟨rfl, h1, h2, t, rfl, h3, h4⟩ := hp
    rw [chkN_rows, chkE_rows]
    exact chk_ev N t h3 h4 _ _ h1 h2
  · exact absurd hl (by simp)

theorem wlkA_ok {N : Nat} : ∀ ag al, g_walk N ag = some al → ∀ a ∈ al, a.1 → Ev C 98 ag a.2 := by
  intro ag al hl x hx hp
  unfold g_walk at hl
  split at hl
  · have e := one_mem hl hx; subst e
    obtain ⟨rfl, h1, h2, t, rfl, h3, h4⟩ := hp
    rw [chkN_rows, chkE_rows]
    exact wlk_ev N t h3 h4 _ _ h1 h2
  · exact absurd hl (by simp)

noncomputable def g_check : List TV → Option Alts
  | [.pv (.sl a)] => one (∃ t : Tr, a = t.rows ∧ t.nodes < 4000000) ([.pv (.int .i64 (chkE a 1 0))], [])
  | _ => none

theorem check_ok : ∀ ag al, g_check ag = some al → ∀ a ∈ al, a.1 → Ev C 58 ag a.2 := by
  intro ag al hl x hx hp
  unfold g_check at hl
  split at hl
  · have e := one_mem hl hx; subst e
    obtain ⟨t, rfl, h⟩ := hp
    exact ev_w (specL_ok (specs_cons chkA_ok specs_nil)) (tck_w t.rows _) ⟨⟨rfl, by omega, by omega, t, rfl, h, by omega⟩, rfl⟩
  · exact absurd hl (by simp)

theorem rcheck_ok : ∀ ag al, g_check ag = some al → ∀ a ∈ al, a.1 → Ev C 75 ag a.2 := by
  intro ag al hl x hx hp
  unfold g_check at hl
  split at hl
  · have e := one_mem hl hx; subst e
    obtain ⟨t, rfl, h⟩ := hp
    exact ev_w (specL_ok (specs_cons wlkA_ok specs_nil)) (rck_w t.rows _) ⟨⟨rfl, by omega, by omega, t, rfl, h, by omega⟩, rfl⟩
  · exact absurd hl (by simp)

end Go.Proofs.YtbnjbianobdleaaGreat.Vm
