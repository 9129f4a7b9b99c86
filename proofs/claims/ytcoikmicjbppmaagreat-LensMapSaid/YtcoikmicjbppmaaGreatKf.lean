/-
  The law LensMap: a part of its proof; no conditions.
-/
import Derived.Test.YtcoikmicjbppmaaGreatKe
import Derived.Test.YtcoikmicjbppmaaGreatKd
namespace Go.Proofs.YtcoikmicjbppmaaGreat.Vm
open Go Go.RowKit
set_option linter.unusedVariables false
set_option linter.unusedSimpArgs false
set_option maxRecDepth 100000
noncomputable def eU (p : LD) (a : Tr) : ej := if p.o = 3 then gh a p.b p.a else if p.o = 4 then mj a p.a else if p.o = 5 then fD a p.a else (a, 0)
noncomputable def ql (row : List PV) (a : LP) : Int := (eU (aR row) (aH a)).2
noncomputable def uM (row : List PV) (a : LP) : LP := (eU (aR row) (aH a)).1.rows
noncomputable def tH (row : List PV) (a : LP) : Bool := (aR row).o == 3 && aG a (aR row).b || (aR row).o == 4
noncomputable def bu (row : List PV) (a : LP) : Int := (aO (aR row) (bB row) (aH a)).2
noncomputable def fL (row : List PV) (a : LP) : LP := (aO (aR row) (bB row) (aH a)).1.rows
noncomputable def mC (row : List PV) (a : LP) : Int := (db (aR row) (bB row).cres (aH a)).2
noncomputable def lH (row : List PV) (a : LP) : LP := (db (aR row) (bB row).cres (aH a)).1.rows
noncomputable def DN (row : List PV) (a : LP) : Bool := (aR row).o == 3 && aG a (aR row).b || (aR row).o == 4 || (aR row).o == 7 || (aR row).o == 8
noncomputable def bi (row : List PV) (a c : LP) : Int := (aY (aR row) (bB row) (aH a) (aH c)).2
noncomputable def ft (row : List PV) (a c : LP) : LP := (aY (aR row) (bB row) (aH a) (aH c)).1.rows
noncomputable def m8 (row : List PV) (a c : LP) : Int := (cZ (aR row) (bB row).gets (bB row).cres (bB row).puts (aH a) (aH c)).2
noncomputable def lK (row : List PV) (a c : LP) : LP := (cZ (aR row) (bB row).gets (bB row).cres (bB row).puts (aH a) (aH c)).1.rows
noncomputable def Eu (row : List PV) (a : LP) : Bool := (aR row).o == 3 && aG a (aR row).b || (aR row).o == 4 || (aR row).o == 6 || (aR row).o == 7 || (aR row).o == 8
noncomputable def wO (row : List PV) (a : LP) : Bool := (aR row).o == 3 && aG a (aR row).b || (aR row).o == 4 || (aR row).o == 8
noncomputable def Du (r0 r1 : List PV) (c : LP) (b : Bool) (l : LP) (b2 : Bool) (l2 : LP) : Int := (cM (aO (aR r0) (bB r0)) (aO (aR r1) (bB r1)) b l b2 l2 (aH c)).2
noncomputable def LK (r0 r1 : List PV) (c : LP) (b : Bool) (l : LP) (b2 : Bool) (l2 : LP) : LP := (cM (aO (aR r0) (bB r0)) (aO (aR r1) (bB r1)) b l b2 l2 (aH c)).1.rows
noncomputable def BI (r0 : List PV) (c : LP) : Int := (bC (fun e => aO (aR r0) (bB r0) e.2) (aH c).list).2
noncomputable def KH (r0 : List PV) (c : LP) : LP := (bC (fun e => aO (aR r0) (bB r0) e.2) (aH c).list).1.map aE
noncomputable def Dv (r0 r1 : List PV) (c x y : LP) (b : Bool) (l : LP) (b2 : Bool) (l2 : LP) : Int := (cM (fun z => aY (aR r0) (bB r0) z (aH x)) (fun z => aY (aR r1) (bB r1) z (aH y)) b l b2 l2 (aH c)).2
noncomputable def LL (r0 r1 : List PV) (c x y : LP) (b : Bool) (l : LP) (b2 : Bool) (l2 : LP) : LP := (cM (fun z => aY (aR r0) (bB r0) z (aH x)) (fun z => aY (aR r1) (bB r1) z (aH y)) b l b2 l2 (aH c)).1.rows
noncomputable def BJ (r0 : List PV) (a c : LP) : Int := (bC (gT (aY (aR r0) (bB r0)) (aO (aR r0) (bB r0)) (aH c)) (aH a).list).2
noncomputable def KI (r0 : List PV) (a c : LP) : LP := (bC (gT (aY (aR r0) (bB r0)) (aO (aR r0) (bB r0)) (aH c)) (aH a).list).1.map aE
noncomputable def yC (k : Ls) (a c : Tr) : ej := if (cE k.gets.dropLast c).2 ≠ 0 then (.nil, (cE k.gets.dropLast c).2) else eu ((k.puts.zip (cE k.gets.dropLast c).1).map fun x y => x.1 y x.2).reverse a
noncomputable def s8 (row : List PV) (a c : LP) : Int := (yC (bB row) (aH a) (aH c)).2
noncomputable def F5 (row : List PV) (a c : LP) : LP := (yC (bB row) (aH a) (aH c)).1.rows
def jx (N : Nat) (row : List PV) : Prop := ∃ (p : LD) (k : Ls), row = p.row k.rows /\ k.deep < N /\ k.fine /\ 1 <= k.len /\ k.len <= 4000000
noncomputable def vA : List TV -> Option Alts
 | [.pv (.sl x), .pv (.sl y)] => some [((an x /\ an y), [.pv (.bool (bP x y))], [])]
 | _ => none
noncomputable def Ja : Specs := aZ [(72, vA)]
theorem Ka (k : Int) (d e : BS) (i : Bool) (j : LP) (g : Bool) (h a l f b c : LP) (Q : QT) : (bq C Ja 46 [.pv (.agg [.int .i64 k, .str d, .str e, .bool i, .sl j, .bool g, .sl h, .sl a, .sl l, .sl f]), .pv (.sl b), .pv (.sl c)] Q) (H.b H.auto H.auto) = ((an b /\ an a) /\ ((!bP b a) = true -> Q (eR 3)) /\ ((!bP b a) = false -> Q ([tS c, tI 0], []))) := by kernel_rfl
noncomputable def DW : List TV -> Option Alts
 | [.pv (.agg [.int .i64 o, .str a, .str b, .bool n, .sl nl, .bool m, .sl ml, .sl t, .sl u, .sl k]), .pv (.sl x), .pv (.sl y)] => some [((an x /\ an t) /\ bP x t = false, [.pv (.sl []), .pv (.int .i64 3)], []),
  ((an x /\ an t) /\ bP x t = true, [.pv (.sl y), .pv (.int .i64 0)], [])]
 | _ => none
noncomputable def I6 : Specs := aZ [(39, tU), (40, tQ), (41, DX)]
theorem Ma (d : Int) (b c : BS) (i : Bool) (j : LP) (g : Bool) (h k l f a : LP) (Q : QT) : (bq C I6 54 [.pv (.agg [.int .i64 d, .str b, .str c, .bool i, .sl j, .bool g, .sl h, .sl k, .sl l, .sl f]), .pv (.sl a)] Q) (H.b (H.b H.auto (H.b H.auto (H.b H.auto H.auto))) (H.b H.auto (H.b (H.b H.auto (H.b H.auto H.auto)) H.auto))) = (let e := an a /\ aG a b = false; ((d == 3) = true -> aA [(an a /\ aG a b = true, [tS [], tI 3], []), (e /\ aG a c = false, [tS a, tI 0], []), (e /\ aG a c = true, [TV.own 2 (md a c b), tI 0], [])] /\ (an a /\ aG a b = true -> Q (eR 3)) /\ (e /\ aG a c = false -> Q ([tS a, tI 0], [])) /\ (e /\ aG a c = true -> Q ([TV.own 2 (md a c b), tI 0], [])) /\ True) /\ ((d == 3) = false -> ((d == 4) = true -> True /\ Q ([TV.own 2 (IO a b), tI 0], [])) /\ ((d == 4) = false -> ((d == 5) = true -> aA [(an a /\ gJ a b ≠ (0 : Int), [tS [], tI 3], []), (an a /\ gJ a b = (0 : Int), [tS (oe a b), tI 0], [])] /\ (an a /\ gJ a b ≠ (0 : Int) -> Q (eR 3)) /\ (an a /\ gJ a b = (0 : Int) -> Q ([tS (oe a b), tI 0], [])) /\ True) /\ ((d == 5) = false -> Q ([tS a, tI 0], []))))) := by kernel_rfl
noncomputable def DV : List TV -> Option Alts
 | [.pv (.agg [.int .i64 o, .str a, .str b, .bool n, .sl nl, .bool m, .sl ml, .sl t, .sl u, .sl k]), .pv (.sl x)] => some [(((∃ N, aC N [.int .i64 o, .str a, .str b, .bool n, .sl nl, .bool m, .sl ml, .sl t, .sl u, .sl k]) /\ an x) /\ ql [.int .i64 o, .str a, .str b, .bool n, .sl nl, .bool m, .sl ml, .sl t, .sl u, .sl k] x ≠ 0, [.pv (.sl []), .pv (.int .i64 (ql [.int .i64 o, .str a, .str b, .bool n, .sl nl, .bool m, .sl ml, .sl t, .sl u, .sl k] x))], []),
  ((((∃ N, aC N [.int .i64 o, .str a, .str b, .bool n, .sl nl, .bool m, .sl ml, .sl t, .sl u, .sl k]) /\ an x) /\ ql [.int .i64 o, .str a, .str b, .bool n, .sl nl, .bool m, .sl ml, .sl t, .sl u, .sl k] x = 0) /\ tH [.int .i64 o, .str a, .str b, .bool n, .sl nl, .bool m, .sl ml, .sl t, .sl u, .sl k] x = true, [.own 2 (uM [.int .i64 o, .str a, .str b, .bool n, .sl nl, .bool m, .sl ml, .sl t, .sl u, .sl k] x), .pv (.int .i64 0)], []),
  ((((∃ N, aC N [.int .i64 o, .str a, .str b, .bool n, .sl nl, .bool m, .sl ml, .sl t, .sl u, .sl k]) /\ an x) /\ ql [.int .i64 o, .str a, .str b, .bool n, .sl nl, .bool m, .sl ml, .sl t, .sl u, .sl k] x = 0) /\ tH [.int .i64 o, .str a, .str b, .bool n, .sl nl, .bool m, .sl ml, .sl t, .sl u, .sl k] x = false, [.pv (.sl (uM [.int .i64 o, .str a, .str b, .bool n, .sl nl, .bool m, .sl ml, .sl t, .sl u, .sl k] x)), .pv (.int .i64 0)], [])]
 | _ => none
noncomputable def lR (N : Nat) : List TV -> Option Alts
 | [.pv (.agg [.int .i64 o, .str a, .str b, .bool n, .sl nl, .bool m, .sl ml, .sl t, .sl u, .sl k]), .pv (.sl x)] => some [((aC N [.int .i64 o, .str a, .str b, .bool n, .sl nl, .bool m, .sl ml, .sl t, .sl u, .sl k] /\ an x) /\ bu [.int .i64 o, .str a, .str b, .bool n, .sl nl, .bool m, .sl ml, .sl t, .sl u, .sl k] x ≠ 0, [.pv (.sl []), .pv (.int .i64 (bu [.int .i64 o, .str a, .str b, .bool n, .sl nl, .bool m, .sl ml, .sl t, .sl u, .sl k] x))], []),
  ((aC N [.int .i64 o, .str a, .str b, .bool n, .sl nl, .bool m, .sl ml, .sl t, .sl u, .sl k] /\ an x) /\ bu [.int .i64 o, .str a, .str b, .bool n, .sl nl, .bool m, .sl ml, .sl t, .sl u, .sl k] x = 0, [.own 2 (fL [.int .i64 o, .str a, .str b, .bool n, .sl nl, .bool m, .sl ml, .sl t, .sl u, .sl k] x), .pv (.int .i64 0)], [])]
 | _ => none
noncomputable def I8 (N : Nat) : Specs := aZ [(42, jN), (52, lR N), (47, vu), (71, A0), (48, DU)]
theorem Mb (n : Nat) (J : Int) (E k : BS) (m : Bool) (I : LP) (d : Bool) (G K L o a : LP) (c : Bool) (b : LP) (i : Bool) (f : LP) (Q : QT) : (bq C (I8 n) 43 [.pv (.agg [.int .i64 J, .str E, .str k, .bool m, .sl I, .bool d, .sl G, .sl K, .sl L, .sl o]), .pv (.sl a), .pv (.agg [.bool c, .sl b]), .pv (.agg [.bool i, .sl f]), .pv (.fn 52 []), .pv (.fn 52 [])] Q) (H.n 1 (H.s (H.b (H.b H.auto (H.n 1 (H.s (H.b (H.b H.auto (H.b H.auto (H.n 4 (H.b H.auto H.auto)))) (H.b (H.n 1 (H.b H.auto (H.n 5 (H.b H.auto H.auto)))) H.auto))))) (H.b (H.n 2 (H.s (H.b (H.b H.auto (H.n 1 (H.b H.auto (H.n 4 (H.b H.auto H.auto))))) (H.b (H.n 2 (H.b H.auto (H.n 5 (H.b H.auto H.auto)))) H.auto)))) H.auto)))) = (let p := !List.length (aw i f []) == 0; let u := !List.length (cm i f []) == 0; let v := an [] /\ bm f; (an a /\ bm b) /\ ∃ (m : Int) (s s_1 : BS) (k : Bool) (es : LP) (b_1 : Bool) (es_1 es_2 es_3 es_4 : LP), let e := bU m s s_1 k es b_1 es_1 es_2 es_3 es_4; let j := fL e (cm c b a); let w := !List.length (aw i f j) == 0; let x := aC n e /\ an (cm c b a); o[0]? = some e /\ aA [(x /\ bu e (cm c b a) ≠ (0 : Int), [tS [], tI (bu e (cm c b a))], []), (x /\ bu e (cm c b a) = (0 : Int), [TV.own 2 j, tI 0], [])] /\ (x /\ bu e (cm c b a) ≠ (0 : Int) -> ((bu e (cm c b a) != 0) = true -> Q (eR (bu e (cm c b a)))) /\ ((bu e (cm c b a) != 0) = false -> ∃ (m : Int) (s s_2 : BS) (k : Bool) (es : LP) (b_2 : Bool) (es_5 es_6 es_7 es_8 : LP), let h := bU m s s_2 k es b_2 es_5 es_6 es_7 es_8; let y := aC n h /\ an (aw c b a); let q := fL h (aw c b a); let z := !List.length (cm i f q) == 0; let A := bu h (aw c b a) != 0; o[1]? = some h /\ aA [(y /\ bu h (aw c b a) ≠ (0 : Int), [tS [], tI (bu h (aw c b a))], []), (y /\ bu h (aw c b a) = (0 : Int), [TV.own 2 q, tI 0], [])] /\ (y /\ bu h (aw c b a) ≠ (0 : Int) -> (A = true -> Q (eR (bu h (aw c b a)))) /\ (A = false -> v /\ (p = true -> Q (eR 3)) /\ (p = false -> v /\ (u = true -> Q (eR 3)) /\ (u = false -> (∃ (l : List Proofs.YtcoikmicjbppmaaGreat.Vm.Edge) (d : List Proofs.YtcoikmicjbppmaaGreat.Vm.Edge), [] = List.map aE l /\ [] = List.map aE d /\ List.length l + List.length d < 20) /\ Q ([TV.own 2 (dj (eE [] [])), tI 0], []))))) /\ (y /\ bu h (aw c b a) = (0 : Int) -> v /\ (p = true -> Q (eR 3)) /\ (p = false -> (an q /\ bm f) /\ (z = true -> Q (eR 3)) /\ (z = false -> (∃ (l : List Proofs.YtcoikmicjbppmaaGreat.Vm.Edge) (d : List Proofs.YtcoikmicjbppmaaGreat.Vm.Edge), [] = List.map aE l /\ fL h (aw c b a) = List.map aE d /\ List.length l + List.length d < 20) /\ Q ([TV.own 2 (dj (eE [] q)), tI 0], [])))) /\ True)) /\ (x /\ bu e (cm c b a) = (0 : Int) -> ∃ (n_1 : Int) (s_2 s_3 : BS) (b_2 : Bool) (es_5 : LP) (b_3 : Bool) (es_6 es_7 es_8 es_9 : LP), let g := bU n_1 s_2 s_3 b_2 es_5 b_3 es_6 es_7 es_8 es_9; let r := aC n g /\ an (aw c b a); let t := fL g (aw c b a); let B := !List.length (cm i f t) == 0; let D := bu g (aw c b a) != 0; o[1]? = some g /\ aA [(r /\ bu g (aw c b a) ≠ (0 : Int), [tS [], tI (bu g (aw c b a))], []), (r /\ bu g (aw c b a) = (0 : Int), [TV.own 2 t, tI 0], [])] /\ (r /\ bu g (aw c b a) ≠ (0 : Int) -> (D = true -> Q (eR (bu g (aw c b a)))) /\ (D = false -> (an j /\ bm f) /\ (w = true -> Q (eR 3)) /\ (w = false -> v /\ (u = true -> Q (eR 3)) /\ (u = false -> (∃ (l : List Proofs.YtcoikmicjbppmaaGreat.Vm.Edge) (d : List Proofs.YtcoikmicjbppmaaGreat.Vm.Edge), fL e (cm c b a) = List.map aE l /\ [] = List.map aE d /\ List.length l + List.length d < 20) /\ Q ([TV.own 2 (dj (eE j [])), tI 0], []))))) /\ (r /\ bu g (aw c b a) = (0 : Int) -> (an j /\ bm f) /\ (w = true -> Q (eR 3)) /\ (w = false -> (an t /\ bm f) /\ (B = true -> Q (eR 3)) /\ (B = false -> (∃ (l : List Proofs.YtcoikmicjbppmaaGreat.Vm.Edge) (d : List Proofs.YtcoikmicjbppmaaGreat.Vm.Edge), fL e (cm c b a) = List.map aE l /\ fL g (aw c b a) = List.map aE d /\ List.length l + List.length d < 20) /\ Q ([TV.own 2 (dj (eE j t)), tI 0], [])))) /\ True) /\ True) := by kernel_rfl
noncomputable def G3 (N : Nat) : List TV -> Option Alts
 | [.pv (.agg [.int .i64 o, .str a, .str b, .bool n, .sl nl, .bool m, .sl ml, .sl t, .sl u, .sl k]), .pv (.sl c), .pv (.agg [.bool v, .sl vl]), .pv (.agg [.bool w, .sl wl]), .pv (.fn f []), .pv (.fn g [])] => some [(((f = 52 /\ g = 52) /\ mQ N k /\ an c /\ bm vl /\ bm wl) /\ Du (bW k) (jV k) c v vl w wl ≠ 0, [.pv (.sl []), .pv (.int .i64 (Du (bW k) (jV k) c v vl w wl))], []),
  (((f = 52 /\ g = 52) /\ mQ N k /\ an c /\ bm vl /\ bm wl) /\ Du (bW k) (jV k) c v vl w wl = 0, [.own 2 (LK (bW k) (jV k) c v vl w wl), .pv (.int .i64 0)], [])]
 | _ => none
noncomputable def I1 (N : Nat) : Specs := aZ [(52, lR N)]
theorem Jv (g : Nat) (f : BS) (a : LP) (m : Int) (i d : BS) (e : Bool) (l : LP) (j : Bool) (k n o h : LP) (Q : QT) : (bq C (I1 g) 94 [.pv (.agg [.str f, .sl a]), .pv (.iptr [.int .i64 m, .str i, .str d, .bool e, .sl l, .bool j, .sl k, .sl n, .sl o, .sl h])] Q) (H.n 1 (H.s (H.b H.auto (H.b H.auto H.auto)))) = (∃ (e : Int) (f s_1 : BS) (d : Bool) (es : LP) (b_1 : Bool) (es_1 es_2 es_3 es_4 : LP), let b := bU e f s_1 d es b_1 es_1 es_2 es_3 es_4; let c := aC g b /\ an a; h[0]? = some b /\ aA [(c /\ bu b a ≠ (0 : Int), [tS [], tI (bu b a)], []), (c /\ bu b a = (0 : Int), [TV.own 2 (fL b a), tI 0], [])] /\ (c /\ bu b a ≠ (0 : Int) -> Q (eR (bu b a))) /\ (c /\ bu b a = (0 : Int) -> Q ([TV.own 2 (fL b a), tI 0], [])) /\ True) := by kernel_rfl
noncomputable def GW (N : Nat) : List TV -> Option Alts
 | [.pv (.agg [.str s, .sl c]), .pv (.iptr [.int .i64 o, .str a, .str b, .bool n, .sl nl, .bool m, .sl ml, .sl t, .sl u, .sl k])] => some [((kidG N k /\ an c) /\ bu (bW k) c ≠ 0, [.pv (.sl []), .pv (.int .i64 (bu (bW k) c))], []),
  ((kidG N k /\ an c) /\ bu (bW k) c = 0, [.own 2 (fL (bW k) c), .pv (.int .i64 0)], [])]
 | _ => none
noncomputable def zJ (N : Nat) : Specs := aZ [(94, GW N)]
theorem L5 (b : Nat) (a : LP) (j : Int) (c d : BS) (h : Bool) (i : LP) (f : Bool) (g k l e : LP) (Q : QT) : (bq C (zJ b) 44 [.pv (.sl a), .pv (.fn 94 [.iptr [.int .i64 j, .str c, .str d, .bool h, .sl i, .bool f, .sl g, .sl k, .sl l, .sl e]])] Q) (H.auto) = (let m := PV.fn 94 [PV.iptr (bU j c d h i f g k l e)]; bd C 44 (d0 (u1 (d0 (u2 CP.top)))) (St.mk [(1, AV.pv m), (6, AV.own 12), (11, aS a), (12, aI (↑(List.length a) : Int)), (13, aI 0)] [(12, Obj.buf 2 [])]) (cA (au 0 (aQ (bA C (zJ b) 44 99997 (u3 CP.top)) (aU C 44 [tS a, TV.pv m] Q))))) := by kernel_rfl
def Fq : CP := (d0 (u1 (d0 (u2 CP.top))))
def Fs (b : Int) (f g : BS) (h : Bool) (i : LP) (j : Bool) (k l m n c : LP) (d e : Int) (a : LP) : St := (St.mk [(1, AV.pv (PV.fn 94 [PV.iptr (bU b f g h i j k l m n)])), (6, AV.own 12), (11, aS c), (12, aI d), (13, aI e)] [(12, Obj.buf 2 a)])
theorem JH (g : Nat) (x : LP) (E : Int) (v w : BS) (B : Bool) (D : LP) (z : Bool) (A G I y : LP) (i : Int) (j k : BS) (l : Bool) (m : LP) (n : Bool) (o p q a e : LP) (d c : Int) (b : LP)  (J0 : St -> Prop) (Q : QT) : (bA C (zJ g) 44 1000 (Fq.dn 0) (Fs i j k l m n o p q a e d c b) (bO C 44 Fq J0 (cA (au 0 (aQ (bA C (zJ g) 44 99997 (u3 CP.top)) (aU C 44 [tS x, TV.pv (PV.fn 94 [PV.iptr (bU E v w B D z A G I y)])] Q)))))) (H.b (H.s (H.s (H.b (H.b H.auto (H.s H.auto)) (H.b (H.n 1 (H.s H.auto)) H.auto)))) H.auto) = (let r := (List.length b + 1) * 40 <= du /\ List.length b + 1 <= bz; let t := PV.fn 94 [PV.iptr (bU i j k l m n o p q a)]; let u := IntKind.wrap .i64 (c + 1); (decide (c < d) = true -> (0 : Int) <= c /\ ∃ (s : BS) (es : LP), let f := kidG g a /\ an es; e[Int.toNat c]? = some [pT s, pS es] /\ aA [(f /\ bu (bW a) es ≠ (0 : Int), [tS [], tI (bu (bW a) es)], []), (f /\ bu (bW a) es = (0 : Int), [TV.own 2 (fL (bW a) es), tI 0], [])] /\ (f /\ bu (bW a) es ≠ (0 : Int) -> ((bu (bW a) es != 0) = true -> ∃ (h : H), Q (eR (bu (bW a) es))) /\ ((bu (bW a) es != 0) = false -> r /\ J0 (St.mk [(1, AV.pv t), (6, AV.own 12), (11, aS e), (12, aI d), (13, aI u)] [(12, Obj.buf 2 (b ++ [[pT s, pS []]]))]))) /\ (f /\ bu (bW a) es = (0 : Int) -> r /\ J0 (St.mk [(1, AV.pv t), (6, AV.own 12), (11, aS e), (12, aI d), (13, aI u)] [(12, Obj.buf 2 (b ++ [[pT s, pS (fL (bW a) es)]]))])) /\ True) /\ (decide (c < d) = false -> ∃ (h : H), Q ([TV.own 2 b, tI 0], []))) := by kernel_rfl
noncomputable def GY (N : Nat) : List TV -> Option Alts
 | [.pv (.sl c), .pv (.fn f [.iptr [.int .i64 o, .str a, .str b, .bool n, .sl nl, .bool m, .sl ml, .sl t, .sl u, .sl k]])] => some [((f = 94 /\ kidG N k /\ an c) /\ BI (bW k) c ≠ 0, [.pv (.sl []), .pv (.int .i64 (BI (bW k) c))], []),
  ((f = 94 /\ kidG N k /\ an c) /\ BI (bW k) c = 0, [.own 2 (KH (bW k) c), .pv (.int .i64 0)], [])]
 | _ => none
noncomputable def wQ (N : Nat) : Specs := aZ [(46, DW), (47, vu), (43, G3 N), (44, GY N), (52, lR N), (54, DV)]
theorem L4 (j : Nat) (d : Int) (q r : BS) (g : Bool) (e : LP) (h : Bool) (f i l b a : LP) (Q : QT) : (bq C (wQ j) 76 [.pv (.agg [.int .i64 d, .str q, .str r, .bool g, .sl e, .bool h, .sl f, .sl i, .sl l, .sl b]), .pv (.sl a)] Q) (H.b (H.b H.auto (H.b H.auto H.auto)) (H.b (H.b H.auto (H.b H.auto (H.b H.auto (H.b H.auto H.auto)))) (H.b (H.b H.auto (H.b H.auto H.auto)) (H.b (H.b H.auto (H.b H.auto H.auto)) (H.b H.auto (H.b H.auto (H.b H.auto (H.b H.auto H.auto)))))))) = (let c := bU d q r g e h f i l b; let n := (∃ (j : Nat), aC j c) /\ an a; let k := n /\ ql c a = (0 : Int); let m := (52 = 52 /\ 52 = 52) /\ mQ j b /\ an a /\ bm f /\ bm e; let o := 94 = 94 /\ kidG j b /\ an a; let v := k /\ tH c a = true -> Q ([TV.own 2 (uM c a), tI 0], []); let w := k /\ tH c a = false -> Q ([tS (uM c a), tI 0], []); let p := an a /\ an i; let x := n /\ ql c a ≠ (0 : Int) -> Q (eR (ql c a)); let s := !List.length (aw g e a) == 0; let t := Du (bW b) (jV b) a h f g e; let u := LK (bW b) (jV b) a h f g e; ((d == 2) = true -> aA [(p /\ bP a i = false, [tS [], tI 3], []), (p /\ bP a i = true, [tS l, tI 0], [])] /\ (p /\ bP a i = false -> Q (eR 3)) /\ (p /\ bP a i = true -> Q ([tS l, tI 0], [])) /\ True) /\ ((d == 2) = false -> ((d == 6) = true -> (an a /\ bm e) /\ (s = true -> Q (eR 3)) /\ (s = false -> aA [(n /\ ql c a ≠ (0 : Int), [tS [], tI (ql c a)], []), (k /\ tH c a = true, [TV.own 2 (uM c a), tI 0], []), (k /\ tH c a = false, [tS (uM c a), tI 0], [])] /\ x /\ v /\ w /\ True)) /\ ((d == 6) = false -> ((d == 7) = true -> aA [(m /\ Du (bW b) (jV b) a h f g e ≠ (0 : Int), [tS [], tI t], []), (m /\ Du (bW b) (jV b) a h f g e = (0 : Int), [TV.own 2 u, tI 0], [])] /\ (m /\ Du (bW b) (jV b) a h f g e ≠ (0 : Int) -> Q (eR t)) /\ (m /\ Du (bW b) (jV b) a h f g e = (0 : Int) -> Q ([TV.own 2 u, tI 0], [])) /\ True) /\ ((d == 7) = false -> ((d == 8) = true -> aA [(o /\ BI (bW b) a ≠ (0 : Int), [tS [], tI (BI (bW b) a)], []), (o /\ BI (bW b) a = (0 : Int), [TV.own 2 (KH (bW b) a), tI 0], [])] /\ (o /\ BI (bW b) a ≠ (0 : Int) -> Q (eR (BI (bW b) a))) /\ (o /\ BI (bW b) a = (0 : Int) -> Q ([TV.own 2 (KH (bW b) a), tI 0], [])) /\ True) /\ ((d == 8) = false -> ((d == 9) = true -> bd C 76 (d0 (u2 (d0 (u9 (d0 (u1 (d0 (u1 CP.top)))))))) (St.mk [(1, aS a), (2, AV.addr 4 0 0), (7, aI (IntKind.wrap .i64 ((↑(List.length b) : Int) - 1)))] [(4, Obj.box (gC d q r g e h f i l b))]) (cA (au 1 (au 0 (aQ (bA C (wQ j) 76 99998 (u2 CP.top)) (aU C 76 [TV.pv (PV.agg c), tS a] Q)))))) /\ ((d == 9) = false -> aA [(n /\ ql c a ≠ (0 : Int), [tS [], tI (ql c a)], []), (k /\ tH c a = true, [TV.own 2 (uM c a), tI 0], []), (k /\ tH c a = false, [tS (uM c a), tI 0], [])] /\ x /\ v /\ w /\ True)))))) := by kernel_rfl
def Fn : CP := (d0 (u2 (d0 (u9 (d0 (u1 (d0 (u1 CP.top))))))))
def Fo (k : LP) (l a : Int) (b c : BS) (d : Bool) (e : LP) (f : Bool) (g h i j : LP) : St := (St.mk [(1, aS k), (2, AV.addr 4 0 0), (7, aI l)] [(4, Obj.box (gC a b c d e f g h i j))])
theorem JC (d : Nat) (p : Int) (k e : BS) (f : Bool) (o : LP) (m : Bool) (n A B l D a : LP) (c q : Int) (r t : BS) (u : Bool) (v : LP) (w : Bool) (x y z i : LP)  (J0 : St -> Prop) (Q : QT) : (bA C (wQ d) 76 1000 (Fn.dn 0) (Fo a c q r t u v w x y z i) (bO C 76 Fn J0 (cA (au 1 (au 0 (aQ (bA C (wQ d) 76 99998 (u2 CP.top)) (aU C 76 [TV.pv (PV.agg (bU p k e f o m n A B l)), tS D] Q))))))) (H.b (H.s (H.s (H.b (H.b H.auto H.auto) (H.b H.auto H.auto)))) H.auto) = (let j := gC q r t u v w x y z i; let E := IntKind.wrap .i64 (c - 1); (decide (c ≥ (0 : Int)) = true -> (0 : Int) <= c /\ ∃ (f : Int) (s s_1 : BS) (e : Bool) (es : LP) (b_1 : Bool) (es_1 es_2 es_3 es_4 : LP), let b := bU f s s_1 e es b_1 es_1 es_2 es_3 es_4; let g := aC d b /\ an a; i[Int.toNat c]? = some b /\ aA [(g /\ bu b a ≠ (0 : Int), [tS [], tI (bu b a)], []), (g /\ bu b a = (0 : Int), [TV.own 2 (fL b a), tI 0], [])] /\ (g /\ bu b a ≠ (0 : Int) -> ((bu b a != 0) = true -> ∃ (h : H), Q (eR (bu b a))) /\ ((bu b a != 0) = false -> J0 (St.mk [(1, aS []), (2, AV.addr 4 0 0), (7, aI E)] [(4, Obj.box j)]))) /\ (g /\ bu b a = (0 : Int) -> J0 (St.mk [(1, aS (fL b a)), (2, AV.addr 4 0 0), (7, aI E)] [(4, Obj.box j)])) /\ True) /\ (decide (c ≥ (0 : Int)) = false -> cA (au 1 (au 0 (aQ (bA C (wQ d) 76 99998 (u2 CP.top)) (aU C 76 [TV.pv (PV.agg (bU p k e f o m n A B l)), tS D] Q)))) (Ex.exit 1) (St.mk [(51, aB false), (50, aI c), (1, aS a), (2, AV.addr 4 0 0), (7, aI c)] [(4, Obj.box j)]))) := by kernel_rfl
def JE (l : Int) (k : LP) (m a : Int) (b c : BS) (d : Bool) (e : LP) (f : Bool) (g h i j : LP) : St := (St.mk [(51, aB false), (50, aI l), (1, aS k), (2, AV.addr 4 0 0), (7, aI m)] [(4, Obj.box (gC a b c d e f g h i j))])
theorem JF (d : Nat) (x : Int) (q r : BS) (v : Bool) (w : LP) (t : Bool) (u y B s D : LP) (z : Int) (a : LP) (A f : Int) (g i : BS) (j : Bool) (k : LP) (l : Bool) (m n o p : LP)  (Q : QT) : (fun h => au 1 (au 0 (aQ (bA C (wQ d) 76 99998 (u2 CP.top)) (aU C 76 [TV.pv (PV.agg (bU x q r v w t u y B s)), tS D] Q))) h (Ex.exit 1) (JE z a A f g i j k l m n o p)) (H.b H.auto (H.b H.auto (H.b H.auto H.auto))) = (let b := bU f g i j k l m n o p; let e := (∃ (d : Nat), aC d b) /\ an a; let c := e /\ ql b a = (0 : Int); aA [(e /\ ql b a ≠ (0 : Int), [tS [], tI (ql b a)], []), (c /\ tH b a = true, [TV.own 2 (uM b a), tI 0], []), (c /\ tH b a = false, [tS (uM b a), tI 0], [])] /\ (e /\ ql b a ≠ (0 : Int) -> Q (eR (ql b a))) /\ (c /\ tH b a = true -> Q ([TV.own 2 (uM b a), tI 0], [])) /\ (c /\ tH b a = false -> Q ([tS (uM b a), tI 0], [])) /\ True) := by kernel_rfl
noncomputable def GX (N : Nat) : List TV -> Option Alts
 | [.pv (.agg [.int .i64 o, .str a, .str b, .bool n, .sl nl, .bool m, .sl ml, .sl t, .sl u, .sl k]), .pv (.sl x)] => some [((aC N [.int .i64 o, .str a, .str b, .bool n, .sl nl, .bool m, .sl ml, .sl t, .sl u, .sl k] /\ an x) /\ mC [.int .i64 o, .str a, .str b, .bool n, .sl nl, .bool m, .sl ml, .sl t, .sl u, .sl k] x ≠ 0, [.pv (.sl []), .pv (.int .i64 (mC [.int .i64 o, .str a, .str b, .bool n, .sl nl, .bool m, .sl ml, .sl t, .sl u, .sl k] x))], []),
  (((aC N [.int .i64 o, .str a, .str b, .bool n, .sl nl, .bool m, .sl ml, .sl t, .sl u, .sl k] /\ an x) /\ mC [.int .i64 o, .str a, .str b, .bool n, .sl nl, .bool m, .sl ml, .sl t, .sl u, .sl k] x = 0) /\ DN [.int .i64 o, .str a, .str b, .bool n, .sl nl, .bool m, .sl ml, .sl t, .sl u, .sl k] x = true, [.own 2 (lH [.int .i64 o, .str a, .str b, .bool n, .sl nl, .bool m, .sl ml, .sl t, .sl u, .sl k] x), .pv (.int .i64 0)], []),
  (((aC N [.int .i64 o, .str a, .str b, .bool n, .sl nl, .bool m, .sl ml, .sl t, .sl u, .sl k] /\ an x) /\ mC [.int .i64 o, .str a, .str b, .bool n, .sl nl, .bool m, .sl ml, .sl t, .sl u, .sl k] x = 0) /\ DN [.int .i64 o, .str a, .str b, .bool n, .sl nl, .bool m, .sl ml, .sl t, .sl u, .sl k] x = false, [.pv (.sl (lH [.int .i64 o, .str a, .str b, .bool n, .sl nl, .bool m, .sl ml, .sl t, .sl u, .sl k] x)), .pv (.int .i64 0)], [])]
 | _ => none
noncomputable def I3 (N : Nat) : Specs := aZ [(76, GX N), (27, AK)]
theorem L3 (i : Nat) (q : Int) (j k : BS) (o : Bool) (p : LP) (m : Bool) (n r s l a : LP) (Q : QT) : (bq C (I3 i) 52 [.pv (.agg [.int .i64 q, .str j, .str k, .bool o, .sl p, .bool m, .sl n, .sl r, .sl s, .sl l]), .pv (.sl a)] Q) (H.b (H.b H.auto (H.b H.auto (H.b H.auto H.auto))) (H.b (H.b H.auto (H.b H.auto (H.b (H.b H.auto H.auto) H.auto))) (H.b (H.b H.auto (H.b H.auto (H.b H.auto H.auto))) H.auto))) = (let b := bU q j k o p m n r s l; let c := (0 : Int) = (0 : Int) /\ gt (lH b a); let h := aC i b /\ an a; let e := h /\ mC b a = (0 : Int); let g := bf (lH b a) (1 : Int) (0 : Int); let v := c /\ bf (lH b a) (1 : Int) (0 : Int) ≠ (0 : Int) -> Q (eR g); let f := mC b a = (0 : Int) /\ gt []; let d := cN (lH b a); let w := (0 : Int) ≠ (0 : Int) /\ 0 = 0 -> Q (eR 0); let t := flatTVs [TV.own 2 d, tI 0] && true; let u := bf [] (1 : Int) (0 : Int); aA [(h /\ mC b a ≠ (0 : Int), [tS [], tI (mC b a)], []), (e /\ DN b a = true, [TV.own 2 (lH b a), tI 0], []), (e /\ DN b a = false, [tS (lH b a), tI 0], [])] /\ (h /\ mC b a ≠ (0 : Int) -> aA [(mC b a ≠ (0 : Int) /\ 0 = 0, [tS [], tI (mC b a)], []), (f /\ bf [] (1 : Int) (0 : Int) ≠ (0 : Int), [tS [], tI u], []), (f /\ bf [] (1 : Int) (0 : Int) = (0 : Int), [TV.own 2 (cN []), tI 0], [])] /\ (mC b a ≠ (0 : Int) /\ 0 = 0 -> Q (eR (mC b a))) /\ (f /\ bf [] (1 : Int) (0 : Int) ≠ (0 : Int) -> Q (eR u)) /\ (f /\ bf [] (1 : Int) (0 : Int) = (0 : Int) -> Q ([TV.own 2 (cN []), tI 0], [])) /\ True) /\ (e /\ DN b a = true -> aA [((0 : Int) ≠ (0 : Int) /\ 0 = 0, [tS [], tI 0], []), (c /\ bf (lH b a) (1 : Int) (0 : Int) ≠ (0 : Int), [tS [], tI g], []), (c /\ bf (lH b a) (1 : Int) (0 : Int) = (0 : Int), [TV.own 2 d, tI 0], [])] /\ w /\ v /\ (c /\ bf (lH b a) (1 : Int) (0 : Int) = (0 : Int) -> (t = true -> Q ([TV.own 2 d, tI 0], [])) /\ (t = false -> Q ([TV.own 2 d, tI 0], []))) /\ True) /\ (e /\ DN b a = false -> aA [((0 : Int) ≠ (0 : Int) /\ 0 = 0, [tS [], tI 0], []), (c /\ bf (lH b a) (1 : Int) (0 : Int) ≠ (0 : Int), [tS [], tI g], []), (c /\ bf (lH b a) (1 : Int) (0 : Int) = (0 : Int), [TV.own 2 d, tI 0], [])] /\ w /\ v /\ (c /\ bf (lH b a) (1 : Int) (0 : Int) = (0 : Int) -> Q ([TV.own 2 d, tI 0], [])) /\ True) /\ True) := by kernel_rfl
noncomputable def lS (N : Nat) : List TV -> Option Alts
 | [.pv (.agg [.int .i64 o, .str a, .str b, .bool n, .sl nl, .bool m, .sl ml, .sl t, .sl u, .sl k]), .pv (.sl x), .pv (.sl c)] => some [((aC N [.int .i64 o, .str a, .str b, .bool n, .sl nl, .bool m, .sl ml, .sl t, .sl u, .sl k] /\ an x /\ an c) /\ bi [.int .i64 o, .str a, .str b, .bool n, .sl nl, .bool m, .sl ml, .sl t, .sl u, .sl k] x c ≠ 0, [.pv (.sl []), .pv (.int .i64 (bi [.int .i64 o, .str a, .str b, .bool n, .sl nl, .bool m, .sl ml, .sl t, .sl u, .sl k] x c))], []),
  ((aC N [.int .i64 o, .str a, .str b, .bool n, .sl nl, .bool m, .sl ml, .sl t, .sl u, .sl k] /\ an x /\ an c) /\ bi [.int .i64 o, .str a, .str b, .bool n, .sl nl, .bool m, .sl ml, .sl t, .sl u, .sl k] x c = 0, [.own 2 (ft [.int .i64 o, .str a, .str b, .bool n, .sl nl, .bool m, .sl ml, .sl t, .sl u, .sl k] x c), .pv (.int .i64 0)], [])]
 | _ => none
noncomputable def DD (N : Nat) : Specs := aZ [(11, lS N)]
theorem KQ (e : Nat) (m : Int) (f g : BS) (k : Bool) (l : LP) (i : Bool) (j n o h b a : LP) (Q : QT) : (bq C (DD e) 49 [.pv (.agg [.int .i64 m, .str f, .str g, .bool k, .sl l, .bool i, .sl j, .sl n, .sl o, .sl h]), .pv (.sl b), .pv (.iptr [.sl a])] Q) (H.b H.auto (H.b H.auto H.auto)) = (let c := bU m f g k l i j n o h; let d := aC e c /\ an b /\ an a; aA [(d /\ bi c b a ≠ (0 : Int), [tS [], tI (bi c b a)], []), (d /\ bi c b a = (0 : Int), [TV.own 2 (ft c b a), tI 0], [])] /\ (d /\ bi c b a ≠ (0 : Int) -> Q (eR (bi c b a))) /\ (d /\ bi c b a = (0 : Int) -> Q ([TV.own 2 (ft c b a), tI 0], [])) /\ True) := by kernel_rfl
theorem KU (e : Nat) (m : Int) (f g : BS) (k : Bool) (l : LP) (i : Bool) (j n o h b a : LP) (Q : QT) : (bq C (DD e) 50 [.pv (.agg [.int .i64 m, .str f, .str g, .bool k, .sl l, .bool i, .sl j, .sl n, .sl o, .sl h]), .pv (.sl b), .pv (.iptr [.sl a])] Q) (H.b H.auto (H.b H.auto H.auto)) = (let c := bU m f g k l i j n o h; let d := aC e c /\ an b /\ an a; aA [(d /\ bi c b a ≠ (0 : Int), [tS [], tI (bi c b a)], []), (d /\ bi c b a = (0 : Int), [TV.own 2 (ft c b a), tI 0], [])] /\ (d /\ bi c b a ≠ (0 : Int) -> Q (eR (bi c b a))) /\ (d /\ bi c b a = (0 : Int) -> Q ([TV.own 2 (ft c b a), tI 0], [])) /\ True) := by kernel_rfl
noncomputable def y5 (N : Nat) : List TV -> Option Alts
 | [.pv (.agg [.int .i64 o, .str a, .str b, .bool n, .sl nl, .bool m, .sl ml, .sl t, .sl u, .sl k]), .pv (.sl x), .pv (.iptr [.sl c])] => some [((aC N [.int .i64 o, .str a, .str b, .bool n, .sl nl, .bool m, .sl ml, .sl t, .sl u, .sl k] /\ an x /\ an c) /\ bi [.int .i64 o, .str a, .str b, .bool n, .sl nl, .bool m, .sl ml, .sl t, .sl u, .sl k] x c ≠ 0, [.pv (.sl []), .pv (.int .i64 (bi [.int .i64 o, .str a, .str b, .bool n, .sl nl, .bool m, .sl ml, .sl t, .sl u, .sl k] x c))], []),
  ((aC N [.int .i64 o, .str a, .str b, .bool n, .sl nl, .bool m, .sl ml, .sl t, .sl u, .sl k] /\ an x /\ an c) /\ bi [.int .i64 o, .str a, .str b, .bool n, .sl nl, .bool m, .sl ml, .sl t, .sl u, .sl k] x c = 0, [.own 2 (ft [.int .i64 o, .str a, .str b, .bool n, .sl nl, .bool m, .sl ml, .sl t, .sl u, .sl k] x c), .pv (.int .i64 0)], [])]
 | _ => none
noncomputable def I9 (N : Nat) : Specs := aZ [(42, jN), (49, y5 N), (50, y5 N), (47, vu), (71, A0), (48, DU)]
theorem Mc (p : Nat) (M : Int) (J n : BS) (o : Bool) (L : LP) (e : Bool) (K N O q a : LP) (c : Bool) (b : LP) (k : Bool) (h f d : LP) (Q : QT) : (bq C (I9 p) 43 [.pv (.agg [.int .i64 M, .str J, .str n, .bool o, .sl L, .bool e, .sl K, .sl N, .sl O, .sl q]), .pv (.sl a), .pv (.agg [.bool c, .sl b]), .pv (.agg [.bool k, .sl h]), .pv (.fn 49 [.iptr [.sl f]]), .pv (.fn 50 [.iptr [.sl d]])] Q) (H.n 1 (H.s (H.b (H.b H.auto (H.n 1 (H.s (H.b (H.b H.auto (H.b H.auto (H.n 4 (H.b H.auto H.auto)))) (H.b (H.n 1 (H.b H.auto (H.n 5 (H.b H.auto H.auto)))) H.auto))))) (H.b (H.n 2 (H.s (H.b (H.b H.auto (H.n 1 (H.b H.auto (H.n 4 (H.b H.auto H.auto))))) (H.b (H.n 2 (H.b H.auto (H.n 5 (H.b H.auto H.auto)))) H.auto)))) H.auto)))) = (let r := !List.length (aw k h []) == 0; let x := !List.length (cm k h []) == 0; let y := an [] /\ bm h; (an a /\ bm b) /\ ∃ (o : Int) (s s_1 : BS) (n : Bool) (es : LP) (b_1 : Bool) (es_1 es_2 es_3 es_4 : LP), let g := bU o s s_1 n es b_1 es_1 es_2 es_3 es_4; let m := ft g (cm c b a) f; let z := aC p g /\ an (cm c b a) /\ an f; let A := !List.length (aw k h m) == 0; let I := bi g (cm c b a) f != 0; q[0]? = some g /\ aA [(z /\ bi g (cm c b a) f ≠ (0 : Int), [tS [], tI (bi g (cm c b a) f)], []), (z /\ bi g (cm c b a) f = (0 : Int), [TV.own 2 m, tI 0], [])] /\ (z /\ bi g (cm c b a) f ≠ (0 : Int) -> (I = true -> Q (eR (bi g (cm c b a) f))) /\ (I = false -> ∃ (o : Int) (s s_2 : BS) (n : Bool) (es : LP) (b_2 : Bool) (es_5 es_6 es_7 es_8 : LP), let j := bU o s s_2 n es b_2 es_5 es_6 es_7 es_8; let t := aC p j /\ an (aw c b a) /\ an d; let u := ft j (aw c b a) d; let B := !List.length (cm k h u) == 0; let D := bi j (aw c b a) d != 0; q[1]? = some j /\ aA [(t /\ bi j (aw c b a) d ≠ (0 : Int), [tS [], tI (bi j (aw c b a) d)], []), (t /\ bi j (aw c b a) d = (0 : Int), [TV.own 2 u, tI 0], [])] /\ (t /\ bi j (aw c b a) d ≠ (0 : Int) -> (D = true -> Q (eR (bi j (aw c b a) d))) /\ (D = false -> y /\ (r = true -> Q (eR 3)) /\ (r = false -> y /\ (x = true -> Q (eR 3)) /\ (x = false -> (∃ (l : List Proofs.YtcoikmicjbppmaaGreat.Vm.Edge) (e : List Proofs.YtcoikmicjbppmaaGreat.Vm.Edge), [] = List.map aE l /\ [] = List.map aE e /\ List.length l + List.length e < 20) /\ Q ([TV.own 2 (dj (eE [] [])), tI 0], []))))) /\ (t /\ bi j (aw c b a) d = (0 : Int) -> y /\ (r = true -> Q (eR 3)) /\ (r = false -> (an u /\ bm h) /\ (B = true -> Q (eR 3)) /\ (B = false -> (∃ (l : List Proofs.YtcoikmicjbppmaaGreat.Vm.Edge) (e : List Proofs.YtcoikmicjbppmaaGreat.Vm.Edge), [] = List.map aE l /\ ft j (aw c b a) d = List.map aE e /\ List.length l + List.length e < 20) /\ Q ([TV.own 2 (dj (eE [] u)), tI 0], [])))) /\ True)) /\ (z /\ bi g (cm c b a) f = (0 : Int) -> ∃ (n_1 : Int) (s_2 s_3 : BS) (b_2 : Bool) (es_5 : LP) (b_3 : Bool) (es_6 es_7 es_8 es_9 : LP), let i := bU n_1 s_2 s_3 b_2 es_5 b_3 es_6 es_7 es_8 es_9; let v := aC p i /\ an (aw c b a) /\ an d; let w := ft i (aw c b a) d; let E := !List.length (cm k h w) == 0; let G := bi i (aw c b a) d != 0; q[1]? = some i /\ aA [(v /\ bi i (aw c b a) d ≠ (0 : Int), [tS [], tI (bi i (aw c b a) d)], []), (v /\ bi i (aw c b a) d = (0 : Int), [TV.own 2 w, tI 0], [])] /\ (v /\ bi i (aw c b a) d ≠ (0 : Int) -> (G = true -> Q (eR (bi i (aw c b a) d))) /\ (G = false -> (an m /\ bm h) /\ (A = true -> Q (eR 3)) /\ (A = false -> y /\ (x = true -> Q (eR 3)) /\ (x = false -> (∃ (l : List Proofs.YtcoikmicjbppmaaGreat.Vm.Edge) (e : List Proofs.YtcoikmicjbppmaaGreat.Vm.Edge), ft g (cm c b a) f = List.map aE l /\ [] = List.map aE e /\ List.length l + List.length e < 20) /\ Q ([TV.own 2 (dj (eE m [])), tI 0], []))))) /\ (v /\ bi i (aw c b a) d = (0 : Int) -> (an m /\ bm h) /\ (A = true -> Q (eR 3)) /\ (A = false -> (an w /\ bm h) /\ (E = true -> Q (eR 3)) /\ (E = false -> (∃ (l : List Proofs.YtcoikmicjbppmaaGreat.Vm.Edge) (e : List Proofs.YtcoikmicjbppmaaGreat.Vm.Edge), ft g (cm c b a) f = List.map aE l /\ ft i (aw c b a) d = List.map aE e /\ List.length l + List.length e < 20) /\ Q ([TV.own 2 (dj (eE m w)), tI 0], [])))) /\ True) /\ True) := by kernel_rfl
noncomputable def G4 (N : Nat) : List TV -> Option Alts
 | [.pv (.agg [.int .i64 o, .str a, .str b, .bool n, .sl nl, .bool m, .sl ml, .sl t, .sl u, .sl k]), .pv (.sl c), .pv (.agg [.bool v, .sl vl]), .pv (.agg [.bool w, .sl wl]), .pv (.fn f [.iptr [.sl x]]), .pv (.fn g [.iptr [.sl y]])] => some [(((f = 49 /\ g = 50) /\ mQ N k /\ an c /\ bm vl /\ bm wl /\ an x /\ an y) /\ Dv (bW k) (jV k) c x y v vl w wl ≠ 0, [.pv (.sl []), .pv (.int .i64 (Dv (bW k) (jV k) c x y v vl w wl))], []),
  (((f = 49 /\ g = 50) /\ mQ N k /\ an c /\ bm vl /\ bm wl /\ an x /\ an y) /\ Dv (bW k) (jV k) c x y v vl w wl = 0, [.own 2 (LL (bW k) (jV k) c x y v vl w wl), .pv (.int .i64 0)], [])]
 | _ => none
noncomputable def Je (N : Nat) : Specs := aZ [(38, tV), (11, lS N), (52, lR N)]
theorem Mx (j : Nat) (i : BS) (a g : LP) (v : Int) (r f : BS) (h : Bool) (u : LP) (s : Bool) (t w x k : LP) (Q : QT) : (bq C (Je j) 51 [.pv (.agg [.str i, .sl a]), .pv (.iptr [.sl g]), .pv (.iptr [.int .i64 v, .str r, .str f, .bool h, .sl u, .bool s, .sl t, .sl w, .sl x, .sl k])] Q) (H.b (H.n 3 (H.s (H.b H.auto (H.b H.auto H.auto)))) (H.b (H.b (H.n 2 (H.s (H.b H.auto (H.b H.auto H.auto)))) (H.n 2 (H.s (H.b H.auto (H.b H.auto H.auto))))) H.auto)) = (let p := List.set (List.replicate 1 [pT (Array.toList (ByteArray.data (ByteArray.mk #[])))]) 0 [pT i]; let b := vC g [[pT i]]; let m := nG g /\ gB p 1000; let q := flatTVs [TV.own 2 b, tB true] && true; aA [(m /\ jR g p = false, [tS [], tB false], []), (m /\ jR g p = true, [TV.own 2 b, tB true], [])] /\ (m /\ jR g [[pT i]] = false -> ∃ (h : Int) (i s_1 : BS) (f : Bool) (es : LP) (b_1 : Bool) (es_1 es_2 es_3 es_4 : LP), let c := bU h i s_1 f es b_1 es_1 es_2 es_3 es_4; let n := aC j c /\ an a; k[0]? = some c /\ aA [(n /\ bu c a ≠ (0 : Int), [tS [], tI (bu c a)], []), (n /\ bu c a = (0 : Int), [TV.own 2 (fL c a), tI 0], [])] /\ (n /\ bu c a ≠ (0 : Int) -> Q (eR (bu c a))) /\ (n /\ bu c a = (0 : Int) -> Q ([TV.own 2 (fL c a), tI 0], [])) /\ True) /\ (m /\ jR g [[pT i]] = true -> (q = true -> ∃ (h : Int) (s_1 s_2 : BS) (f : Bool) (es : LP) (b_1 : Bool) (es_1 es_2 es_3 es_4 : LP), let d := bU h s_1 s_2 f es b_1 es_1 es_2 es_3 es_4; let o := aC j d /\ an a /\ an b; k[0]? = some d /\ aA [(o /\ bi d a b ≠ (0 : Int), [tS [], tI (bi d a b)], []), (o /\ bi d a b = (0 : Int), [TV.own 2 (ft d a b), tI 0], [])] /\ (o /\ bi d a b ≠ (0 : Int) -> Q (eR (bi d a b))) /\ (o /\ bi d a b = (0 : Int) -> Q ([TV.own 2 (ft d a b), tI 0], [])) /\ True) /\ (q = false -> ∃ (h : Int) (s_1 s_2 : BS) (f : Bool) (es : LP) (b_1 : Bool) (es_1 es_2 es_3 es_4 : LP), let e := bU h s_1 s_2 f es b_1 es_1 es_2 es_3 es_4; let l := aC j e /\ an a /\ an b; k[0]? = some e /\ aA [(l /\ bi e a b ≠ (0 : Int), [tS [], tI (bi e a b)], []), (l /\ bi e a b = (0 : Int), [TV.own 2 (ft e a b), tI 0], [])] /\ (l /\ bi e a b ≠ (0 : Int) -> Q (eR (bi e a b))) /\ (l /\ bi e a b = (0 : Int) -> Q ([TV.own 2 (ft e a b), tI 0], [])) /\ True)) /\ True) := by kernel_rfl
noncomputable def Ha (N : Nat) : List TV -> Option Alts
 | [.pv (.agg [.str s, .sl x]), .pv (.iptr [.sl c]), .pv (.iptr [.int .i64 o, .str a, .str b, .bool n, .sl nl, .bool m, .sl ml, .sl t, .sl u, .sl k])] => some [(((kidG N k /\ an x /\ an c) /\ aG c s = true) /\ bi (bW k) x (bG c s) ≠ 0, [.pv (.sl []), .pv (.int .i64 (bi (bW k) x (bG c s)))], []),
  (((kidG N k /\ an x /\ an c) /\ aG c s = true) /\ bi (bW k) x (bG c s) = 0, [.own 2 (ft (bW k) x (bG c s)), .pv (.int .i64 0)], []),
  (((kidG N k /\ an x /\ an c) /\ aG c s = false) /\ bu (bW k) x ≠ 0, [.pv (.sl []), .pv (.int .i64 (bu (bW k) x))], []),
  (((kidG N k /\ an x /\ an c) /\ aG c s = false) /\ bu (bW k) x = 0, [.own 2 (fL (bW k) x), .pv (.int .i64 0)], [])]
 | _ => none
noncomputable def zL (N : Nat) : Specs := aZ [(51, Ha N)]
theorem L7 (b : Nat) (a e : LP) (k : Int) (c d : BS) (i : Bool) (j : LP) (g : Bool) (h l m f : LP) (Q : QT) : (bq C (zL b) 44 [.pv (.sl a), .pv (.fn 51 [.iptr [.sl e], .iptr [.int .i64 k, .str c, .str d, .bool i, .sl j, .bool g, .sl h, .sl l, .sl m, .sl f]])] Q) (H.auto) = (let n := PV.fn 51 [PV.iptr [pS e], PV.iptr (bU k c d i j g h l m f)]; bd C 44 (d0 (u1 (d0 (u2 CP.top)))) (St.mk [(1, AV.pv n), (6, AV.own 12), (11, aS a), (12, aI (↑(List.length a) : Int)), (13, aI 0)] [(12, Obj.buf 2 [])]) (cA (au 0 (aQ (bA C (zL b) 44 99997 (u3 CP.top)) (aU C 44 [tS a, TV.pv n] Q))))) := by kernel_rfl
def Fv : CP := (d0 (u1 (d0 (u2 CP.top))))
def Au (b : LP) (f : Int) (g h : BS) (i : Bool) (j : LP) (k : Bool) (l m n o c : LP) (d e : Int) (a : LP) : St := (St.mk [(1, AV.pv (PV.fn 51 [PV.iptr [pS b], PV.iptr (bU f g h i j k l m n o)])), (6, AV.own 12), (11, aS c), (12, aI d), (13, aI e)] [(12, Obj.buf 2 a)])
theorem JN (k : Nat) (R G : LP) (N : Int) (D E : BS) (L : Bool) (M : LP) (J : Bool) (K O P I b : LP) (n : Int) (o p : BS) (q : Bool) (r : LP) (t : Bool) (u v w a f : LP) (d e : Int) (c : LP)  (J0 : St -> Prop) (Q : QT) : (bA C (zL k) 44 1000 (Fv.dn 0) (Au b n o p q r t u v w a f d e c) (bO C 44 Fv J0 (cA (au 0 (aQ (bA C (zL k) 44 99997 (u3 CP.top)) (aU C 44 [tS R, TV.pv (PV.fn 51 [PV.iptr [pS G], PV.iptr (bU N D E L M J K O P I)])] Q)))))) (H.b (H.s (H.s (H.b (H.b H.auto (H.s H.auto)) (H.b (H.n 1 (H.s H.auto)) (H.b (H.b H.auto (H.s H.auto)) (H.b (H.n 1 (H.s H.auto)) H.auto)))))) H.auto) = (let l := PV.fn 51 [PV.iptr [pS b], PV.iptr (bU n o p q r t u v w a)]; let g := (List.length c + 1) * 40 <= du /\ List.length c + 1 <= bz; let m := IntKind.wrap .i64 (e + 1); (decide (e < d) = true -> (0 : Int) <= e /\ ∃ (s : BS) (es : LP), let y := kidG k a /\ an es /\ an b; let z := St.mk [(1, AV.pv l), (6, AV.own 12), (11, aS f), (12, aI d), (13, aI m)] [(12, Obj.buf 2 (c ++ [[pT s, pS []]]))]; let i := y /\ aG b s = false; let j := y /\ aG b s = true; let A := bi (bW a) es (bG b s) != 0; let B := bi (bW a) es (bG b s); let x := ft (bW a) es (bG b s); f[Int.toNat e]? = some [pT s, pS es] /\ aA [(j /\ bi (bW a) es (bG b s) ≠ (0 : Int), [tS [], tI B], []), (j /\ bi (bW a) es (bG b s) = (0 : Int), [TV.own 2 x, tI 0], []), (i /\ bu (bW a) es ≠ (0 : Int), [tS [], tI (bu (bW a) es)], []), (i /\ bu (bW a) es = (0 : Int), [TV.own 2 (fL (bW a) es), tI 0], [])] /\ (j /\ bi (bW a) es (bG b s) ≠ (0 : Int) -> (A = true -> ∃ (h : H), Q (eR B)) /\ (A = false -> g /\ J0 z)) /\ (j /\ bi (bW a) es (bG b s) = (0 : Int) -> g /\ J0 (St.mk [(1, AV.pv l), (6, AV.own 12), (11, aS f), (12, aI d), (13, aI m)] [(12, Obj.buf 2 (c ++ [[pT s, pS x]]))])) /\ (i /\ bu (bW a) es ≠ (0 : Int) -> ((bu (bW a) es != 0) = true -> ∃ (h : H), Q (eR (bu (bW a) es))) /\ ((bu (bW a) es != 0) = false -> g /\ J0 z)) /\ (i /\ bu (bW a) es = (0 : Int) -> g /\ J0 (St.mk [(1, AV.pv l), (6, AV.own 12), (11, aS f), (12, aI d), (13, aI m)] [(12, Obj.buf 2 (c ++ [[pT s, pS (fL (bW a) es)]]))])) /\ True) /\ (decide (e < d) = false -> ∃ (h : H), Q ([TV.own 2 c, tI 0], []))) := by kernel_rfl
noncomputable def G0 (N : Nat) : List TV -> Option Alts
 | [.pv (.sl x), .pv (.fn f [.iptr [.sl c], .iptr [.int .i64 o, .str a, .str b, .bool n, .sl nl, .bool m, .sl ml, .sl t, .sl u, .sl k]])] => some [((f = 51 /\ kidG N k /\ an x /\ an c) /\ BJ (bW k) x c ≠ 0, [.pv (.sl []), .pv (.int .i64 (BJ (bW k) x c))], []),
  ((f = 51 /\ kidG N k /\ an x /\ an c) /\ BJ (bW k) x c = 0, [.own 2 (KI (bW k) x c), .pv (.int .i64 0)], [])]
 | _ => none
noncomputable def Hc (N : Nat) : List TV -> Option Alts
 | [.pv (.agg [.int .i64 o, .str a, .str b, .bool n, .sl nl, .bool m, .sl ml, .sl t, .sl u, .sl k]), .pv (.sl x), .pv (.sl c)] => some [((jx N [.int .i64 o, .str a, .str b, .bool n, .sl nl, .bool m, .sl ml, .sl t, .sl u, .sl k] /\ an x /\ an c) /\ s8 [.int .i64 o, .str a, .str b, .bool n, .sl nl, .bool m, .sl ml, .sl t, .sl u, .sl k] x c ≠ 0, [.pv (.sl []), .pv (.int .i64 (s8 [.int .i64 o, .str a, .str b, .bool n, .sl nl, .bool m, .sl ml, .sl t, .sl u, .sl k] x c))], []),
  ((jx N [.int .i64 o, .str a, .str b, .bool n, .sl nl, .bool m, .sl ml, .sl t, .sl u, .sl k] /\ an x /\ an c) /\ s8 [.int .i64 o, .str a, .str b, .bool n, .sl nl, .bool m, .sl ml, .sl t, .sl u, .sl k] x c = 0, [.pv (.sl (F5 [.int .i64 o, .str a, .str b, .bool n, .sl nl, .bool m, .sl ml, .sl t, .sl u, .sl k] x c)), .pv (.int .i64 0)], [])]
 | _ => none
noncomputable def Fd (N : Nat) : Specs := aZ [(46, DW), (47, vu), (42, jN), (48, DU), (43, G4 N), (44, G0 N), (53, Hc N), (54, DV)]
theorem KW (k : Nat) (g : Int) (s t : BS) (d : Bool) (c : LP) (h : Bool) (i j u e a b : LP) (Q : QT) : (bq C (Fd k) 29 [.pv (.agg [.int .i64 g, .str s, .str t, .bool d, .sl c, .bool h, .sl i, .sl j, .sl u, .sl e]), .pv (.sl a), .pv (.sl b)] Q) (H.b (H.b H.auto (H.b H.auto H.auto)) (H.b (H.b H.auto H.auto) (H.b (H.b H.auto (H.b H.auto H.auto)) (H.b (H.b H.auto (H.b H.auto H.auto)) (H.b (H.b H.auto (H.b H.auto H.auto)) (H.b H.auto (H.b H.auto (H.b H.auto H.auto)))))))) = (let f := bU g s t d c h i j u e; let m := (49 = 49 /\ 50 = 50) /\ mQ k e /\ an a /\ bm i /\ bm c /\ an (cm d c b) /\ an (aw d c b); let r := (∃ (k : Nat), aC k f) /\ an a; let n := r /\ ql f a = (0 : Int); let o := 51 = 51 /\ kidG k e /\ an a /\ an b; let p := jx k f /\ an a /\ an b; let w := Dv (bW e) (jV e) a (cm d c b) (aw d c b) h i d c; let x := LL (bW e) (jV e) a (cm d c b) (aw d c b) h i d c; let q := an a /\ an j; let v := !List.length (aw d c a) == 0; ((g == 2) = true -> aA [(q /\ bP a j = false, [tS [], tI 3], []), (q /\ bP a j = true, [tS b, tI 0], [])] /\ (q /\ bP a j = false -> Q (eR 3)) /\ (q /\ bP a j = true -> Q ([tS b, tI 0], [])) /\ True) /\ ((g == 2) = false -> ((g == 6) = true -> (an a /\ bm c) /\ (v = true -> Q (eR 3)) /\ (v = false -> (an b /\ bm c) /\ (∃ (l : List Proofs.YtcoikmicjbppmaaGreat.Vm.Edge) (h : List Proofs.YtcoikmicjbppmaaGreat.Vm.Edge), a = List.map aE l /\ aw d c b = List.map aE h /\ List.length l + List.length h < 20) /\ Q ([TV.own 2 (dj (eE a (aw d c b))), tI 0], []))) /\ ((g == 6) = false -> ((g == 7) = true -> (an b /\ bm c) /\ aA [(m /\ Dv (bW e) (jV e) a (cm d c b) (aw d c b) h i d c ≠ (0 : Int), [tS [], tI w], []), (m /\ Dv (bW e) (jV e) a (cm d c b) (aw d c b) h i d c = (0 : Int), [TV.own 2 x, tI 0], [])] /\ (m /\ Dv (bW e) (jV e) a (cm d c b) (aw d c b) h i d c ≠ (0 : Int) -> Q (eR w)) /\ (m /\ Dv (bW e) (jV e) a (cm d c b) (aw d c b) h i d c = (0 : Int) -> Q ([TV.own 2 x, tI 0], [])) /\ True) /\ ((g == 7) = false -> ((g == 8) = true -> aA [(o /\ BJ (bW e) a b ≠ (0 : Int), [tS [], tI (BJ (bW e) a b)], []), (o /\ BJ (bW e) a b = (0 : Int), [TV.own 2 (KI (bW e) a b), tI 0], [])] /\ (o /\ BJ (bW e) a b ≠ (0 : Int) -> Q (eR (BJ (bW e) a b))) /\ (o /\ BJ (bW e) a b = (0 : Int) -> Q ([TV.own 2 (KI (bW e) a b), tI 0], [])) /\ True) /\ ((g == 8) = false -> ((g == 9) = true -> aA [(p /\ s8 f a b ≠ (0 : Int), [tS [], tI (s8 f a b)], []), (p /\ s8 f a b = (0 : Int), [tS (F5 f a b), tI 0], [])] /\ (p /\ s8 f a b ≠ (0 : Int) -> Q (eR (s8 f a b))) /\ (p /\ s8 f a b = (0 : Int) -> Q ([tS (F5 f a b), tI 0], [])) /\ True) /\ ((g == 9) = false -> aA [(r /\ ql f a ≠ (0 : Int), [tS [], tI (ql f a)], []), (n /\ tH f a = true, [TV.own 2 (uM f a), tI 0], []), (n /\ tH f a = false, [tS (uM f a), tI 0], [])] /\ (r /\ ql f a ≠ (0 : Int) -> Q (eR (ql f a))) /\ (n /\ tH f a = true -> Q ([TV.own 2 (uM f a), tI 0], [])) /\ (n /\ tH f a = false -> Q ([tS (uM f a), tI 0], [])) /\ True)))))) := by kernel_rfl
noncomputable def A1 (N : Nat) : List TV -> Option Alts
 | [.pv (.agg [.int .i64 o, .str a, .str b, .bool n, .sl nl, .bool m, .sl ml, .sl t, .sl u, .sl k]), .pv (.sl x), .pv (.sl c)] => some [((aC N [.int .i64 o, .str a, .str b, .bool n, .sl nl, .bool m, .sl ml, .sl t, .sl u, .sl k] /\ an x /\ an c) /\ m8 [.int .i64 o, .str a, .str b, .bool n, .sl nl, .bool m, .sl ml, .sl t, .sl u, .sl k] x c ≠ 0, [.pv (.sl []), .pv (.int .i64 (m8 [.int .i64 o, .str a, .str b, .bool n, .sl nl, .bool m, .sl ml, .sl t, .sl u, .sl k] x c))], []),
  (((aC N [.int .i64 o, .str a, .str b, .bool n, .sl nl, .bool m, .sl ml, .sl t, .sl u, .sl k] /\ an x /\ an c) /\ m8 [.int .i64 o, .str a, .str b, .bool n, .sl nl, .bool m, .sl ml, .sl t, .sl u, .sl k] x c = 0) /\ Eu [.int .i64 o, .str a, .str b, .bool n, .sl nl, .bool m, .sl ml, .sl t, .sl u, .sl k] x = true, [.own 2 (lK [.int .i64 o, .str a, .str b, .bool n, .sl nl, .bool m, .sl ml, .sl t, .sl u, .sl k] x c), .pv (.int .i64 0)], []),
  (((aC N [.int .i64 o, .str a, .str b, .bool n, .sl nl, .bool m, .sl ml, .sl t, .sl u, .sl k] /\ an x /\ an c) /\ m8 [.int .i64 o, .str a, .str b, .bool n, .sl nl, .bool m, .sl ml, .sl t, .sl u, .sl k] x c = 0) /\ Eu [.int .i64 o, .str a, .str b, .bool n, .sl nl, .bool m, .sl ml, .sl t, .sl u, .sl k] x = false, [.pv (.sl (lK [.int .i64 o, .str a, .str b, .bool n, .sl nl, .bool m, .sl ml, .sl t, .sl u, .sl k] x c)), .pv (.int .i64 0)], [])]
 | _ => none
noncomputable def Jc (N : Nat) : Specs := aZ [(29, A1 N), (27, AK)]
theorem Mo (j : Nat) (r : Int) (k l : BS) (p : Bool) (q : LP) (n : Bool) (o s t m a c : LP) (Q : QT) : (bq C (Jc j) 11 [.pv (.agg [.int .i64 r, .str k, .str l, .bool p, .sl q, .bool n, .sl o, .sl s, .sl t, .sl m]), .pv (.sl a), .pv (.sl c)] Q) (H.b (H.b H.auto (H.b H.auto (H.b H.auto H.auto))) (H.b (H.b H.auto (H.b H.auto (H.b (H.b H.auto H.auto) H.auto))) (H.b (H.b H.auto (H.b H.auto (H.b H.auto H.auto))) H.auto))) = (let b := bU r k l p q n o s t m; let d := (0 : Int) = (0 : Int) /\ gt (lK b a c); let i := aC j b /\ an a /\ an c; let f := i /\ m8 b a c = (0 : Int); let h := bf (lK b a c) (1 : Int) (0 : Int); let g := m8 b a c = (0 : Int) /\ gt []; let e := cN (lK b a c); let w := d /\ bf (lK b a c) (1 : Int) (0 : Int) ≠ (0 : Int) -> Q (eR h); let x := (0 : Int) ≠ (0 : Int) /\ 0 = 0 -> Q (eR 0); let u := flatTVs [TV.own 2 e, tI 0] && true; let v := bf [] (1 : Int) (0 : Int); aA [(i /\ m8 b a c ≠ (0 : Int), [tS [], tI (m8 b a c)], []), (f /\ Eu b a = true, [TV.own 2 (lK b a c), tI 0], []), (f /\ Eu b a = false, [tS (lK b a c), tI 0], [])] /\ (i /\ m8 b a c ≠ (0 : Int) -> aA [(m8 b a c ≠ (0 : Int) /\ 0 = 0, [tS [], tI (m8 b a c)], []), (g /\ bf [] (1 : Int) (0 : Int) ≠ (0 : Int), [tS [], tI v], []), (g /\ bf [] (1 : Int) (0 : Int) = (0 : Int), [TV.own 2 (cN []), tI 0], [])] /\ (m8 b a c ≠ (0 : Int) /\ 0 = 0 -> Q (eR (m8 b a c))) /\ (g /\ bf [] (1 : Int) (0 : Int) ≠ (0 : Int) -> Q (eR v)) /\ (g /\ bf [] (1 : Int) (0 : Int) = (0 : Int) -> Q ([TV.own 2 (cN []), tI 0], [])) /\ True) /\ (f /\ Eu b a = true -> aA [((0 : Int) ≠ (0 : Int) /\ 0 = 0, [tS [], tI 0], []), (d /\ bf (lK b a c) (1 : Int) (0 : Int) ≠ (0 : Int), [tS [], tI h], []), (d /\ bf (lK b a c) (1 : Int) (0 : Int) = (0 : Int), [TV.own 2 e, tI 0], [])] /\ x /\ w /\ (d /\ bf (lK b a c) (1 : Int) (0 : Int) = (0 : Int) -> (u = true -> Q ([TV.own 2 e, tI 0], [])) /\ (u = false -> Q ([TV.own 2 e, tI 0], []))) /\ True) /\ (f /\ Eu b a = false -> aA [((0 : Int) ≠ (0 : Int) /\ 0 = 0, [tS [], tI 0], []), (d /\ bf (lK b a c) (1 : Int) (0 : Int) ≠ (0 : Int), [tS [], tI h], []), (d /\ bf (lK b a c) (1 : Int) (0 : Int) = (0 : Int), [TV.own 2 e, tI 0], [])] /\ x /\ w /\ (d /\ bf (lK b a c) (1 : Int) (0 : Int) = (0 : Int) -> Q ([TV.own 2 e, tI 0], [])) /\ True) /\ True) := by kernel_rfl
theorem de (p : LD) (k : Ls) (c : Tr) : bu (p.row k.rows) c.rows = (aO p k c).2 := by unfold bu; rw [(aM p k).1, (aM p k).2, aq]
theorem dU (p : LD) (k : Ls) (c : Tr) : fL (p.row k.rows) c.rows = (aO p k c).1.rows := by unfold fL; rw [(aM p k).1, (aM p k).2, aq]
theorem fM (p : LD) (k : Ls) (c : Tr) : mC (p.row k.rows) c.rows = (db p k.cres c).2 := by unfold mC; rw [(aM p k).1, (aM p k).2, aq]
theorem kT (p : LD) (k : Ls) (c : Tr) : lH (p.row k.rows) c.rows = (db p k.cres c).1.rows := by unfold lH; rw [(aM p k).1, (aM p k).2, aq]
theorem DP (p : LD) (k : Ls) (c : LP) : DN (p.row k.rows) c = (p.o == 3 && aG c p.b || p.o == 4 || p.o == 7 || p.o == 8) := by unfold DN; rw [(aM p k).1]
theorem dl (p : LD) (k : Ls) (a c : Tr) : bi (p.row k.rows) a.rows c.rows = (aY p k a c).2 := by unfold bi; rw [(aM p k).1, (aM p k).2, aq, aq]
theorem eq (p : LD) (k : Ls) (a c : Tr) : ft (p.row k.rows) a.rows c.rows = (aY p k a c).1.rows := by unfold ft; rw [(aM p k).1, (aM p k).2, aq, aq]
theorem fU (p : LD) (k : Ls) (a c : Tr) : m8 (p.row k.rows) a.rows c.rows = (cZ p k.gets k.cres k.puts a c).2 := by unfold m8; rw [(aM p k).1, (aM p k).2, aq, aq]
theorem lm (p : LD) (k : Ls) (a c : Tr) : lK (p.row k.rows) a.rows c.rows = (cZ p k.gets k.cres k.puts a c).1.rows := by unfold lK; rw [(aM p k).1, (aM p k).2, aq, aq]
theorem Ew (p : LD) (k : Ls) (c : LP) : Eu (p.row k.rows) c = (p.o == 3 && aG c p.b || p.o == 4 || p.o == 6 || p.o == 7 || p.o == 8) := by unfold Eu; rw [(aM p k).1]
theorem jt (p : LD) (k : Ls) (c : Tr) : ql (p.row k.rows) c.rows = (eU p c).2 := by unfold ql; rw [(aM p k).1, aq]
theorem mL (p : LD) (k : Ls) (c : Tr) : uM (p.row k.rows) c.rows = (eU p c).1.rows := by unfold uM; rw [(aM p k).1, aq]
theorem pp (p : LD) (k : Ls) (c : LP) : tH (p.row k.rows) c = (p.o == 3 && aG c p.b || p.o == 4) := by unfold tH; rw [(aM p k).1]
def eF (N : Nat) : Prop := ∀ ag al, lR N ag = some al -> ∀ a ∈ al, a.1 -> Ev C 52 ag a.2
def et (N : Nat) : Prop := ∀ ag al, lS N ag = some al -> ∀ a ∈ al, a.1 -> Ev C 11 ag a.2
def EM (N : Nat) : Prop := ∀ ag al, Hc N ag = some al -> ∀ a ∈ al, a.1 -> Ev C 53 ag a.2
theorem Ln : ∀ ag al, vA ag = some al -> ∀ a ∈ al, a.1 -> Ev C 72 ag a.2 := by
 intro ag al hl x hx hp
 unfold vA at hl
 split at hl
 ·simp only [Option.some.injEq] at hl; subst hl
  simp only [List.mem_singleton] at hx; subst hx
  obtain ⟨⟨t, rfl, ht⟩, u, rfl, hu⟩ := hp
  have h1 := ht.size
  exact FK (t.nodes + 1) t u (by omega) (by omega)
 ·exact absurd hl (by simp)
theorem FB : ∀ ag al, DW ag = some al -> ∀ a ∈ al, a.1 -> Ev C 46 ag a.2 := by
 intro ag al hl x hx hp
 have hS : aK C Ja := az (am Ln ax)
 unfold DW at hl
 split at hl
 ·simp only [Option.some.injEq] at hl; subst hl
  simp only [List.mem_cons, List.not_mem_nil, or_false] at hx
  rcases hx with rfl | rfl
  ·exact bh hS (Ka ..) ⟨hp.1, fun _ => rfl, fun g => by rw [hp.2] at g; simp at g⟩
  ·exact bh hS (Ka ..) ⟨hp.1, fun g => by rw [hp.2] at g; simp at g, fun _ => rfl⟩
 ·exact absurd hl (by simp)
theorem xC {c : Tr} (hg : an c.rows) (f t : BS) : (an c.rows /\ aG c.rows t = true) ∨ ((an c.rows /\ aG c.rows t = false) /\ aG c.rows f = false) ∨ ((an c.rows /\ aG c.rows t = false) /\ aG c.rows f = true) := by
 cases e1 : aG c.rows t
 ·cases e2 : aG c.rows f
  ·exact .inr (.inl ⟨⟨hg, rfl⟩, rfl⟩)
  ·exact .inr (.inr ⟨⟨hg, rfl⟩, rfl⟩)
 ·exact .inl ⟨hg, rfl⟩
theorem B7 {c : Tr} {f t : BS} (h : aG c.rows t = true) : gh c f t = (.nil, 3) := if_pos (by rw [<- bR, h])
theorem B8 {c : Tr} {f t : BS} (h : aG c.rows t = false) (h2 : aG c.rows f = false) : gh c f t = (c, 0) := by unfold gh; rw [if_neg (by rw [<- bR, h]; simp), if_neg (by rw [<- bR, h2]; simp)]
theorem B9 {c : Tr} {f t : BS} (h : aG c.rows t = false) (h2 : aG c.rows f = true) : gh c f t = (Tr.of (bH (dB c.list f) t (bE c f)), 0) := by unfold gh; rw [if_neg (by rw [<- bR, h]; simp), if_pos (by rw [<- bR, h2])]
theorem BQ {c : Tr} {n : BS} : (fD c n).2 ≠ 0 -> (fD c n).2 = 3 := by
 unfold fD
 split
 ·split
  ·intro e; simp at e
  ·intro _; rfl
 ·intro _; rfl
theorem GQ (p : LD) (k : Ls) (c : Tr) (hc : c.good) : Ev C 54 [.pv (.agg (p.row k.rows)), .pv (.sl c.rows)] (dm (tH (p.row k.rows) c.rows) (eU p c)) := by
 have hS : aK C I6 := az (am FU (am FJ (am Ga ax)))
 have hg : an c.rows := ⟨c, rfl, hc⟩
 rw [pp]
 refine bh hS (Ma p.o p.a p.b p.n (p.nl.map ak) p.m (p.ml.map ak) p.t.rows p.u.rows k.rows c.rows _) ?_
 conv => zeta
 refine ⟨fun g => ?_, fun n3 => ⟨fun g => ?_, fun n4 => ⟨fun g => ?_, fun n5 => ?_⟩⟩⟩
 all_goals simp only [beq_iff_eq, beq_eq_false_iff_ne, ne_eq] at *
 ·have hV : eU p c = gh c p.b p.a := by unfold eU; rw [if_pos g]
  rw [hV, g]
  refine ⟨xC hg _ _, fun g2 => ?_, fun g2 => ?_, fun g2 => ?_, trivial⟩
  ·rw [B7 g2.2]
   exact (aF (r := (Tr.nil, 3)) (by decide)).symm
  ·rw [B8 g2.1.2 g2.2, g2.2]
   exact (bk (r := (c, 0)) rfl).symm
  ·rw [B9 g2.1.2 g2.2, g2.2, fH]
   exact (be (r := (Tr.of (bH (dB c.list p.b) p.a (bE c p.b)), 0)) rfl).symm
 ·have hV : eU p c = mj c p.a := by unfold eU; rw [if_neg n3, if_pos g]
  rw [hV, g]
  exact ⟨trivial, (be (r := mj c p.a) rfl).symm⟩
 ·have hV : eU p c = fD c p.a := by unfold eU; rw [if_neg n3, if_neg n4, if_pos g]
  rw [hV, g]
  obtain ⟨o1, o2⟩ := eA c p.a
  refine ⟨ce hg, fun g2 => ?_, fun g2 => ?_, trivial⟩
  ·have e := g2.2
   rw [o1] at e
   rw [aF e, BQ e]
  ·have e := g2.2
   rw [o1] at e
   rw [o2]
   exact (bk e).symm
 ·have hV : eU p c = (c, 0) := by unfold eU; rw [if_neg n3, if_neg n4, if_neg n5]
  have hw : (p.o == 3 && aG c.rows p.b || p.o == 4) = false := by simp [n3, n4]
  rw [hV, hw]
  exact (bk (r := (c, 0)) rfl).symm
theorem Fx : ∀ ag al, DV ag = some al -> ∀ a ∈ al, a.1 -> Ev C 54 ag a.2 := by
 intro ag al hl x hx hp
 unfold DV at hl
 split at hl
 ·simp only [Option.some.injEq] at hl; subst hl
  simp only [List.mem_cons, List.not_mem_nil, or_false] at hx
  rcases hx with rfl | rfl | rfl
  ·obtain ⟨⟨⟨_, p, k, er, hd, hf⟩, c, rfl, hc⟩, he⟩ := hp
   have := GQ p k c hc
   rw [er] at he ⊢
   rw [jt] at he
   rw [aF he] at this
   simp only [jt]
   exact this
  ·obtain ⟨⟨⟨⟨_, p, k, er, hd, hf⟩, c, rfl, hc⟩, he⟩, hw⟩ := hp
   have := GQ p k c hc
   rw [er] at he hw ⊢
   rw [jt] at he
   rw [hw, be he] at this
   simp only [mL]
   exact this
  ·obtain ⟨⟨⟨⟨_, p, k, er, hd, hf⟩, c, rfl, hc⟩, he⟩, hw⟩ := hp
   have := GQ p k c hc
   rw [er] at he hw ⊢
   rw [jt] at he
   rw [hw, bk he] at this
   simp only [mL]
   exact this
 ·exact absurd hl (by simp)
theorem JY {N : Nat} (h : eF N) (o : Int) (a b : BS) (n : Bool) (nl : LP) (m : Bool) (ml t u : LP) (e0 e1 : LD × Ls) (h0 : aC N (e0.1.row e0.2.rows)) (h1 : aC N (e1.1.row e1.2.rows)) (f0 : (Ls.cons e0.1 e0.2 .nil).fine) (f1 : (Ls.cons e1.1 e1.2 .nil).fine) (c : Tr) (hc : c.good) (v : Bool) (vl : List (BS)) (hv : vl.length <= 4000000) (w : Bool) (wl : List (BS)) (hw : wl.length <= 4000000) :
  Ev C 43 [.pv (.agg [.int .i64 o, .str a, .str b, .bool n, .sl nl, .bool m, .sl ml, .sl t, .sl u, .sl [e0.1.row e0.2.rows, e1.1.row e1.2.rows]]), .pv (.sl c.rows), .pv (.agg [.bool v, .sl (vl.map ak)]), .pv (.agg [.bool w, .sl (wl.map ak)]), .pv (.fn 52 []), .pv (.fn 52 [])] (dm true (cM (aO e0.1 e0.2) (aO e1.1 e1.2) v (vl.map ak) w (wl.map ak) c)) := by
 have hS : aK C (I8 N) := az (am wd (am h (am rP (am BK (am pj ax)))))
 have gi := eI hc v (vl.map ak)
 have go := di hc v (vl.map ak)
 have k0 := cl (fp e0.1 e0.2 f0 _ gi)
 have k1 := cl (fp e1.1 e1.2 f1 _ go)
 have hR : ∀ x : ej, x = cM (aO e0.1 e0.2) (aO e1.1 e1.2) v (vl.map ak) w (wl.map ak) c -> x = if (aO e0.1 e0.2 (dR v (vl.map ak) c)).2 ≠ 0 then (.nil, (aO e0.1 e0.2 (dR v (vl.map ak) c)).2) else if (aO e1.1 e1.2 (bD v (vl.map ak) c)).2 ≠ 0 then (.nil, (aO e1.1 e1.2 (bD v (vl.map ak) c)).2) else dH w (wl.map ak) (aO e0.1 e0.2 (dR v (vl.map ak) c)).1 (aO e1.1 e1.2 (bD v (vl.map ak) c)).1 := fun x hx => hx
 generalize cM (aO e0.1 e0.2) (aO e1.1 e1.2) v (vl.map ak) w (wl.map ak) c = F at *
 have hR := hR F rfl
 have E0 := de e0.1 e0.2 (dR v (vl.map ak) c)
 have E1 := de e1.1 e1.2 (bD v (vl.map ak) c)
 have T0 := dU e0.1 e0.2 (dR v (vl.map ak) c)
 have T1 := dU e1.1 e1.2 (bD v (vl.map ak) c)
 unfold LD.row at E0 E1 T0 T1
 change lC (aO e0.1 e0.2 (dR v (vl.map ak) c)) at k0
 change lC (aO e1.1 e1.2 (bD v (vl.map ak) c)) at k1
 have gI : an (cm v (vl.map ak) c.rows) := ⟨_, dr _ _ _, gi⟩
 have gO : an (aw v (vl.map ak) c.rows) := ⟨_, ct _ _ _, go⟩
 have sw : bm (wl.map ak) := ⟨wl, rfl, hw⟩
 refine bh hS (Mb ..) ?_
 conv => zeta
 refine ⟨⟨⟨c, rfl, hc⟩, vl, rfl, hv⟩, _, _, _, _, _, _, _, _, _, _, rfl, ce ⟨h0, gI⟩, fun g => ⟨fun _ => ?_, fun g2 => nz g.2 g2⟩, fun g => ⟨_, _, _, _, _, _, _, _, _, _, rfl, ce ⟨h1, gO⟩, fun g2 => ⟨fun _ => ?_, fun g3 => nz g2.2 g3⟩, fun g2 => ?_, trivial⟩, trivial⟩
 ·have g := g.2
  rw [dr, E0] at g ⊢
  rw [if_pos g] at hR
  rw [hR]
  exact (aF (r := (Tr.nil, _)) g).symm
 ·have g := g.2
  have g2 := g2.2
  rw [dr, E0] at g
  rw [ct, E1] at g2 ⊢
  rw [if_neg (not_not_intro g), if_pos g2] at hR
  rw [hR]
  exact (aF (r := (Tr.nil, _)) g2).symm
 ·have g := g.2
  have g2 := g2.2
  rw [dr, E0] at g
  rw [ct, E1] at g2
  rw [dr v _ c, T0, ct v _ c, T1]
  rw [if_neg (not_not_intro g), if_neg (not_not_intro g2)] at hR
  have gx := k0.2 g
  have gy := k1.2 g2
  generalize (aO e0.1 e0.2 (dR v (vl.map ak) c)).1 = x at *
  generalize (aO e1.1 e1.2 (bD v (vl.map ak) c)).1 = y at *
  rw [ct w _ x, dr w _ y]
  have n1 := d7 (t := bD w (wl.map ak) x)
  have n2 := d7 (t := dR w (wl.map ak) y)
  have lx := cw gx
  have ly := cw gy
  refine ⟨⟨⟨x, rfl, gx⟩, sw⟩, fun g3 => ?_, fun g3 => ⟨⟨⟨y, rfl, gy⟩, sw⟩, fun g4 => ?_, fun g4 => ⟨⟨x.list, y.list, rows_list x, rows_list y, by omega⟩, ?_⟩⟩⟩
  ·have eb : dH w (wl.map ak) x y = (.nil, 3) := if_pos (.inl fun e => by rw [n1.2 e] at g3; simp at g3)
   rw [hR, eb]; rfl
  ·have eb : dH w (wl.map ak) x y = (.nil, 3) := if_pos (.inr fun e => by rw [n2.2 e] at g4; simp at g4)
   rw [hR, eb]; rfl
  ·have o1 : (bD w (wl.map ak) x).list = [] := n1.1 (by simpa using g3)
   have o2 : (dR w (wl.map ak) y).list = [] := n2.1 (by simpa using g4)
   have eb : dH w (wl.map ak) x y = (ew x y, 0) := if_neg (by
    rintro (e | e)
    ·exact e o1
    ·exact e o2)
   obtain ⟨pm, e1, hp, hle, _⟩ := fJ (x.list ++ y.list) (by rw [List.length_append]; omega)
   have e2 : eE x.rows y.rows = (x.list ++ y.list).map aE := by unfold eE; rw [rows_list, rows_list, List.map_append]
   rw [hR, eb, be rfl, e2, e1, <- cG, jD gx gy o1 o2 hp hle]
theorem tJ (e0 e1 : LD × Ls) (c : Tr) (v : Bool) (vl : LP) (w : Bool) (wl : LP) : Du (bW [e0.1.row e0.2.rows, e1.1.row e1.2.rows]) (jV [e0.1.row e0.2.rows, e1.1.row e1.2.rows]) c.rows v vl w wl = (cM (aO e0.1 e0.2) (aO e1.1 e1.2) v vl w wl c).2 /\ LK (bW [e0.1.row e0.2.rows, e1.1.row e1.2.rows]) (jV [e0.1.row e0.2.rows, e1.1.row e1.2.rows]) c.rows v vl w wl = (cM (aO e0.1 e0.2) (aO e1.1 e1.2) v vl w wl c).1.rows := by
 unfold Du LK
 show (cM (aO (aR (e0.1.row e0.2.rows)) (bB (e0.1.row e0.2.rows))) (aO (aR (e1.1.row e1.2.rows)) (bB (e1.1.row e1.2.rows))) v vl w wl (aH c.rows)).2 = _ /\ (cM (aO (aR (e0.1.row e0.2.rows)) (bB (e0.1.row e0.2.rows))) (aO (aR (e1.1.row e1.2.rows)) (bB (e1.1.row e1.2.rows))) v vl w wl (aH c.rows)).1.rows = _
 rw [(aM e0.1 e0.2).1, (aM e0.1 e0.2).2, (aM e1.1 e1.2).1, (aM e1.1 e1.2).2, aq]
 exact ⟨rfl, rfl⟩
theorem JZ {N : Nat} (h : eF N) : ∀ ag al, G3 N ag = some al -> ∀ a ∈ al, a.1 -> Ev C 43 ag a.2 := by
 intro ag al hl x hx hp
 unfold G3 at hl
 split at hl
 ·rename_i o a b n nl m ml t u k c v vl w wl f g
  simp only [Option.some.injEq] at hl; subst hl
  simp only [List.mem_cons, List.not_mem_nil, or_false] at hx
  rcases hx with rfl | rfl
  ·obtain ⟨⟨⟨rfl, rfl⟩, ⟨r, s, rfl, ⟨p0, q0, rfl, d0, f0⟩, ⟨p1, q1, rfl, d1, f1⟩⟩, ⟨c, rfl, hg⟩, ⟨vl, rfl, hv⟩, wl, rfl, hw⟩, he⟩ := hp
   have := JY h o a b n nl m ml t u (p0, q0) (p1, q1) ⟨p0, q0, rfl, d0, f0⟩ ⟨p1, q1, rfl, d1, f1⟩ f0 f1 c hg v vl hv w wl hw
   have er := tJ (p0, q0) (p1, q1) c v (vl.map ak) w (wl.map ak)
   simp only at er
   rw [er.1] at he
   rw [aF he] at this
   simp only [er.1]
   exact this
  ·obtain ⟨⟨⟨rfl, rfl⟩, ⟨r, s, rfl, ⟨p0, q0, rfl, d0, f0⟩, ⟨p1, q1, rfl, d1, f1⟩⟩, ⟨c, rfl, hg⟩, ⟨vl, rfl, hv⟩, wl, rfl, hw⟩, he⟩ := hp
   have := JY h o a b n nl m ml t u (p0, q0) (p1, q1) ⟨p0, q0, rfl, d0, f0⟩ ⟨p1, q1, rfl, d1, f1⟩ f0 f1 c hg v vl hv w wl hw
   have er := tJ (p0, q0) (p1, q1) c v (vl.map ak) w (wl.map ak)
   simp only at er
   rw [er.1] at he
   rw [be he] at this
   simp only [er.2]
   exact this
 ·exact absurd hl (by simp)
theorem Ju {N : Nat} (h : eF N) : ∀ ag al, GW N ag = some al -> ∀ a ∈ al, a.1 -> Ev C 94 ag a.2 := by
 intro ag al hl x hx hp
 have hS : aK C (I1 N) := az (am h ax)
 unfold GW at hl
 split at hl
 ·simp only [Option.some.injEq] at hl; subst hl
  simp only [List.mem_cons, List.not_mem_nil, or_false] at hx
  rcases hx with rfl | rfl
  ·obtain ⟨⟨⟨r, rfl, p, q, rfl, hd, hf⟩, hg⟩, he⟩ := hp
   refine bh hS (Jv ..) ?_
   conv => zeta
   exact ⟨_, _, _, _, _, _, _, _, _, _, rfl, ce ⟨⟨p, q, rfl, hd, hf⟩, hg⟩, fun _ => rfl, fun g => absurd g.2 he, trivial⟩
  ·obtain ⟨⟨⟨r, rfl, p, q, rfl, hd, hf⟩, hg⟩, he⟩ := hp
   refine bh hS (Jv ..) ?_
   conv => zeta
   exact ⟨_, _, _, _, _, _, _, _, _, _, rfl, ce ⟨⟨p, q, rfl, hd, hf⟩, hg⟩, fun g => absurd he g.2, fun _ => rfl, trivial⟩
 ·exact absurd hl (by simp)
theorem JG {N : Nat} (h : eF N) (o : Int) (a b : BS) (n : Bool) (nl : LP) (m : Bool) (ml t u : LP) (p : LD) (q : Ls) (h0 : aC N (p.row q.rows)) (c : Tr) (hc : c.good) : Ev C 44 [.pv (.sl c.rows), .pv (.fn 94 [.iptr [.int .i64 o, .str a, .str b, .bool n, .sl nl, .bool m, .sl ml, .sl t, .sl u, .sl [p.row q.rows]]])] (dm true (Tr.of (bC (fun e => aO p q e.2) c.list).1, (bC (fun e => aO p q e.2) c.list).2)) := by
 have hr := cz
 have hm := bN
 have hS : aK C (zJ N) := az (am (Ju h) ax)
 have hl := rows_len c
 have h6 := cw hc
 refine bh hS (L5 ..) ?_
 conv => zeta
 refine aJ hS (by kernel_rfl) 1000 (fun k st => ∃ (i : Nat) (pre : List Edge), st = Fs o a b n nl m ml t u [p.row q.rows] c.rows c.list.length i (pre.map aE) /\ i <= c.list.length /\ pre.length = i /\ jU (fun e => aO p q e.2) c.list i pre /\ k = c.list.length - i) ?_ (n := c.list.length) ⟨0, [], by rw [hl]; rfl, by omega, rfl, nZ _ _, by omega⟩
 rintro k st ⟨i, pre, rfl, hi, hp, hI, rfl⟩
 refine cr (JH ..) ?_
 conv => zeta
 refine ⟨fun g => ?_, fun g => ?_⟩
 ·simp only [decide_eq_true_eq] at g
  have hi' : i < c.list.length := by omega
  have hk := dA hc (List.getElem_mem hi')
  have E0 := de p q c.list[i].2
  have T0 := dU p q c.list[i].2
  have e1 : bu (bW [p.row q.rows]) c.list[i].2.rows = (aO p q c.list[i].2).2 := E0
  have e2 : fL (bW [p.row q.rows]) c.list[i].2.rows = (aO p q c.list[i].2).1.rows := T0
  refine ⟨by omega, _, _, row_get c hi', ce ⟨⟨_, rfl, h0⟩, _, rfl, hk⟩, fun g2 => ⟨fun _ => ⟨.auto, ?_⟩, fun g3 => nz g2.2 g3⟩, fun g2 => ⟨⟨by rw [List.length_map]; omega, by rw [List.length_map]; omega⟩, ?_⟩, trivial⟩
  ·have g2 := g2.2
   rw [e1] at g2 ⊢
   rw [i6 hi' hI g2]
   exact (aF (r := (Tr.of [], _)) g2).symm
  ·have g2 := g2.2
   rw [e1] at g2
   rw [e2]
   refine ⟨c.list.length - (i + 1), by omega, i + 1, pre ++ [(c.list[i].1, (aO p q c.list[i].2).1)], ?_, by omega, by rw [List.length_append, hp]; rfl, gS hi' hI g2, rfl⟩
   rw [dJ (by omega), List.map_append]; rfl
 ·simp only [decide_eq_false_iff_not] at g
  have : i = c.list.length := by omega
  subst this
  refine ⟨.auto, ?_⟩
  rw [i5 hI, be rfl, cG]
theorem uf (p : LD) (q : Ls) (c : Tr) : BI (bW [p.row q.rows]) c.rows = (bC (fun e => aO p q e.2) c.list).2 /\ KH (bW [p.row q.rows]) c.rows = (Tr.of (bC (fun e => aO p q e.2) c.list).1).rows := by
 unfold BI KH
 show (bC (fun e => aO (aR (p.row q.rows)) (bB (p.row q.rows)) e.2) (aH c.rows).list).2 = _ /\ (bC (fun e => aO (aR (p.row q.rows)) (bB (p.row q.rows)) e.2) (aH c.rows).list).1.map aE = _
 rw [(aM p q).1, (aM p q).2, aq, cG]
 exact ⟨rfl, rfl⟩
theorem JI {N : Nat} (h : eF N) : ∀ ag al, GY N ag = some al -> ∀ a ∈ al, a.1 -> Ev C 44 ag a.2 := by
 intro ag al hl x hx hp
 unfold GY at hl
 split at hl
 ·rename_i c f o a b n nl m ml t u k
  simp only [Option.some.injEq] at hl; subst hl
  simp only [List.mem_cons, List.not_mem_nil, or_false] at hx
  rcases hx with rfl | rfl
  ·obtain ⟨⟨rfl, ⟨r, rfl, p, q, rfl, hd, hf⟩, c, rfl, hg⟩, he⟩ := hp
   have := JG h o a b n nl m ml t u p q ⟨p, q, rfl, hd, hf⟩ c hg
   have er := uf p q c
   rw [er.1] at he
   rw [aF he] at this
   simp only [er.1]
   exact this
  ·obtain ⟨⟨rfl, ⟨r, rfl, p, q, rfl, hd, hf⟩, c, rfl, hg⟩, he⟩ := hp
   have := JG h o a b n nl m ml t u p q ⟨p, q, rfl, hd, hf⟩ c hg
   have er := uf p q c
   rw [er.1] at he
   rw [be he] at this
   simp only [er.2]
   exact this
 ·exact absurd hl (by simp)
theorem rY (k : Ls) {j : Nat} (h : j < k.list.length) : (k.cres.take (j + 1)).reverse = aO k.list[j].1 k.list[j].2 :: (k.cres.take j).reverse := by
 have hl : k.cres.length = k.list.length := by rw [ib, List.length_map]
 have he : k.cres[j]'(by omega) = aO k.list[j].1 k.list[j].2 := by simp only [ib, List.getElem_map]
 rw [List.take_succ_eq_append_getElem (by omega), List.reverse_append, he]; rfl
theorem GH {N : Nat} (h : eF N) (p : LD) (k : Ls) (hf : (Ls.cons p k .nil).fine) (hd : k.deep < N) (c : Tr) (hc : c.good) : Ev C 76 [.pv (.agg (p.row k.rows)), .pv (.sl c.rows)] (dm (DN (p.row k.rows) c.rows) (db p k.cres c)) := by
 have hS : aK C (wQ N) := az (am FB (am rP (am (JZ h) (am (JI h) (am h (am Fx ax))))))
 rw [DP]
 obtain ⟨⟨⟨ha, hb⟩, ⟨ht, hu⟩, ⟨hn, hm⟩, hop, k7, k8, k9, k10⟩, hk, _⟩ := id hf
 have hg : an c.rows := ⟨c, rfl, hc⟩
 have sn : bm (p.nl.map ak) := ⟨_, rfl, hn⟩
 have sm : bm (p.ml.map ak) := ⟨_, rfl, hm⟩
 have hL : ∃ N, aC N (p.row k.rows) := ⟨_, p, k, rfl, Nat.lt_succ_self _, hf⟩
 have fE := jt p k c
 have fT := mL p k c
 have fW := pp p k c.rows
 unfold LD.row at fE fT fW
 have hn1 := d7 (t := bD p.n (p.nl.map ak) c)
 refine bh hS (L4 N p.o p.a p.b p.n (p.nl.map ak) p.m (p.ml.map ak) p.t.rows p.u.rows k.rows c.rows _) ?_
 conv => zeta
 refine ⟨fun g => ?_, fun n2 => ⟨fun g => ?_, fun n6 => ⟨fun g => ?_, fun n7 => ⟨fun g => ?_, fun n8 => ⟨fun g => ?_, fun n9 => ?_⟩⟩⟩⟩⟩
 ·have g : p.o = 2 := by simpa using g
  have hV : db p k.cres c = lB c p.t p.u := by unfold db; rw [if_pos g]
  rw [hV, g]
  refine ⟨?_, fun g2 => ?_, fun g2 => ?_, trivial⟩
  ·cases e : bP c.rows p.t.rows
   ·exact .inl ⟨⟨hg, p.t, rfl, ht⟩, rfl⟩
   ·exact .inr ⟨⟨hg, p.t, rfl, ht⟩, rfl⟩
  ·have e : lB c p.t p.u = (.nil, 3) := if_neg (by rw [g2.2]; simp)
   rw [e]
   exact (aF (r := (Tr.nil, 3)) (by decide)).symm
  ·have e : lB c p.t p.u = (p.u, 0) := if_pos g2.2
   rw [e]
   exact (bk (r := (p.u, 0)) rfl).symm
 ·have g : p.o = 6 := by simpa using g
  have n2 : ¬ p.o = 2 := by simpa using n2
  rw [ct]
  refine ⟨⟨hg, sn⟩, fun g2 => ?_, fun g2 => ?_⟩
  ·have hV : db p k.cres c = (.nil, 3) := by
    unfold db
    rw [if_neg n2, if_neg (by omega), if_neg (by omega), if_neg (by omega), if_pos g, if_pos (fun e => by rw [hn1.2 e] at g2; simp at g2)]
   rw [hV]
   exact (aF (r := (Tr.nil, 3)) (by decide)).symm
  ·have hV : db p k.cres c = (c, 0) := by
    unfold db
    rw [if_neg n2, if_neg (by omega), if_neg (by omega), if_neg (by omega), if_pos g, if_neg (not_not_intro (hn1.1 (by simpa using g2)))]
   have hF : eU p c = (c, 0) := by unfold eU; rw [if_neg (by omega), if_neg (by omega), if_neg (by omega)]
   have hw : (p.o == 3 && aG c.rows p.b || p.o == 4 || p.o == 7 || p.o == 8) = false := by simp [g]
   have hw2 : (p.o == 3 && aG c.rows p.b || p.o == 4) = false := by simp [g]
   rw [hF] at fE fT
   rw [hw2] at fW
   rw [fE, fT, fW, hV, hw]
   refine ⟨rK ⟨hL, hg⟩, fun g3 => absurd rfl g3.2, fun g3 => ?_, fun g3 => ?_, trivial⟩
   ·have := g3.2
    simp at this
   ·exact (bk (r := (c, 0)) rfl).symm
 ·have g : p.o = 7 := by simpa using g
  obtain ⟨e0, e1, hl, hkr, l0, l1, _, hgs, _⟩ := jk hd hk (k7 g)
  have hV : db p k.cres c = cM (aO e0.1 e0.2) (aO e1.1 e1.2) p.m (p.ml.map ak) p.n (p.nl.map ak) c := by unfold db; rw [if_neg (by omega), if_neg (by omega), if_neg (by omega), if_neg (by omega), if_neg (by omega), if_pos g, hgs]
  rw [hV, g, hkr, (tJ e0 e1 c ..).1, (tJ e0 e1 c ..).2]
  exact ⟨ce ⟨⟨rfl, rfl⟩, ⟨_, _, rfl, l0, l1⟩, hg, sm, sn⟩, fun g2 => (aF g2.2).symm, fun g2 => (be g2.2).symm, trivial⟩
 ·have g : p.o = 8 := by simpa using g
  obtain ⟨e0, hl, hkr, l0, _, hgs, _⟩ := lk hd hk (k8 g)
  have hV : db p k.cres c = (Tr.of (bC (fun e => aO e0.1 e0.2 e.2) c.list).1, (bC (fun e => aO e0.1 e0.2 e.2) c.list).2) := by unfold db; rw [if_neg (by omega), if_neg (by omega), if_neg (by omega), if_neg (by omega), if_neg (by omega), if_neg (by omega), if_pos g, hgs]
  rw [hV, g, hkr, (uf e0.1 e0.2 c).1, (uf e0.1 e0.2 c).2]
  refine ⟨ce ⟨rfl, ⟨_, rfl, l0⟩, hg⟩, fun g2 => ?_, fun g2 => ?_, trivial⟩
  ·exact (aF (r := (Tr.of (bC (fun e => aO e0.1 e0.2 e.2) c.list).1, (bC (fun e => aO e0.1 e0.2 e.2) c.list).2)) g2.2).symm
  ·exact (be (r := (Tr.of (bC (fun e => aO e0.1 e0.2 e.2) c.list).1, (bC (fun e => aO e0.1 e0.2 e.2) c.list).2)) g2.2).symm
 ·have g : p.o = 9 := by simpa using g
  have hV : db p k.cres c = eu k.cres.reverse c := by unfold db; rw [if_neg (by omega), if_neg (by omega), if_neg (by omega), if_neg (by omega), if_neg (by omega), if_neg (by omega), if_neg (by omega), if_pos g]
  have hw : (p.o == 3 && aG c.rows p.b || p.o == 4 || p.o == 7 || p.o == 8) = false := by simp [g]
  have hln := Ls.len_list k
  have hrl := Ls.rows_len k
  have hcl : k.cres.length = k.list.length := by rw [ib, List.length_map]
  rw [hV, hw, hrl, oY (by omega)]
  refine aJ hS (by kernel_rfl) 1000 (fun q st => ∃ (j : Nat) (d : Tr), st = Fo d.rows ((j : Int) - 1) p.o p.a p.b p.n (p.nl.map ak) p.m (p.ml.map ak) p.t.rows p.u.rows k.rows /\ j <= k.len /\ d.good /\ eu k.cres.reverse c = eu (k.cres.take j).reverse d /\ q = j) ?_ (n := k.len) ⟨k.len, c, rfl, by omega, hc, by rw [List.take_of_length_le (by omega)], rfl⟩
  rintro j st ⟨_, d, rfl, hj, hdg, he, rfl⟩
  refine cr (JC ..) ?_
  conv => zeta
  refine ⟨fun g1 => ?_, fun g1 => ?_⟩
  ·simp only [decide_eq_true_eq, ge_iff_le] at g1
   obtain ⟨i, rfl⟩ : ∃ i, j = i + 1 := ⟨j - 1, by omega⟩
   have hi' : i < k.list.length := by omega
   have hmem := List.getElem_mem hi'
   have ei : ((i + 1 : Nat) : Int) - 1 = (i : Int) := by omega
   have E0 := de k.list[i].1 k.list[i].2 d
   have T0 := dU k.list[i].1 k.list[i].2 d
   have ok := cl (fp k.list[i].1 k.list[i].2 (Ls.mem_fine hk hmem) d hdg)
   change lC (aO k.list[i].1 k.list[i].2 d) at ok
   rw [rY k hi', jb] at he
   rw [ei]
   refine ⟨by omega, _, _, _, _, _, _, _, _, _, _, Ls.row_get k hi', ?_⟩
   unfold LD.row at E0 T0
   rw [E0, T0]
   refine ⟨ce ⟨ev hd hk hmem, d, rfl, hdg⟩, fun g2 => ⟨fun _ => ⟨.auto, ?_⟩, fun g3 => nz g2.2 g3⟩, fun g2 => ?_, trivial⟩
   ·rw [if_pos g2.2] at he
    rw [he]
    exact (aF (r := (Tr.nil, _)) g2.2).symm
   ·rw [if_neg (not_not_intro g2.2)] at he
    exact ⟨i, by omega, i, _, by rw [oY (by omega)]; rfl, by omega, ok.2 g2.2, he, rfl⟩
  ·simp only [decide_eq_false_iff_not, ge_iff_le] at g1
   have : j = 0 := by omega
   subst this
   have he : eu k.cres.reverse c = (d, 0) := he
   refine cr (JF ..) ?_
   conv => zeta
   have fE := jt p k d
   have fT := mL p k d
   have fW := pp p k d.rows
   have hF : eU p d = (d, 0) := by unfold eU; rw [if_neg (by omega), if_neg (by omega), if_neg (by omega)]
   unfold LD.row at fE fT fW
   have hw2 : (p.o == 3 && aG d.rows p.b || p.o == 4) = false := by simp [g]
   rw [hF] at fE fT
   rw [hw2] at fW
   rw [fE, fT, fW, he]
   refine ⟨rK ⟨hL, d, rfl, hdg⟩, fun g3 => absurd rfl g3.2, fun g3 => ?_, fun g3 => ?_, trivial⟩
   ·have := g3.2
    simp at this
   ·exact (bk (r := (d, 0)) rfl).symm
 ·have n2 : ¬ p.o = 2 := by simpa using n2
  have n6 : ¬ p.o = 6 := by simpa using n6
  have n7 : ¬ p.o = 7 := by simpa using n7
  have n8 : ¬ p.o = 8 := by simpa using n8
  have n9 : ¬ p.o = 9 := by simpa using n9
  have hV : db p k.cres c = eU p c := by unfold db eU; rw [if_neg n2, if_neg n6, if_neg n7, if_neg n8, if_neg n9]
  have hw : (p.o == 3 && aG c.rows p.b || p.o == 4 || p.o == 7 || p.o == 8) = (p.o == 3 && aG c.rows p.b || p.o == 4) := by
   have h7 : (p.o == 7) = false := by simpa using n7
   have h8 : (p.o == 8) = false := by simpa using n8
   rw [h7, h8, Bool.or_false, Bool.or_false]
  rw [fE, fT, fW, hV, hw]
  refine ⟨rK ⟨hL, hg⟩, fun g3 => (aF g3.2).symm, fun g3 => ?_, fun g3 => ?_, trivial⟩
  ·rw [g3.2]; exact (be g3.1.2).symm
  ·rw [g3.2]; exact (bk g3.1.2).symm
theorem JD {N : Nat} (h : eF N) : ∀ ag al, GX (N + 1) ag = some al -> ∀ a ∈ al, a.1 -> Ev C 76 ag a.2 := by
 intro ag al hl x hx hp
 unfold GX at hl
 split at hl
 ·simp only [Option.some.injEq] at hl; subst hl
  simp only [List.mem_cons, List.not_mem_nil, or_false] at hx
  rcases hx with rfl | rfl | rfl
  ·obtain ⟨⟨⟨p, k, er, hd, hf⟩, c, rfl, hc⟩, he⟩ := hp
   have := GH h p k hf (by rw [Ls.one_deep] at hd; omega) c hc
   rw [er] at he ⊢
   rw [fM] at he
   rw [aF he] at this
   simp only [fM]
   exact this
  ·obtain ⟨⟨⟨⟨p, k, er, hd, hf⟩, c, rfl, hc⟩, he⟩, hw⟩ := hp
   have := GH h p k hf (by rw [Ls.one_deep] at hd; omega) c hc
   rw [er] at he hw ⊢
   rw [fM] at he
   rw [hw, be he] at this
   simp only [kT]
   exact this
  ·obtain ⟨⟨⟨⟨p, k, er, hd, hf⟩, c, rfl, hc⟩, he⟩, hw⟩ := hp
   have := GH h p k hf (by rw [Ls.one_deep] at hd; omega) c hc
   rw [er] at he hw ⊢
   rw [fM] at he
   rw [hw, bk he] at this
   simp only [kT]
   exact this
 ·exact absurd hl (by simp)
theorem JA {N : Nat} (h : eF N) (p : LD) (k : Ls) (hf : (Ls.cons p k .nil).fine) (hd : (Ls.cons p k .nil).deep < N + 1) (c : Tr) (hc : c.good) : Ev C 52 [.pv (.agg (p.row k.rows)), .pv (.sl c.rows)] (dm true (aO p k c)) := by
 have hS : aK C (I3 (N + 1)) := az (am (JD h) (am Am ax))
 have v6 := fp p k hf c hc
 have hL : aC (N + 1) (p.row k.rows) := ⟨p, k, rfl, hd, hf⟩
 have hg : an c.rows := ⟨c, rfl, hc⟩
 have E := fM p k c
 have T := kT p k c
 have hR : aO p k c = cH (db p k.cres c) := rfl
 rw [hR]
 generalize db p k.cres c = V at *
 have t1 : V.2 = 0 -> (cq V.1 none 1 0).2 ≠ 0 -> (([TV.pv (PV.sl []), TV.pv (PV.int IntKind.i64 (bf V.1.rows 1 0))], []) : RT) = dm true (cH V) := fun h1 h2 => by
  rw [ji h1 h2, aW]
  exact (aF (r := (Tr.nil, _)) h2).symm
 have t2 : V.2 = 0 -> (cq V.1 none 1 0).2 = 0 -> (([TV.own 2 (cN V.1.rows), TV.pv (PV.int IntKind.i64 0)], []) : RT) = dm true (cH V) := fun h1 h2 => by
  rw [gV h1 h2]
  exact (be (r := (V.1, 0)) rfl).symm
 refine bh hS (L3 ..) ?_
 conv => zeta
 have E' : mC (bU p.o p.a p.b p.n (p.nl.map ak) p.m (p.ml.map ak) p.t.rows p.u.rows k.rows) c.rows = V.2 := E
 have T' : lH (bU p.o p.a p.b p.n (p.nl.map ak) p.m (p.ml.map ak) p.t.rows p.u.rows k.rows) c.rows = V.1.rows := T
 rw [E', T']
 refine ⟨rK ⟨hL, hg⟩, fun g => ⟨.inl ⟨g.2, rfl⟩, fun _ => ?_, fun g2 => absurd g2.1.1 g.2, fun g2 => absurd g2.1.1 g.2, trivial⟩, fun g => ?_, fun g => ?_, trivial⟩
 ·rw [jj g.2]
  exact (aF (r := (Tr.nil, _)) g.2).symm
 ·have h6 := v6 g.1.2
  have hs : gt V.1.rows := ⟨_, rfl, h6.2, h6.1⟩
  refine ⟨.inr (ce ⟨rfl, hs⟩), fun g2 => absurd rfl g2.1, fun g2 => ?_, fun g2 => ⟨fun _ => ?_, fun _ => ?_⟩, trivial⟩
  ·exact t1 g.1.2 (by rw [<- aW]; exact g2.2)
  ·exact t2 g.1.2 (by rw [<- aW]; exact g2.2)
  ·exact t2 g.1.2 (by rw [<- aW]; exact g2.2)
 ·have h6 := v6 g.1.2
  have hs : gt V.1.rows := ⟨_, rfl, h6.2, h6.1⟩
  refine ⟨.inr (ce ⟨rfl, hs⟩), fun g2 => absurd rfl g2.1, fun g2 => ?_, fun g2 => ?_, trivial⟩
  ·exact t1 g.1.2 (by rw [<- aW]; exact g2.2)
  ·exact t2 g.1.2 (by rw [<- aW]; exact g2.2)
theorem t7 : ∀ N, eF N
 | 0 => by
  intro ag al hl x hx hp
  unfold lR at hl
  split at hl
  ·simp only [Option.some.injEq] at hl; subst hl
   simp only [List.mem_cons, List.not_mem_nil, or_false] at hx
   rcases hx with rfl | rfl
   ·obtain ⟨⟨⟨p, k, _, hd, _⟩, _⟩, _⟩ := hp
    exact absurd hd (by omega)
   ·obtain ⟨⟨⟨p, k, _, hd, _⟩, _⟩, _⟩ := hp
    exact absurd hd (by omega)
  ·exact absurd hl (by simp)
 | N + 1 => by
  intro ag al hl x hx hp
  unfold lR at hl
  split at hl
  ·simp only [Option.some.injEq] at hl; subst hl
   simp only [List.mem_cons, List.not_mem_nil, or_false] at hx
   rcases hx with rfl | rfl
   ·obtain ⟨⟨⟨p, k, er, hd, hf⟩, c, rfl, hc⟩, he⟩ := hp
    have := JA (t7 N) p k hf hd c hc
    rw [er] at he ⊢
    rw [de] at he
    rw [aF he] at this
    simp only [de]
    exact this
   ·obtain ⟨⟨⟨p, k, er, hd, hf⟩, c, rfl, hc⟩, he⟩ := hp
    have := JA (t7 N) p k hf hd c hc
    rw [er] at he ⊢
    rw [de] at he
    rw [be he] at this
    simp only [dU]
    exact this
  ·exact absurd hl (by simp)
theorem KP {N : Nat} (h : et N) : ∀ ag al, y5 N ag = some al -> ∀ a ∈ al, a.1 -> Ev C 49 ag a.2 := by
 intro ag al hl x hx hp
 have hS : aK C (DD N) := az (am h ax)
 unfold y5 at hl
 split at hl
 ·simp only [Option.some.injEq] at hl; subst hl
  simp only [List.mem_cons, List.not_mem_nil, or_false] at hx
  rcases hx with rfl | rfl
  ·refine bh hS (KQ ..) ?_
   conv => zeta
   exact ⟨.inl hp, fun _ => rfl, fun g => absurd g.2 hp.2, trivial⟩
  ·refine bh hS (KQ ..) ?_
   conv => zeta
   exact ⟨.inr hp, fun g => absurd hp.2 g.2, fun _ => rfl, trivial⟩
 ·exact absurd hl (by simp)
theorem KR {N : Nat} (h : et N) : ∀ ag al, y5 N ag = some al -> ∀ a ∈ al, a.1 -> Ev C 50 ag a.2 := by
 intro ag al hl x hx hp
 have hS : aK C (DD N) := az (am h ax)
 unfold y5 at hl
 split at hl
 ·simp only [Option.some.injEq] at hl; subst hl
  simp only [List.mem_cons, List.not_mem_nil, or_false] at hx
  rcases hx with rfl | rfl
  ·refine bh hS (KU ..) ?_
   conv => zeta
   exact ⟨.inl hp, fun _ => rfl, fun g => absurd g.2 hp.2, trivial⟩
  ·refine bh hS (KU ..) ?_
   conv => zeta
   exact ⟨.inr hp, fun g => absurd hp.2 g.2, fun _ => rfl, trivial⟩
 ·exact absurd hl (by simp)
theorem J4 {N : Nat} (h : et N) (o : Int) (a b : BS) (n : Bool) (nl : LP) (m : Bool) (ml t u : LP) (e0 e1 : LD × Ls) (h0 : aC N (e0.1.row e0.2.rows)) (h1 : aC N (e1.1.row e1.2.rows)) (f0 : (Ls.cons e0.1 e0.2 .nil).fine) (f1 : (Ls.cons e1.1 e1.2 .nil).fine) (c cx cy : Tr) (hc : c.good) (gcx : cx.good) (gcy : cy.good) (v : Bool) (vl : List (BS)) (hv : vl.length <= 4000000) (w : Bool) (wl : List (BS)) (hw : wl.length <= 4000000) :
  Ev C 43 [.pv (.agg [.int .i64 o, .str a, .str b, .bool n, .sl nl, .bool m, .sl ml, .sl t, .sl u, .sl [e0.1.row e0.2.rows, e1.1.row e1.2.rows]]), .pv (.sl c.rows), .pv (.agg [.bool v, .sl (vl.map ak)]), .pv (.agg [.bool w, .sl (wl.map ak)]), .pv (.fn 49 [.iptr [.sl cx.rows]]), .pv (.fn 50 [.iptr [.sl cy.rows]])] (dm true (cM (fun z => aY e0.1 e0.2 z cx) (fun z => aY e1.1 e1.2 z cy) v (vl.map ak) w (wl.map ak) c)) := by
 have hS : aK C (I9 N) := az (am wd (am (KP h) (am (KR h) (am rP (am BK (am pj ax))))))
 have gi := eI hc v (vl.map ak)
 have go := di hc v (vl.map ak)
 have k0 := cl (eW e0.1 e0.2 f0 _ _ gi gcx)
 have k1 := cl (eW e1.1 e1.2 f1 _ _ go gcy)
 have hR : ∀ x : ej, x = cM (fun z => aY e0.1 e0.2 z cx) (fun z => aY e1.1 e1.2 z cy) v (vl.map ak) w (wl.map ak) c -> x = if (aY e0.1 e0.2 (dR v (vl.map ak) c) cx).2 ≠ 0 then (.nil, (aY e0.1 e0.2 (dR v (vl.map ak) c) cx).2) else if (aY e1.1 e1.2 (bD v (vl.map ak) c) cy).2 ≠ 0 then (.nil, (aY e1.1 e1.2 (bD v (vl.map ak) c) cy).2) else dH w (wl.map ak) (aY e0.1 e0.2 (dR v (vl.map ak) c) cx).1 (aY e1.1 e1.2 (bD v (vl.map ak) c) cy).1 := fun x hx => hx
 generalize cM (fun z => aY e0.1 e0.2 z cx) (fun z => aY e1.1 e1.2 z cy) v (vl.map ak) w (wl.map ak) c = F at *
 have hR := hR F rfl
 have E0 := dl e0.1 e0.2 (dR v (vl.map ak) c) cx
 have E1 := dl e1.1 e1.2 (bD v (vl.map ak) c) cy
 have T0 := eq e0.1 e0.2 (dR v (vl.map ak) c) cx
 have T1 := eq e1.1 e1.2 (bD v (vl.map ak) c) cy
 unfold LD.row at E0 E1 T0 T1
 change lC (aY e0.1 e0.2 (dR v (vl.map ak) c) cx) at k0
 change lC (aY e1.1 e1.2 (bD v (vl.map ak) c) cy) at k1
 have gI : an (cm v (vl.map ak) c.rows) := ⟨_, dr _ _ _, gi⟩
 have gO : an (aw v (vl.map ak) c.rows) := ⟨_, ct _ _ _, go⟩
 have sw : bm (wl.map ak) := ⟨wl, rfl, hw⟩
 refine bh hS (Mc ..) ?_
 conv => zeta
 refine ⟨⟨⟨c, rfl, hc⟩, vl, rfl, hv⟩, _, _, _, _, _, _, _, _, _, _, rfl, ce ⟨h0, gI, cx, rfl, gcx⟩, fun g => ⟨fun _ => ?_, fun g2 => nz g.2 g2⟩, fun g => ⟨_, _, _, _, _, _, _, _, _, _, rfl, ce ⟨h1, gO, cy, rfl, gcy⟩, fun g2 => ⟨fun _ => ?_, fun g3 => nz g2.2 g3⟩, fun g2 => ?_, trivial⟩, trivial⟩
 ·have g := g.2
  rw [dr, E0] at g ⊢
  rw [if_pos g] at hR
  rw [hR]
  exact (aF (r := (Tr.nil, _)) g).symm
 ·have g := g.2
  have g2 := g2.2
  rw [dr, E0] at g
  rw [ct, E1] at g2 ⊢
  rw [if_neg (not_not_intro g), if_pos g2] at hR
  rw [hR]
  exact (aF (r := (Tr.nil, _)) g2).symm
 ·have g := g.2
  have g2 := g2.2
  rw [dr, E0] at g
  rw [ct, E1] at g2
  rw [dr v _ c, T0, ct v _ c, T1]
  rw [if_neg (not_not_intro g), if_neg (not_not_intro g2)] at hR
  have gx := k0.2 g
  have gy := k1.2 g2
  generalize (aY e0.1 e0.2 (dR v (vl.map ak) c) cx).1 = x at *
  generalize (aY e1.1 e1.2 (bD v (vl.map ak) c) cy).1 = y at *
  rw [ct w _ x, dr w _ y]
  have n1 := d7 (t := bD w (wl.map ak) x)
  have n2 := d7 (t := dR w (wl.map ak) y)
  have lx := cw gx
  have ly := cw gy
  refine ⟨⟨⟨x, rfl, gx⟩, sw⟩, fun g3 => ?_, fun g3 => ⟨⟨⟨y, rfl, gy⟩, sw⟩, fun g4 => ?_, fun g4 => ⟨⟨x.list, y.list, rows_list x, rows_list y, by omega⟩, ?_⟩⟩⟩
  ·have eb : dH w (wl.map ak) x y = (.nil, 3) := if_pos (.inl fun e => by rw [n1.2 e] at g3; simp at g3)
   rw [hR, eb]; rfl
  ·have eb : dH w (wl.map ak) x y = (.nil, 3) := if_pos (.inr fun e => by rw [n2.2 e] at g4; simp at g4)
   rw [hR, eb]; rfl
  ·have o1 : (bD w (wl.map ak) x).list = [] := n1.1 (by simpa using g3)
   have o2 : (dR w (wl.map ak) y).list = [] := n2.1 (by simpa using g4)
   have eb : dH w (wl.map ak) x y = (ew x y, 0) := if_neg (by
    rintro (e | e)
    ·exact e o1
    ·exact e o2)
   obtain ⟨pm, e1, hp, hle, _⟩ := fJ (x.list ++ y.list) (by rw [List.length_append]; omega)
   have e2 : eE x.rows y.rows = (x.list ++ y.list).map aE := by unfold eE; rw [rows_list, rows_list, List.map_append]
   rw [hR, eb, be rfl, e2, e1, <- cG, jD gx gy o1 o2 hp hle]
theorem tK (e0 e1 : LD × Ls) (c x y : Tr) (v : Bool) (vl : LP) (w : Bool) (wl : LP) : Dv (bW [e0.1.row e0.2.rows, e1.1.row e1.2.rows]) (jV [e0.1.row e0.2.rows, e1.1.row e1.2.rows]) c.rows x.rows y.rows v vl w wl = (cM (fun z => aY e0.1 e0.2 z x) (fun z => aY e1.1 e1.2 z y) v vl w wl c).2 /\ LL (bW [e0.1.row e0.2.rows, e1.1.row e1.2.rows]) (jV [e0.1.row e0.2.rows, e1.1.row e1.2.rows]) c.rows x.rows y.rows v vl w wl = (cM (fun z => aY e0.1 e0.2 z x) (fun z => aY e1.1 e1.2 z y) v vl w wl c).1.rows := by
 unfold Dv LL
 show (cM (fun z => aY (aR (e0.1.row e0.2.rows)) (bB (e0.1.row e0.2.rows)) z (aH x.rows)) (fun z => aY (aR (e1.1.row e1.2.rows)) (bB (e1.1.row e1.2.rows)) z (aH y.rows)) v vl w wl (aH c.rows)).2 = _ /\ (cM (fun z => aY (aR (e0.1.row e0.2.rows)) (bB (e0.1.row e0.2.rows)) z (aH x.rows)) (fun z => aY (aR (e1.1.row e1.2.rows)) (bB (e1.1.row e1.2.rows)) z (aH y.rows)) v vl w wl (aH c.rows)).1.rows = _
 rw [(aM e0.1 e0.2).1, (aM e0.1 e0.2).2, (aM e1.1 e1.2).1, (aM e1.1 e1.2).2, aq, aq, aq]
 exact ⟨rfl, rfl⟩
theorem J5 {N : Nat} (h : et N) : ∀ ag al, G4 N ag = some al -> ∀ a ∈ al, a.1 -> Ev C 43 ag a.2 := by
 intro ag al hl x hx hp
 unfold G4 at hl
 split at hl
 ·rename_i o a b n nl m ml t u k c v vl w wl f x g y
  simp only [Option.some.injEq] at hl; subst hl
  simp only [List.mem_cons, List.not_mem_nil, or_false] at hx
  rcases hx with rfl | rfl
  ·obtain ⟨⟨⟨rfl, rfl⟩, ⟨r, s, rfl, ⟨p0, q0, rfl, d0, f0⟩, ⟨p1, q1, rfl, d1, f1⟩⟩, ⟨c, rfl, hg⟩, ⟨vl, rfl, hv⟩, ⟨wl, rfl, hw⟩, ⟨x, rfl, hx2⟩, y, rfl, hy2⟩, he⟩ := hp
   have := J4 h o a b n nl m ml t u (p0, q0) (p1, q1) ⟨p0, q0, rfl, d0, f0⟩ ⟨p1, q1, rfl, d1, f1⟩ f0 f1 c x y hg hx2 hy2 v vl hv w wl hw
   have er := tK (p0, q0) (p1, q1) c x y v (vl.map ak) w (wl.map ak)
   simp only at er
   rw [er.1] at he
   rw [aF he] at this
   simp only [er.1]
   exact this
  ·obtain ⟨⟨⟨rfl, rfl⟩, ⟨r, s, rfl, ⟨p0, q0, rfl, d0, f0⟩, ⟨p1, q1, rfl, d1, f1⟩⟩, ⟨c, rfl, hg⟩, ⟨vl, rfl, hv⟩, ⟨wl, rfl, hw⟩, ⟨x, rfl, hx2⟩, y, rfl, hy2⟩, he⟩ := hp
   have := J4 h o a b n nl m ml t u (p0, q0) (p1, q1) ⟨p0, q0, rfl, d0, f0⟩ ⟨p1, q1, rfl, d1, f1⟩ f0 f1 c x y hg hx2 hy2 v vl hv w wl hw
   have er := tK (p0, q0) (p1, q1) c x y v (vl.map ak) w (wl.map ak)
   simp only at er
   rw [er.1] at he
   rw [be he] at this
   simp only [er.2]
   exact this
 ·exact absurd hl (by simp)
theorem Mv {N : Nat} (h : et N) (h' : eF N) (s : BS) (o : Int) (a b : BS) (n : Bool) (nl : LP) (m : Bool) (ml t u : LP) (p : LD) (q : Ls) (h0 : aC N (p.row q.rows)) (x c : Tr) (hx : x.good) (hc : c.good) : Ev C 51 [.pv (.agg [.str s, .sl x.rows]), .pv (.iptr [.sl c.rows]), .pv (.iptr [.int .i64 o, .str a, .str b, .bool n, .sl nl, .bool m, .sl ml, .sl t, .sl u, .sl [p.row q.rows]])] (dm true (if aG c.rows s = true then aY p q x (bE c s) else aO p q x)) := by
 have hS : aK C (Je N) := az (am yH (am h (am h' ax)))
 have hb : jR c.rows [[.str s]] = aG c.rows s := by rw [vB, bR]
 have hgx : an x.rows := ⟨x, rfl, hx⟩
 have e1 := dl p q x (bE c s)
 have e2 := eq p q x (bE c s)
 have e3 := de p q x
 have e4 := dU p q x
 unfold LD.row at e1 e2 e3 e4
 refine bh hS (Mx ..) ?_
 conv => zeta
 refine ⟨?_, fun g => ?_, fun g => ?_, trivial⟩
 ·cases e : aG c.rows s
  ·exact .inl ⟨⟨j0 hc, kv s⟩, hb.trans e⟩
  ·exact .inr ⟨⟨j0 hc, kv s⟩, hb.trans e⟩
 ·have e : aG c.rows s = false := by rw [<- hb]; exact g.2
  rw [if_neg (by rw [e]; simp)]
  refine ⟨_, _, _, _, _, _, _, _, _, _, rfl, ce ⟨h0, hgx⟩, fun g2 => ?_, fun g2 => ?_, trivial⟩
  ·have g2 := g2.2
   rw [e3] at g2 ⊢
   exact (aF g2).symm
  ·have g2 := g2.2
   rw [e3] at g2
   rw [e4]
   exact (be g2).symm
 ·have e : aG c.rows s = true := by rw [<- hb]; exact g.2
  have e' : dK c.list s = true := by rw [<- bR, e]
  rw [if_pos e, vD e']
  have hgk : an (bE c s).rows := ⟨_, rfl, gQ hc s⟩
  have key : ∃ (n_1 : Int) (s_1 s_2 : BS) (b_2 : Bool) (es : LP) (b_1 : Bool) (es_1 es_2 es_3 es_4 : LP), ([p.row q.rows] : LP)[0]? = some [.int .i64 n_1, .str s_1, .str s_2, .bool b_2, .sl es, .bool b_1, .sl es_1, .sl es_2, .sl es_3, .sl es_4] ∧
    aA [((aC N [.int .i64 n_1, .str s_1, .str s_2, .bool b_2, .sl es, .bool b_1, .sl es_1, .sl es_2, .sl es_3, .sl es_4] /\ an x.rows /\ an (bE c s).rows) /\ bi [.int .i64 n_1, .str s_1, .str s_2, .bool b_2, .sl es, .bool b_1, .sl es_1, .sl es_2, .sl es_3, .sl es_4] x.rows (bE c s).rows ≠ 0, [.pv (.sl []), .pv (.int .i64 (bi [.int .i64 n_1, .str s_1, .str s_2, .bool b_2, .sl es, .bool b_1, .sl es_1, .sl es_2, .sl es_3, .sl es_4] x.rows (bE c s).rows))], []),
     ((aC N [.int .i64 n_1, .str s_1, .str s_2, .bool b_2, .sl es, .bool b_1, .sl es_1, .sl es_2, .sl es_3, .sl es_4] /\ an x.rows /\ an (bE c s).rows) /\ bi [.int .i64 n_1, .str s_1, .str s_2, .bool b_2, .sl es, .bool b_1, .sl es_1, .sl es_2, .sl es_3, .sl es_4] x.rows (bE c s).rows = 0, [.own 2 (ft [.int .i64 n_1, .str s_1, .str s_2, .bool b_2, .sl es, .bool b_1, .sl es_1, .sl es_2, .sl es_3, .sl es_4] x.rows (bE c s).rows), .pv (.int .i64 0)], [])] ∧
    ((aC N [.int .i64 n_1, .str s_1, .str s_2, .bool b_2, .sl es, .bool b_1, .sl es_1, .sl es_2, .sl es_3, .sl es_4] /\ an x.rows /\ an (bE c s).rows) /\ bi [.int .i64 n_1, .str s_1, .str s_2, .bool b_2, .sl es, .bool b_1, .sl es_1, .sl es_2, .sl es_3, .sl es_4] x.rows (bE c s).rows ≠ 0 -> (([TV.pv (.sl []), .pv (.int .i64 (bi [.int .i64 n_1, .str s_1, .str s_2, .bool b_2, .sl es, .bool b_1, .sl es_1, .sl es_2, .sl es_3, .sl es_4] x.rows (bE c s).rows))], []) : RT) = dm true (aY p q x (bE c s))) ∧
    ((aC N [.int .i64 n_1, .str s_1, .str s_2, .bool b_2, .sl es, .bool b_1, .sl es_1, .sl es_2, .sl es_3, .sl es_4] /\ an x.rows /\ an (bE c s).rows) /\ bi [.int .i64 n_1, .str s_1, .str s_2, .bool b_2, .sl es, .bool b_1, .sl es_1, .sl es_2, .sl es_3, .sl es_4] x.rows (bE c s).rows = 0 -> (([TV.own 2 (ft [.int .i64 n_1, .str s_1, .str s_2, .bool b_2, .sl es, .bool b_1, .sl es_1, .sl es_2, .sl es_3, .sl es_4] x.rows (bE c s).rows), .pv (.int .i64 0)], []) : RT) = dm true (aY p q x (bE c s))) /\ True := by
   refine ⟨_, _, _, _, _, _, _, _, _, _, rfl, ce ⟨h0, hgx, hgk⟩, fun g2 => ?_, fun g2 => ?_, trivial⟩
   ·have g2 := g2.2
    rw [e1] at g2 ⊢
    exact (aF g2).symm
   ·have g2 := g2.2
    rw [e1] at g2
    rw [e2]
    exact (be g2).symm
  exact ⟨fun _ => key, fun _ => key⟩
theorem KV {N : Nat} (h : et N) (h' : eF N) : ∀ ag al, Ha N ag = some al -> ∀ a ∈ al, a.1 -> Ev C 51 ag a.2 := by
 intro ag al hl x hx hp
 unfold Ha at hl
 split at hl
 ·rename_i s x' c o a b n nl m ml t u k
  simp only [Option.some.injEq] at hl; subst hl
  simp only [List.mem_cons, List.not_mem_nil, or_false] at hx
  rcases hx with rfl | rfl | rfl | rfl
  all_goals
   obtain ⟨⟨⟨⟨r, rfl, p, q, rfl, hd, hf⟩, ⟨x', rfl, hg⟩, c, rfl, hc⟩, hh⟩, he⟩ := hp
   have := Mv h h' s o a b n nl m ml t u p q ⟨p, q, rfl, hd, hf⟩ x' c hg hc
   have e1 : bi (bW [p.row q.rows]) x'.rows (bG c.rows s) = (aY p q x' (bE c s)).2 := by rw [c8]; exact dl p q _ _
   have e2 : ft (bW [p.row q.rows]) x'.rows (bG c.rows s) = (aY p q x' (bE c s)).1.rows := by rw [c8]; exact eq p q _ _
   have e3 : bu (bW [p.row q.rows]) x'.rows = (aO p q x').2 := de p q _
   have e4 : fL (bW [p.row q.rows]) x'.rows = (aO p q x').1.rows := dU p q _
  ·rw [if_pos hh] at this
   rw [e1] at he
   rw [aF he] at this
   simp only [e1]
   exact this
  ·rw [if_pos hh] at this
   rw [e1] at he
   rw [be he] at this
   simp only [e2]
   exact this
  ·rw [if_neg (by rw [hh]; simp)] at this
   rw [e3] at he
   rw [aF he] at this
   simp only [e3]
   exact this
  ·rw [if_neg (by rw [hh]; simp)] at this
   rw [e3] at he
   rw [be he] at this
   simp only [e4]
   exact this
 ·exact absurd hl (by simp)
theorem JM {N : Nat} (h : et N) (h' : eF N) (o : Int) (a b : BS) (n_ : Bool) (nl : LP) (m : Bool) (ml t u : LP) (p : LD) (q : Ls) (h0 : aC N (p.row q.rows)) (c d : Tr) (hc : c.good) (hd : d.good) (hf : (Ls.cons p q .nil).fine) : Ev C 44 [.pv (.sl c.rows), .pv (.fn 51 [.iptr [.sl d.rows], .iptr [.int .i64 o, .str a, .str b, .bool n_, .sl nl, .bool m, .sl ml, .sl t, .sl u, .sl [p.row q.rows]]])] (dm true (Tr.of (bC (gT (aY p q) (aO p q) d) c.list).1, (bC (gT (aY p q) (aO p q) d) c.list).2)) := by
 have hr := cz
 have hm := bN
 have hS : aK C (zL N) := az (am (KV h h') ax)
 have hl := rows_len c
 have h6 := cw hc
 refine bh hS (L7 ..) ?_
 conv => zeta
 refine aJ hS (by kernel_rfl) 1000 (fun k st => ∃ (i : Nat) (pre : List Edge), st = Au d.rows o a b n_ nl m ml t u [p.row q.rows] c.rows c.list.length i (pre.map aE) /\ i <= c.list.length /\ pre.length = i /\ jU (gT (aY p q) (aO p q) d) c.list i pre /\ k = c.list.length - i) ?_ (n := c.list.length) ⟨0, [], by rw [hl]; rfl, by omega, rfl, nZ _ _, by omega⟩
 rintro k st ⟨i, pre, rfl, hi, hp, hI, rfl⟩
 refine cr (JN ..) ?_
 conv => zeta
 refine ⟨fun g => ?_, fun g => ?_⟩
 ·simp only [decide_eq_true_eq] at g
  have hi' : i < c.list.length := by omega
  have hk := dA hc (List.getElem_mem hi')
  have e1 : bi (bW [p.row q.rows]) c.list[i].2.rows (bG d.rows c.list[i].1) = (aY p q c.list[i].2 (bE d c.list[i].1)).2 := by rw [c8]; exact dl p q _ _
  have e2 : ft (bW [p.row q.rows]) c.list[i].2.rows (bG d.rows c.list[i].1) = (aY p q c.list[i].2 (bE d c.list[i].1)).1.rows := by rw [c8]; exact eq p q _ _
  have e3 : bu (bW [p.row q.rows]) c.list[i].2.rows = (aO p q c.list[i].2).2 := de p q _
  have e4 : fL (bW [p.row q.rows]) c.list[i].2.rows = (aO p q c.list[i].2).1.rows := dU p q _
  have hP : kidG N [p.row q.rows] /\ an c.list[i].2.rows /\ an d.rows := ⟨⟨_, rfl, h0⟩, ⟨_, rfl, hk⟩, _, rfl, hd⟩
  have pT : aG d.rows c.list[i].1 = true -> gT (aY p q) (aO p q) d c.list[i] = aY p q c.list[i].2 (bE d c.list[i].1) := fun hh => by unfold gT; rw [if_pos (by rw [<- bR, hh])]
  have pF : aG d.rows c.list[i].1 = false -> gT (aY p q) (aO p q) d c.list[i] = aO p q c.list[i].2 := fun hh => by unfold gT; rw [if_neg (by rw [<- bR, hh]; simp)]
  have go : ∀ r : ej, gT (aY p q) (aO p q) d c.list[i] = r -> r.2 = 0 -> ∃ n, n < c.list.length - i /\ ∃ (i' : Nat) (pre' : List Edge), St.mk [(1, AV.pv (PV.fn 51 [PV.iptr [PV.sl d.rows], PV.iptr (bU o a b n_ nl m ml t u [p.row q.rows])])), (6, AV.own 12), (11, AV.pv (PV.sl c.rows)), (12, AV.pv (PV.int IntKind.i64 c.list.length)), (13, AV.pv (PV.int IntKind.i64 (IntKind.wrap IntKind.i64 ((i : Int) + 1))))] [(12, Obj.buf 2 (pre.map aE ++ [[PV.str c.list[i].1, PV.sl r.1.rows]]))] = Au d.rows o a b n_ nl m ml t u [p.row q.rows] c.rows c.list.length i' (pre'.map aE) /\ i' <= c.list.length /\ pre'.length = i' /\ jU (gT (aY p q) (aO p q) d) c.list i' pre' /\ n = c.list.length - i' := fun r hr2 hz =>
   ⟨c.list.length - (i + 1), by omega, i + 1, pre ++ [(c.list[i].1, r.1)], by rw [dJ (by omega), List.map_append]; rfl, by omega, by rw [List.length_append, hp]; rfl, by
    have := gS (g := gT (aY p q) (aO p q) d) hi' hI (by rw [hr2]; exact hz)
    rw [hr2] at this
    exact this, rfl⟩
  have er : ∀ r : ej, gT (aY p q) (aO p q) d c.list[i] = r -> r.2 ≠ 0 -> (([TV.pv (PV.sl []), TV.pv (PV.int IntKind.i64 r.2)], []) : RT) = dm true (Tr.of (bC (gT (aY p q) (aO p q) d) c.list).1, (bC (gT (aY p q) (aO p q) d) c.list).2) := fun r hr2 hz => by
   rw [i6 hi' hI (by rw [hr2]; exact hz), hr2]
   exact (aF (r := (Tr.of [], _)) hz).symm
  have room2 : (pre.map aE).length + 1 <= 20 := by rw [List.length_map]; omega
  refine ⟨by omega, _, _, row_get c hi', ?_, fun g2 => ⟨fun _ => ⟨.auto, ?_⟩, fun g3 => nz g2.2 g3⟩, fun g2 => ⟨⟨by omega, by omega⟩, ?_⟩, fun g2 => ⟨fun _ => ⟨.auto, ?_⟩, fun g3 => nz g2.2 g3⟩, fun g2 => ⟨⟨by omega, by omega⟩, ?_⟩, trivial⟩
  ·cases hh : aG d.rows c.list[i].1
   ·rcases ce (P := (kidG N [p.row q.rows] /\ an c.list[i].2.rows /\ an d.rows) /\ false = false) (e := bu (bW [p.row q.rows]) c.list[i].2.rows) ⟨hP, rfl⟩ with hq | hq
    ·exact .inr (.inr (.inl hq))
    ·exact .inr (.inr (.inr hq))
   ·rcases ce (P := (kidG N [p.row q.rows] /\ an c.list[i].2.rows /\ an d.rows) /\ true = true) (e := bi (bW [p.row q.rows]) c.list[i].2.rows (bG d.rows c.list[i].1)) ⟨hP, rfl⟩ with hq | hq
    ·exact .inl hq
    ·exact .inr (.inl hq)
  ·have := er _ (pT g2.1.2) (by rw [<- e1]; exact g2.2)
   rw [e1]; exact this
  ·have := go _ (pT g2.1.2) (by rw [<- e1]; exact g2.2)
   rw [e2]; exact this
  ·have := er _ (pF g2.1.2) (by rw [<- e3]; exact g2.2)
   rw [e3]; exact this
  ·have := go _ (pF g2.1.2) (by rw [<- e3]; exact g2.2)
   rw [e4]; exact this
 ·simp only [decide_eq_false_iff_not] at g
  have : i = c.list.length := by omega
  subst this
  refine ⟨.auto, ?_⟩
  rw [i5 hI, be rfl, cG]
theorem ug (p : LD) (q : Ls) (c d : Tr) : BJ (bW [p.row q.rows]) c.rows d.rows = (bC (gT (aY p q) (aO p q) d) c.list).2 /\ KI (bW [p.row q.rows]) c.rows d.rows = (Tr.of (bC (gT (aY p q) (aO p q) d) c.list).1).rows := by
 unfold BJ KI
 show (bC (gT (aY (aR (p.row q.rows)) (bB (p.row q.rows))) (aO (aR (p.row q.rows)) (bB (p.row q.rows))) (aH d.rows)) (aH c.rows).list).2 = _ /\ (bC (gT (aY (aR (p.row q.rows)) (bB (p.row q.rows))) (aO (aR (p.row q.rows)) (bB (p.row q.rows))) (aH d.rows)) (aH c.rows).list).1.map aE = _
 rw [(aM p q).1, (aM p q).2, aq, aq, cG]
 exact ⟨rfl, rfl⟩
theorem JO {N : Nat} (h : et N) (h' : eF N) : ∀ ag al, G0 N ag = some al -> ∀ a ∈ al, a.1 -> Ev C 44 ag a.2 := by
 intro ag al hl x hx hp
 unfold G0 at hl
 split at hl
 ·rename_i c f d o a b n nl m ml t u k
  simp only [Option.some.injEq] at hl; subst hl
  simp only [List.mem_cons, List.not_mem_nil, or_false] at hx
  rcases hx with rfl | rfl
  ·obtain ⟨⟨rfl, ⟨r, rfl, p, q, rfl, hd, hf⟩, ⟨c, rfl, hg⟩, d, rfl, hg2⟩, he⟩ := hp
   have := JM h h' o a b n nl m ml t u p q ⟨p, q, rfl, hd, hf⟩ c d hg hg2 hf
   have er := ug p q c d
   rw [er.1] at he
   rw [aF he] at this
   simp only [er.1]
   exact this
  ·obtain ⟨⟨rfl, ⟨r, rfl, p, q, rfl, hd, hf⟩, ⟨c, rfl, hg⟩, d, rfl, hg2⟩, he⟩ := hp
   have := JM h h' o a b n nl m ml t u p q ⟨p, q, rfl, hd, hf⟩ c d hg hg2 hf
   have er := ug p q c d
   rw [er.1] at he
   rw [be he] at this
   simp only [er.2]
   exact this
 ·exact absurd hl (by simp)
noncomputable def ry (N : Nat) : Specs := aZ [(10, kf N), (11, lS N)]
theorem MK (n : Nat) (i : Int) (b c : BS) (g : Bool) (h : LP) (e : Bool) (f j k a l d : LP) (Q : QT) : (bq C (ry n) 53 [.pv (.agg [.int .i64 i, .str b, .str c, .bool g, .sl h, .bool e, .sl f, .sl j, .sl k, .sl a]), .pv (.sl l), .pv (.sl d)] Q) (H.s (H.s H.auto)) = (let m := (↑(List.length a) : Int) - 1; let o := List.take (Int.toNat (IntKind.wrap .i64 m) - 0) a; cg 10 a = true /\ ((0 : Int) <= (0 : Int) /\ (0 : Int) <= IntKind.wrap .i64 m /\ IntKind.wrap .i64 m <= Int.ofNat (List.length a)) /\ bd C 53 (d0 (u1 (d0 (u2 CP.top)))) (St.mk [(1, aS l), (3, AV.addr 6 0 0), (8, AV.own 16), (23, aS o), (24, aI (↑(List.length o) : Int)), (25, aI 0)] [(6, Obj.box (gC i b c g h e f j k a)), (16, Obj.buf 1 [[pS d]])]) (cA (au 0 (aQ (bA C (ry n) 53 99997 (u3 CP.top)) (aU C 53 [TV.pv (PV.agg (bU i b c g h e f j k a)), tS l, tS d] Q))))) := by kernel_rfl
def F6 : CP := (d0 (u1 (d0 (u2 CP.top))))
def F8 (l m : LP) (n o b : Int) (c d : BS) (e : Bool) (f : LP) (g : Bool) (h i j k a : LP) : St := (St.mk [(1, aS l), (3, AV.addr 6 0 0), (8, AV.own 16), (23, aS m), (24, aI n), (25, aI o)] [(6, Obj.box (gC b c d e f g h i j k)), (16, Obj.buf 1 a)])
theorem Lp (i : Nat) (u : Int) (o j : BS) (k : Bool) (t : LP) (q : Bool) (r I J p K e l g : LP) (f c v : Int) (w x : BS) (y : Bool) (z : LP) (A : Bool) (B D E G d : LP)  (J0 : St -> Prop) (Q : QT) : (bA C (ry i) 53 1000 (F6.dn 0) (F8 l g f c v w x y z A B D E G d) (bO C 53 F6 J0 (cA (au 0 (aQ (bA C (ry i) 53 99997 (u3 CP.top)) (aU C 53 [TV.pv (PV.agg (bU u o j k t q r I J p)), tS K, tS e] Q)))))) (H.b (H.s (H.s (H.s (H.s (H.b (H.b H.auto (H.s H.auto)) (H.b (H.n 1 (H.s H.auto)) H.auto)))))) H.auto) = (let n := gC v w x y z A B D E G; let L := (List.length d + 1) * 24 <= du /\ List.length d + 1 <= bz; let M := IntKind.wrap .i64 (c + 1); (decide (c < f) = true -> (0 : Int) <= c /\ ∃ (k : Int) (s s_1 : BS) (j : Bool) (es : LP) (b_1 : Bool) (es_1 es_2 es_3 es_4 : LP), let b := bU k s s_1 j es b_1 es_1 es_2 es_3 es_4; g[Int.toNat c]? = some b /\ ((0 : Int) <= c /\ c < (↑(List.length d) : Int)) /\ ∃ (e : List PV), d[Int.toNat c]? = some e /\ 1 <= List.length e /\ ∃ (a : LP), let m := aC i b /\ an a; List.take 1 e = [pS a] /\ aA [(m /\ aV b a ≠ (0 : Int), [tS [], tI (aV b a)], []), (m /\ aV b a = (0 : Int), [TV.own 2 (cu b a), tI 0], [])] /\ (m /\ aV b a ≠ (0 : Int) -> ((aV b a != 0) = true -> ∃ (h : H), Q (eR (aV b a))) /\ ((aV b a != 0) = false -> L /\ J0 (St.mk [(1, aS l), (3, AV.addr 6 0 0), (8, AV.own 16), (23, aS g), (24, aI f), (25, aI M)] [(6, Obj.box n), (16, Obj.buf 1 (d ++ [[pS []]]))]))) /\ (m /\ aV b a = (0 : Int) -> L /\ J0 (St.mk [(1, aS l), (3, AV.addr 6 0 0), (8, AV.own 16), (23, aS g), (24, aI f), (25, aI M)] [(6, Obj.box n), (16, Obj.buf 1 (d ++ [[pS (cu b a)]]))])) /\ True) /\ (decide (c < f) = false -> cA (au 0 (aQ (bA C (ry i) 53 99997 (u3 CP.top)) (aU C 53 [TV.pv (PV.agg (bU u o j k t q r I J p)), tS K, tS e] Q))) (Ex.exit 0) (St.mk [(26, aB false), (1, aS l), (3, AV.addr 6 0 0), (8, AV.own 16), (23, aS g), (24, aI f), (25, aI c)] [(6, Obj.box n), (16, Obj.buf 1 d)]))) := by kernel_rfl
def Lt (l m : LP) (n o b : Int) (c d : BS) (e : Bool) (f : LP) (g : Bool) (h i j k a : LP) : St := (St.mk [(26, aB false), (1, aS l), (3, AV.addr 6 0 0), (8, AV.own 16), (23, aS m), (24, aI n), (25, aI o)] [(6, Obj.box (gC b c d e f g h i j k)), (16, Obj.buf 1 a)])
theorem Lu (b : Nat) (l : Int) (c d : BS) (j : Bool) (k : LP) (g : Bool) (i w y f z e x A : LP) (B D n : Int) (o p : BS) (q : Bool) (r : LP) (s : Bool) (t u v a m : LP)  (Q : QT) : (fun h => au 0 (aQ (bA C (ry b) 53 99997 (u3 CP.top)) (aU C 53 [TV.pv (PV.agg (bU l c d j k g i w y f)), tS z, tS e] Q)) h (Ex.exit 0) (Lt x A B D n o p q r s t u v a m)) (H.auto) = (bd C 53 (d0 (u1 (d0 (u4 CP.top)))) (St.mk [(1, aS x), (3, AV.addr 6 0 0), (8, AV.own 16), (14, aI (IntKind.wrap .i64 ((↑(List.length a) : Int) - 1)))] [(6, Obj.box (gC n o p q r s t u v a)), (16, Obj.buf 1 m)]) (cA (au 2 (aQ (bA C (ry b) 53 99995 (u5 CP.top)) (aU C 53 [TV.pv (PV.agg (bU l c d j k g i w y f)), tS z, tS e] Q))))) := by kernel_rfl
def F7 : CP := (d0 (u1 (d0 (u4 CP.top))))
def F9 (l : LP) (m b : Int) (c d : BS) (e : Bool) (f : LP) (g : Bool) (h i j k a : LP) : St := (St.mk [(1, aS l), (3, AV.addr 6 0 0), (8, AV.own 16), (14, aI m)] [(6, Obj.box (gC b c d e f g h i j k)), (16, Obj.buf 1 a)])
theorem Lq (i : Nat) (E : Int) (y j : BS) (k : Bool) (D : LP) (A : Bool) (B G I z J e a : LP) (d m : Int) (n o : BS) (p : Bool) (q : LP) (r : Bool) (t u v l f : LP)  (J2 : St -> Prop) (Q : QT) : (bA C (ry i) 53 1000 (F7.dn 0) (F9 a d m n o p q r t u v l f) (bO C 53 F7 J2 (cA (au 2 (aQ (bA C (ry i) 53 99995 (u5 CP.top)) (aU C 53 [TV.pv (PV.agg (bU E y j k D A B G I z)), tS J, tS e] Q)))))) (H.b (H.s (H.s (H.s (H.s (H.b (H.b H.auto H.auto) (H.b H.auto H.auto)))))) H.auto) = (let w := gC m n o p q r t u v l; let x := IntKind.wrap .i64 (d - 1); (decide (d ≥ (0 : Int)) = true -> (0 : Int) <= d /\ ∃ (k : Int) (s s_1 : BS) (j : Bool) (es : LP) (b_1 : Bool) (es_1 es_2 es_3 es_4 : LP), let c := bU k s s_1 j es b_1 es_1 es_2 es_3 es_4; l[Int.toNat d]? = some c /\ ((0 : Int) <= d /\ d < (↑(List.length f) : Int)) /\ ∃ (e : List PV), f[Int.toNat d]? = some e /\ 1 <= List.length e /\ ∃ (b : LP), let g := aC i c /\ an a /\ an b; List.take 1 e = [pS b] /\ aA [(g /\ bi c a b ≠ (0 : Int), [tS [], tI (bi c a b)], []), (g /\ bi c a b = (0 : Int), [TV.own 2 (ft c a b), tI 0], [])] /\ (g /\ bi c a b ≠ (0 : Int) -> ((bi c a b != 0) = true -> ∃ (h : H), Q (eR (bi c a b))) /\ ((bi c a b != 0) = false -> J2 (St.mk [(1, aS []), (3, AV.addr 6 0 0), (8, AV.own 16), (14, aI x)] [(6, Obj.box w), (16, Obj.buf 1 f)]))) /\ (g /\ bi c a b = (0 : Int) -> J2 (St.mk [(1, aS (ft c a b)), (3, AV.addr 6 0 0), (8, AV.own 16), (14, aI x)] [(6, Obj.box w), (16, Obj.buf 1 f)])) /\ True) /\ (decide (d ≥ (0 : Int)) = false -> ∃ (h : H), Q ([tS a, tI 0], []))) := by kernel_rfl
def uN (t : Tr) : List PV := [.sl t.rows]
theorem yO : ∀ {gs : List (Tr -> ej)} {c : Tr}, (cE gs c).2 ≠ 0 -> (cE gs c).1 = []
 | [], c, h => absurd rfl h
 | g :: gs, c, h => by
  rw [cE] at h ⊢
  split
  ·rfl
  ·rename_i h1
   rw [if_neg h1] at h
   split
   ·rfl
   ·rename_i h2
    rw [if_neg h2] at h
    exact absurd rfl h
def gX (gs : List (Tr -> ej)) (c : Tr) (i : Nat) (q : List Tr) (d : Tr) : Prop := cE gs c = if (cE (gs.drop i) d).2 ≠ 0 then ([], (cE (gs.drop i) d).2) else (q ++ (cE (gs.drop i) d).1, 0)
theorem uV (gs : List (Tr -> ej)) (c : Tr) : gX gs c 0 [] c := by
 unfold gX
 rw [List.drop_zero, List.nil_append]
 split
 ·rename_i h; exact Prod.ext (yO h) rfl
 ·rename_i h; exact Prod.ext rfl (by simpa using h)
theorem pR {gs : List (Tr -> ej)} {c d : Tr} {i : Nat} {q : List Tr} (hi : i < gs.length) (h : gX gs c i q d) (he : (gs[i] d).2 ≠ 0) : cE gs c = ([], (gs[i] d).2) := by
 unfold gX at h
 rw [List.drop_eq_getElem_cons hi, cE, if_pos he] at h
 rw [h, if_pos he]
theorem oB {gs : List (Tr -> ej)} {c d : Tr} {i : Nat} {q : List Tr} (hi : i < gs.length) (h : gX gs c i q d) (he : (gs[i] d).2 = 0) : gX gs c (i + 1) (q ++ [d]) (gs[i] d).1 := by
 unfold gX at h ⊢
 rw [List.drop_eq_getElem_cons hi, cE, if_neg (not_not_intro he)] at h
 by_cases h2 : (cE (gs.drop (i + 1)) (gs[i] d).1).2 = 0
 ·rw [if_neg (not_not_intro h2), if_neg (by simp)] at h
  rw [if_neg (not_not_intro h2), h, List.append_assoc]; rfl
 ·rw [if_pos h2, if_pos h2] at h
  rw [if_pos h2, h]
theorem pQ {gs : List (Tr -> ej)} {c d : Tr} {i : Nat} {q : List Tr} (hi : gs.length <= i) (h : gX gs c i q d) : cE gs c = (q ++ [d], 0) := by
 unfold gX at h
 rw [List.drop_of_length_le hi] at h
 simpa [cE] using h
theorem pH {l : List Tr} {i : Nat} (h : i < l.length) : (l.map uN)[Int.toNat (i : Int)]? = some (uN l[i]) := by
 rw [Int.toNat_natCast, List.getElem?_map, List.getElem?_eq_getElem h]; rfl
theorem yc (k : Ls) {i : Nat} (h : i < k.list.length) (h' : i < k.gets.dropLast.length) : k.gets.dropLast[i] = bx k.list[i].1 k.list[i].2 := by
 simp only [fh, List.getElem_dropLast, List.getElem_map]
noncomputable def iD (k : Ls) (al : List Tr) : List (Tr -> ej) := (k.puts.zip al).map fun x y => x.1 y x.2
theorem pZ (k : Ls) {al : List Tr} (h : al.length = k.list.length) : (iD k al).length = k.list.length := by
 unfold iD
 rw [List.length_map, List.length_zip, kC, List.length_map, h]; omega
theorem DG (k : Ls) {al : List Tr} {i : Nat} (h : i < k.list.length) (h' : i < al.length) (h'' : i < (iD k al).length) : (iD k al)[i] = fun y => aY k.list[i].1 k.list[i].2 y al[i] := by
 unfold iD
 simp only [kC, List.getElem_map, List.getElem_zip]
theorem rS (k : Ls) {al : List Tr} {i : Nat} (h : i < k.list.length) (ha : al.length = k.list.length) : ((iD k al).take (i + 1)).reverse = (fun y => aY k.list[i].1 k.list[i].2 y (al[i]'(by omega))) :: ((iD k al).take i).reverse := by
 have hb := pZ k ha
 rw [List.take_succ_eq_append_getElem (by omega), List.reverse_append, DG k h (by omega) (by omega)]; rfl
theorem yD {k : Ls} {a c : Tr} {e : Int} (h : cE k.gets.dropLast c = ([], e)) (he : e ≠ 0) : yC k a c = (.nil, e) := by
 unfold yC
 rw [h]
 exact if_pos he
theorem CM {k : Ls} {a c : Tr} {al : List Tr} (h : cE k.gets.dropLast c = (al, 0)) : yC k a c = eu (iD k al).reverse a := by
 unfold yC
 rw [h]
 exact if_neg (by simp)
theorem Lo {N : Nat} (h : et N) (p : LD) (k : Ls) (hd : k.deep < N) (hk : k.fine) (k1 : 1 <= k.len) (k2 : k.len <= 4000000) (a c : Tr) (ha : a.good) (hc : c.good) : Ev C 53 [.pv (.agg (p.row k.rows)), .pv (.sl a.rows), .pv (.sl c.rows)] (dm false (yC k a c)) := by
 have hr := cz
 have hm := bN
 have hS : aK C (ry N) := az (am (px N) (am h ax))
 have hln := Ls.len_list k
 have hrl := Ls.rows_len k
 have hgl : k.gets.dropLast.length = k.len - 1 := by rw [List.length_dropLast, fh, List.length_map]; omega
 have w1 : IntKind.wrap .i64 ((k.len : Int) - 1) = ((k.len - 1 : Nat) : Int) := by rw [oY (by omega)]; omega
 have htl : (k.rows.take (k.len - 1)).length = k.len - 1 := by rw [List.length_take]; omega
 refine bh hS (MK N p.o p.a p.b p.n (p.nl.map ak) p.m (p.ml.map ak) p.t.rows p.u.rows k.rows a.rows c.rows _) ?_
 conv => zeta
 rw [hrl, w1, Nat.sub_zero, Int.toNat_natCast, htl]
 refine ⟨?_, ⟨by omega, by omega, by rw [Int.ofNat_eq_natCast]; omega⟩, ?_⟩
 ·rw [Ls.rows_list]; simp [cg, LD.row]
 refine aJ hS (by kernel_rfl) 1000 (fun n st => ∃ (i : Nat) (q : List Tr) (d : Tr), st = F8 a.rows (k.rows.take (k.len - 1)) ((k.len - 1 : Nat) : Int) i p.o p.a p.b p.n (p.nl.map ak) p.m (p.ml.map ak) p.t.rows p.u.rows k.rows ((q ++ [d]).map uN) /\ i <= k.len - 1 /\ q.length = i /\ (∀ t ∈ q ++ [d], t.good) /\ gX k.gets.dropLast c i q d /\ n = k.len - 1 - i) ?_ (n := k.len - 1) ⟨0, [], c, rfl, by omega, rfl, by simpa using hc, uV _ _, rfl⟩
 rintro n st ⟨i, q, d, rfl, hi, hq, hgd, hI, rfl⟩
 have hdg := hgd d (by simp)
 have hql : ((q ++ [d]).map uN).length = i + 1 := by rw [List.length_map, List.length_append, hq]; rfl
 refine cr (Lp ..) ?_
 conv => zeta
 rw [hql]
 refine ⟨fun g => ?_, fun g => ?_⟩
 ·simp only [decide_eq_true_eq] at g
  have hi' : i < k.list.length := by omega
  have hig : i < k.gets.dropLast.length := by omega
  have hmem := List.getElem_mem hi'
  have eg := yc k hi' hig
  have E0 := cP k.list[i].1 k.list[i].2 d
  have T0 := dz k.list[i].1 k.list[i].2 d
  have ok := cl (ea k.list[i].1 k.list[i].2 (Ls.mem_fine hk hmem) d hdg)
  change lC (bx k.list[i].1 k.list[i].2 d) at ok
  have hrow : (k.rows.take (k.len - 1))[Int.toNat (i : Int)]? = some (k.list[i].1.row k.list[i].2.rows) := by
   rw [Int.toNat_natCast, List.getElem?_take, if_pos (by omega)]
   have := Ls.row_get k hi'
   rwa [Int.toNat_natCast] at this
  have hat : ((q ++ [d]).map uN)[Int.toNat (i : Int)]? = some (uN d) := by
   rw [pH (by rw [List.length_append, hq]; simp), List.getElem_append_right (by omega)]
   simp [hq]
  refine ⟨by omega, _, _, _, _, _, _, _, _, _, _, hrow, ⟨by omega, by omega⟩, _, hat, by simp [uN], d.rows, rfl, ?_⟩
  unfold LD.row at E0 T0
  rw [E0, T0]
  refine ⟨ce ⟨ev hd hk hmem, d, rfl, hdg⟩, fun g2 => ⟨fun _ => ⟨.auto, ?_⟩, fun g3 => nz g2.2 g3⟩, fun g2 => ⟨⟨by omega, by omega⟩, ?_⟩, trivial⟩
  ·have hz : (k.gets.dropLast[i] d).2 ≠ 0 := by rw [eg]; exact g2.2
   have e := pR hig hI hz
   rw [eg] at e
   rw [yD e g2.2]
   exact (aF (r := (Tr.nil, _)) g2.2).symm
  ·have hz : (k.gets.dropLast[i] d).2 = 0 := by rw [eg]; exact g2.2
   have e := oB hig hI hz
   rw [eg] at e
   refine ⟨k.len - 1 - (i + 1), by omega, i + 1, q ++ [d], (bx k.list[i].1 k.list[i].2 d).1, ?_, by omega, by rw [List.length_append, hq]; rfl, ?_, e, rfl⟩
   ·rw [dJ (by omega), List.map_append (l₁ := q ++ [d])]; rfl
   ·intro t ht
    rcases List.mem_append.1 ht with ht | ht
    ·exact hgd t ht
    ·rw [List.mem_singleton.1 ht]; exact ok.2 g2.2
 ·simp only [decide_eq_false_iff_not] at g
  have hiN : i = k.len - 1 := by omega
  have e := pQ (by omega) hI
  generalize hal : q ++ [d] = al at *
  have hall : al.length = k.list.length := by rw [<- hal, List.length_append, hq, List.length_singleton]; omega
  rw [CM e]
  refine cr (Lu ..) ?_
  rw [hrl, w1]
  have hbl := pZ k hall
  have hatl : (al.map uN).length = k.len := by rw [List.length_map, hall, hln]
  refine aJ hS (by kernel_rfl) 1000 (fun n st => ∃ (j : Nat) (y : Tr), st = F9 y.rows ((j : Int) - 1) p.o p.a p.b p.n (p.nl.map ak) p.m (p.ml.map ak) p.t.rows p.u.rows k.rows (al.map uN) /\ j <= k.len /\ y.good /\ eu (iD k al).reverse a = eu ((iD k al).take j).reverse y /\ n = j) ?_ (n := k.len) ⟨k.len, a, by rw [show ((k.len : Int) - 1) = ((k.len - 1 : Nat) : Int) by omega]; rfl, by omega, ha, by rw [List.take_of_length_le (by omega)], rfl⟩
  rintro j st ⟨_, y, rfl, hj, hyg, he, rfl⟩
  refine cr (Lq ..) ?_
  conv => zeta
  rw [hatl]
  refine ⟨fun g1 => ?_, fun g1 => ?_⟩
  ·simp only [decide_eq_true_eq, ge_iff_le] at g1
   obtain ⟨i', rfl⟩ : ∃ i, j = i + 1 := ⟨j - 1, by omega⟩
   have hi' : i' < k.list.length := by omega
   have hia : i' < al.length := by omega
   have hmem := List.getElem_mem hi'
   have ei : ((i' + 1 : Nat) : Int) - 1 = (i' : Int) := by omega
   have hag := hgd al[i'] (List.getElem_mem hia)
   have E0 := dl k.list[i'].1 k.list[i'].2 y al[i']
   have T0 := eq k.list[i'].1 k.list[i'].2 y al[i']
   have ok := cl (eW k.list[i'].1 k.list[i'].2 (Ls.mem_fine hk hmem) y al[i'] hyg hag)
   change lC (aY k.list[i'].1 k.list[i'].2 y al[i']) at ok
   rw [rS k hi' hall, jb] at he
   rw [ei]
   refine ⟨by omega, _, _, _, _, _, _, _, _, _, _, Ls.row_get k hi', ⟨by omega, by omega⟩, _, pH hia, by simp [uN], al[i'].rows, rfl, ?_⟩
   unfold LD.row at E0 T0
   rw [E0, T0]
   refine ⟨ce ⟨ev hd hk hmem, ⟨y, rfl, hyg⟩, al[i'], rfl, hag⟩, fun g2 => ⟨fun _ => ⟨.auto, ?_⟩, fun g3 => nz g2.2 g3⟩, fun g2 => ?_, trivial⟩
   ·rw [if_pos g2.2] at he
    rw [he]
    exact (aF (r := (Tr.nil, _)) g2.2).symm
   ·rw [if_neg (not_not_intro g2.2)] at he
    exact ⟨i', by omega, i', _, by rw [oY (by omega)]; rfl, by omega, ok.2 g2.2, he, rfl⟩
  ·simp only [decide_eq_false_iff_not, ge_iff_le] at g1
   have : j = 0 := by omega
   subst this
   have he : eu (iD k al).reverse a = (y, 0) := he
   refine ⟨.auto, ?_⟩
   rw [he]
   exact (bk (r := (y, 0)) rfl).symm
theorem gu (p : LD) (k : Ls) (a c : Tr) : s8 (p.row k.rows) a.rows c.rows = (yC k a c).2 /\ F5 (p.row k.rows) a.rows c.rows = (yC k a c).1.rows := by unfold s8 F5; rw [(aM p k).2, aq, aq]; exact ⟨rfl, rfl⟩
theorem Lr {N : Nat} (h : et N) : EM N := by
 intro ag al hl x hx hp
 unfold Hc at hl
 split at hl
 ·simp only [Option.some.injEq] at hl; subst hl
  simp only [List.mem_cons, List.not_mem_nil, or_false] at hx
  rcases hx with rfl | rfl
  ·obtain ⟨⟨⟨p, k, er, hd, hf, k1, k2⟩, ⟨a, rfl, ha⟩, c, rfl, hc⟩, he⟩ := hp
   have := Lo h p k hd hf k1 k2 a c ha hc
   rw [er] at he ⊢
   rw [(gu p k a c).1] at he
   rw [aF he] at this
   simp only [(gu p k a c).1]
   exact this
  ·obtain ⟨⟨⟨p, k, er, hd, hf, k1, k2⟩, ⟨a, rfl, ha⟩, c, rfl, hc⟩, he⟩ := hp
   have := Lo h p k hd hf k1 k2 a c ha hc
   rw [er] at he ⊢
   rw [(gu p k a c).1] at he
   rw [bk he] at this
   simp only [(gu p k a c).2]
   exact this
 ·exact absurd hl (by simp)
theorem B0 {N : Nat} (h : et N) (p : LD) (k : Ls) (hf : (Ls.cons p k .nil).fine) (hd : k.deep < N) (a c : Tr) (ha : a.good) (hc : c.good) : Ev C 29 [.pv (.agg (p.row k.rows)), .pv (.sl a.rows), .pv (.sl c.rows)] (dm (Eu (p.row k.rows) a.rows) (cZ p k.gets k.cres k.puts a c)) := by
 have hS : aK C (Fd N) := az (am FB (am rP (am wd (am pj (am (J5 h) (am (JO h (t7 N)) (am (Lr h) (am Fx ax))))))))
 rw [Ew]
 obtain ⟨⟨⟨hpa, hpb⟩, ⟨ht, hu⟩, ⟨hn, hm⟩, hop, k7, k8, k9, k10⟩, hk, _⟩ := id hf
 have hga : an a.rows := ⟨a, rfl, ha⟩
 have hg : an c.rows := ⟨c, rfl, hc⟩
 have sn : bm (p.nl.map ak) := ⟨_, rfl, hn⟩
 have sm : bm (p.ml.map ak) := ⟨_, rfl, hm⟩
 have hL : ∃ N, aC N (p.row k.rows) := ⟨_, p, k, rfl, Nat.lt_succ_self _, hf⟩
 have fE := jt p k a
 have fT := mL p k a
 have fW := pp p k a.rows
 unfold LD.row at fE fT fW
 have hn1 := d7 (t := bD p.n (p.nl.map ak) a)
 refine bh hS (KW N p.o p.a p.b p.n (p.nl.map ak) p.m (p.ml.map ak) p.t.rows p.u.rows k.rows a.rows c.rows _) ?_
 conv => zeta
 refine ⟨fun g => ?_, fun n2 => ⟨fun g => ?_, fun n6 => ⟨fun g => ?_, fun n7 => ⟨fun g => ?_, fun n8 => ⟨fun g => ?_, fun n9 => ?_⟩⟩⟩⟩⟩
 ·have g : p.o = 2 := by simpa using g
  have hV : cZ p k.gets k.cres k.puts a c = lB a p.t c := by unfold cZ; rw [if_pos g]
  rw [hV, g]
  refine ⟨?_, fun g2 => ?_, fun g2 => ?_, trivial⟩
  ·cases e : bP a.rows p.t.rows
   ·exact .inl ⟨⟨hga, p.t, rfl, ht⟩, rfl⟩
   ·exact .inr ⟨⟨hga, p.t, rfl, ht⟩, rfl⟩
  ·have e : lB a p.t c = (.nil, 3) := if_neg (by rw [g2.2]; simp)
   rw [e]
   exact (aF (r := (Tr.nil, 3)) (by decide)).symm
  ·have e : lB a p.t c = (c, 0) := if_pos g2.2
   rw [e]
   exact (bk (r := (c, 0)) rfl).symm
 ·have g : p.o = 6 := by simpa using g
  have n2 : ¬ p.o = 2 := by simpa using n2
  have hw : (p.o == 3 && aG a.rows p.b || p.o == 4 || p.o == 6 || p.o == 7 || p.o == 8) = true := by simp [g]
  rw [ct, hw]
  refine ⟨⟨hga, sn⟩, fun g2 => ?_, fun g2 => ⟨⟨hg, sn⟩, ?_⟩⟩
  ·have hV : cZ p k.gets k.cres k.puts a c = (.nil, 3) := by
    unfold cZ
    rw [if_neg n2, if_neg (by omega), if_neg (by omega), if_neg (by omega), if_pos g, if_pos (fun e => by rw [hn1.2 e] at g2; simp at g2)]
   rw [hV]
   exact (aF (r := (Tr.nil, 3)) (by decide)).symm
  ·have o1 : (bD p.n (p.nl.map ak) a).list = [] := hn1.1 (by simpa using g2)
   have hV : cZ p k.gets k.cres k.puts a c = (ew a (bD p.n (p.nl.map ak) c), 0) := by
    unfold cZ
    rw [if_neg n2, if_neg (by omega), if_neg (by omega), if_neg (by omega), if_pos g, if_neg (not_not_intro o1)]
   have go := di hc p.n (p.nl.map ak)
   have i1 : (dR p.n (p.nl.map ak) (bD p.n (p.nl.map ak) c)).list = [] := by
    unfold dR bD
    rw [list_of, list_of, List.filter_filter]
    exact List.filter_eq_nil_iff.2 fun e _ => by simp
   have la := cw ha
   have lo := cw go
   rw [ct, hV]
   generalize bD p.n (p.nl.map ak) c = y at *
   refine ⟨⟨a.list, y.list, rows_list a, rows_list y, by omega⟩, ?_⟩
   obtain ⟨pm, e1, hp, hle, _⟩ := fJ (a.list ++ y.list) (by rw [List.length_append]; omega)
   have e2 : eE a.rows y.rows = (a.list ++ y.list).map aE := by unfold eE; rw [rows_list, rows_list, List.map_append]
   rw [be rfl, e2, e1, <- cG, jD ha go o1 i1 hp hle]
 ·have g : p.o = 7 := by simpa using g
  obtain ⟨e0, e1, hl, hkr, l0, l1, _, _, hgs⟩ := jk hd hk (k7 g)
  have hV : cZ p k.gets k.cres k.puts a c = cM (fun x => aY e0.1 e0.2 x (dR p.n (p.nl.map ak) c)) (fun x => aY e1.1 e1.2 x (bD p.n (p.nl.map ak) c)) p.m (p.ml.map ak) p.n (p.nl.map ak) a := by unfold cZ; rw [if_neg (by omega), if_neg (by omega), if_neg (by omega), if_neg (by omega), if_neg (by omega), if_pos g, hgs]
  rw [hV, g, hkr, dr, ct, (tK e0 e1 a ..).1, (tK e0 e1 a ..).2]
  exact ⟨⟨hg, sn⟩, ce ⟨⟨rfl, rfl⟩, ⟨_, _, rfl, l0, l1⟩, hga, sm, sn, ⟨_, rfl, eI hc _ _⟩, _, rfl, di hc _ _⟩, fun g2 => (aF g2.2).symm, fun g2 => (be g2.2).symm, trivial⟩
 ·have g : p.o = 8 := by simpa using g
  obtain ⟨e0, hl, hkr, l0, _, hcs, hgs⟩ := lk hd hk (k8 g)
  have hV : cZ p k.gets k.cres k.puts a c = (Tr.of (bC (gT (aY e0.1 e0.2) (aO e0.1 e0.2) c) a.list).1, (bC (gT (aY e0.1 e0.2) (aO e0.1 e0.2) c) a.list).2) := by unfold cZ; rw [if_neg (by omega), if_neg (by omega), if_neg (by omega), if_neg (by omega), if_neg (by omega), if_neg (by omega), if_pos g, hgs, hcs]
  rw [hV, g, hkr, (ug e0.1 e0.2 a c).1, (ug e0.1 e0.2 a c).2]
  refine ⟨ce ⟨rfl, ⟨_, rfl, l0⟩, hga, hg⟩, fun g2 => ?_, fun g2 => ?_, trivial⟩
  ·exact (aF (r := (Tr.of (bC (gT (aY e0.1 e0.2) (aO e0.1 e0.2) c) a.list).1, (bC (gT (aY e0.1 e0.2) (aO e0.1 e0.2) c) a.list).2)) g2.2).symm
  ·exact (be (r := (Tr.of (bC (gT (aY e0.1 e0.2) (aO e0.1 e0.2) c) a.list).1, (bC (gT (aY e0.1 e0.2) (aO e0.1 e0.2) c) a.list).2)) g2.2).symm
 ·have g : p.o = 9 := by simpa using g
  have hV : cZ p k.gets k.cres k.puts a c = yC k a c := by unfold cZ yC; rw [if_neg (by omega), if_neg (by omega), if_neg (by omega), if_neg (by omega), if_neg (by omega), if_neg (by omega), if_neg (by omega), if_pos g]
  have hw : (p.o == 3 && aG a.rows p.b || p.o == 4 || p.o == 6 || p.o == 7 || p.o == 8) = false := by simp [g]
  have E := (gu p k a c).1
  have T := (gu p k a c).2
  unfold LD.row at E T
  rw [hV, hw, E, T]
  exact ⟨ce ⟨⟨p, k, rfl, hd, hk, k9 g, k10⟩, hga, hg⟩, fun g2 => (aF g2.2).symm, fun g2 => (bk g2.2).symm, trivial⟩
 ·have n2 : ¬ p.o = 2 := by simpa using n2
  have n6 : ¬ p.o = 6 := by simpa using n6
  have n7 : ¬ p.o = 7 := by simpa using n7
  have n8 : ¬ p.o = 8 := by simpa using n8
  have n9 : ¬ p.o = 9 := by simpa using n9
  have hV : cZ p k.gets k.cres k.puts a c = eU p a := by unfold cZ eU; rw [if_neg n2, if_neg n6, if_neg n7, if_neg n8, if_neg n9]
  have hw : (p.o == 3 && aG a.rows p.b || p.o == 4 || p.o == 6 || p.o == 7 || p.o == 8) = (p.o == 3 && aG a.rows p.b || p.o == 4) := by
   have h6 : (p.o == 6) = false := by simpa using n6
   have h7 : (p.o == 7) = false := by simpa using n7
   have h8 : (p.o == 8) = false := by simpa using n8
   rw [h6, h7, h8, Bool.or_false, Bool.or_false, Bool.or_false]
  rw [fE, fT, fW, hV, hw]
  refine ⟨rK ⟨hL, hga⟩, fun g3 => (aF g3.2).symm, fun g3 => ?_, fun g3 => ?_, trivial⟩
  ·rw [g3.2]; exact (be g3.1.2).symm
  ·rw [g3.2]; exact (bk g3.1.2).symm
theorem HU {N : Nat} (h : et N) : ∀ ag al, A1 (N + 1) ag = some al -> ∀ a ∈ al, a.1 -> Ev C 29 ag a.2 := by
 intro ag al hl x hx hp
 unfold A1 at hl
 split at hl
 ·simp only [Option.some.injEq] at hl; subst hl
  simp only [List.mem_cons, List.not_mem_nil, or_false] at hx
  rcases hx with rfl | rfl | rfl
  ·obtain ⟨⟨⟨p, k, er, hd, hf⟩, ⟨a, rfl, ha⟩, c, rfl, hc⟩, he⟩ := hp
   have := B0 h p k hf (by rw [Ls.one_deep] at hd; omega) a c ha hc
   rw [er] at he ⊢
   rw [fU] at he
   rw [aF he] at this
   simp only [fU]
   exact this
  ·obtain ⟨⟨⟨⟨p, k, er, hd, hf⟩, ⟨a, rfl, ha⟩, c, rfl, hc⟩, he⟩, hw⟩ := hp
   have := B0 h p k hf (by rw [Ls.one_deep] at hd; omega) a c ha hc
   rw [er] at he hw ⊢
   rw [fU] at he
   rw [hw, be he] at this
   simp only [lm]
   exact this
  ·obtain ⟨⟨⟨⟨p, k, er, hd, hf⟩, ⟨a, rfl, ha⟩, c, rfl, hc⟩, he⟩, hw⟩ := hp
   have := B0 h p k hf (by rw [Ls.one_deep] at hd; omega) a c ha hc
   rw [er] at he hw ⊢
   rw [fU] at he
   rw [hw, bk he] at this
   simp only [lm]
   exact this
 ·exact absurd hl (by simp)
theorem KA {N : Nat} (h : et N) (p : LD) (k : Ls) (hf : (Ls.cons p k .nil).fine) (hd : (Ls.cons p k .nil).deep < N + 1) (a c : Tr) (ha : a.good) (hc : c.good) : Ev C 11 [.pv (.agg (p.row k.rows)), .pv (.sl a.rows), .pv (.sl c.rows)] (dm true (aY p k a c)) := by
 have hS : aK C (Jc (N + 1)) := az (am (HU h) (am Am ax))
 have v6 := eW p k hf a c ha hc
 have hL : aC (N + 1) (p.row k.rows) := ⟨p, k, rfl, hd, hf⟩
 have hg : an a.rows /\ an c.rows := ⟨⟨a, rfl, ha⟩, c, rfl, hc⟩
 have E := fU p k a c
 have T := lm p k a c
 have hR : aY p k a c = cH (cZ p k.gets k.cres k.puts a c) := rfl
 rw [hR]
 generalize cZ p k.gets k.cres k.puts a c = V at *
 have t1 : V.2 = 0 -> (cq V.1 none 1 0).2 ≠ 0 -> (([TV.pv (PV.sl []), TV.pv (PV.int IntKind.i64 (bf V.1.rows 1 0))], []) : RT) = dm true (cH V) := fun h1 h2 => by
  rw [ji h1 h2, aW]
  exact (aF (r := (Tr.nil, _)) h2).symm
 have t2 : V.2 = 0 -> (cq V.1 none 1 0).2 = 0 -> (([TV.own 2 (cN V.1.rows), TV.pv (PV.int IntKind.i64 0)], []) : RT) = dm true (cH V) := fun h1 h2 => by
  rw [gV h1 h2]
  exact (be (r := (V.1, 0)) rfl).symm
 refine bh hS (Mo ..) ?_
 conv => zeta
 have E' : m8 (bU p.o p.a p.b p.n (p.nl.map ak) p.m (p.ml.map ak) p.t.rows p.u.rows k.rows) a.rows c.rows = V.2 := E
 have T' : lK (bU p.o p.a p.b p.n (p.nl.map ak) p.m (p.ml.map ak) p.t.rows p.u.rows k.rows) a.rows c.rows = V.1.rows := T
 rw [E', T']
 refine ⟨rK ⟨hL, hg⟩, fun g => ⟨.inl ⟨g.2, rfl⟩, fun _ => ?_, fun g2 => absurd g2.1.1 g.2, fun g2 => absurd g2.1.1 g.2, trivial⟩, fun g => ?_, fun g => ?_, trivial⟩
 ·rw [jj g.2]
  exact (aF (r := (Tr.nil, _)) g.2).symm
 ·have h6 := v6 g.1.2
  have hs : gt V.1.rows := ⟨_, rfl, h6.2, h6.1⟩
  refine ⟨.inr (ce ⟨rfl, hs⟩), fun g2 => absurd rfl g2.1, fun g2 => ?_, fun g2 => ⟨fun _ => ?_, fun _ => ?_⟩, trivial⟩
  ·exact t1 g.1.2 (by rw [<- aW]; exact g2.2)
  ·exact t2 g.1.2 (by rw [<- aW]; exact g2.2)
  ·exact t2 g.1.2 (by rw [<- aW]; exact g2.2)
 ·have h6 := v6 g.1.2
  have hs : gt V.1.rows := ⟨_, rfl, h6.2, h6.1⟩
  refine ⟨.inr (ce ⟨rfl, hs⟩), fun g2 => absurd rfl g2.1, fun g2 => ?_, fun g2 => ?_, trivial⟩
  ·exact t1 g.1.2 (by rw [<- aW]; exact g2.2)
  ·exact t2 g.1.2 (by rw [<- aW]; exact g2.2)
theorem ua : ∀ N, et N
 | 0 => by
  intro ag al hl x hx hp
  unfold lS at hl
  split at hl
  ·simp only [Option.some.injEq] at hl; subst hl
   simp only [List.mem_cons, List.not_mem_nil, or_false] at hx
   rcases hx with rfl | rfl
   ·obtain ⟨⟨⟨p, k, _, hd, _⟩, _⟩, _⟩ := hp
    exact absurd hd (by omega)
   ·obtain ⟨⟨⟨p, k, _, hd, _⟩, _⟩, _⟩ := hp
    exact absurd hd (by omega)
  ·exact absurd hl (by simp)
 | N + 1 => by
  intro ag al hl x hx hp
  unfold lS at hl
  split at hl
  ·simp only [Option.some.injEq] at hl; subst hl
   simp only [List.mem_cons, List.not_mem_nil, or_false] at hx
   rcases hx with rfl | rfl
   ·obtain ⟨⟨⟨p, k, er, hd, hf⟩, ⟨a, rfl, ha⟩, c, rfl, hc⟩, he⟩ := hp
    have := KA (ua N) p k hf hd a c ha hc
    rw [er] at he ⊢
    rw [dl] at he
    rw [aF he] at this
    simp only [dl]
    exact this
   ·obtain ⟨⟨⟨p, k, er, hd, hf⟩, ⟨a, rfl, ha⟩, c, rfl, hc⟩, he⟩ := hp
    have := KA (ua N) p k hf hd a c ha hc
    rw [er] at he ⊢
    rw [dl] at he
    rw [be he] at this
    simp only [eq]
    exact this
  ·exact absurd hl (by simp)
noncomputable def CA (row : List PV) (a : LP) : Int := (eu (bB row).cres.reverse (aH a)).2
noncomputable def Ll (row : List PV) (a : LP) : LP := (eu (bB row).cres.reverse (aH a)).1.rows
noncomputable def qq (N : Nat) : List TV -> Option Alts
 | [.pv (.agg [.int .i64 o, .str a, .str b, .bool n, .sl nl, .bool m, .sl ml, .sl t, .sl u, .sl k]), .pv (.sl x), .pv (.sl c)] => some [((aC N [.int .i64 o, .str a, .str b, .bool n, .sl nl, .bool m, .sl ml, .sl t, .sl u, .sl k] /\ an x /\ an c) /\ bi [.int .i64 o, .str a, .str b, .bool n, .sl nl, .bool m, .sl ml, .sl t, .sl u, .sl k] x c ≠ 0, [.pv (.sl []), .pv (.int .i64 (bi [.int .i64 o, .str a, .str b, .bool n, .sl nl, .bool m, .sl ml, .sl t, .sl u, .sl k] x c))], []),
  ((aC N [.int .i64 o, .str a, .str b, .bool n, .sl nl, .bool m, .sl ml, .sl t, .sl u, .sl k] /\ an x /\ an c) /\ bi [.int .i64 o, .str a, .str b, .bool n, .sl nl, .bool m, .sl ml, .sl t, .sl u, .sl k] x c = 0, [.pv (.sl (ft [.int .i64 o, .str a, .str b, .bool n, .sl nl, .bool m, .sl ml, .sl t, .sl u, .sl k] x c)), .pv (.int .i64 0)], [])]
 | _ => none
noncomputable def qp (N : Nat) : List TV -> Option Alts
 | [.pv (.agg [.int .i64 o, .str a, .str b, .bool n, .sl nl, .bool m, .sl ml, .sl t, .sl u, .sl k]), .pv (.sl x)] => some [((aC N [.int .i64 o, .str a, .str b, .bool n, .sl nl, .bool m, .sl ml, .sl t, .sl u, .sl k] /\ an x) /\ bu [.int .i64 o, .str a, .str b, .bool n, .sl nl, .bool m, .sl ml, .sl t, .sl u, .sl k] x ≠ 0, [.pv (.sl []), .pv (.int .i64 (bu [.int .i64 o, .str a, .str b, .bool n, .sl nl, .bool m, .sl ml, .sl t, .sl u, .sl k] x))], []),
  ((aC N [.int .i64 o, .str a, .str b, .bool n, .sl nl, .bool m, .sl ml, .sl t, .sl u, .sl k] /\ an x) /\ bu [.int .i64 o, .str a, .str b, .bool n, .sl nl, .bool m, .sl ml, .sl t, .sl u, .sl k] x = 0, [.pv (.sl (fL [.int .i64 o, .str a, .str b, .bool n, .sl nl, .bool m, .sl ml, .sl t, .sl u, .sl k] x)), .pv (.int .i64 0)], [])]
 | _ => none
noncomputable def Jf (N : Nat) : Specs := aZ [(16, qq N), (15, qp N)]
theorem EI (f : Nat) (o : Int) (h i : BS) (m : Bool) (n : LP) (k : Bool) (l p q j a c : LP) (g : Bool) (Q : QT) : (bq C (Jf f) 60 [.pv (.agg [.int .i64 o, .str h, .str i, .bool m, .sl n, .bool k, .sl l, .sl p, .sl q, .sl j]), .pv (.sl a), .pv (.sl c), .pv (.bool g)] Q) (H.b (H.b H.auto (H.b H.auto H.auto)) (H.b H.auto (H.b H.auto H.auto))) = (let b := bU o h i m n k l p q j; let d := aC f b /\ an a /\ an c; let e := aC f b /\ an a; (g = true -> aA [(d /\ bi b a c ≠ (0 : Int), [tS [], tI (bi b a c)], []), (d /\ bi b a c = (0 : Int), [tS (ft b a c), tI 0], [])] /\ (d /\ bi b a c ≠ (0 : Int) -> Q (eR (bi b a c))) /\ (d /\ bi b a c = (0 : Int) -> Q ([tS (ft b a c), tI 0], [])) /\ True) /\ (g = false -> aA [(e /\ bu b a ≠ (0 : Int), [tS [], tI (bu b a)], []), (e /\ bu b a = (0 : Int), [tS (fL b a), tI 0], [])] /\ (e /\ bu b a ≠ (0 : Int) -> Q (eR (bu b a))) /\ (e /\ bu b a = (0 : Int) -> Q ([tS (fL b a), tI 0], [])) /\ True)) := by kernel_rfl
noncomputable def A4 (N : Nat) : List TV -> Option Alts
 | [.pv (.agg [.int .i64 o, .str a, .str b, .bool n, .sl nl, .bool m, .sl ml, .sl t, .sl u, .sl k]), .pv (.sl x), .pv (.sl c), .pv (.bool v)] => some [((v = true /\ aC N [.int .i64 o, .str a, .str b, .bool n, .sl nl, .bool m, .sl ml, .sl t, .sl u, .sl k] /\ an x /\ an c) /\ bi [.int .i64 o, .str a, .str b, .bool n, .sl nl, .bool m, .sl ml, .sl t, .sl u, .sl k] x c ≠ 0, [.pv (.sl []), .pv (.int .i64 (bi [.int .i64 o, .str a, .str b, .bool n, .sl nl, .bool m, .sl ml, .sl t, .sl u, .sl k] x c))], []),
  ((v = true /\ aC N [.int .i64 o, .str a, .str b, .bool n, .sl nl, .bool m, .sl ml, .sl t, .sl u, .sl k] /\ an x /\ an c) /\ bi [.int .i64 o, .str a, .str b, .bool n, .sl nl, .bool m, .sl ml, .sl t, .sl u, .sl k] x c = 0, [.pv (.sl (ft [.int .i64 o, .str a, .str b, .bool n, .sl nl, .bool m, .sl ml, .sl t, .sl u, .sl k] x c)), .pv (.int .i64 0)], []),
  ((v = false /\ aC N [.int .i64 o, .str a, .str b, .bool n, .sl nl, .bool m, .sl ml, .sl t, .sl u, .sl k] /\ an x) /\ bu [.int .i64 o, .str a, .str b, .bool n, .sl nl, .bool m, .sl ml, .sl t, .sl u, .sl k] x ≠ 0, [.pv (.sl []), .pv (.int .i64 (bu [.int .i64 o, .str a, .str b, .bool n, .sl nl, .bool m, .sl ml, .sl t, .sl u, .sl k] x))], []),
  ((v = false /\ aC N [.int .i64 o, .str a, .str b, .bool n, .sl nl, .bool m, .sl ml, .sl t, .sl u, .sl k] /\ an x) /\ bu [.int .i64 o, .str a, .str b, .bool n, .sl nl, .bool m, .sl ml, .sl t, .sl u, .sl k] x = 0, [.pv (.sl (fL [.int .i64 o, .str a, .str b, .bool n, .sl nl, .bool m, .sl ml, .sl t, .sl u, .sl k] x)), .pv (.int .i64 0)], [])]
 | _ => none
noncomputable def gW (N : Nat) : Specs := aZ [(13, nT N), (60, A4 N)]
theorem Li (m : Nat) (i : Int) (a b : BS) (g : Bool) (h : LP) (e : Bool) (f j k d l c : LP) (Q : QT) : (bq C (gW m) 61 [.pv (.agg [.int .i64 i, .str a, .str b, .bool g, .sl h, .bool e, .sl f, .sl j, .sl k, .sl d]), .pv (.sl l), .pv (.sl c), .pv (.bool true)] Q) (H.auto) = (bd C 61 (d0 (u1 (d0 (u2 CP.top)))) (St.mk [(1, aS l), (3, aB true), (4, AV.addr 8 0 0), (10, AV.own 20), (11, aI 0)] [(8, Obj.box (gC i a b g h e f j k d)), (20, Obj.buf 1 [[pS c]])]) (cA (au 0 (aQ (bA C (gW m) 61 99997 (u3 CP.top)) (aU C 61 [TV.pv (PV.agg (bU i a b g h e f j k d)), tS l, tS c, tB true] Q))))) := by kernel_rfl
def Cv : CP := (d0 (u1 (d0 (u2 CP.top))))
def Cy (l : LP) (m b : Int) (c d : BS) (e : Bool) (f : LP) (g : Bool) (h i j k a : LP) : St := (St.mk [(1, aS l), (3, aB true), (4, AV.addr 8 0 0), (10, AV.own 20), (11, aI m)] [(8, Obj.box (gC b c d e f g h i j k)), (20, Obj.buf 1 a)])
theorem Iu (g : Nat) (v : Int) (p i : BS) (j : Bool) (u : LP) (r : Bool) (t I J q K e k : LP) (b w : Int) (x y : BS) (z : Bool) (A : LP) (B : Bool) (D E G f d : LP)  (J0 : St -> Prop) (Q : QT) : (bA C (gW g) 61 1000 (Cv.dn 0) (Cy k b w x y z A B D E G f d) (bO C 61 Cv J0 (cA (au 0 (aQ (bA C (gW g) 61 99997 (u3 CP.top)) (aU C 61 [TV.pv (PV.agg (bU v p i j u r t I J q)), tS K, tS e, tB true] Q)))))) (H.b (H.n 2 (H.s (H.s (H.s (H.s (H.b (H.b H.auto (H.s H.auto)) (H.b (H.n 1 (H.s H.auto)) H.auto))))))) H.auto) = (let n := gC w x y z A B D E G f; let L := (List.length d + 1) * 24 <= du /\ List.length d + 1 <= bz; let o := IntKind.wrap .i64 (b + 1); let l := List.length f; (decide (IntKind.wrap .i64 (b + 1) < (↑l : Int)) = true -> (0 : Int) <= b /\ ∃ (j : Int) (s s_1 : BS) (i : Bool) (es : LP) (b_1 : Bool) (es_1 es_2 es_3 es_4 : LP), let c := bU j s s_1 i es b_1 es_1 es_2 es_3 es_4; f[Int.toNat b]? = some c /\ ((0 : Int) <= b /\ b < (↑(List.length d) : Int)) /\ ∃ (e : List PV), d[Int.toNat b]? = some e /\ 1 <= List.length e /\ ∃ (a : LP), let m := aC g c /\ an a; List.take 1 e = [pS a] /\ aA [(m /\ aV c a ≠ (0 : Int), [tS [], tI (aV c a)], []), (m /\ aV c a = (0 : Int), [tS (cu c a), tI 0], [])] /\ (m /\ aV c a ≠ (0 : Int) -> ((aV c a != 0) = true -> ∃ (h : H), Q (eR (aV c a))) /\ ((aV c a != 0) = false -> L /\ J0 (St.mk [(1, aS k), (3, aB true), (4, AV.addr 8 0 0), (10, AV.own 20), (11, aI o)] [(8, Obj.box n), (20, Obj.buf 1 (d ++ [[pS []]]))]))) /\ (m /\ aV c a = (0 : Int) -> L /\ J0 (St.mk [(1, aS k), (3, aB true), (4, AV.addr 8 0 0), (10, AV.own 20), (11, aI o)] [(8, Obj.box n), (20, Obj.buf 1 (d ++ [[pS (cu c a)]]))])) /\ True) /\ (decide (IntKind.wrap .i64 (b + 1) < (↑l : Int)) = false -> cA (au 0 (aQ (bA C (gW g) 61 99997 (u3 CP.top)) (aU C 61 [TV.pv (PV.agg (bU v p i j u r t I J q)), tS K, tS e, tB true] Q))) (Ex.exit 0) (St.mk [(28, aB false), (27, AV.tup []), (26, aB false), (25, aB (decide (IntKind.wrap .i64 (b + 1) < (↑l : Int)))), (24, aI (↑l : Int)), (23, aS f), (22, AV.addr 8 0 9), (21, aI o), (20, aI b), (1, aS k), (3, aB true), (4, AV.addr 8 0 0), (10, AV.own 20), (11, aI b)] [(8, Obj.box n), (20, Obj.buf 1 d)]))) := by kernel_rfl
def Ix (r : Bool) (q : Int) (p : LP) (o n : Int) (l : LP) (m b : Int) (c d : BS) (e : Bool) (f : LP) (g : Bool) (h i j k a : LP) : St := (St.mk [(28, aB false), (27, AV.tup []), (26, aB false), (25, aB r), (24, aI q), (23, aS p), (22, AV.addr 8 0 9), (21, aI o), (20, aI n), (1, aS l), (3, aB true), (4, AV.addr 8 0 0), (10, AV.own 20), (11, aI m)] [(8, Obj.box (gC b c d e f g h i j k)), (20, Obj.buf 1 a)])
theorem Iy (b : Nat) (l : Int) (c d : BS) (j : Bool) (k : LP) (g : Bool) (i w y f z e : LP) (I : Bool) (G : Int) (E : LP) (D B : Int) (x : LP) (A n : Int) (o p : BS) (q : Bool) (r : LP) (s : Bool) (t u v a m : LP)  (Q : QT) : (fun h => au 0 (aQ (bA C (gW b) 61 99997 (u3 CP.top)) (aU C 61 [TV.pv (PV.agg (bU l c d j k g i w y f)), tS z, tS e, tB true] Q)) h (Ex.exit 0) (Ix I G E D B x A n o p q r s t u v a m)) (H.auto) = (bd C 61 (d0 (u1 (d0 (u3 CP.top)))) (St.mk [(1, aS x), (3, aB true), (4, AV.addr 8 0 0), (10, AV.own 20), (14, aI (IntKind.wrap .i64 ((↑(List.length a) : Int) - 1)))] [(8, Obj.box (gC n o p q r s t u v a)), (20, Obj.buf 1 m)]) (cA (au 2 (aQ (bA C (gW b) 61 99996 (u4 CP.top)) (aU C 61 [TV.pv (PV.agg (bU l c d j k g i w y f)), tS z, tS e, tB true] Q))))) := by kernel_rfl
def Cw : CP := (d0 (u1 (d0 (u3 CP.top))))
def Cz (l : LP) (m b : Int) (c d : BS) (e : Bool) (f : LP) (g : Bool) (h i j k a : LP) : St := (St.mk [(1, aS l), (3, aB true), (4, AV.addr 8 0 0), (10, AV.own 20), (14, aI m)] [(8, Obj.box (gC b c d e f g h i j k)), (20, Obj.buf 1 a)])
theorem Iv (g : Nat) (I : Int) (A k : BS) (l : Bool) (G : LP) (D : Bool) (E J K B L f a : LP) (d p : Int) (q r : BS) (t : Bool) (u : LP) (v : Bool) (w x y m e : LP)  (J2 : St -> Prop) (Q : QT) : (bA C (gW g) 61 1000 (Cw.dn 0) (Cz a d p q r t u v w x y m e) (bO C 61 Cw J2 (cA (au 2 (aQ (bA C (gW g) 61 99996 (u4 CP.top)) (aU C 61 [TV.pv (PV.agg (bU I A k l G D E J K B)), tS L, tS f, tB true] Q)))))) (H.b (H.n 1 (H.s (H.s (H.s (H.s (H.b (H.b H.auto H.auto) (H.b H.auto (H.b (H.b H.auto H.auto) (H.b H.auto H.auto))))))))) H.auto) = (let n := gC p q r t u v w x y m; let o := IntKind.wrap .i64 (d - 1); let z := St.mk [(1, aS []), (3, aB true), (4, AV.addr 8 0 0), (10, AV.own 20), (14, aI o)] [(8, Obj.box n), (20, Obj.buf 1 e)]; (decide (d ≥ (0 : Int)) = true -> ((0 : Int) <= d /\ d < (↑(List.length e) : Int)) /\ ∃ (f : List PV), e[Int.toNat d]? = some f /\ 1 <= List.length f /\ ∃ (c : LP), List.take 1 f = [pS c] /\ (0 : Int) <= d /\ ∃ (l : Int) (s s_1 : BS) (k : Bool) (es_1 : LP) (b_1 : Bool) (es_2 es_3 es_4 es_5 : LP), let b := bU l s s_1 k es_1 b_1 es_2 es_3 es_4 es_5; let i := true = true /\ aC g b /\ an a /\ an c; let j := true = false /\ aC g b /\ an a; m[Int.toNat d]? = some b /\ aA [(i /\ bi b a c ≠ (0 : Int), [tS [], tI (bi b a c)], []), (i /\ bi b a c = (0 : Int), [tS (ft b a c), tI 0], []), (j /\ bu b a ≠ (0 : Int), [tS [], tI (bu b a)], []), (j /\ bu b a = (0 : Int), [tS (fL b a), tI 0], [])] /\ (i /\ bi b a c ≠ (0 : Int) -> ((bi b a c != 0) = true -> ∃ (h : H), Q (eR (bi b a c))) /\ ((bi b a c != 0) = false -> J2 z)) /\ (i /\ bi b a c = (0 : Int) -> J2 (St.mk [(1, aS (ft b a c)), (3, aB true), (4, AV.addr 8 0 0), (10, AV.own 20), (14, aI o)] [(8, Obj.box n), (20, Obj.buf 1 e)])) /\ (j /\ bu b a ≠ (0 : Int) -> ((bu b a != 0) = true -> ∃ (h : H), Q (eR (bu b a))) /\ ((bu b a != 0) = false -> J2 z)) /\ (j /\ bu b a = (0 : Int) -> J2 (St.mk [(1, aS (fL b a)), (3, aB true), (4, AV.addr 8 0 0), (10, AV.own 20), (14, aI o)] [(8, Obj.box n), (20, Obj.buf 1 e)])) /\ True) /\ (decide (d ≥ (0 : Int)) = false -> ∃ (h : H), Q ([tS a, tI 0], []))) := by kernel_rfl
theorem Lh (l : Nat) (h : Int) (a b : BS) (f : Bool) (g : LP) (d : Bool) (e i j c k : LP) (Q : QT) : (bq C (gW l) 61 [.pv (.agg [.int .i64 h, .str a, .str b, .bool f, .sl g, .bool d, .sl e, .sl i, .sl j, .sl c]), .pv (.sl k), .pv (.sl []), .pv (.bool false)] Q) (H.auto) = (bd C 61 (d0 (u1 (d0 (u2 CP.top)))) (St.mk [(1, aS k), (3, aB false), (4, AV.addr 8 0 0), (10, AV.own 20), (11, aI 0)] [(8, Obj.box (gC h a b f g d e i j c)), (20, Obj.buf 1 [[pS []]])]) (cA (au 0 (aQ (bA C (gW l) 61 99997 (u3 CP.top)) (aU C 61 [TV.pv (PV.agg (bU h a b f g d e i j c)), tS k, tS [], tB false] Q))))) := by kernel_rfl
def Ct : CP := (d0 (u1 (d0 (u2 CP.top))))
def Cu (l : LP) (m b : Int) (c d : BS) (e : Bool) (f : LP) (g : Bool) (h i j k a : LP) : St := (St.mk [(1, aS l), (3, aB false), (4, AV.addr 8 0 0), (10, AV.own 20), (11, aI m)] [(8, Obj.box (gC b c d e f g h i j k)), (20, Obj.buf 1 a)])
theorem Im (d : Nat) (n : Int) (g h : BS) (l : Bool) (m : LP) (j : Bool) (k x y i z f : LP) (a o : Int) (p q : BS) (r : Bool) (s : LP) (t : Bool) (u v w b e : LP)  (J0 : St -> Prop) (Q : QT) : (bA C (gW d) 61 1000 (Ct.dn 0) (Cu f a o p q r s t u v w b e) (bO C 61 Ct J0 (cA (au 0 (aQ (bA C (gW d) 61 99997 (u3 CP.top)) (aU C 61 [TV.pv (PV.agg (bU n g h l m j k x y i)), tS z, tS [], tB false] Q)))))) (H.b H.auto H.auto) = (let A := au 0 (aQ (bA C (gW d) 61 99997 (u3 CP.top)) (aU C 61 [TV.pv (PV.agg (bU n g h l m j k x y i)), tS z, tS [], tB false] Q)); let c := List.length b; let B := decide (IntKind.wrap .i64 (a + 1) < (↑c : Int)); let D := gC o p q r s t u v w b; let E := IntKind.wrap .i64 (a + 1); (decide (IntKind.wrap .i64 (a + 1) < (↑c : Int)) = true -> cA A (Ex.exit 0) (St.mk [(28, aB false), (27, aB false), (26, aB true), (25, aB B), (24, aI (↑c : Int)), (23, aS b), (22, AV.addr 8 0 9), (21, aI E), (20, aI a), (1, aS f), (3, aB false), (4, AV.addr 8 0 0), (10, AV.own 20), (11, aI a)] [(8, Obj.box D), (20, Obj.buf 1 e)])) /\ (decide (IntKind.wrap .i64 (a + 1) < (↑c : Int)) = false -> cA A (Ex.exit 0) (St.mk [(28, aB false), (27, AV.tup []), (26, aB false), (25, aB B), (24, aI (↑c : Int)), (23, aS b), (22, AV.addr 8 0 9), (21, aI E), (20, aI a), (1, aS f), (3, aB false), (4, AV.addr 8 0 0), (10, AV.own 20), (11, aI a)] [(8, Obj.box D), (20, Obj.buf 1 e)]))) := by kernel_rfl
def Iq (r : Bool) (q : Int) (p : LP) (o n : Int) (l : LP) (m b : Int) (c d : BS) (e : Bool) (f : LP) (g : Bool) (h i j k a : LP) : St := (St.mk [(28, aB false), (27, aB false), (26, aB true), (25, aB r), (24, aI q), (23, aS p), (22, AV.addr 8 0 9), (21, aI o), (20, aI n), (1, aS l), (3, aB false), (4, AV.addr 8 0 0), (10, AV.own 20), (11, aI m)] [(8, Obj.box (gC b c d e f g h i j k)), (20, Obj.buf 1 a)])
def Ir (r : Bool) (q : Int) (p : LP) (o n : Int) (l : LP) (m b : Int) (c d : BS) (e : Bool) (f : LP) (g : Bool) (h i j k a : LP) : St := (St.mk [(28, aB false), (27, AV.tup []), (26, aB false), (25, aB r), (24, aI q), (23, aS p), (22, AV.addr 8 0 9), (21, aI o), (20, aI n), (1, aS l), (3, aB false), (4, AV.addr 8 0 0), (10, AV.own 20), (11, aI m)] [(8, Obj.box (gC b c d e f g h i j k)), (20, Obj.buf 1 a)])
theorem Is (b : Nat) (k : Int) (c d : BS) (i : Bool) (j : LP) (f : Bool) (g v x e y : LP) (G : Bool) (E : Int) (D : LP) (B A : Int) (w : LP) (z m : Int) (n o : BS) (p : Bool) (q : LP) (r : Bool) (s t u a l : LP)  (Q : QT) : (fun h => au 0 (aQ (bA C (gW b) 61 99997 (u3 CP.top)) (aU C 61 [TV.pv (PV.agg (bU k c d i j f g v x e)), tS y, tS [], tB false] Q)) h (Ex.exit 0) (Iq G E D B A w z m n o p q r s t u a l)) (H.auto) = (bd C 61 (d0 (u1 (d0 (u3 CP.top)))) (St.mk [(1, aS w), (3, aB false), (4, AV.addr 8 0 0), (10, AV.own 20), (14, aI (IntKind.wrap .i64 ((↑(List.length a) : Int) - 1)))] [(8, Obj.box (gC m n o p q r s t u a)), (20, Obj.buf 1 l)]) (cA (au 2 (aQ (bA C (gW b) 61 99996 (u4 CP.top)) (aU C 61 [TV.pv (PV.agg (bU k c d i j f g v x e)), tS y, tS [], tB false] Q))))) := by kernel_rfl
def xG : CP := (d0 (u1 (d0 (u3 CP.top))))
def xH (l : LP) (m b : Int) (c d : BS) (e : Bool) (f : LP) (g : Bool) (h i j k a : LP) : St := (St.mk [(1, aS l), (3, aB false), (4, AV.addr 8 0 0), (10, AV.own 20), (14, aI m)] [(8, Obj.box (gC b c d e f g h i j k)), (20, Obj.buf 1 a)])
theorem It (b : Nat) (k : Int) (c d : BS) (i : Bool) (j : LP) (f : Bool) (g v x e y : LP) (G : Bool) (E : Int) (D : LP) (B A : Int) (w : LP) (z m : Int) (n o : BS) (p : Bool) (q : LP) (r : Bool) (s t u a l : LP)  (Q : QT) : (fun h => au 0 (aQ (bA C (gW b) 61 99997 (u3 CP.top)) (aU C 61 [TV.pv (PV.agg (bU k c d i j f g v x e)), tS y, tS [], tB false] Q)) h (Ex.exit 0) (Ir G E D B A w z m n o p q r s t u a l)) (H.auto) = (bd C 61 (d0 (u1 (d0 (u3 CP.top)))) (St.mk [(1, aS w), (3, aB false), (4, AV.addr 8 0 0), (10, AV.own 20), (14, aI (IntKind.wrap .i64 ((↑(List.length a) : Int) - 1)))] [(8, Obj.box (gC m n o p q r s t u a)), (20, Obj.buf 1 l)]) (cA (au 2 (aQ (bA C (gW b) 61 99996 (u4 CP.top)) (aU C 61 [TV.pv (PV.agg (bU k c d i j f g v x e)), tS y, tS [], tB false] Q))))) := by kernel_rfl
theorem Io (d : Nat) (E : Int) (y i : BS) (j : Bool) (D : LP) (A : Bool) (B G I z J a : LP) (c n : Int) (o p : BS) (q : Bool) (r : LP) (t : Bool) (u v w k e : LP)  (J3 : St -> Prop) (Q : QT) : (bA C (gW d) 61 1000 (xG.dn 0) (xH a c n o p q r t u v w k e) (bO C 61 xG J3 (cA (au 2 (aQ (bA C (gW d) 61 99996 (u4 CP.top)) (aU C 61 [TV.pv (PV.agg (bU E y i j D A B G I z)), tS J, tS [], tB false] Q)))))) (H.b (H.n 1 (H.s (H.s (H.b (H.b H.auto H.auto) (H.b H.auto (H.b (H.b H.auto H.auto) (H.b H.auto H.auto))))))) H.auto) = (let l := gC n o p q r t u v w k; let m := IntKind.wrap .i64 (c - 1); let x := St.mk [(1, aS []), (3, aB false), (4, AV.addr 8 0 0), (10, AV.own 20), (14, aI m)] [(8, Obj.box l), (20, Obj.buf 1 e)]; (decide (c ≥ (0 : Int)) = true -> (0 : Int) <= c /\ ∃ (j : Int) (s s_1 : BS) (i : Bool) (es : LP) (b_1 : Bool) (es_1 es_2 es_3 es_4 : LP), let b := bU j s s_1 i es b_1 es_1 es_2 es_3 es_4; let f := false = true /\ aC d b /\ an a /\ an []; let g := false = false /\ aC d b /\ an a; k[Int.toNat c]? = some b /\ aA [(f /\ bi b a [] ≠ (0 : Int), [tS [], tI (bi b a [])], []), (f /\ bi b a [] = (0 : Int), [tS (ft b a []), tI 0], []), (g /\ bu b a ≠ (0 : Int), [tS [], tI (bu b a)], []), (g /\ bu b a = (0 : Int), [tS (fL b a), tI 0], [])] /\ (f /\ bi b a [] ≠ (0 : Int) -> ((bi b a [] != 0) = true -> ∃ (h : H), Q (eR (bi b a []))) /\ ((bi b a [] != 0) = false -> J3 x)) /\ (f /\ bi b a [] = (0 : Int) -> J3 (St.mk [(1, aS (ft b a [])), (3, aB false), (4, AV.addr 8 0 0), (10, AV.own 20), (14, aI m)] [(8, Obj.box l), (20, Obj.buf 1 e)])) /\ (g /\ bu b a ≠ (0 : Int) -> ((bu b a != 0) = true -> ∃ (h : H), Q (eR (bu b a))) /\ ((bu b a != 0) = false -> J3 x)) /\ (g /\ bu b a = (0 : Int) -> J3 (St.mk [(1, aS (fL b a)), (3, aB false), (4, AV.addr 8 0 0), (10, AV.own 20), (14, aI m)] [(8, Obj.box l), (20, Obj.buf 1 e)])) /\ True) /\ (decide (c ≥ (0 : Int)) = false -> ∃ (h : H), Q ([tS a, tI 0], []))) := by kernel_rfl
noncomputable def A8 (N : Nat) : List TV -> Option Alts
 | [.pv (.agg [.int .i64 o, .str a, .str b, .bool n, .sl nl, .bool m, .sl ml, .sl t, .sl u, .sl k]), .pv (.sl x), .pv (.sl c), .pv (.bool v)] => some [((v = true /\ jx N [.int .i64 o, .str a, .str b, .bool n, .sl nl, .bool m, .sl ml, .sl t, .sl u, .sl k] /\ an x /\ an c) /\ s8 [.int .i64 o, .str a, .str b, .bool n, .sl nl, .bool m, .sl ml, .sl t, .sl u, .sl k] x c ≠ 0, [.pv (.sl []), .pv (.int .i64 (s8 [.int .i64 o, .str a, .str b, .bool n, .sl nl, .bool m, .sl ml, .sl t, .sl u, .sl k] x c))], []),
  ((v = true /\ jx N [.int .i64 o, .str a, .str b, .bool n, .sl nl, .bool m, .sl ml, .sl t, .sl u, .sl k] /\ an x /\ an c) /\ s8 [.int .i64 o, .str a, .str b, .bool n, .sl nl, .bool m, .sl ml, .sl t, .sl u, .sl k] x c = 0, [.pv (.sl (F5 [.int .i64 o, .str a, .str b, .bool n, .sl nl, .bool m, .sl ml, .sl t, .sl u, .sl k] x c)), .pv (.int .i64 0)], [])]
 | _ => none
def HE : LP := []
noncomputable def A7 (N : Nat) : List TV -> Option Alts
 | [.pv (.agg [.int .i64 o, .str a, .str b, .bool n, .sl nl, .bool m, .sl ml, .sl t, .sl u, .sl k]), .pv (.sl x), .pv (.sl c), .pv (.bool v)] => some [((v = false /\ c = HE /\ jx N [.int .i64 o, .str a, .str b, .bool n, .sl nl, .bool m, .sl ml, .sl t, .sl u, .sl k] /\ an x) /\ CA [.int .i64 o, .str a, .str b, .bool n, .sl nl, .bool m, .sl ml, .sl t, .sl u, .sl k] x ≠ 0, [.pv (.sl []), .pv (.int .i64 (CA [.int .i64 o, .str a, .str b, .bool n, .sl nl, .bool m, .sl ml, .sl t, .sl u, .sl k] x))], []),
  ((v = false /\ c = HE /\ jx N [.int .i64 o, .str a, .str b, .bool n, .sl nl, .bool m, .sl ml, .sl t, .sl u, .sl k] /\ an x) /\ CA [.int .i64 o, .str a, .str b, .bool n, .sl nl, .bool m, .sl ml, .sl t, .sl u, .sl k] x = 0, [.pv (.sl (Ll [.int .i64 o, .str a, .str b, .bool n, .sl nl, .bool m, .sl ml, .sl t, .sl u, .sl k] x)), .pv (.int .i64 0)], [])]
 | _ => none
def d8 (N : Nat) : Prop := ∀ ag al, qq N ag = some al -> ∀ a ∈ al, a.1 -> Ev C 16 ag a.2
def d6 (N : Nat) : Prop := ∀ ag al, qp N ag = some al -> ∀ a ∈ al, a.1 -> Ev C 15 ag a.2
theorem yz {N : Nat} (h : d8 N) (h' : d6 N) : ∀ ag al, A4 N ag = some al -> ∀ a ∈ al, a.1 -> Ev C 60 ag a.2 := by
 intro ag al hl x hx hp
 have hS : aK C (Jf N) := az (am h (am h' ax))
 unfold A4 at hl
 split at hl
 ·simp only [Option.some.injEq] at hl; subst hl
  simp only [List.mem_cons, List.not_mem_nil, or_false] at hx
  rcases hx with rfl | rfl | rfl | rfl
  ·obtain ⟨⟨rfl, hq⟩, he⟩ := hp
   refine bh hS (EI ..) ?_
   conv => zeta
   exact ⟨fun _ => ⟨ce hq, fun _ => rfl, fun g => absurd g.2 he, trivial⟩, fun g => absurd g (by simp)⟩
  ·obtain ⟨⟨rfl, hq⟩, he⟩ := hp
   refine bh hS (EI ..) ?_
   conv => zeta
   exact ⟨fun _ => ⟨ce hq, fun g => absurd he g.2, fun _ => rfl, trivial⟩, fun g => absurd g (by simp)⟩
  ·obtain ⟨⟨rfl, hq⟩, he⟩ := hp
   refine bh hS (EI ..) ?_
   conv => zeta
   exact ⟨fun g => absurd g (by simp), fun _ => ⟨ce hq, fun _ => rfl, fun g => absurd g.2 he, trivial⟩⟩
  ·obtain ⟨⟨rfl, hq⟩, he⟩ := hp
   refine bh hS (EI ..) ?_
   conv => zeta
   exact ⟨fun g => absurd g (by simp), fun _ => ⟨ce hq, fun g => absurd he g.2, fun _ => rfl, trivial⟩⟩
 ·exact absurd hl (by simp)
theorem FX {N : Nat} (h : d8 N) (h' : d6 N) (p : LD) (k : Ls) (hd : k.deep < N) (hk : k.fine) (k1 : 1 <= k.len) (k2 : k.len <= 4000000) (a c : Tr) (ha : a.good) (hc : c.good) : Ev C 61 [.pv (.agg (p.row k.rows)), .pv (.sl a.rows), .pv (.sl c.rows), .pv (.bool true)] (dm false (yC k a c)) := by
 have hr := cz
 have hm := bN
 have hS : aK C (gW N) := az (am (kD N) (am (yz h h') ax))
 have hln := Ls.len_list k
 have hrl := Ls.rows_len k
 have hgl : k.gets.dropLast.length = k.len - 1 := by rw [List.length_dropLast, fh, List.length_map]; omega
 have w1 : IntKind.wrap .i64 ((k.len : Int) - 1) = ((k.len - 1 : Nat) : Int) := by rw [oY (by omega)]; omega
 refine bh hS (Li N p.o p.a p.b p.n (p.nl.map ak) p.m (p.ml.map ak) p.t.rows p.u.rows k.rows a.rows c.rows _) ?_
 refine aJ hS (by kernel_rfl) 1000 (fun n st => ∃ (i : Nat) (q : List Tr) (d : Tr), st = Cy a.rows i p.o p.a p.b p.n (p.nl.map ak) p.m (p.ml.map ak) p.t.rows p.u.rows k.rows ((q ++ [d]).map uN) /\ i <= k.len - 1 /\ q.length = i /\ (∀ t ∈ q ++ [d], t.good) /\ gX k.gets.dropLast c i q d /\ n = k.len - 1 - i) ?_ (n := k.len - 1) ⟨0, [], c, rfl, by omega, rfl, by simpa using hc, uV _ _, rfl⟩
 rintro n st ⟨i, q, d, rfl, hi, hq, hgd, hI, rfl⟩
 have hdg := hgd d (by simp)
 have hql : ((q ++ [d]).map uN).length = i + 1 := by rw [List.length_map, List.length_append, hq]; rfl
 refine cr (Iu ..) ?_
 conv => zeta
 rw [hql, hrl, dJ (by omega)]
 refine ⟨fun g => ?_, fun g => ?_⟩
 ·simp only [decide_eq_true_eq] at g
  have hi' : i < k.list.length := by omega
  have hig : i < k.gets.dropLast.length := by omega
  have hmem := List.getElem_mem hi'
  have eg := yc k hi' hig
  have E0 := cP k.list[i].1 k.list[i].2 d
  have T0 := dz k.list[i].1 k.list[i].2 d
  have ok := cl (ea k.list[i].1 k.list[i].2 (Ls.mem_fine hk hmem) d hdg)
  change lC (bx k.list[i].1 k.list[i].2 d) at ok
  have hrow := Ls.row_get k hi'
  have hat : ((q ++ [d]).map uN)[Int.toNat (i : Int)]? = some (uN d) := by
   rw [pH (by rw [List.length_append, hq]; simp), List.getElem_append_right (by omega)]
   simp [hq]
  refine ⟨by omega, _, _, _, _, _, _, _, _, _, _, hrow, ⟨by omega, by omega⟩, _, hat, by simp [uN], d.rows, rfl, ?_⟩
  unfold LD.row at E0 T0
  rw [E0, T0]
  refine ⟨ce ⟨ev hd hk hmem, d, rfl, hdg⟩, fun g2 => ⟨fun _ => ⟨.auto, ?_⟩, fun g3 => nz g2.2 g3⟩, fun g2 => ⟨⟨by omega, by omega⟩, ?_⟩, trivial⟩
  ·have hz : (k.gets.dropLast[i] d).2 ≠ 0 := by rw [eg]; exact g2.2
   have e := pR hig hI hz
   rw [eg] at e
   rw [yD e g2.2]
   exact (aF (r := (Tr.nil, _)) g2.2).symm
  ·have hz : (k.gets.dropLast[i] d).2 = 0 := by rw [eg]; exact g2.2
   have e := oB hig hI hz
   rw [eg] at e
   refine ⟨k.len - 1 - (i + 1), by omega, i + 1, q ++ [d], (bx k.list[i].1 k.list[i].2 d).1, ?_, by omega, by rw [List.length_append, hq]; rfl, ?_, e, rfl⟩
   ·rw [List.map_append (l₁ := q ++ [d])]; rfl
   ·intro t ht
    rcases List.mem_append.1 ht with ht | ht
    ·exact hgd t ht
    ·rw [List.mem_singleton.1 ht]; exact ok.2 g2.2
 ·simp only [decide_eq_false_iff_not] at g
  have hiN : i = k.len - 1 := by omega
  have e := pQ (by omega) hI
  generalize hal : q ++ [d] = al at *
  have hall : al.length = k.list.length := by rw [<- hal, List.length_append, hq, List.length_singleton]; omega
  rw [CM e]
  refine cr (Iy ..) ?_
  rw [hrl, w1]
  have hbl := pZ k hall
  have hatl : (al.map uN).length = k.len := by rw [List.length_map, hall, hln]
  refine aJ hS (by kernel_rfl) 1000 (fun n st => ∃ (j : Nat) (y : Tr), st = Cz y.rows ((j : Int) - 1) p.o p.a p.b p.n (p.nl.map ak) p.m (p.ml.map ak) p.t.rows p.u.rows k.rows (al.map uN) /\ j <= k.len /\ y.good /\ eu (iD k al).reverse a = eu ((iD k al).take j).reverse y /\ n = j) ?_ (n := k.len) ⟨k.len, a, by rw [show ((k.len : Int) - 1) = ((k.len - 1 : Nat) : Int) by omega]; rfl, by omega, ha, by rw [List.take_of_length_le (by omega)], rfl⟩
  rintro j st ⟨_, y, rfl, hj, hyg, he, rfl⟩
  refine cr (Iv ..) ?_
  conv => zeta
  rw [hatl]
  refine ⟨fun g1 => ?_, fun g1 => ?_⟩
  ·simp only [decide_eq_true_eq, ge_iff_le] at g1
   obtain ⟨i', rfl⟩ : ∃ i, j = i + 1 := ⟨j - 1, by omega⟩
   have hi' : i' < k.list.length := by omega
   have hia : i' < al.length := by omega
   have hmem := List.getElem_mem hi'
   have ei : ((i' + 1 : Nat) : Int) - 1 = (i' : Int) := by omega
   have hag := hgd al[i'] (List.getElem_mem hia)
   have E0 := dl k.list[i'].1 k.list[i'].2 y al[i']
   have T0 := eq k.list[i'].1 k.list[i'].2 y al[i']
   have ok := cl (eW k.list[i'].1 k.list[i'].2 (Ls.mem_fine hk hmem) y al[i'] hyg hag)
   change lC (aY k.list[i'].1 k.list[i'].2 y al[i']) at ok
   rw [rS k hi' hall, jb] at he
   rw [ei]
   refine ⟨⟨by omega, by omega⟩, _, pH hia, by simp [uN], al[i'].rows, rfl, by omega, _, _, _, _, _, _, _, _, _, _, Ls.row_get k hi', ?_⟩
   unfold LD.row at E0 T0
   rw [E0, T0]
   refine ⟨?_, fun g2 => ⟨fun _ => ⟨.auto, ?_⟩, fun g3 => nz g2.2 g3⟩, fun g2 => ?_, fun g2 => absurd g2.1.1 (by simp), fun g2 => absurd g2.1.1 (by simp), trivial⟩
   ·rcases ce (P := true = true /\ aC N (k.list[i'].1.row k.list[i'].2.rows) /\ an y.rows /\ an al[i'].rows) (e := (aY k.list[i'].1 k.list[i'].2 y al[i']).2) ⟨rfl, ev hd hk hmem, ⟨y, rfl, hyg⟩, al[i'], rfl, hag⟩ with ho | ho
    ·exact .inl ho
    ·exact .inr (.inl ho)
   ·rw [if_pos g2.2] at he
    rw [he]
    exact (aF (r := (Tr.nil, _)) g2.2).symm
   ·rw [if_neg (not_not_intro g2.2)] at he
    exact ⟨i', by omega, i', _, by rw [oY (by omega)]; rfl, by omega, ok.2 g2.2, he, rfl⟩
  ·simp only [decide_eq_false_iff_not, ge_iff_le] at g1
   have : j = 0 := by omega
   subst this
   have he : eu (iD k al).reverse a = (y, 0) := he
   refine ⟨.auto, ?_⟩
   rw [he]
   exact (bk (r := (y, 0)) rfl).symm
theorem FW {N : Nat} (h : d8 N) (h' : d6 N) (p : LD) (k : Ls) (hd : k.deep < N) (hk : k.fine) (k1 : 1 <= k.len) (k2 : k.len <= 4000000) (a : Tr) (ha : a.good) : Ev C 61 [.pv (.agg (p.row k.rows)), .pv (.sl a.rows), .pv (.sl []), .pv (.bool false)] (dm false (eu k.cres.reverse a)) := by
 have hr := cz
 have hm := bN
 have hS : aK C (gW N) := az (am (kD N) (am (yz h h') ax))
 have hln := Ls.len_list k
 have hrl := Ls.rows_len k
 have hcl : k.cres.length = k.list.length := by rw [ib, List.length_map]
 have w1 : IntKind.wrap .i64 ((k.len : Int) - 1) = ((k.len - 1 : Nat) : Int) := by rw [oY (by omega)]; omega
 have back : bd C 61 xG (xH a.rows ((k.len - 1 : Nat) : Int) p.o p.a p.b p.n (p.nl.map ak) p.m (p.ml.map ak) p.t.rows p.u.rows k.rows [[.sl []]]) (cA (au (2 : Nat) (aQ (bA C (gW N) (61 : FuncId) (99996 : Nat) (CP.dn (CP.dn (CP.dn (CP.dn CP.top (1 : Nat)) (1 : Nat)) (1 : Nat)) (1 : Nat))) (aU C (61 : FuncId) [TV.pv (PV.agg (bU p.o p.a p.b p.n (p.nl.map ak) p.m (p.ml.map ak) p.t.rows p.u.rows k.rows)), TV.pv (PV.sl a.rows), TV.pv (PV.sl []), TV.pv (PV.bool false)] (fun r => r = dm false (eu k.cres.reverse a)))))) := by
  refine aJ hS (by kernel_rfl) 1000 (fun n st => ∃ (j : Nat) (y : Tr), st = xH y.rows ((j : Int) - 1) p.o p.a p.b p.n (p.nl.map ak) p.m (p.ml.map ak) p.t.rows p.u.rows k.rows [[.sl []]] /\ j <= k.len /\ y.good /\ eu k.cres.reverse a = eu (k.cres.take j).reverse y /\ n = j) ?_ (n := k.len) ⟨k.len, a, by rw [show ((k.len : Int) - 1) = ((k.len - 1 : Nat) : Int) by omega], by omega, ha, by rw [List.take_of_length_le (by omega)], rfl⟩
  rintro j st ⟨_, y, rfl, hj, hyg, he, rfl⟩
  refine cr (Io ..) ?_
  conv => zeta
  refine ⟨fun g1 => ?_, fun g1 => ?_⟩
  ·simp only [decide_eq_true_eq, ge_iff_le] at g1
   obtain ⟨i', rfl⟩ : ∃ i, j = i + 1 := ⟨j - 1, by omega⟩
   have hi' : i' < k.list.length := by omega
   have hmem := List.getElem_mem hi'
   have ei : ((i' + 1 : Nat) : Int) - 1 = (i' : Int) := by omega
   have E0 := de k.list[i'].1 k.list[i'].2 y
   have T0 := dU k.list[i'].1 k.list[i'].2 y
   have ok := cl (fp k.list[i'].1 k.list[i'].2 (Ls.mem_fine hk hmem) y hyg)
   change lC (aO k.list[i'].1 k.list[i'].2 y) at ok
   rw [rY k hi', jb] at he
   rw [ei]
   refine ⟨by omega, _, _, _, _, _, _, _, _, _, _, Ls.row_get k hi', ?_⟩
   unfold LD.row at E0 T0
   rw [E0, T0]
   refine ⟨?_, fun g2 => absurd g2.1.1 (by simp), fun g2 => absurd g2.1.1 (by simp), fun g2 => ⟨fun _ => ⟨.auto, ?_⟩, fun g3 => nz g2.2 g3⟩, fun g2 => ?_, trivial⟩
   ·rcases ce (P := false = false /\ aC N (k.list[i'].1.row k.list[i'].2.rows) /\ an y.rows) (e := (aO k.list[i'].1 k.list[i'].2 y).2) ⟨rfl, ev hd hk hmem, y, rfl, hyg⟩ with ho | ho
    ·exact .inr (.inr (.inl ho))
    ·exact .inr (.inr (.inr ho))
   ·rw [if_pos g2.2] at he
    rw [he]
    exact (aF (r := (Tr.nil, _)) g2.2).symm
   ·rw [if_neg (not_not_intro g2.2)] at he
    exact ⟨i', by omega, i', _, by rw [oY (by omega)]; rfl, by omega, ok.2 g2.2, he, rfl⟩
  ·simp only [decide_eq_false_iff_not, ge_iff_le] at g1
   have : j = 0 := by omega
   subst this
   have he : eu k.cres.reverse a = (y, 0) := he
   refine ⟨.auto, ?_⟩
   rw [he]
   exact (bk (r := (y, 0)) rfl).symm
 refine bh hS (Lh N p.o p.a p.b p.n (p.nl.map ak) p.m (p.ml.map ak) p.t.rows p.u.rows k.rows a.rows _) ?_
 refine aJ hS (by kernel_rfl) 1000 (fun n st => st = Cu a.rows 0 p.o p.a p.b p.n (p.nl.map ak) p.m (p.ml.map ak) p.t.rows p.u.rows k.rows [[.sl []]] /\ n = 0) ?_ (n := 0) ⟨rfl, rfl⟩
 rintro n st ⟨rfl, rfl⟩
 refine cr (Im ..) ?_
 conv => zeta
 refine ⟨fun g => ?_, fun g => ?_⟩
 ·refine cr (Is ..) ?_
  rw [hrl, w1]
  exact back
 ·refine cr (It ..) ?_
  rw [hrl, w1]
  exact back
theorem ol (p : LD) (k : Ls) (a : Tr) : CA (p.row k.rows) a.rows = (eu k.cres.reverse a).2 /\ Ll (p.row k.rows) a.rows = (eu k.cres.reverse a).1.rows := by unfold CA Ll; rw [(aM p k).2, aq]; exact ⟨rfl, rfl⟩
theorem Iw {N : Nat} (h : d8 N) (h' : d6 N) : ∀ ag al, A8 N ag = some al -> ∀ a ∈ al, a.1 -> Ev C 61 ag a.2 := by
 intro ag al hl x hx hp
 unfold A8 at hl
 split at hl
 ·simp only [Option.some.injEq] at hl; subst hl
  simp only [List.mem_cons, List.not_mem_nil, or_false] at hx
  rcases hx with rfl | rfl
  ·obtain ⟨⟨rfl, ⟨p, k, er, hd, hf, k1, k2⟩, ⟨a, rfl, ha⟩, c, rfl, hc⟩, he⟩ := hp
   have := FX h h' p k hd hf k1 k2 a c ha hc
   rw [er] at he ⊢
   rw [(gu p k a c).1] at he
   rw [aF he] at this
   simp only [(gu p k a c).1]
   exact this
  ·obtain ⟨⟨rfl, ⟨p, k, er, hd, hf, k1, k2⟩, ⟨a, rfl, ha⟩, c, rfl, hc⟩, he⟩ := hp
   have := FX h h' p k hd hf k1 k2 a c ha hc
   rw [er] at he ⊢
   rw [(gu p k a c).1] at he
   rw [bk he] at this
   simp only [(gu p k a c).2]
   exact this
 ·exact absurd hl (by simp)
theorem Ip {N : Nat} (h : d8 N) (h' : d6 N) : ∀ ag al, A7 N ag = some al -> ∀ a ∈ al, a.1 -> Ev C 61 ag a.2 := by
 intro ag al hl x hx hp
 unfold A7 at hl
 split at hl
 ·simp only [Option.some.injEq] at hl; subst hl
  simp only [List.mem_cons, List.not_mem_nil, or_false] at hx
  rcases hx with rfl | rfl
  ·obtain ⟨⟨rfl, rfl, ⟨p, k, er, hd, hf, k1, k2⟩, a, rfl, ha⟩, he⟩ := hp
   have := FW h h' p k hd hf k1 k2 a ha
   rw [er] at he ⊢
   rw [(ol p k a).1] at he
   rw [aF he] at this
   simp only [(ol p k a).1]
   exact this
  ·obtain ⟨⟨rfl, rfl, ⟨p, k, er, hd, hf, k1, k2⟩, a, rfl, ha⟩, he⟩ := hp
   have := FW h h' p k hd hf k1 k2 a ha
   rw [er] at he ⊢
   rw [(ol p k a).1] at he
   rw [bk he] at this
   simp only [(ol p k a).2]
   exact this
 ·exact absurd hl (by simp)
noncomputable def jZ (N : Nat) : Specs := aZ [(14, vA), (56, tU), (57, tQ), (58, jN), (25, y6), (60, A4 N), (59, A3), (12, y0), (61, A8 N)]
theorem Lf (o : Nat) (i : Int) (p q : BS) (c : Bool) (b : LP) (e : Bool) (d E a9 u a f : LP) (Q : QT) : (bq C (jZ o) 33 [.pv (.agg [.int .i64 i, .str p, .str q, .bool c, .sl b, .bool e, .sl d, .sl E, .sl a9, .sl u]), .pv (.sl a), .pv (.sl f), .pv (.bool true)] Q) (H.b H.auto (H.b (H.b H.auto H.auto) (H.b (H.b H.auto (H.b H.auto (H.b H.auto H.auto))) (H.b H.auto (H.b (H.b H.auto (H.b H.auto H.auto)) (H.b (H.b H.auto H.auto) (H.b (H.n 1 (H.s (H.b (H.b H.auto (H.n 1 (H.s (H.b (H.b H.auto (H.b H.auto (H.b H.auto H.auto))) (H.b (H.n 1 (H.b H.auto (H.b H.auto H.auto))) (H.b (H.b H.auto (H.b H.auto (H.b H.auto H.auto))) (H.b (H.n 1 (H.b H.auto (H.b H.auto H.auto))) H.auto))))))) (H.b (H.n 2 (H.s (H.b (H.b H.auto (H.b H.auto (H.b H.auto H.auto))) (H.b (H.n 1 (H.b H.auto (H.b H.auto H.auto))) (H.b (H.b H.auto (H.b H.auto (H.b H.auto H.auto))) (H.b (H.n 1 (H.b H.auto (H.b H.auto H.auto))) H.auto)))))) (H.b (H.b H.auto (H.n 1 (H.s (H.b (H.b H.auto (H.b H.auto (H.b H.auto H.auto))) (H.b (H.n 1 (H.b H.auto (H.b H.auto H.auto))) (H.b (H.b H.auto (H.b H.auto (H.b H.auto H.auto))) (H.b (H.n 1 (H.b H.auto (H.b H.auto H.auto))) H.auto))))))) (H.b (H.n 2 (H.s (H.b (H.b H.auto (H.b H.auto (H.b H.auto H.auto))) (H.b (H.n 1 (H.b H.auto (H.b H.auto H.auto))) (H.b (H.b H.auto (H.b H.auto (H.b H.auto H.auto))) (H.b (H.n 1 (H.b H.auto (H.b H.auto H.auto))) H.auto)))))) H.auto)))))) (H.b H.auto (H.b H.auto (H.b H.auto H.auto)))))))))) = (let r := an [] /\ an [] /\ bm b; let t := bU i p q c b e d E a9 u; let J := bl [] []; let N := r /\ cj [] [] c b = (0 : Int) -> Q ([tS J, tI 0], []); let U := true = true /\ jx o t /\ an a /\ an f; let Z := r /\ cj [] [] c b ≠ (0 : Int) -> Q (eR 3); let b9 := au 0 (aQ (bA C (jZ o) 33 99998 (u2 CP.top)) (aU C 33 [TV.pv (PV.agg t), tS a, tS f, tB true] Q)); let a7 := u9 (d0 (u1 (d0 (u1 CP.top)))); let a8 := an a /\ aG a p = false; let ac := List.length (aw c b a); ((i == 1) = true -> Q ([tS a, tI 0], [])) /\ ((i == 1) = false -> ((i == 2) = true -> (an a /\ an E) /\ ((!bP a E) = true -> Q (eR 3)) /\ ((!bP a E) = false -> Q ([tS f, tI 0], []))) /\ ((i == 2) = false -> ((i == 3) = true -> aA [(an a /\ aG a p = true, [tS [], tI 3], []), (a8 /\ aG a q = false, [tS a, tI 0], []), (a8 /\ aG a q = true, [TV.own 2 (md a q p), tI 0], [])] /\ (an a /\ aG a p = true -> Q (eR 3)) /\ (a8 /\ aG a q = false -> Q ([tS a, tI 0], [])) /\ (a8 /\ aG a q = true -> Q ([TV.own 2 (md a q p), tI 0], [])) /\ True) /\ ((i == 3) = false -> ((i == 4) = true -> Q ([TV.own 2 [[pT p, pS a]], tI 0], [])) /\ ((i == 4) = false -> ((i == 5) = true -> aA [(an a /\ gJ a p ≠ (0 : Int), [tS [], tI 3], []), (an a /\ gJ a p = (0 : Int), [tS (oe a p), tI 0], [])] /\ (an a /\ gJ a p ≠ (0 : Int) -> Q (eR 3)) /\ (an a /\ gJ a p = (0 : Int) -> Q ([tS (oe a p), tI 0], [])) /\ True) /\ ((i == 5) = false -> ((i == 6) = true -> (an a /\ bm b) /\ (an f /\ bm b) /\ (decide ((↑ac : Int) >  0) = true -> Q (eR 3)) /\ (decide ((↑ac : Int) >  0) = false -> bd C 33 (d0 (u1 (d0 (u4 (d0 (u2 a7)))))) (St.mk [(13, aS (aw c b f)), (14, aS a), (15, aI 0)] []) (cA (au 1 (aQ (bA C (jZ o) 33 99979 (u5 (d0 (u2 a7)))) b9))))) /\ ((i == 6) = false -> ((i == 7) = true -> (an a /\ bm d) /\ (an f /\ bm b) /\ ∃ (n_1 : Int) (s s_1 : BS) (q : Bool) (es : LP) (b_1 : Bool) (es_1 es_2 es_3 es_4 : LP), let j := bU n_1 s s_1 q es b_1 es_1 es_2 es_3 es_4; let g := ft j (cm e d a) (cm c b f); let h := fL j (cm e d a); let G := an g /\ an [] /\ bm b; let I := an h /\ an [] /\ bm b; let K := true = true /\ aC o j /\ an (cm e d a) /\ an (cm c b f); let L := true = false /\ aC o j /\ an (cm e d a); let aa := bl g []; let ad := G /\ cj g [] c b = (0 : Int) -> Q ([tS aa, tI 0], []); let ab := bl h []; let ae := I /\ cj h [] c b = (0 : Int) -> Q ([tS ab, tI 0], []); let af := G /\ cj g [] c b ≠ (0 : Int) -> Q (eR 3); let ag := I /\ cj h [] c b ≠ (0 : Int) -> Q (eR 3); let ah := bi j (cm e d a) (cm c b f) != 0; let ai := bi j (cm e d a) (cm c b f); let aj := bu j (cm e d a) != 0; u[0]? = some j /\ aA [(K /\ bi j (cm e d a) (cm c b f) ≠ (0 : Int), [tS [], tI ai], []), (K /\ bi j (cm e d a) (cm c b f) = (0 : Int), [tS g, tI 0], []), (L /\ bu j (cm e d a) ≠ (0 : Int), [tS [], tI (bu j (cm e d a))], []), (L /\ bu j (cm e d a) = (0 : Int), [tS h, tI 0], [])] /\ (K /\ bi j (cm e d a) (cm c b f) ≠ (0 : Int) -> (ah = true -> Q (eR ai)) /\ (ah = false -> ∃ (n_2 : Int) (s s_2 : BS) (q : Bool) (es : LP) (b_2 : Bool) (es_5 es_6 es_7 es_8 : LP), let k := bU n_2 s s_2 q es b_2 es_5 es_6 es_7 es_8; let v := ft k (aw e d a) (aw c b f); let M := true = true /\ aC o k /\ an (aw e d a) /\ an (aw c b f); let w := fL k (aw e d a); let O := true = false /\ aC o k /\ an (aw e d a); let P := an [] /\ an v /\ bm b; let R := an [] /\ an w /\ bm b; let b0 := bi k (aw e d a) (aw c b f) != 0; let b1 := bi k (aw e d a) (aw c b f); let b2 := bu k (aw e d a) != 0; u[1]? = some k /\ aA [(M /\ bi k (aw e d a) (aw c b f) ≠ (0 : Int), [tS [], tI b1], []), (M /\ bi k (aw e d a) (aw c b f) = (0 : Int), [tS v, tI 0], []), (O /\ bu k (aw e d a) ≠ (0 : Int), [tS [], tI (bu k (aw e d a))], []), (O /\ bu k (aw e d a) = (0 : Int), [tS w, tI 0], [])] /\ (M /\ bi k (aw e d a) (aw c b f) ≠ (0 : Int) -> (b0 = true -> Q (eR b1)) /\ (b0 = false -> aA [(r /\ cj [] [] c b ≠ (0 : Int), [tS [], tI 3], []), (r /\ cj [] [] c b = (0 : Int), [tS J, tI 0], [])] /\ Z /\ N /\ True)) /\ (M /\ bi k (aw e d a) (aw c b f) = (0 : Int) -> aA [(P /\ cj [] v c b ≠ (0 : Int), [tS [], tI 3], []), (P /\ cj [] v c b = (0 : Int), [tS (bl [] v), tI 0], [])] /\ (P /\ cj [] v c b ≠ (0 : Int) -> Q (eR 3)) /\ (P /\ cj [] v c b = (0 : Int) -> Q ([tS (bl [] v), tI 0], [])) /\ True) /\ (O /\ bu k (aw e d a) ≠ (0 : Int) -> (b2 = true -> Q (eR (bu k (aw e d a)))) /\ (b2 = false -> aA [(r /\ cj [] [] c b ≠ (0 : Int), [tS [], tI 3], []), (r /\ cj [] [] c b = (0 : Int), [tS J, tI 0], [])] /\ Z /\ N /\ True)) /\ (O /\ bu k (aw e d a) = (0 : Int) -> aA [(R /\ cj [] w c b ≠ (0 : Int), [tS [], tI 3], []), (R /\ cj [] w c b = (0 : Int), [tS (bl [] w), tI 0], [])] /\ (R /\ cj [] w c b ≠ (0 : Int) -> Q (eR 3)) /\ (R /\ cj [] w c b = (0 : Int) -> Q ([tS (bl [] w), tI 0], [])) /\ True) /\ True)) /\ (K /\ bi j (cm e d a) (cm c b f) = (0 : Int) -> ∃ (n_2 : Int) (s_2 s_3 : BS) (b_2 : Bool) (es_5 : LP) (b_3 : Bool) (es_6 es_7 es_8 es_9 : LP), let l := bU n_2 s_2 s_3 b_2 es_5 b_3 es_6 es_7 es_8 es_9; let x := ft l (aw e d a) (aw c b f); let T := true = true /\ aC o l /\ an (aw e d a) /\ an (aw c b f); let y := fL l (aw e d a); let V := true = false /\ aC o l /\ an (aw e d a); let W := an g /\ an x /\ bm b; let X := an g /\ an y /\ bm b; let b3 := bi l (aw e d a) (aw c b f) != 0; let b4 := bi l (aw e d a) (aw c b f); let b5 := bu l (aw e d a) != 0; u[1]? = some l /\ aA [(T /\ bi l (aw e d a) (aw c b f) ≠ (0 : Int), [tS [], tI b4], []), (T /\ bi l (aw e d a) (aw c b f) = (0 : Int), [tS x, tI 0], []), (V /\ bu l (aw e d a) ≠ (0 : Int), [tS [], tI (bu l (aw e d a))], []), (V /\ bu l (aw e d a) = (0 : Int), [tS y, tI 0], [])] /\ (T /\ bi l (aw e d a) (aw c b f) ≠ (0 : Int) -> (b3 = true -> Q (eR b4)) /\ (b3 = false -> aA [(G /\ cj g [] c b ≠ (0 : Int), [tS [], tI 3], []), (G /\ cj g [] c b = (0 : Int), [tS aa, tI 0], [])] /\ af /\ ad /\ True)) /\ (T /\ bi l (aw e d a) (aw c b f) = (0 : Int) -> aA [(W /\ cj g x c b ≠ (0 : Int), [tS [], tI 3], []), (W /\ cj g x c b = (0 : Int), [tS (bl g x), tI 0], [])] /\ (W /\ cj g x c b ≠ (0 : Int) -> Q (eR 3)) /\ (W /\ cj g x c b = (0 : Int) -> Q ([tS (bl g x), tI 0], [])) /\ True) /\ (V /\ bu l (aw e d a) ≠ (0 : Int) -> (b5 = true -> Q (eR (bu l (aw e d a)))) /\ (b5 = false -> aA [(G /\ cj g [] c b ≠ (0 : Int), [tS [], tI 3], []), (G /\ cj g [] c b = (0 : Int), [tS aa, tI 0], [])] /\ af /\ ad /\ True)) /\ (V /\ bu l (aw e d a) = (0 : Int) -> aA [(X /\ cj g y c b ≠ (0 : Int), [tS [], tI 3], []), (X /\ cj g y c b = (0 : Int), [tS (bl g y), tI 0], [])] /\ (X /\ cj g y c b ≠ (0 : Int) -> Q (eR 3)) /\ (X /\ cj g y c b = (0 : Int) -> Q ([tS (bl g y), tI 0], [])) /\ True) /\ True) /\ (L /\ bu j (cm e d a) ≠ (0 : Int) -> (aj = true -> Q (eR (bu j (cm e d a)))) /\ (aj = false -> ∃ (n_2 : Int) (s s_2 : BS) (q : Bool) (es : LP) (b_2 : Bool) (es_5 es_6 es_7 es_8 : LP), let m := bU n_2 s s_2 q es b_2 es_5 es_6 es_7 es_8; let z := ft m (aw e d a) (aw c b f); let Y := true = true /\ aC o m /\ an (aw e d a) /\ an (aw c b f); let A := fL m (aw e d a); let a0 := true = false /\ aC o m /\ an (aw e d a); let a1 := an [] /\ an z /\ bm b; let a2 := an [] /\ an A /\ bm b; let b6 := bi m (aw e d a) (aw c b f) != 0; let b7 := bi m (aw e d a) (aw c b f); let b8 := bu m (aw e d a) != 0; u[1]? = some m /\ aA [(Y /\ bi m (aw e d a) (aw c b f) ≠ (0 : Int), [tS [], tI b7], []), (Y /\ bi m (aw e d a) (aw c b f) = (0 : Int), [tS z, tI 0], []), (a0 /\ bu m (aw e d a) ≠ (0 : Int), [tS [], tI (bu m (aw e d a))], []), (a0 /\ bu m (aw e d a) = (0 : Int), [tS A, tI 0], [])] /\ (Y /\ bi m (aw e d a) (aw c b f) ≠ (0 : Int) -> (b6 = true -> Q (eR b7)) /\ (b6 = false -> aA [(r /\ cj [] [] c b ≠ (0 : Int), [tS [], tI 3], []), (r /\ cj [] [] c b = (0 : Int), [tS J, tI 0], [])] /\ Z /\ N /\ True)) /\ (Y /\ bi m (aw e d a) (aw c b f) = (0 : Int) -> aA [(a1 /\ cj [] z c b ≠ (0 : Int), [tS [], tI 3], []), (a1 /\ cj [] z c b = (0 : Int), [tS (bl [] z), tI 0], [])] /\ (a1 /\ cj [] z c b ≠ (0 : Int) -> Q (eR 3)) /\ (a1 /\ cj [] z c b = (0 : Int) -> Q ([tS (bl [] z), tI 0], [])) /\ True) /\ (a0 /\ bu m (aw e d a) ≠ (0 : Int) -> (b8 = true -> Q (eR (bu m (aw e d a)))) /\ (b8 = false -> aA [(r /\ cj [] [] c b ≠ (0 : Int), [tS [], tI 3], []), (r /\ cj [] [] c b = (0 : Int), [tS J, tI 0], [])] /\ Z /\ N /\ True)) /\ (a0 /\ bu m (aw e d a) = (0 : Int) -> aA [(a2 /\ cj [] A c b ≠ (0 : Int), [tS [], tI 3], []), (a2 /\ cj [] A c b = (0 : Int), [tS (bl [] A), tI 0], [])] /\ (a2 /\ cj [] A c b ≠ (0 : Int) -> Q (eR 3)) /\ (a2 /\ cj [] A c b = (0 : Int) -> Q ([tS (bl [] A), tI 0], [])) /\ True) /\ True)) /\ (L /\ bu j (cm e d a) = (0 : Int) -> ∃ (n_2 : Int) (s_2 s_3 : BS) (b_2 : Bool) (es_5 : LP) (b_3 : Bool) (es_6 es_7 es_8 es_9 : LP), let n := bU n_2 s_2 s_3 b_2 es_5 b_3 es_6 es_7 es_8 es_9; let B := ft n (aw e d a) (aw c b f); let a3 := true = true /\ aC o n /\ an (aw e d a) /\ an (aw c b f); let D := fL n (aw e d a); let a4 := true = false /\ aC o n /\ an (aw e d a); let a5 := an h /\ an B /\ bm b; let a6 := an h /\ an D /\ bm b; let ba := bi n (aw e d a) (aw c b f) != 0; let bb := bi n (aw e d a) (aw c b f); let bc := bu n (aw e d a) != 0; u[1]? = some n /\ aA [(a3 /\ bi n (aw e d a) (aw c b f) ≠ (0 : Int), [tS [], tI bb], []), (a3 /\ bi n (aw e d a) (aw c b f) = (0 : Int), [tS B, tI 0], []), (a4 /\ bu n (aw e d a) ≠ (0 : Int), [tS [], tI (bu n (aw e d a))], []), (a4 /\ bu n (aw e d a) = (0 : Int), [tS D, tI 0], [])] /\ (a3 /\ bi n (aw e d a) (aw c b f) ≠ (0 : Int) -> (ba = true -> Q (eR bb)) /\ (ba = false -> aA [(I /\ cj h [] c b ≠ (0 : Int), [tS [], tI 3], []), (I /\ cj h [] c b = (0 : Int), [tS ab, tI 0], [])] /\ ag /\ ae /\ True)) /\ (a3 /\ bi n (aw e d a) (aw c b f) = (0 : Int) -> aA [(a5 /\ cj h B c b ≠ (0 : Int), [tS [], tI 3], []), (a5 /\ cj h B c b = (0 : Int), [tS (bl h B), tI 0], [])] /\ (a5 /\ cj h B c b ≠ (0 : Int) -> Q (eR 3)) /\ (a5 /\ cj h B c b = (0 : Int) -> Q ([tS (bl h B), tI 0], [])) /\ True) /\ (a4 /\ bu n (aw e d a) ≠ (0 : Int) -> (bc = true -> Q (eR (bu n (aw e d a)))) /\ (bc = false -> aA [(I /\ cj h [] c b ≠ (0 : Int), [tS [], tI 3], []), (I /\ cj h [] c b = (0 : Int), [tS ab, tI 0], [])] /\ ag /\ ae /\ True)) /\ (a4 /\ bu n (aw e d a) = (0 : Int) -> aA [(a6 /\ cj h D c b ≠ (0 : Int), [tS [], tI 3], []), (a6 /\ cj h D c b = (0 : Int), [tS (bl h D), tI 0], [])] /\ (a6 /\ cj h D c b ≠ (0 : Int) -> Q (eR 3)) /\ (a6 /\ cj h D c b = (0 : Int) -> Q ([tS (bl h D), tI 0], [])) /\ True) /\ True) /\ True) /\ ((i == 7) = false -> ((i == 8) = true -> bd C 33 (d0 (u1 (d0 (u1 (d0 (u6 a7)))))) (St.mk [(1, aS a), (2, aS f), (3, aB true), (4, AV.addr 8 0 0), (23, AV.own 46), (24, aI 0)] [(8, Obj.box (gC i p q c b e d E a9 u)), (46, Obj.buf 2 [])]) (cA (au 3 (aQ (bA C (jZ o) 33 99978 (u2 (d0 (u6 a7)))) b9)))) /\ ((i == 8) = false -> aA [(U /\ s8 t a f ≠ (0 : Int), [tS [], tI (s8 t a f)], []), (U /\ s8 t a f = (0 : Int), [tS (F5 t a f), tI 0], [])] /\ (U /\ s8 t a f ≠ (0 : Int) -> Q (eR (s8 t a f))) /\ (U /\ s8 t a f = (0 : Int) -> Q ([tS (F5 t a f), tI 0], [])) /\ True))))))))) := by kernel_rfl
def Cp : CP := (d0 (u1 (d0 (u4 (d0 (u2 (u9 (d0 (u1 (d0 (u1 CP.top)))))))))))
def Cr (a b : LP) (c : Int) : St := (St.mk [(13, aS a), (14, aS b), (15, aI c)] [])
def Cq : CP := (d0 (u1 (d0 (u1 (d0 (u6 (u9 (d0 (u1 (d0 (u1 CP.top)))))))))))
def ut (l m : LP) (n b : Int) (c d : BS) (e : Bool) (f : LP) (g : Bool) (h i j k a : LP) : St := (St.mk [(1, aS l), (2, aS m), (3, aB true), (4, AV.addr 8 0 0), (23, AV.own 46), (24, aI n)] [(8, Obj.box (gC b c d e f g h i j k)), (46, Obj.buf 2 a)])
theorem Ii (e : Nat) (p : Int) (g i : BS) (n : Bool) (o : LP) (l : Bool) (m c f k q j b d : LP) (a : Int)  (J0 : St -> Prop) (Q : QT) : (bA C (jZ e) 33 1000 (Cp.dn 0) (Cr b d a) (bO C 33 Cp J0 (cA (au 1 (aQ (bA C (jZ e) 33 99979 (u5 (d0 (u2 (u9 (d0 (u1 (d0 (u1 CP.top))))))))) (au 0 (aQ (bA C (jZ e) 33 99998 (u2 CP.top)) (aU C 33 [TV.pv (PV.agg (bU p g i n o l m c f k)), tS q, tS j, tB true] Q)))))))) (H.b (H.s (H.s (H.s (H.s H.auto)))) H.auto) = ((decide (a < (↑(List.length b) : Int)) = true -> (0 : Int) <= a /\ ∃ (s : BS) (es : LP), b[Int.toNat a]? = some [pT s, pS es] /\ (0 : Int) <= a /\ ∃ (s_1 : BS) (es : LP), b[Int.toNat a]? = some [pT s_1, pS es] /\ (∃ (c f : Tr), d = Tr.rows c /\ es = Tr.rows f /\ List.length (Tr.list c) <= 4000000) /\ J0 (St.mk [(13, aS b), (14, aS (nB d s es)), (15, aI (IntKind.wrap .i64 (a + 1)))] [])) /\ (decide (a < (↑(List.length b) : Int)) = false -> ∃ (h : H), Q ([tS d, tI 0], []))) := by kernel_rfl
theorem Ij (f : Nat) (J : Int) (A m : BS) (n : Bool) (I : LP) (E : Bool) (G K L D M B d b : LP) (c p : Int) (q r : BS) (t : Bool) (u : LP) (v : Bool) (w x y o e : LP)  (J1 : St -> Prop) (Q : QT) : (bA C (jZ f) 33 1000 (Cq.dn 0) (ut d b c p q r t u v w x y o e) (bO C 33 Cq J1 (cA (au 3 (aQ (bA C (jZ f) 33 99978 (u2 (d0 (u6 (u9 (d0 (u1 (d0 (u1 CP.top))))))))) (au 0 (aQ (bA C (jZ f) 33 99998 (u2 CP.top)) (aU C 33 [TV.pv (PV.agg (bU J A m n I E G K L D)), tS M, tS B, tB true] Q)))))))) (H.b (H.s (H.s (H.n 1 (H.s (H.s (H.s (H.n 2 (H.b (H.b H.auto (H.s (H.s (H.s H.auto)))) (H.b (H.n 1 (H.s (H.s (H.s H.auto)))) (H.b (H.b H.auto (H.s (H.s (H.s H.auto)))) (H.b (H.n 1 (H.s (H.s (H.s H.auto)))) H.auto))))))))))) H.auto) = (let g := (List.length e + 1) * 40 <= du /\ List.length e + 1 <= bz; let i := gC p q r t u v w x y o; let j := IntKind.wrap .i64 (c + 1); (decide (c < (↑(List.length d) : Int)) = true -> (0 : Int) <= c /\ ∃ (s : BS) (es : LP), d[Int.toNat c]? = some [pT s, pS es] /\ (an b /\ 0 = 0) /\ ∃ (n : Int) (s_1 s_2 : BS) (m : Bool) (es : LP) (b_1 : Bool) (es_1 es_2 es_3 es_4 : LP), let a := bU n s_1 s_2 m es b_1 es_1 es_2 es_3 es_4; o[0]? = some a /\ (0 : Int) <= c /\ ∃ (s_3 : BS) (es_5 : LP), let k := aG b s = true /\ aC f a /\ an es_5 /\ an (bG b s); let l := aG b s = false /\ aC f a /\ an es_5; let z := bi a es_5 (bG b s) != 0; d[Int.toNat c]? = some [pT s_3, pS es_5] /\ aA [(k /\ bi a es_5 (bG b s) ≠ (0 : Int), [tS [], tI (bi a es_5 (bG b s))], []), (k /\ bi a es_5 (bG b s) = (0 : Int), [tS (ft a es_5 (bG b s)), tI 0], []), (l /\ bu a es_5 ≠ (0 : Int), [tS [], tI (bu a es_5)], []), (l /\ bu a es_5 = (0 : Int), [tS (fL a es_5), tI 0], [])] /\ (k /\ bi a es_5 (bG b s) ≠ (0 : Int) -> (z = true -> ∃ (h : H), Q (eR (bi a es_5 (bG b s)))) /\ (z = false -> (0 : Int) <= c /\ ∃ (s : BS) (es : LP), d[Int.toNat c]? = some [pT s, pS es] /\ g /\ J1 (St.mk [(1, aS d), (2, aS b), (3, aB true), (4, AV.addr 8 0 0), (23, AV.own 46), (24, aI j)] [(8, Obj.box i), (46, Obj.buf 2 (e ++ [[pT s, pS []]]))]))) /\ (k /\ bi a es_5 (bG b s) = (0 : Int) -> (0 : Int) <= c /\ ∃ (s_4 : BS) (es_6 : LP), d[Int.toNat c]? = some [pT s_4, pS es_6] /\ g /\ J1 (St.mk [(1, aS d), (2, aS b), (3, aB true), (4, AV.addr 8 0 0), (23, AV.own 46), (24, aI j)] [(8, Obj.box i), (46, Obj.buf 2 (e ++ [[pT s_4, pS (ft a es_5 (bG b s))]]))])) /\ (l /\ bu a es_5 ≠ (0 : Int) -> ((bu a es_5 != 0) = true -> ∃ (h : H), Q (eR (bu a es_5))) /\ ((bu a es_5 != 0) = false -> (0 : Int) <= c /\ ∃ (s : BS) (es : LP), d[Int.toNat c]? = some [pT s, pS es] /\ g /\ J1 (St.mk [(1, aS d), (2, aS b), (3, aB true), (4, AV.addr 8 0 0), (23, AV.own 46), (24, aI j)] [(8, Obj.box i), (46, Obj.buf 2 (e ++ [[pT s, pS []]]))]))) /\ (l /\ bu a es_5 = (0 : Int) -> (0 : Int) <= c /\ ∃ (s : BS) (es_6 : LP), d[Int.toNat c]? = some [pT s, pS es_6] /\ g /\ J1 (St.mk [(1, aS d), (2, aS b), (3, aB true), (4, AV.addr 8 0 0), (23, AV.own 46), (24, aI j)] [(8, Obj.box i), (46, Obj.buf 2 (e ++ [[pT s, pS (fL a es_5)]]))])) /\ True) /\ (decide (c < (↑(List.length d) : Int)) = false -> ∃ (h : H), Q ([TV.own 2 e, tI 0], []))) := by kernel_rfl
noncomputable def jY (N : Nat) : Specs := aZ [(14, vA), (56, tU), (57, tQ), (58, jN), (25, y6), (60, A4 N), (59, A3), (12, y0), (61, A7 N)]
theorem Ld (o : Nat) (i : Int) (p q : BS) (e : Bool) (d : LP) (c : Bool) (b E K u a : LP) (Q : QT) : (bq C (jY o) 33 [.pv (.agg [.int .i64 i, .str p, .str q, .bool e, .sl d, .bool c, .sl b, .sl E, .sl K, .sl u]), .pv (.sl a), .pv (.sl []), .pv (.bool false)] Q) (H.b H.auto (H.b (H.b H.auto H.auto) (H.b (H.b H.auto (H.b H.auto (H.b H.auto H.auto))) (H.b H.auto (H.b (H.b H.auto (H.b H.auto H.auto)) (H.b (H.b H.auto H.auto) (H.b (H.n 1 (H.s (H.b (H.b H.auto (H.n 1 (H.s (H.b (H.b H.auto (H.b H.auto (H.b H.auto H.auto))) (H.b (H.n 1 (H.b H.auto (H.b H.auto H.auto))) (H.b (H.b H.auto (H.b H.auto (H.b H.auto H.auto))) (H.b (H.n 1 (H.b H.auto (H.b H.auto H.auto))) H.auto))))))) (H.b (H.n 2 (H.s (H.b (H.b H.auto (H.b H.auto (H.b H.auto H.auto))) (H.b (H.n 1 (H.b H.auto (H.b H.auto H.auto))) (H.b (H.b H.auto (H.b H.auto (H.b H.auto H.auto))) (H.b (H.n 1 (H.b H.auto (H.b H.auto H.auto))) H.auto)))))) (H.b (H.b H.auto (H.n 1 (H.s (H.b (H.b H.auto (H.b H.auto (H.b H.auto H.auto))) (H.b (H.n 1 (H.b H.auto (H.b H.auto H.auto))) (H.b (H.b H.auto (H.b H.auto (H.b H.auto H.auto))) (H.b (H.n 1 (H.b H.auto (H.b H.auto H.auto))) H.auto))))))) (H.b (H.n 2 (H.s (H.b (H.b H.auto (H.b H.auto (H.b H.auto H.auto))) (H.b (H.n 1 (H.b H.auto (H.b H.auto H.auto))) (H.b (H.b H.auto (H.b H.auto (H.b H.auto H.auto))) (H.b (H.n 1 (H.b H.auto (H.b H.auto H.auto))) H.auto)))))) H.auto)))))) (H.b H.auto (H.b H.auto (H.b H.auto H.auto)))))))))) = (let f := aw e d []; let r := an [] /\ an [] /\ bm d; let t := bU i p q e d c b E K u; let J := bl [] []; let T := r /\ cj [] [] e d = (0 : Int) -> Q ([tS J, tI 0], []); let Z := false = false /\ [] = HE /\ jx o t /\ an a; let a5 := r /\ cj [] [] e d ≠ (0 : Int) -> Q (eR 3); let b8 := au 0 (aQ (bA C (jY o) 33 99998 (u2 CP.top)) (aU C 33 [TV.pv (PV.agg t), tS a, tS [], tB false] Q)); let a8 := u9 (d0 (u1 (d0 (u1 CP.top)))); let a9 := an a /\ aG a p = false; let ac := List.length (aw e d a); ((i == 1) = true -> Q ([tS a, tI 0], [])) /\ ((i == 1) = false -> ((i == 2) = true -> (an a /\ an E) /\ ((!bP a E) = true -> Q (eR 3)) /\ ((!bP a E) = false -> Q ([tS K, tI 0], []))) /\ ((i == 2) = false -> ((i == 3) = true -> aA [(an a /\ aG a p = true, [tS [], tI 3], []), (a9 /\ aG a q = false, [tS a, tI 0], []), (a9 /\ aG a q = true, [TV.own 2 (md a q p), tI 0], [])] /\ (an a /\ aG a p = true -> Q (eR 3)) /\ (a9 /\ aG a q = false -> Q ([tS a, tI 0], [])) /\ (a9 /\ aG a q = true -> Q ([TV.own 2 (md a q p), tI 0], [])) /\ True) /\ ((i == 3) = false -> ((i == 4) = true -> Q ([TV.own 2 [[pT p, pS a]], tI 0], [])) /\ ((i == 4) = false -> ((i == 5) = true -> aA [(an a /\ gJ a p ≠ (0 : Int), [tS [], tI 3], []), (an a /\ gJ a p = (0 : Int), [tS (oe a p), tI 0], [])] /\ (an a /\ gJ a p ≠ (0 : Int) -> Q (eR 3)) /\ (an a /\ gJ a p = (0 : Int) -> Q ([tS (oe a p), tI 0], [])) /\ True) /\ ((i == 5) = false -> ((i == 6) = true -> (an a /\ bm d) /\ (an [] /\ bm d) /\ (decide ((↑ac : Int) >  0) = true -> Q (eR 3)) /\ (decide ((↑ac : Int) >  0) = false -> bd C 33 (d0 (u1 (d0 (u4 (d0 (u2 a8)))))) (St.mk [(13, aS f), (14, aS a), (15, aI 0)] []) (cA (au 1 (aQ (bA C (jY o) 33 99979 (u5 (d0 (u2 a8)))) b8))))) /\ ((i == 6) = false -> ((i == 7) = true -> (an a /\ bm b) /\ (an [] /\ bm d) /\ ∃ (n_1 : Int) (s s_1 : BS) (q : Bool) (es : LP) (b_1 : Bool) (es_1 es_2 es_3 es_4 : LP), let n := bU n_1 s s_1 q es b_1 es_1 es_2 es_3 es_4; let g := ft n (cm c b a) (cm e d []); let h := fL n (cm c b a); let G := an g /\ an [] /\ bm d; let I := an h /\ an [] /\ bm d; let L := false = true /\ aC o n /\ an (cm c b a) /\ an (cm e d []); let M := false = false /\ aC o n /\ an (cm c b a); let aa := bl g []; let ad := G /\ cj g [] e d = (0 : Int) -> Q ([tS aa, tI 0], []); let ab := bl h []; let ae := I /\ cj h [] e d = (0 : Int) -> Q ([tS ab, tI 0], []); let af := G /\ cj g [] e d ≠ (0 : Int) -> Q (eR 3); let ag := I /\ cj h [] e d ≠ (0 : Int) -> Q (eR 3); let ah := bi n (cm c b a) (cm e d []) != 0; let ai := bi n (cm c b a) (cm e d []); let aj := bu n (cm c b a) != 0; u[0]? = some n /\ aA [(L /\ bi n (cm c b a) (cm e d []) ≠ (0 : Int), [tS [], tI ai], []), (L /\ bi n (cm c b a) (cm e d []) = (0 : Int), [tS g, tI 0], []), (M /\ bu n (cm c b a) ≠ (0 : Int), [tS [], tI (bu n (cm c b a))], []), (M /\ bu n (cm c b a) = (0 : Int), [tS h, tI 0], [])] /\ (L /\ bi n (cm c b a) (cm e d []) ≠ (0 : Int) -> (ah = true -> Q (eR ai)) /\ (ah = false -> ∃ (n_2 : Int) (s s_2 : BS) (q : Bool) (es : LP) (b_2 : Bool) (es_5 es_6 es_7 es_8 : LP), let j := bU n_2 s s_2 q es b_2 es_5 es_6 es_7 es_8; let v := ft j (aw c b a) f; let w := fL j (aw c b a); let N := false = true /\ aC o j /\ an (aw c b a) /\ an f; let O := false = false /\ aC o j /\ an (aw c b a); let P := an [] /\ an v /\ bm d; let R := an [] /\ an w /\ bm d; let b0 := bi j (aw c b a) f != 0; let b1 := bu j (aw c b a) != 0; u[1]? = some j /\ aA [(N /\ bi j (aw c b a) f ≠ (0 : Int), [tS [], tI (bi j (aw c b a) f)], []), (N /\ bi j (aw c b a) f = (0 : Int), [tS v, tI 0], []), (O /\ bu j (aw c b a) ≠ (0 : Int), [tS [], tI (bu j (aw c b a))], []), (O /\ bu j (aw c b a) = (0 : Int), [tS w, tI 0], [])] /\ (N /\ bi j (aw c b a) f ≠ (0 : Int) -> (b0 = true -> Q (eR (bi j (aw c b a) f))) /\ (b0 = false -> aA [(r /\ cj [] [] e d ≠ (0 : Int), [tS [], tI 3], []), (r /\ cj [] [] e d = (0 : Int), [tS J, tI 0], [])] /\ a5 /\ T /\ True)) /\ (N /\ bi j (aw c b a) f = (0 : Int) -> aA [(P /\ cj [] v e d ≠ (0 : Int), [tS [], tI 3], []), (P /\ cj [] v e d = (0 : Int), [tS (bl [] v), tI 0], [])] /\ (P /\ cj [] v e d ≠ (0 : Int) -> Q (eR 3)) /\ (P /\ cj [] v e d = (0 : Int) -> Q ([tS (bl [] v), tI 0], [])) /\ True) /\ (O /\ bu j (aw c b a) ≠ (0 : Int) -> (b1 = true -> Q (eR (bu j (aw c b a)))) /\ (b1 = false -> aA [(r /\ cj [] [] e d ≠ (0 : Int), [tS [], tI 3], []), (r /\ cj [] [] e d = (0 : Int), [tS J, tI 0], [])] /\ a5 /\ T /\ True)) /\ (O /\ bu j (aw c b a) = (0 : Int) -> aA [(R /\ cj [] w e d ≠ (0 : Int), [tS [], tI 3], []), (R /\ cj [] w e d = (0 : Int), [tS (bl [] w), tI 0], [])] /\ (R /\ cj [] w e d ≠ (0 : Int) -> Q (eR 3)) /\ (R /\ cj [] w e d = (0 : Int) -> Q ([tS (bl [] w), tI 0], [])) /\ True) /\ True)) /\ (L /\ bi n (cm c b a) (cm e d []) = (0 : Int) -> ∃ (n_2 : Int) (s_2 s_3 : BS) (b_2 : Bool) (es_5 : LP) (b_3 : Bool) (es_6 es_7 es_8 es_9 : LP), let k := bU n_2 s_2 s_3 b_2 es_5 b_3 es_6 es_7 es_8 es_9; let x := ft k (aw c b a) f; let y := fL k (aw c b a); let U := false = true /\ aC o k /\ an (aw c b a) /\ an f; let V := false = false /\ aC o k /\ an (aw c b a); let W := an g /\ an x /\ bm d; let X := an g /\ an y /\ bm d; let b2 := bi k (aw c b a) f != 0; let b3 := bu k (aw c b a) != 0; u[1]? = some k /\ aA [(U /\ bi k (aw c b a) f ≠ (0 : Int), [tS [], tI (bi k (aw c b a) f)], []), (U /\ bi k (aw c b a) f = (0 : Int), [tS x, tI 0], []), (V /\ bu k (aw c b a) ≠ (0 : Int), [tS [], tI (bu k (aw c b a))], []), (V /\ bu k (aw c b a) = (0 : Int), [tS y, tI 0], [])] /\ (U /\ bi k (aw c b a) f ≠ (0 : Int) -> (b2 = true -> Q (eR (bi k (aw c b a) f))) /\ (b2 = false -> aA [(G /\ cj g [] e d ≠ (0 : Int), [tS [], tI 3], []), (G /\ cj g [] e d = (0 : Int), [tS aa, tI 0], [])] /\ af /\ ad /\ True)) /\ (U /\ bi k (aw c b a) f = (0 : Int) -> aA [(W /\ cj g x e d ≠ (0 : Int), [tS [], tI 3], []), (W /\ cj g x e d = (0 : Int), [tS (bl g x), tI 0], [])] /\ (W /\ cj g x e d ≠ (0 : Int) -> Q (eR 3)) /\ (W /\ cj g x e d = (0 : Int) -> Q ([tS (bl g x), tI 0], [])) /\ True) /\ (V /\ bu k (aw c b a) ≠ (0 : Int) -> (b3 = true -> Q (eR (bu k (aw c b a)))) /\ (b3 = false -> aA [(G /\ cj g [] e d ≠ (0 : Int), [tS [], tI 3], []), (G /\ cj g [] e d = (0 : Int), [tS aa, tI 0], [])] /\ af /\ ad /\ True)) /\ (V /\ bu k (aw c b a) = (0 : Int) -> aA [(X /\ cj g y e d ≠ (0 : Int), [tS [], tI 3], []), (X /\ cj g y e d = (0 : Int), [tS (bl g y), tI 0], [])] /\ (X /\ cj g y e d ≠ (0 : Int) -> Q (eR 3)) /\ (X /\ cj g y e d = (0 : Int) -> Q ([tS (bl g y), tI 0], [])) /\ True) /\ True) /\ (M /\ bu n (cm c b a) ≠ (0 : Int) -> (aj = true -> Q (eR (bu n (cm c b a)))) /\ (aj = false -> ∃ (n_2 : Int) (s s_2 : BS) (q : Bool) (es : LP) (b_2 : Bool) (es_5 es_6 es_7 es_8 : LP), let l := bU n_2 s s_2 q es b_2 es_5 es_6 es_7 es_8; let z := ft l (aw c b a) f; let A := fL l (aw c b a); let Y := false = true /\ aC o l /\ an (aw c b a) /\ an f; let a0 := false = false /\ aC o l /\ an (aw c b a); let a1 := an [] /\ an z /\ bm d; let a2 := an [] /\ an A /\ bm d; let b4 := bi l (aw c b a) f != 0; let b5 := bu l (aw c b a) != 0; u[1]? = some l /\ aA [(Y /\ bi l (aw c b a) f ≠ (0 : Int), [tS [], tI (bi l (aw c b a) f)], []), (Y /\ bi l (aw c b a) f = (0 : Int), [tS z, tI 0], []), (a0 /\ bu l (aw c b a) ≠ (0 : Int), [tS [], tI (bu l (aw c b a))], []), (a0 /\ bu l (aw c b a) = (0 : Int), [tS A, tI 0], [])] /\ (Y /\ bi l (aw c b a) f ≠ (0 : Int) -> (b4 = true -> Q (eR (bi l (aw c b a) f))) /\ (b4 = false -> aA [(r /\ cj [] [] e d ≠ (0 : Int), [tS [], tI 3], []), (r /\ cj [] [] e d = (0 : Int), [tS J, tI 0], [])] /\ a5 /\ T /\ True)) /\ (Y /\ bi l (aw c b a) f = (0 : Int) -> aA [(a1 /\ cj [] z e d ≠ (0 : Int), [tS [], tI 3], []), (a1 /\ cj [] z e d = (0 : Int), [tS (bl [] z), tI 0], [])] /\ (a1 /\ cj [] z e d ≠ (0 : Int) -> Q (eR 3)) /\ (a1 /\ cj [] z e d = (0 : Int) -> Q ([tS (bl [] z), tI 0], [])) /\ True) /\ (a0 /\ bu l (aw c b a) ≠ (0 : Int) -> (b5 = true -> Q (eR (bu l (aw c b a)))) /\ (b5 = false -> aA [(r /\ cj [] [] e d ≠ (0 : Int), [tS [], tI 3], []), (r /\ cj [] [] e d = (0 : Int), [tS J, tI 0], [])] /\ a5 /\ T /\ True)) /\ (a0 /\ bu l (aw c b a) = (0 : Int) -> aA [(a2 /\ cj [] A e d ≠ (0 : Int), [tS [], tI 3], []), (a2 /\ cj [] A e d = (0 : Int), [tS (bl [] A), tI 0], [])] /\ (a2 /\ cj [] A e d ≠ (0 : Int) -> Q (eR 3)) /\ (a2 /\ cj [] A e d = (0 : Int) -> Q ([tS (bl [] A), tI 0], [])) /\ True) /\ True)) /\ (M /\ bu n (cm c b a) = (0 : Int) -> ∃ (n_2 : Int) (s_2 s_3 : BS) (b_2 : Bool) (es_5 : LP) (b_3 : Bool) (es_6 es_7 es_8 es_9 : LP), let m := bU n_2 s_2 s_3 b_2 es_5 b_3 es_6 es_7 es_8 es_9; let B := ft m (aw c b a) f; let D := fL m (aw c b a); let a3 := false = true /\ aC o m /\ an (aw c b a) /\ an f; let a4 := false = false /\ aC o m /\ an (aw c b a); let a6 := an h /\ an B /\ bm d; let a7 := an h /\ an D /\ bm d; let b6 := bi m (aw c b a) f != 0; let b7 := bu m (aw c b a) != 0; u[1]? = some m /\ aA [(a3 /\ bi m (aw c b a) f ≠ (0 : Int), [tS [], tI (bi m (aw c b a) f)], []), (a3 /\ bi m (aw c b a) f = (0 : Int), [tS B, tI 0], []), (a4 /\ bu m (aw c b a) ≠ (0 : Int), [tS [], tI (bu m (aw c b a))], []), (a4 /\ bu m (aw c b a) = (0 : Int), [tS D, tI 0], [])] /\ (a3 /\ bi m (aw c b a) f ≠ (0 : Int) -> (b6 = true -> Q (eR (bi m (aw c b a) f))) /\ (b6 = false -> aA [(I /\ cj h [] e d ≠ (0 : Int), [tS [], tI 3], []), (I /\ cj h [] e d = (0 : Int), [tS ab, tI 0], [])] /\ ag /\ ae /\ True)) /\ (a3 /\ bi m (aw c b a) f = (0 : Int) -> aA [(a6 /\ cj h B e d ≠ (0 : Int), [tS [], tI 3], []), (a6 /\ cj h B e d = (0 : Int), [tS (bl h B), tI 0], [])] /\ (a6 /\ cj h B e d ≠ (0 : Int) -> Q (eR 3)) /\ (a6 /\ cj h B e d = (0 : Int) -> Q ([tS (bl h B), tI 0], [])) /\ True) /\ (a4 /\ bu m (aw c b a) ≠ (0 : Int) -> (b7 = true -> Q (eR (bu m (aw c b a)))) /\ (b7 = false -> aA [(I /\ cj h [] e d ≠ (0 : Int), [tS [], tI 3], []), (I /\ cj h [] e d = (0 : Int), [tS ab, tI 0], [])] /\ ag /\ ae /\ True)) /\ (a4 /\ bu m (aw c b a) = (0 : Int) -> aA [(a7 /\ cj h D e d ≠ (0 : Int), [tS [], tI 3], []), (a7 /\ cj h D e d = (0 : Int), [tS (bl h D), tI 0], [])] /\ (a7 /\ cj h D e d ≠ (0 : Int) -> Q (eR 3)) /\ (a7 /\ cj h D e d = (0 : Int) -> Q ([tS (bl h D), tI 0], [])) /\ True) /\ True) /\ True) /\ ((i == 7) = false -> ((i == 8) = true -> bd C 33 (d0 (u1 (d0 (u1 (d0 (u6 a8)))))) (St.mk [(1, aS a), (2, aS []), (3, aB false), (4, AV.addr 8 0 0), (23, AV.own 46), (24, aI 0)] [(8, Obj.box (gC i p q e d c b E K u)), (46, Obj.buf 2 [])]) (cA (au 3 (aQ (bA C (jY o) 33 99978 (u2 (d0 (u6 a8)))) b8)))) /\ ((i == 8) = false -> aA [(Z /\ CA t a ≠ (0 : Int), [tS [], tI (CA t a)], []), (Z /\ CA t a = (0 : Int), [tS (Ll t a), tI 0], [])] /\ (Z /\ CA t a ≠ (0 : Int) -> Q (eR (CA t a))) /\ (Z /\ CA t a = (0 : Int) -> Q ([tS (Ll t a), tI 0], [])) /\ True))))))))) := by kernel_rfl
def Cl : CP := (d0 (u1 (d0 (u4 (d0 (u2 (u9 (d0 (u1 (d0 (u1 CP.top)))))))))))
def Cn (a b : LP) (c : Int) : St := (St.mk [(13, aS a), (14, aS b), (15, aI c)] [])
def Cm : CP := (d0 (u1 (d0 (u1 (d0 (u6 (u9 (d0 (u1 (d0 (u1 CP.top)))))))))))
def ur (l m : LP) (n b : Int) (c d : BS) (e : Bool) (f : LP) (g : Bool) (h i j k a : LP) : St := (St.mk [(1, aS l), (2, aS m), (3, aB false), (4, AV.addr 8 0 0), (23, AV.own 46), (24, aI n)] [(8, Obj.box (gC b c d e f g h i j k)), (46, Obj.buf 2 a)])
theorem Ie (e : Nat) (o : Int) (g i : BS) (m : Bool) (n : LP) (k : Bool) (l c f j p b d : LP) (a : Int)  (J0 : St -> Prop) (Q : QT) : (bA C (jY e) 33 1000 (Cl.dn 0) (Cn b d a) (bO C 33 Cl J0 (cA (au 1 (aQ (bA C (jY e) 33 99979 (u5 (d0 (u2 (u9 (d0 (u1 (d0 (u1 CP.top))))))))) (au 0 (aQ (bA C (jY e) 33 99998 (u2 CP.top)) (aU C 33 [TV.pv (PV.agg (bU o g i m n k l c f j)), tS p, tS [], tB false] Q)))))))) (H.b (H.s (H.s (H.s (H.s H.auto)))) H.auto) = ((decide (a < (↑(List.length b) : Int)) = true -> (0 : Int) <= a /\ ∃ (s : BS) (es : LP), b[Int.toNat a]? = some [pT s, pS es] /\ (0 : Int) <= a /\ ∃ (s_1 : BS) (es : LP), b[Int.toNat a]? = some [pT s_1, pS es] /\ (∃ (c f : Tr), d = Tr.rows c /\ es = Tr.rows f /\ List.length (Tr.list c) <= 4000000) /\ J0 (St.mk [(13, aS b), (14, aS (nB d s es)), (15, aI (IntKind.wrap .i64 (a + 1)))] [])) /\ (decide (a < (↑(List.length b) : Int)) = false -> ∃ (h : H), Q ([tS d, tI 0], []))) := by kernel_rfl
theorem Ig (f : Nat) (I : Int) (A m : BS) (n : Bool) (G : LP) (D : Bool) (E J K B L d b : LP) (c p : Int) (q r : BS) (t : Bool) (u : LP) (v : Bool) (w x y o e : LP)  (J1 : St -> Prop) (Q : QT) : (bA C (jY f) 33 1000 (Cm.dn 0) (ur d b c p q r t u v w x y o e) (bO C 33 Cm J1 (cA (au 3 (aQ (bA C (jY f) 33 99978 (u2 (d0 (u6 (u9 (d0 (u1 (d0 (u1 CP.top))))))))) (au 0 (aQ (bA C (jY f) 33 99998 (u2 CP.top)) (aU C 33 [TV.pv (PV.agg (bU I A m n G D E J K B)), tS L, tS [], tB false] Q)))))))) (H.b (H.s (H.s (H.n 1 (H.s (H.s (H.s (H.n 2 (H.b (H.b H.auto (H.s (H.s (H.s H.auto)))) (H.b (H.n 1 (H.s (H.s (H.s H.auto)))) (H.b (H.b H.auto (H.s (H.s (H.s H.auto)))) (H.b (H.n 1 (H.s (H.s (H.s H.auto)))) H.auto))))))))))) H.auto) = (let g := (List.length e + 1) * 40 <= du /\ List.length e + 1 <= bz; let i := gC p q r t u v w x y o; let j := IntKind.wrap .i64 (c + 1); (decide (c < (↑(List.length d) : Int)) = true -> (0 : Int) <= c /\ ∃ (s : BS) (es : LP), d[Int.toNat c]? = some [pT s, pS es] /\ (an b /\ 0 = 0) /\ ∃ (n : Int) (s_1 s_2 : BS) (m : Bool) (es : LP) (b_1 : Bool) (es_1 es_2 es_3 es_4 : LP), let a := bU n s_1 s_2 m es b_1 es_1 es_2 es_3 es_4; o[0]? = some a /\ (0 : Int) <= c /\ ∃ (s_3 : BS) (es_5 : LP), let k := false = true /\ aC f a /\ an es_5 /\ an (bG b s); let l := false = false /\ aC f a /\ an es_5; let z := bi a es_5 (bG b s) != 0; d[Int.toNat c]? = some [pT s_3, pS es_5] /\ aA [(k /\ bi a es_5 (bG b s) ≠ (0 : Int), [tS [], tI (bi a es_5 (bG b s))], []), (k /\ bi a es_5 (bG b s) = (0 : Int), [tS (ft a es_5 (bG b s)), tI 0], []), (l /\ bu a es_5 ≠ (0 : Int), [tS [], tI (bu a es_5)], []), (l /\ bu a es_5 = (0 : Int), [tS (fL a es_5), tI 0], [])] /\ (k /\ bi a es_5 (bG b s) ≠ (0 : Int) -> (z = true -> ∃ (h : H), Q (eR (bi a es_5 (bG b s)))) /\ (z = false -> (0 : Int) <= c /\ ∃ (s : BS) (es : LP), d[Int.toNat c]? = some [pT s, pS es] /\ g /\ J1 (St.mk [(1, aS d), (2, aS b), (3, aB false), (4, AV.addr 8 0 0), (23, AV.own 46), (24, aI j)] [(8, Obj.box i), (46, Obj.buf 2 (e ++ [[pT s, pS []]]))]))) /\ (k /\ bi a es_5 (bG b s) = (0 : Int) -> (0 : Int) <= c /\ ∃ (s_4 : BS) (es_6 : LP), d[Int.toNat c]? = some [pT s_4, pS es_6] /\ g /\ J1 (St.mk [(1, aS d), (2, aS b), (3, aB false), (4, AV.addr 8 0 0), (23, AV.own 46), (24, aI j)] [(8, Obj.box i), (46, Obj.buf 2 (e ++ [[pT s_4, pS (ft a es_5 (bG b s))]]))])) /\ (l /\ bu a es_5 ≠ (0 : Int) -> ((bu a es_5 != 0) = true -> ∃ (h : H), Q (eR (bu a es_5))) /\ ((bu a es_5 != 0) = false -> (0 : Int) <= c /\ ∃ (s : BS) (es : LP), d[Int.toNat c]? = some [pT s, pS es] /\ g /\ J1 (St.mk [(1, aS d), (2, aS b), (3, aB false), (4, AV.addr 8 0 0), (23, AV.own 46), (24, aI j)] [(8, Obj.box i), (46, Obj.buf 2 (e ++ [[pT s, pS []]]))]))) /\ (l /\ bu a es_5 = (0 : Int) -> (0 : Int) <= c /\ ∃ (s : BS) (es_6 : LP), d[Int.toNat c]? = some [pT s, pS es_6] /\ g /\ J1 (St.mk [(1, aS d), (2, aS b), (3, aB false), (4, AV.addr 8 0 0), (23, AV.own 46), (24, aI j)] [(8, Obj.box i), (46, Obj.buf 2 (e ++ [[pT s, pS (fL a es_5)]]))])) /\ True) /\ (decide (c < (↑(List.length d) : Int)) = false -> ∃ (h : H), Q ([TV.own 2 e, tI 0], []))) := by kernel_rfl
noncomputable def A6 (N : Nat) : List TV -> Option Alts
 | [.pv (.agg [.int .i64 o, .str a, .str b, .bool n, .sl nl, .bool m, .sl ml, .sl t, .sl u, .sl k]), .pv (.sl x), .pv (.sl c), .pv (.bool v)] => some [((v = true /\ aC N [.int .i64 o, .str a, .str b, .bool n, .sl nl, .bool m, .sl ml, .sl t, .sl u, .sl k] /\ an x /\ an c) /\ m8 [.int .i64 o, .str a, .str b, .bool n, .sl nl, .bool m, .sl ml, .sl t, .sl u, .sl k] x c ≠ 0, [.pv (.sl []), .pv (.int .i64 (m8 [.int .i64 o, .str a, .str b, .bool n, .sl nl, .bool m, .sl ml, .sl t, .sl u, .sl k] x c))], []),
  (((v = true /\ aC N [.int .i64 o, .str a, .str b, .bool n, .sl nl, .bool m, .sl ml, .sl t, .sl u, .sl k] /\ an x /\ an c) /\ m8 [.int .i64 o, .str a, .str b, .bool n, .sl nl, .bool m, .sl ml, .sl t, .sl u, .sl k] x c = 0) /\ wO [.int .i64 o, .str a, .str b, .bool n, .sl nl, .bool m, .sl ml, .sl t, .sl u, .sl k] x = true, [.own 2 (lK [.int .i64 o, .str a, .str b, .bool n, .sl nl, .bool m, .sl ml, .sl t, .sl u, .sl k] x c), .pv (.int .i64 0)], []),
  (((v = true /\ aC N [.int .i64 o, .str a, .str b, .bool n, .sl nl, .bool m, .sl ml, .sl t, .sl u, .sl k] /\ an x /\ an c) /\ m8 [.int .i64 o, .str a, .str b, .bool n, .sl nl, .bool m, .sl ml, .sl t, .sl u, .sl k] x c = 0) /\ wO [.int .i64 o, .str a, .str b, .bool n, .sl nl, .bool m, .sl ml, .sl t, .sl u, .sl k] x = false, [.pv (.sl (lK [.int .i64 o, .str a, .str b, .bool n, .sl nl, .bool m, .sl ml, .sl t, .sl u, .sl k] x c)), .pv (.int .i64 0)], [])]
 | _ => none
noncomputable def A5 (N : Nat) : List TV -> Option Alts
 | [.pv (.agg [.int .i64 o, .str a, .str b, .bool n, .sl nl, .bool m, .sl ml, .sl t, .sl u, .sl k]), .pv (.sl x), .pv (.sl c), .pv (.bool v)] => some [((v = false /\ c = HE /\ aC N [.int .i64 o, .str a, .str b, .bool n, .sl nl, .bool m, .sl ml, .sl t, .sl u, .sl k] /\ an x) /\ mC [.int .i64 o, .str a, .str b, .bool n, .sl nl, .bool m, .sl ml, .sl t, .sl u, .sl k] x ≠ 0, [.pv (.sl []), .pv (.int .i64 (mC [.int .i64 o, .str a, .str b, .bool n, .sl nl, .bool m, .sl ml, .sl t, .sl u, .sl k] x))], []),
  (((v = false /\ c = HE /\ aC N [.int .i64 o, .str a, .str b, .bool n, .sl nl, .bool m, .sl ml, .sl t, .sl u, .sl k] /\ an x) /\ mC [.int .i64 o, .str a, .str b, .bool n, .sl nl, .bool m, .sl ml, .sl t, .sl u, .sl k] x = 0) /\ wO [.int .i64 o, .str a, .str b, .bool n, .sl nl, .bool m, .sl ml, .sl t, .sl u, .sl k] x = true, [.own 2 (lH [.int .i64 o, .str a, .str b, .bool n, .sl nl, .bool m, .sl ml, .sl t, .sl u, .sl k] x), .pv (.int .i64 0)], []),
  (((v = false /\ c = HE /\ aC N [.int .i64 o, .str a, .str b, .bool n, .sl nl, .bool m, .sl ml, .sl t, .sl u, .sl k] /\ an x) /\ mC [.int .i64 o, .str a, .str b, .bool n, .sl nl, .bool m, .sl ml, .sl t, .sl u, .sl k] x = 0) /\ wO [.int .i64 o, .str a, .str b, .bool n, .sl nl, .bool m, .sl ml, .sl t, .sl u, .sl k] x = false, [.pv (.sl (lH [.int .i64 o, .str a, .str b, .bool n, .sl nl, .bool m, .sl ml, .sl t, .sl u, .sl k] x)), .pv (.int .i64 0)], [])]
 | _ => none
noncomputable def Fh (N : Nat) : Specs := aZ [(33, A6 N), (31, Bc)]
theorem Lg (i : Nat) (q : Int) (j k : BS) (o : Bool) (p : LP) (m : Bool) (n r s l a c : LP) (Q : QT) : (bq C (Fh i) 16 [.pv (.agg [.int .i64 q, .str j, .str k, .bool o, .sl p, .bool m, .sl n, .sl r, .sl s, .sl l]), .pv (.sl a), .pv (.sl c)] Q) (H.b (H.b H.auto (H.b H.auto (H.b H.auto H.auto))) (H.b (H.b H.auto (H.b H.auto (H.b H.auto H.auto))) (H.b (H.b H.auto (H.b H.auto (H.b H.auto H.auto))) H.auto))) = (let b := bU q j k o p m n r s l; let d := (0 : Int) = (0 : Int) /\ gt (lK b a c); let g := true = true /\ aC i b /\ an a /\ an c; let h := bf (lK b a c) (1 : Int) (0 : Int); let e := m8 b a c = (0 : Int) /\ gt []; let u := d /\ bf (lK b a c) (1 : Int) (0 : Int) = (0 : Int) -> Q ([tS (lK b a c), tI 0], []); let f := g /\ m8 b a c = (0 : Int); let v := d /\ bf (lK b a c) (1 : Int) (0 : Int) ≠ (0 : Int) -> Q (eR h); let w := (0 : Int) ≠ (0 : Int) /\ 0 = 0 -> Q (eR 0); let t := bf [] (1 : Int) (0 : Int); aA [(g /\ m8 b a c ≠ (0 : Int), [tS [], tI (m8 b a c)], []), (f /\ wO b a = true, [TV.own 2 (lK b a c), tI 0], []), (f /\ wO b a = false, [tS (lK b a c), tI 0], [])] /\ (g /\ m8 b a c ≠ (0 : Int) -> aA [(m8 b a c ≠ (0 : Int) /\ 0 = 0, [tS [], tI (m8 b a c)], []), (e /\ bf [] (1 : Int) (0 : Int) ≠ (0 : Int), [tS [], tI t], []), (e /\ bf [] (1 : Int) (0 : Int) = (0 : Int), [tS [], tI 0], [])] /\ (m8 b a c ≠ (0 : Int) /\ 0 = 0 -> Q (eR (m8 b a c))) /\ (e /\ bf [] (1 : Int) (0 : Int) ≠ (0 : Int) -> Q (eR t)) /\ (e /\ bf [] (1 : Int) (0 : Int) = (0 : Int) -> Q (eR 0)) /\ True) /\ (f /\ wO b a = true -> aA [((0 : Int) ≠ (0 : Int) /\ 0 = 0, [tS [], tI 0], []), (d /\ bf (lK b a c) (1 : Int) (0 : Int) ≠ (0 : Int), [tS [], tI h], []), (d /\ bf (lK b a c) (1 : Int) (0 : Int) = (0 : Int), [tS (lK b a c), tI 0], [])] /\ w /\ v /\ u /\ True) /\ (f /\ wO b a = false -> aA [((0 : Int) ≠ (0 : Int) /\ 0 = 0, [tS [], tI 0], []), (d /\ bf (lK b a c) (1 : Int) (0 : Int) ≠ (0 : Int), [tS [], tI h], []), (d /\ bf (lK b a c) (1 : Int) (0 : Int) = (0 : Int), [tS (lK b a c), tI 0], [])] /\ w /\ v /\ u /\ True) /\ True) := by kernel_rfl
noncomputable def Ff (N : Nat) : Specs := aZ [(33, A5 N), (31, Bc)]
theorem K6 (h : Nat) (p : Int) (i j : BS) (n : Bool) (o : LP) (l : Bool) (m q r k a : LP) (Q : QT) : (bq C (Ff h) 15 [.pv (.agg [.int .i64 p, .str i, .str j, .bool n, .sl o, .bool l, .sl m, .sl q, .sl r, .sl k]), .pv (.sl a)] Q) (H.b (H.b H.auto (H.b H.auto (H.b H.auto H.auto))) (H.b (H.b H.auto (H.b H.auto (H.b H.auto H.auto))) (H.b (H.b H.auto (H.b H.auto (H.b H.auto H.auto))) H.auto))) = (let b := bU p i j n o l m q r k; let c := (0 : Int) = (0 : Int) /\ gt (lH b a); let f := false = false /\ [] = HE /\ aC h b /\ an a; let g := bf (lH b a) (1 : Int) (0 : Int); let t := c /\ bf (lH b a) (1 : Int) (0 : Int) ≠ (0 : Int) -> Q (eR g); let d := mC b a = (0 : Int) /\ gt []; let u := c /\ bf (lH b a) (1 : Int) (0 : Int) = (0 : Int) -> Q ([tS (lH b a), tI 0], []); let e := f /\ mC b a = (0 : Int); let v := (0 : Int) ≠ (0 : Int) /\ 0 = 0 -> Q (eR 0); let s := bf [] (1 : Int) (0 : Int); aA [(f /\ mC b a ≠ (0 : Int), [tS [], tI (mC b a)], []), (e /\ wO b a = true, [TV.own 2 (lH b a), tI 0], []), (e /\ wO b a = false, [tS (lH b a), tI 0], [])] /\ (f /\ mC b a ≠ (0 : Int) -> aA [(mC b a ≠ (0 : Int) /\ 0 = 0, [tS [], tI (mC b a)], []), (d /\ bf [] (1 : Int) (0 : Int) ≠ (0 : Int), [tS [], tI s], []), (d /\ bf [] (1 : Int) (0 : Int) = (0 : Int), [tS [], tI 0], [])] /\ (mC b a ≠ (0 : Int) /\ 0 = 0 -> Q (eR (mC b a))) /\ (d /\ bf [] (1 : Int) (0 : Int) ≠ (0 : Int) -> Q (eR s)) /\ (d /\ bf [] (1 : Int) (0 : Int) = (0 : Int) -> Q (eR 0)) /\ True) /\ (e /\ wO b a = true -> aA [((0 : Int) ≠ (0 : Int) /\ 0 = 0, [tS [], tI 0], []), (c /\ bf (lH b a) (1 : Int) (0 : Int) ≠ (0 : Int), [tS [], tI g], []), (c /\ bf (lH b a) (1 : Int) (0 : Int) = (0 : Int), [tS (lH b a), tI 0], [])] /\ v /\ t /\ u /\ True) /\ (e /\ wO b a = false -> aA [((0 : Int) ≠ (0 : Int) /\ 0 = 0, [tS [], tI 0], []), (c /\ bf (lH b a) (1 : Int) (0 : Int) ≠ (0 : Int), [tS [], tI g], []), (c /\ bf (lH b a) (1 : Int) (0 : Int) = (0 : Int), [tS (lH b a), tI 0], [])] /\ v /\ t /\ u /\ True) /\ True) := by kernel_rfl
theorem xI : ∀ ag al, vA ag = some al -> ∀ a ∈ al, a.1 -> Ev C 14 ag a.2 := by
 intro ag al hl x hx hp
 unfold vA at hl
 split at hl
 ·simp only [Option.some.injEq] at hl; subst hl
  simp only [List.mem_singleton] at hx; subst hx
  obtain ⟨⟨t, rfl, ht⟩, u, rfl, hu⟩ := hp
  have h1 := ht.size
  exact FZ (t.nodes + 1) t u (by omega) (by omega)
 ·exact absurd hl (by simp)
theorem yA (p : LD) (k : Ls) (c : LP) : wO (p.row k.rows) c = (p.o == 3 && aG c p.b || p.o == 4 || p.o == 8) := by unfold wO; rw [(aM p k).1]
theorem HR {P Q R S : Prop} (h : P ∨ Q) : P ∨ Q ∨ R ∨ S := by
 rcases h with h | h
 ·exact .inl h
 ·exact .inr (.inl h)
theorem Ep {P Q R S : Prop} (h : R ∨ S) : P ∨ Q ∨ R ∨ S := .inr (.inr h)
theorem Co {N : Nat} (h : d8 N) (h' : d6 N) (p : LD) (k : Ls) (hf : (Ls.cons p k .nil).fine) (hd : k.deep < N) (a c : Tr) (ha : a.good) (hc : c.good) : Ev C 33 [.pv (.agg (p.row k.rows)), .pv (.sl a.rows), .pv (.sl c.rows), .pv (.bool true)] (dm (wO (p.row k.rows) a.rows) (cZ p k.gets k.cres k.puts a c)) := by
 have hr := cz
 have hmx := bN
 have hS : aK C (jZ N) := az (am xI (am Cs (am Cc (am BO (am yM (am (yz h h') (am B6 (am yf (am (Iw h h') ax)))))))))
 rw [yA]
 obtain ⟨⟨⟨hpa, hpb⟩, ⟨ht, hu⟩, ⟨hn, hm⟩, hop, k7, k8, k9, k10⟩, hk, _⟩ := id hf
 have hga : an a.rows := ⟨a, rfl, ha⟩
 have hg : an c.rows := ⟨c, rfl, hc⟩
 have sn : bm (p.nl.map ak) := ⟨_, rfl, hn⟩
 have sm : bm (p.ml.map ak) := ⟨_, rfl, hm⟩
 have hn1 := d7 (t := bD p.n (p.nl.map ak) a)
 have hal := rows_len a
 have la := cw ha
 refine bh hS (Lf N p.o p.a p.b p.n (p.nl.map ak) p.m (p.ml.map ak) p.t.rows p.u.rows k.rows a.rows c.rows _) ?_
 conv => zeta
 refine ⟨fun g => ?_, fun n1 => ⟨fun g => ?_, fun n2 => ⟨fun g => ?_, fun n3 => ⟨fun g => ?_, fun n4 => ⟨fun g => ?_, fun n5 => ⟨fun g => ?_, fun n6 => ⟨fun g => ?_, fun n7 => ⟨fun g => ?_, fun n8 => ?_⟩⟩⟩⟩⟩⟩⟩⟩
 ·have g : p.o = 1 := by simpa using g
  have hw : (p.o == 3 && aG a.rows p.b || p.o == 4 || p.o == 8) = false := by simp [g]
  have hV : cZ p k.gets k.cres k.puts a c = (a, 0) := by unfold cZ; rw [if_neg (by omega), if_neg (by omega), if_neg (by omega), if_neg (by omega), if_neg (by omega), if_neg (by omega), if_neg (by omega), if_neg (by omega)]
  rw [hV, hw]
  exact (bk (r := (a, 0)) rfl).symm
 ·have g : p.o = 2 := by simpa using g
  have hw : (p.o == 3 && aG a.rows p.b || p.o == 4 || p.o == 8) = false := by simp [g]
  have hV : cZ p k.gets k.cres k.puts a c = lB a p.t c := by unfold cZ; rw [if_pos g]
  rw [hV, hw]
  refine ⟨⟨hga, p.t, rfl, ht⟩, fun g2 => ?_, fun g2 => ?_⟩
  ·have e : lB a p.t c = (.nil, 3) := if_neg (by
    intro e2; rw [e2] at g2; simp at g2)
   rw [e]
   exact (aF (r := (Tr.nil, 3)) (by decide)).symm
  ·have e : lB a p.t c = (c, 0) := if_pos (by simpa using g2)
   rw [e]
   exact (bk (r := (c, 0)) rfl).symm
 ·have g : p.o = 3 := by simpa using g
  have hw : (p.o == 3 && aG a.rows p.b || p.o == 4 || p.o == 8) = aG a.rows p.b := by simp [g]
  have hV : cZ p k.gets k.cres k.puts a c = gh a p.b p.a := by unfold cZ; rw [if_neg (by omega), if_pos g]
  rw [hV, hw]
  refine ⟨xC hga _ _, fun g2 => ?_, fun g2 => ?_, fun g2 => ?_, trivial⟩
  ·rw [B7 g2.2]
   exact (aF (r := (Tr.nil, 3)) (by decide)).symm
  ·rw [B8 g2.1.2 g2.2, g2.2]
   exact (bk (r := (a, 0)) rfl).symm
  ·rw [B9 g2.1.2 g2.2, g2.2, fH]
   exact (be (r := (Tr.of (bH (dB a.list p.b) p.a (bE a p.b)), 0)) rfl).symm
 ·have g : p.o = 4 := by simpa using g
  have hw : (p.o == 3 && aG a.rows p.b || p.o == 4 || p.o == 8) = true := by simp [g]
  have hV : cZ p k.gets k.cres k.puts a c = mj a p.a := by unfold cZ; rw [if_neg (by omega), if_neg (by omega), if_pos g]
  rw [hV, hw]
  exact (be (r := mj a p.a) rfl).symm
 ·have g : p.o = 5 := by simpa using g
  have hw : (p.o == 3 && aG a.rows p.b || p.o == 4 || p.o == 8) = false := by simp [g]
  have hV : cZ p k.gets k.cres k.puts a c = fD a p.a := by unfold cZ; rw [if_neg (by omega), if_neg (by omega), if_neg (by omega), if_pos g]
  rw [hV, hw]
  obtain ⟨o1, o2⟩ := eA a p.a
  refine ⟨ce hga, fun g2 => ?_, fun g2 => ?_, trivial⟩
  ·have e := g2.2
   rw [o1] at e
   rw [aF e, BQ e]
  ·have e := g2.2
   rw [o1] at e
   rw [o2]
   exact (bk e).symm
 ·have g : p.o = 6 := by simpa using g
  have hw : (p.o == 3 && aG a.rows p.b || p.o == 4 || p.o == 8) = false := by simp [g]
  rw [ct p.n _ a, hw]
  refine ⟨⟨hga, sn⟩, ⟨hg, sn⟩, fun g2 => ?_, fun g2 => ?_⟩
  ·have hV : cZ p k.gets k.cres k.puts a c = (.nil, 3) := by unfold cZ; rw [if_neg (by omega), if_neg (by omega), if_neg (by omega), if_neg (by omega), if_pos g, if_pos (fun e => by rw [hn1.2 e] at g2; simp at g2)]
   rw [hV]
   exact (aF (r := (Tr.nil, 3)) (by decide)).symm
  ·have o1 : (bD p.n (p.nl.map ak) a).list = [] := hn1.1 (by
    simp only [decide_eq_false_iff_not] at g2
    omega)
   have hV : cZ p k.gets k.cres k.puts a c = (ew a (bD p.n (p.nl.map ak) c), 0) := by unfold cZ; rw [if_neg (by omega), if_neg (by omega), if_neg (by omega), if_neg (by omega), if_pos g, if_neg (not_not_intro o1)]
   have go := di hc p.n (p.nl.map ak)
   rw [ct p.n _ c, hV]
   generalize bD p.n (p.nl.map ak) c = y at *
   have ly := cw go
   have ryl := rows_len y
   refine aJ hS (by kernel_rfl) 1000 (fun q st => ∃ i : Nat, st = Cr y.rows (Tr.of ((y.list.take i).foldl (fun acc e => bH acc e.1 e.2) a.list)).rows i /\ i <= y.list.length /\ q = y.list.length - i) ?_ (n := y.list.length) ⟨0, by rw [List.take_zero, List.foldl_nil, of_list]; rfl, by omega, rfl⟩
   rintro q st ⟨i, rfl, hi, rfl⟩
   have mll := sG a y i
   refine cr (Ii ..) ?_
   rw [ryl]
   refine ⟨fun g3 => ?_, fun g3 => ⟨.auto, ?_⟩⟩
   ·simp only [decide_eq_true_eq] at g3
    have hi' : i < y.list.length := by omega
    refine ⟨by omega, _, _, row_get y hi', by omega, _, _, row_get y hi', ⟨_, _, rfl, rfl, by rw [list_of]; exact Nat.le_trans mll (by omega)⟩, y.list.length - (i + 1), by omega, i + 1, ?_, by omega, rfl⟩
    rw [dJ (by omega), List.take_succ_eq_append_getElem hi', List.foldl_append]
    unfold nB
    rw [aq, aq, list_of]
    rfl
   ·simp only [decide_eq_false_iff_not] at g3
    have : i = y.list.length := by omega
    subst this
    rw [List.take_length]
    exact (bk (r := (ew a y, 0)) rfl).symm
 ·have g : p.o = 7 := by simpa using g
  have hw : (p.o == 3 && aG a.rows p.b || p.o == 4 || p.o == 8) = false := by simp [g]
  obtain ⟨e0, e1, hl, hkr, l0, l1, _, hcs, hps⟩ := jk hd hk (k7 g)
  have hV : cZ p k.gets k.cres k.puts a c = cM (fun x => aY e0.1 e0.2 x (dR p.n (p.nl.map ak) c)) (fun x => aY e1.1 e1.2 x (bD p.n (p.nl.map ak) c)) p.m (p.ml.map ak) p.n (p.nl.map ak) a := by unfold cZ; rw [if_neg (by omega), if_neg (by omega), if_neg (by omega), if_neg (by omega), if_neg (by omega), if_pos g, hps]
  have hF : cZ p k.gets k.cres k.puts a c = if (aY e0.1 e0.2 (dR p.m (p.ml.map ak) a) (dR p.n (p.nl.map ak) c)).2 ≠ 0 then (.nil, (aY e0.1 e0.2 (dR p.m (p.ml.map ak) a) (dR p.n (p.nl.map ak) c)).2) else if (aY e1.1 e1.2 (bD p.m (p.ml.map ak) a) (bD p.n (p.nl.map ak) c)).2 ≠ 0 then (.nil, (aY e1.1 e1.2 (bD p.m (p.ml.map ak) a) (bD p.n (p.nl.map ak) c)).2) else dH p.n (p.nl.map ak) (aY e0.1 e0.2 (dR p.m (p.ml.map ak) a) (dR p.n (p.nl.map ak) c)).1 (aY e1.1 e1.2 (bD p.m (p.ml.map ak) a) (bD p.n (p.nl.map ak) c)).1 := hV
  rw [hw]
  generalize cZ p k.gets k.cres k.puts a c = F at *
  have gi := eI ha p.m (p.ml.map ak)
  have go := di ha p.m (p.ml.map ak)
  have ci := eI hc p.n (p.nl.map ak)
  have co := di hc p.n (p.nl.map ak)
  have f0 : (Ls.cons e0.1 e0.2 .nil).fine := Ls.mem_fine hk (by rw [hl]; simp)
  have f1 : (Ls.cons e1.1 e1.2 .nil).fine := Ls.mem_fine hk (by rw [hl]; simp)
  have k0 : lC (aY e0.1 e0.2 (dR p.m (p.ml.map ak) a) (dR p.n (p.nl.map ak) c)) := cl (eW e0.1 e0.2 f0 _ _ gi ci)
  have k1 : lC (aY e1.1 e1.2 (bD p.m (p.ml.map ak) a) (bD p.n (p.nl.map ak) c)) := cl (eW e1.1 e1.2 f1 _ _ go co)
  have E0 := dl e0.1 e0.2 (dR p.m (p.ml.map ak) a) (dR p.n (p.nl.map ak) c)
  have E1 := dl e1.1 e1.2 (bD p.m (p.ml.map ak) a) (bD p.n (p.nl.map ak) c)
  have T0 := eq e0.1 e0.2 (dR p.m (p.ml.map ak) a) (dR p.n (p.nl.map ak) c)
  have T1 := eq e1.1 e1.2 (bD p.m (p.ml.map ak) a) (bD p.n (p.nl.map ak) c)
  unfold LD.row at E0 E1 T0 T1
  have gI : an (dR p.m (p.ml.map ak) a).rows := ⟨_, rfl, gi⟩
  have gO : an (bD p.m (p.ml.map ak) a).rows := ⟨_, rfl, go⟩
  have cI : an (dR p.n (p.nl.map ak) c).rows := ⟨_, rfl, ci⟩
  have cO : an (bD p.n (p.nl.map ak) c).rows := ⟨_, rfl, co⟩
  rw [hkr, dr p.m _ a, ct p.m _ a, dr p.n _ c, ct p.n _ c]
  refine ⟨⟨hga, sm⟩, ⟨hg, sn⟩, _, _, _, _, _, _, _, _, _, _, rfl, ?_⟩
  rw [E0, T0]
  refine ⟨(HR (ce (e := (aY e0.1 e0.2 (dR p.m (p.ml.map ak) a) (dR p.n (p.nl.map ak) c)).2) ⟨rfl, l0, gI, cI⟩)), fun g1 => ⟨fun _ => ?_, fun g2 => nz g1.2 g2⟩, fun g1 => ⟨_, _, _, _, _, _, _, _, _, _, rfl, ?_⟩, fun g1 => absurd g1.1.1 (by simp), fun g1 => absurd g1.1.1 (by simp), trivial⟩
  ·rw [if_pos g1.2] at hF
   rw [hF]
   exact (aF (r := (Tr.nil, _)) g1.2).symm
  ·rw [E1, T1]
   have g1 := g1.2
   refine ⟨(HR (ce (e := (aY e1.1 e1.2 (bD p.m (p.ml.map ak) a) (bD p.n (p.nl.map ak) c)).2) ⟨rfl, l1, gO, cO⟩)), fun g2 => ⟨fun _ => ?_, fun g3 => nz g2.2 g3⟩, fun g2 => ?_, fun g1 => absurd g1.1.1 (by simp), fun g1 => absurd g1.1.1 (by simp), trivial⟩
   ·rw [if_neg (not_not_intro g1), if_pos g2.2] at hF
    rw [hF]
    exact (aF (r := (Tr.nil, _)) g2.2).symm
   ·have g2 := g2.2
    rw [if_neg (not_not_intro g1), if_neg (not_not_intro g2)] at hF
    have gx := k0.2 g1
    have gy := k1.2 g2
    generalize (aY e0.1 e0.2 (dR p.m (p.ml.map ak) a) (dR p.n (p.nl.map ak) c)).1 = x at *
    generalize (aY e1.1 e1.2 (bD p.m (p.ml.map ak) a) (bD p.n (p.nl.map ak) c)).1 = y at *
    rw [(oh x y p.n (p.nl.map ak)).1, (oh x y p.n (p.nl.map ak)).2]
    refine ⟨ce ⟨⟨x, rfl, gx⟩, ⟨y, rfl, gy⟩, sn⟩, fun g3 => ?_, fun g3 => ?_, trivial⟩
    ·rw [hF, (nM x y _ _).1 g3.2]; rfl
    ·rw [hF, (nM x y _ _).2 g3.2]; rfl
 ·have g : p.o = 8 := by simpa using g
  have hw : (p.o == 3 && aG a.rows p.b || p.o == 4 || p.o == 8) = true := by simp [g]
  obtain ⟨e0, hl, hkr, l0, _, hcs, hps⟩ := lk hd hk (k8 g)
  have hV : cZ p k.gets k.cres k.puts a c = (Tr.of (bC (gT (aY e0.1 e0.2) (aO e0.1 e0.2) c) a.list).1, (bC (gT (aY e0.1 e0.2) (aO e0.1 e0.2) c) a.list).2) := by unfold cZ; rw [if_neg (by omega), if_neg (by omega), if_neg (by omega), if_neg (by omega), if_neg (by omega), if_neg (by omega), if_pos g, hps, hcs]
  rw [hV, hw, hkr]
  refine aJ hS (by kernel_rfl) 1000 (fun q st => ∃ (i : Nat) (pre : List Edge), st = ut a.rows c.rows i p.o p.a p.b p.n (p.nl.map ak) p.m (p.ml.map ak) p.t.rows p.u.rows [e0.1.row e0.2.rows] (pre.map aE) /\ i <= a.list.length /\ pre.length = i /\ jU (gT (aY e0.1 e0.2) (aO e0.1 e0.2) c) a.list i pre /\ q = a.list.length - i) ?_ (n := a.list.length) ⟨0, [], rfl, by omega, rfl, nZ _ _, by omega⟩
  rintro q st ⟨i, pre, rfl, hi, hp, hI, rfl⟩
  refine cr (Ij ..) ?_
  conv => zeta
  rw [hal]
  refine ⟨fun g1 => ?_, fun g1 => ?_⟩
  ·simp only [decide_eq_true_eq] at g1
   have hi' : i < a.list.length := by omega
   have hkd := dA ha (List.getElem_mem hi')
   have room2 : (pre.map aE).length + 1 <= 4000000 := by rw [List.length_map]; omega
   have E0 := dl e0.1 e0.2 a.list[i].2 (bE c a.list[i].1)
   have T0 := eq e0.1 e0.2 a.list[i].2 (bE c a.list[i].1)
   have E1 := de e0.1 e0.2 a.list[i].2
   have T1 := dU e0.1 e0.2 a.list[i].2
   unfold LD.row at E0 T0 E1 T1
   have hgk : an (bE c a.list[i].1).rows := ⟨_, rfl, gQ hc _⟩
   have pT : aG c.rows a.list[i].1 = true -> (gT (aY e0.1 e0.2) (aO e0.1 e0.2) c) a.list[i] = aY e0.1 e0.2 a.list[i].2 (bE c a.list[i].1) := fun hh => by unfold gT; rw [if_pos (by rw [<- bR, hh])]
   have pF : aG c.rows a.list[i].1 = false -> (gT (aY e0.1 e0.2) (aO e0.1 e0.2) c) a.list[i] = aO e0.1 e0.2 a.list[i].2 := fun hh => by unfold gT; rw [if_neg (by rw [<- bR, hh]; simp)]
   have go : ∀ r : ej, (gT (aY e0.1 e0.2) (aO e0.1 e0.2) c) a.list[i] = r -> r.2 = 0 -> ∃ q, q < a.list.length - i /\ ∃ (i' : Nat) (pre' : List Edge), ut a.rows c.rows (IntKind.wrap IntKind.i64 ((i : Int) + 1)) p.o p.a p.b p.n (p.nl.map ak) p.m (p.ml.map ak) p.t.rows p.u.rows [e0.1.row e0.2.rows] (pre.map aE ++ [[PV.str a.list[i].1, PV.sl r.1.rows]]) = ut a.rows c.rows i' p.o p.a p.b p.n (p.nl.map ak) p.m (p.ml.map ak) p.t.rows p.u.rows [e0.1.row e0.2.rows] (pre'.map aE) /\ i' <= a.list.length /\ pre'.length = i' /\ jU (gT (aY e0.1 e0.2) (aO e0.1 e0.2) c) a.list i' pre' /\ q = a.list.length - i' := fun r hr2 hz =>
    ⟨a.list.length - (i + 1), by omega, i + 1, pre ++ [(a.list[i].1, r.1)], by rw [dJ (by omega), List.map_append]; rfl, by omega, by rw [List.length_append, hp]; rfl, by
     have := gS (g := (gT (aY e0.1 e0.2) (aO e0.1 e0.2) c)) hi' hI (by subst hr2; exact hz)
     subst hr2
     exact this, rfl⟩
   have er : ∀ r : ej, (gT (aY e0.1 e0.2) (aO e0.1 e0.2) c) a.list[i] = r -> r.2 ≠ 0 -> (([TV.pv (PV.sl []), TV.pv (PV.int IntKind.i64 r.2)], []) : RT) = dm true (Tr.of (bC (gT (aY e0.1 e0.2) (aO e0.1 e0.2) c) a.list).1, (bC (gT (aY e0.1 e0.2) (aO e0.1 e0.2) c) a.list).2) := fun r hr2 hz => by
    subst hr2
    rw [i6 hi' hI hz]
    exact (aF (r := (Tr.of [], _)) hz).symm
   refine ⟨by omega, _, _, row_get a hi', ⟨hg, rfl⟩, _, _, _, _, _, _, _, _, _, _, rfl, by omega, _, _, row_get a hi', ?_⟩
   rw [c8, E0, T0, E1, T1]
   refine ⟨?_, fun g2 => ⟨fun _ => ⟨.auto, ?_⟩, fun g3 => nz g2.2 g3⟩, fun g2 => ⟨by omega, _, _, row_get a hi', ⟨by omega, by omega⟩, ?_⟩, fun g2 => ⟨fun _ => ⟨.auto, ?_⟩, fun g3 => nz g2.2 g3⟩, fun g2 => ⟨by omega, _, _, row_get a hi', ⟨by omega, by omega⟩, ?_⟩, trivial⟩
   ·cases hh : aG c.rows a.list[i].1
    ·exact Ep (ce ⟨rfl, l0, ⟨_, rfl, hkd⟩⟩)
    ·exact HR (ce ⟨rfl, l0, ⟨_, rfl, hkd⟩, hgk⟩)
   ·exact er _ (pT g2.1.1) g2.2
   ·exact go _ (pT g2.1.1) g2.2
   ·exact er _ (pF g2.1.1) g2.2
   ·exact go _ (pF g2.1.1) g2.2
  ·simp only [decide_eq_false_iff_not] at g1
   have : i = a.list.length := by omega
   subst this
   refine ⟨.auto, ?_⟩
   rw [i5 hI, be rfl, cG]
 ·have g : p.o = 9 := by
   have n1 : ¬ p.o = 1 := by simpa using n1
   have n2 : ¬ p.o = 2 := by simpa using n2
   have n3 : ¬ p.o = 3 := by simpa using n3
   have n4 : ¬ p.o = 4 := by simpa using n4
   have n5 : ¬ p.o = 5 := by simpa using n5
   have n6 : ¬ p.o = 6 := by simpa using n6
   have n7 : ¬ p.o = 7 := by simpa using n7
   have n8 : ¬ p.o = 8 := by simpa using n8
   omega
  have hw : (p.o == 3 && aG a.rows p.b || p.o == 4 || p.o == 8) = false := by simp [g]
  have hV : cZ p k.gets k.cres k.puts a c = yC k a c := by unfold cZ yC; rw [if_neg (by omega), if_neg (by omega), if_neg (by omega), if_neg (by omega), if_neg (by omega), if_neg (by omega), if_neg (by omega), if_pos g]
  have E := (gu p k a c).1
  have T := (gu p k a c).2
  unfold LD.row at E T
  rw [hV, hw, E, T]
  exact ⟨ce ⟨rfl, ⟨p, k, rfl, hd, hk, k9 g, k10⟩, hga, hg⟩, fun g2 => (aF g2.2).symm, fun g2 => (bk g2.2).symm, trivial⟩
theorem Ik {N : Nat} (h : d8 N) (h' : d6 N) : ∀ ag al, A6 (N + 1) ag = some al -> ∀ a ∈ al, a.1 -> Ev C 33 ag a.2 := by
 intro ag al hl x hx hp
 unfold A6 at hl
 split at hl
 ·simp only [Option.some.injEq] at hl; subst hl
  simp only [List.mem_cons, List.not_mem_nil, or_false] at hx
  rcases hx with rfl | rfl | rfl
  ·obtain ⟨⟨rfl, ⟨p, k, er, hd, hf⟩, ⟨a, rfl, ha⟩, c, rfl, hc⟩, he⟩ := hp
   have := Co h h' p k hf (by rw [Ls.one_deep] at hd; omega) a c ha hc
   rw [er] at he ⊢
   rw [fU] at he
   rw [aF he] at this
   simp only [fU]
   exact this
  ·obtain ⟨⟨⟨rfl, ⟨p, k, er, hd, hf⟩, ⟨a, rfl, ha⟩, c, rfl, hc⟩, he⟩, hw⟩ := hp
   have := Co h h' p k hf (by rw [Ls.one_deep] at hd; omega) a c ha hc
   rw [er] at he hw ⊢
   rw [fU] at he
   rw [hw, be he] at this
   simp only [lm]
   exact this
  ·obtain ⟨⟨⟨rfl, ⟨p, k, er, hd, hf⟩, ⟨a, rfl, ha⟩, c, rfl, hc⟩, he⟩, hw⟩ := hp
   have := Co h h' p k hf (by rw [Ls.one_deep] at hd; omega) a c ha hc
   rw [er] at he hw ⊢
   rw [fU] at he
   rw [hw, bk he] at this
   simp only [lm]
   exact this
 ·exact absurd hl (by simp)
theorem FV {N : Nat} (h : d8 N) (h' : d6 N) (p : LD) (k : Ls) (hf : (Ls.cons p k .nil).fine) (hd : (Ls.cons p k .nil).deep < N + 1) (a c : Tr) (ha : a.good) (hc : c.good) : Ev C 16 [.pv (.agg (p.row k.rows)), .pv (.sl a.rows), .pv (.sl c.rows)] (dm false (aY p k a c)) := by
 have hS : aK C (Fh (N + 1)) := az (am (Ik h h') (am CV ax))
 have v6 := eW p k hf a c ha hc
 have hL : aC (N + 1) (p.row k.rows) := ⟨p, k, rfl, hd, hf⟩
 have hga : an a.rows := ⟨a, rfl, ha⟩
 have hg : an c.rows := ⟨c, rfl, hc⟩
 have E := fU p k a c
 have T := lm p k a c
 have hR : aY p k a c = cH (cZ p k.gets k.cres k.puts a c) := rfl
 rw [hR]
 generalize cZ p k.gets k.cres k.puts a c = V at *
 have t1 : V.2 = 0 -> (cq V.1 none 1 0).2 ≠ 0 -> (([TV.pv (PV.sl []), TV.pv (PV.int IntKind.i64 (bf V.1.rows 1 0))], []) : RT) = dm false (cH V) := fun h1 h2 => by
  rw [ji h1 h2, aW]
  exact (aF (r := (Tr.nil, _)) h2).symm
 have t2 : V.2 = 0 -> (cq V.1 none 1 0).2 = 0 -> (([TV.pv (PV.sl V.1.rows), TV.pv (PV.int IntKind.i64 0)], []) : RT) = dm false (cH V) := fun h1 h2 => by
  rw [gV h1 h2]
  exact (bk (r := (V.1, 0)) rfl).symm
 refine bh hS (Lg ..) ?_
 conv => zeta
 unfold LD.row at E T
 rw [E, T]
 refine ⟨rK ⟨rfl, hL, hga, hg⟩, fun g => ⟨.inl ⟨g.2, rfl⟩, fun _ => ?_, fun g2 => absurd g2.1.1 g.2, fun g2 => absurd g2.1.1 g.2, trivial⟩, fun g => ?_, fun g => ?_, trivial⟩
 ·rw [jj g.2]
  exact (aF (r := (Tr.nil, _)) g.2).symm
 all_goals
  have h6 := v6 g.1.2
  have hs : gt V.1.rows := ⟨_, rfl, h6.2, h6.1⟩
  refine ⟨.inr (ce ⟨rfl, hs⟩), fun g2 => absurd rfl g2.1, fun g2 => ?_, fun g2 => ?_, trivial⟩
  ·exact t1 g.1.2 (by rw [<- aW]; exact g2.2)
  ·exact t2 g.1.2 (by rw [<- aW]; exact g2.2)
theorem Ck {N : Nat} (h : d8 N) (h' : d6 N) (p : LD) (k : Ls) (hf : (Ls.cons p k .nil).fine) (hd : k.deep < N) (a : Tr) (ha : a.good) : Ev C 33 [.pv (.agg (p.row k.rows)), .pv (.sl a.rows), .pv (.sl []), .pv (.bool false)] (dm (wO (p.row k.rows) a.rows) (db p k.cres a)) := by
 have hr := cz
 have hmx := bN
 have hS : aK C (jY N) := az (am xI (am Cs (am Cc (am BO (am yM (am (yz h h') (am B6 (am yf (am (Ip h h') ax)))))))))
 rw [yA]
 obtain ⟨⟨⟨hpa, hpb⟩, ⟨ht, hu⟩, ⟨hn, hm⟩, hop, k7, k8, k9, k10⟩, hk, _⟩ := id hf
 have hga : an a.rows := ⟨a, rfl, ha⟩
 have hg : an [] := ⟨.nil, rfl, fi⟩
 have sn : bm (p.nl.map ak) := ⟨_, rfl, hn⟩
 have sm : bm (p.ml.map ak) := ⟨_, rfl, hm⟩
 have hn1 := d7 (t := bD p.n (p.nl.map ak) a)
 have hal := rows_len a
 have la := cw ha
 refine bh hS (Ld N p.o p.a p.b p.n (p.nl.map ak) p.m (p.ml.map ak) p.t.rows p.u.rows k.rows a.rows _) ?_
 conv => zeta
 refine ⟨fun g => ?_, fun n1 => ⟨fun g => ?_, fun n2 => ⟨fun g => ?_, fun n3 => ⟨fun g => ?_, fun n4 => ⟨fun g => ?_, fun n5 => ⟨fun g => ?_, fun n6 => ⟨fun g => ?_, fun n7 => ⟨fun g => ?_, fun n8 => ?_⟩⟩⟩⟩⟩⟩⟩⟩
 ·have g : p.o = 1 := by simpa using g
  have hw : (p.o == 3 && aG a.rows p.b || p.o == 4 || p.o == 8) = false := by simp [g]
  have hV : db p k.cres a = (a, 0) := by unfold db; rw [if_neg (by omega), if_neg (by omega), if_neg (by omega), if_neg (by omega), if_neg (by omega), if_neg (by omega), if_neg (by omega), if_neg (by omega)]
  rw [hV, hw]
  exact (bk (r := (a, 0)) rfl).symm
 ·have g : p.o = 2 := by simpa using g
  have hw : (p.o == 3 && aG a.rows p.b || p.o == 4 || p.o == 8) = false := by simp [g]
  have hV : db p k.cres a = lB a p.t p.u := by unfold db; rw [if_pos g]
  rw [hV, hw]
  refine ⟨⟨hga, p.t, rfl, ht⟩, fun g2 => ?_, fun g2 => ?_⟩
  ·have e : lB a p.t p.u = (.nil, 3) := if_neg (by
    intro e2; rw [e2] at g2; simp at g2)
   rw [e]
   exact (aF (r := (Tr.nil, 3)) (by decide)).symm
  ·have e : lB a p.t p.u = (p.u, 0) := if_pos (by simpa using g2)
   rw [e]
   exact (bk (r := (p.u, 0)) rfl).symm
 ·have g : p.o = 3 := by simpa using g
  have hw : (p.o == 3 && aG a.rows p.b || p.o == 4 || p.o == 8) = aG a.rows p.b := by simp [g]
  have hV : db p k.cres a = gh a p.b p.a := by unfold db; rw [if_neg (by omega), if_pos g]
  rw [hV, hw]
  refine ⟨xC hga _ _, fun g2 => ?_, fun g2 => ?_, fun g2 => ?_, trivial⟩
  ·rw [B7 g2.2]
   exact (aF (r := (Tr.nil, 3)) (by decide)).symm
  ·rw [B8 g2.1.2 g2.2, g2.2]
   exact (bk (r := (a, 0)) rfl).symm
  ·rw [B9 g2.1.2 g2.2, g2.2, fH]
   exact (be (r := (Tr.of (bH (dB a.list p.b) p.a (bE a p.b)), 0)) rfl).symm
 ·have g : p.o = 4 := by simpa using g
  have hw : (p.o == 3 && aG a.rows p.b || p.o == 4 || p.o == 8) = true := by simp [g]
  have hV : db p k.cres a = mj a p.a := by unfold db; rw [if_neg (by omega), if_neg (by omega), if_pos g]
  rw [hV, hw]
  exact (be (r := mj a p.a) rfl).symm
 ·have g : p.o = 5 := by simpa using g
  have hw : (p.o == 3 && aG a.rows p.b || p.o == 4 || p.o == 8) = false := by simp [g]
  have hV : db p k.cres a = fD a p.a := by unfold db; rw [if_neg (by omega), if_neg (by omega), if_neg (by omega), if_pos g]
  rw [hV, hw]
  obtain ⟨o1, o2⟩ := eA a p.a
  refine ⟨ce hga, fun g2 => ?_, fun g2 => ?_, trivial⟩
  ·have e := g2.2
   rw [o1] at e
   rw [aF e, BQ e]
  ·have e := g2.2
   rw [o1] at e
   rw [o2]
   exact (bk e).symm
 ·have g : p.o = 6 := by simpa using g
  have hw : (p.o == 3 && aG a.rows p.b || p.o == 4 || p.o == 8) = false := by simp [g]
  rw [ct p.n _ a, hw]
  refine ⟨⟨hga, sn⟩, ⟨hg, sn⟩, fun g2 => ?_, fun g2 => ?_⟩
  ·have hV : db p k.cres a = (.nil, 3) := by unfold db; rw [if_neg (by omega), if_neg (by omega), if_neg (by omega), if_neg (by omega), if_pos g, if_pos (fun e => by rw [hn1.2 e] at g2; simp at g2)]
   rw [hV]
   exact (aF (r := (Tr.nil, 3)) (by decide)).symm
  ·have o1 : (bD p.n (p.nl.map ak) a).list = [] := hn1.1 (by
    simp only [decide_eq_false_iff_not] at g2
    omega)
   have hV : db p k.cres a = (a, 0) := by unfold db; rw [if_neg (by omega), if_neg (by omega), if_neg (by omega), if_neg (by omega), if_pos g, if_neg (not_not_intro o1)]
   have e0 : aw p.n (p.nl.map ak) [] = [] := ct _ _ Tr.nil
   rw [e0, hV]
   refine aJ hS (by kernel_rfl) 1000 (fun q st => st = Cn [] a.rows 0 /\ q = 0) ?_ (n := 0) ⟨rfl, rfl⟩
   rintro q st ⟨rfl, rfl⟩
   exact cr (Ie ..) ⟨fun g3 => absurd g3 (by simp), fun g3 => ⟨.auto, (bk (r := (a, 0)) rfl).symm⟩⟩
 ·have g : p.o = 7 := by simpa using g
  have hw : (p.o == 3 && aG a.rows p.b || p.o == 4 || p.o == 8) = false := by simp [g]
  obtain ⟨e0, e1, hl, hkr, l0, l1, _, hcs, hps⟩ := jk hd hk (k7 g)
  have hV : db p k.cres a = cM (aO e0.1 e0.2) (aO e1.1 e1.2) p.m (p.ml.map ak) p.n (p.nl.map ak) a := by unfold db; rw [if_neg (by omega), if_neg (by omega), if_neg (by omega), if_neg (by omega), if_neg (by omega), if_pos g, hcs]
  have hF : db p k.cres a = if (aO e0.1 e0.2 (dR p.m (p.ml.map ak) a)).2 ≠ 0 then (.nil, (aO e0.1 e0.2 (dR p.m (p.ml.map ak) a)).2) else if (aO e1.1 e1.2 (bD p.m (p.ml.map ak) a)).2 ≠ 0 then (.nil, (aO e1.1 e1.2 (bD p.m (p.ml.map ak) a)).2) else dH p.n (p.nl.map ak) (aO e0.1 e0.2 (dR p.m (p.ml.map ak) a)).1 (aO e1.1 e1.2 (bD p.m (p.ml.map ak) a)).1 := hV
  rw [hw]
  generalize db p k.cres a = F at *
  have gi := eI ha p.m (p.ml.map ak)
  have go := di ha p.m (p.ml.map ak)
  have f0 : (Ls.cons e0.1 e0.2 .nil).fine := Ls.mem_fine hk (by rw [hl]; simp)
  have f1 : (Ls.cons e1.1 e1.2 .nil).fine := Ls.mem_fine hk (by rw [hl]; simp)
  have k0 : lC (aO e0.1 e0.2 (dR p.m (p.ml.map ak) a)) := cl (fp e0.1 e0.2 f0 _ gi)
  have k1 : lC (aO e1.1 e1.2 (bD p.m (p.ml.map ak) a)) := cl (fp e1.1 e1.2 f1 _ go)
  have E0 := de e0.1 e0.2 (dR p.m (p.ml.map ak) a)
  have E1 := de e1.1 e1.2 (bD p.m (p.ml.map ak) a)
  have T0 := dU e0.1 e0.2 (dR p.m (p.ml.map ak) a)
  have T1 := dU e1.1 e1.2 (bD p.m (p.ml.map ak) a)
  unfold LD.row at E0 E1 T0 T1
  have gI : an (dR p.m (p.ml.map ak) a).rows := ⟨_, rfl, gi⟩
  have gO : an (bD p.m (p.ml.map ak) a).rows := ⟨_, rfl, go⟩
  rw [hkr, dr p.m _ a, ct p.m _ a]
  refine ⟨⟨hga, sm⟩, ⟨hg, sn⟩, _, _, _, _, _, _, _, _, _, _, rfl, ?_⟩
  rw [E0, T0]
  refine ⟨(Ep (ce (e := (aO e0.1 e0.2 (dR p.m (p.ml.map ak) a)).2) ⟨rfl, l0, gI⟩)), fun g1 => absurd g1.1.1 (by simp), fun g1 => absurd g1.1.1 (by simp), fun g1 => ⟨fun _ => ?_, fun g2 => nz g1.2 g2⟩, fun g1 => ⟨_, _, _, _, _, _, _, _, _, _, rfl, ?_⟩, trivial⟩
  ·rw [if_pos g1.2] at hF
   rw [hF]
   exact (aF (r := (Tr.nil, _)) g1.2).symm
  ·rw [E1, T1]
   have g1 := g1.2
   refine ⟨(Ep (ce (e := (aO e1.1 e1.2 (bD p.m (p.ml.map ak) a)).2) ⟨rfl, l1, gO⟩)), fun g1 => absurd g1.1.1 (by simp), fun g1 => absurd g1.1.1 (by simp), fun g2 => ⟨fun _ => ?_, fun g3 => nz g2.2 g3⟩, fun g2 => ?_, trivial⟩
   ·rw [if_neg (not_not_intro g1), if_pos g2.2] at hF
    rw [hF]
    exact (aF (r := (Tr.nil, _)) g2.2).symm
   ·have g2 := g2.2
    rw [if_neg (not_not_intro g1), if_neg (not_not_intro g2)] at hF
    have gx := k0.2 g1
    have gy := k1.2 g2
    generalize (aO e0.1 e0.2 (dR p.m (p.ml.map ak) a)).1 = x at *
    generalize (aO e1.1 e1.2 (bD p.m (p.ml.map ak) a)).1 = y at *
    rw [(oh x y p.n (p.nl.map ak)).1, (oh x y p.n (p.nl.map ak)).2]
    refine ⟨ce ⟨⟨x, rfl, gx⟩, ⟨y, rfl, gy⟩, sn⟩, fun g3 => ?_, fun g3 => ?_, trivial⟩
    ·rw [hF, (nM x y _ _).1 g3.2]; rfl
    ·rw [hF, (nM x y _ _).2 g3.2]; rfl
 ·have g : p.o = 8 := by simpa using g
  have hw : (p.o == 3 && aG a.rows p.b || p.o == 4 || p.o == 8) = true := by simp [g]
  obtain ⟨e0, hl, hkr, l0, _, hcs, hps⟩ := lk hd hk (k8 g)
  have hV : db p k.cres a = (Tr.of (bC (fun e => aO e0.1 e0.2 e.2) a.list).1, (bC (fun e => aO e0.1 e0.2 e.2) a.list).2) := by unfold db; rw [if_neg (by omega), if_neg (by omega), if_neg (by omega), if_neg (by omega), if_neg (by omega), if_neg (by omega), if_pos g, hcs]
  rw [hV, hw, hkr]
  refine aJ hS (by kernel_rfl) 1000 (fun q st => ∃ (i : Nat) (pre : List Edge), st = ur a.rows [] i p.o p.a p.b p.n (p.nl.map ak) p.m (p.ml.map ak) p.t.rows p.u.rows [e0.1.row e0.2.rows] (pre.map aE) /\ i <= a.list.length /\ pre.length = i /\ jU (fun e => aO e0.1 e0.2 e.2) a.list i pre /\ q = a.list.length - i) ?_ (n := a.list.length) ⟨0, [], rfl, by omega, rfl, nZ _ _, by omega⟩
  rintro q st ⟨i, pre, rfl, hi, hp, hI, rfl⟩
  refine cr (Ig ..) ?_
  conv => zeta
  rw [hal]
  refine ⟨fun g1 => ?_, fun g1 => ?_⟩
  ·simp only [decide_eq_true_eq] at g1
   have hi' : i < a.list.length := by omega
   have hkd := dA ha (List.getElem_mem hi')
   have room2 : (pre.map aE).length + 1 <= 4000000 := by rw [List.length_map]; omega
   have E1 := de e0.1 e0.2 a.list[i].2
   have T1 := dU e0.1 e0.2 a.list[i].2
   unfold LD.row at E1 T1
   have go : ∀ r : ej, (fun e => aO e0.1 e0.2 e.2) a.list[i] = r -> r.2 = 0 -> ∃ q, q < a.list.length - i /\ ∃ (i' : Nat) (pre' : List Edge), ur a.rows [] (IntKind.wrap IntKind.i64 ((i : Int) + 1)) p.o p.a p.b p.n (p.nl.map ak) p.m (p.ml.map ak) p.t.rows p.u.rows [e0.1.row e0.2.rows] (pre.map aE ++ [[PV.str a.list[i].1, PV.sl r.1.rows]]) = ur a.rows [] i' p.o p.a p.b p.n (p.nl.map ak) p.m (p.ml.map ak) p.t.rows p.u.rows [e0.1.row e0.2.rows] (pre'.map aE) /\ i' <= a.list.length /\ pre'.length = i' /\ jU (fun e => aO e0.1 e0.2 e.2) a.list i' pre' /\ q = a.list.length - i' := fun r hr2 hz =>
    ⟨a.list.length - (i + 1), by omega, i + 1, pre ++ [(a.list[i].1, r.1)], by rw [dJ (by omega), List.map_append]; rfl, by omega, by rw [List.length_append, hp]; rfl, by
     have := gS (g := (fun e => aO e0.1 e0.2 e.2)) hi' hI (by subst hr2; exact hz)
     subst hr2
     exact this, rfl⟩
   have er : ∀ r : ej, (fun e => aO e0.1 e0.2 e.2) a.list[i] = r -> r.2 ≠ 0 -> (([TV.pv (PV.sl []), TV.pv (PV.int IntKind.i64 r.2)], []) : RT) = dm true (Tr.of (bC (fun e => aO e0.1 e0.2 e.2) a.list).1, (bC (fun e => aO e0.1 e0.2 e.2) a.list).2) := fun r hr2 hz => by
    subst hr2
    rw [i6 hi' hI hz]
    exact (aF (r := (Tr.of [], _)) hz).symm
   refine ⟨by omega, _, _, row_get a hi', ⟨hg, rfl⟩, _, _, _, _, _, _, _, _, _, _, rfl, by omega, _, _, row_get a hi', ?_⟩
   rw [E1, T1]
   refine ⟨Ep (ce ⟨rfl, l0, ⟨_, rfl, hkd⟩⟩), fun g1 => absurd g1.1.1 (by simp), fun g1 => absurd g1.1.1 (by simp), fun g2 => ⟨fun _ => ⟨.auto, ?_⟩, fun g3 => nz g2.2 g3⟩, fun g2 => ⟨by omega, _, _, row_get a hi', ⟨by omega, by omega⟩, ?_⟩, trivial⟩
   ·exact er _ rfl g2.2
   ·exact go _ rfl g2.2
  ·simp only [decide_eq_false_iff_not] at g1
   have : i = a.list.length := by omega
   subst this
   refine ⟨.auto, ?_⟩
   rw [i5 hI, be rfl, cG]
 ·have g : p.o = 9 := by
   have n1 : ¬ p.o = 1 := by simpa using n1
   have n2 : ¬ p.o = 2 := by simpa using n2
   have n3 : ¬ p.o = 3 := by simpa using n3
   have n4 : ¬ p.o = 4 := by simpa using n4
   have n5 : ¬ p.o = 5 := by simpa using n5
   have n6 : ¬ p.o = 6 := by simpa using n6
   have n7 : ¬ p.o = 7 := by simpa using n7
   have n8 : ¬ p.o = 8 := by simpa using n8
   omega
  have hw : (p.o == 3 && aG a.rows p.b || p.o == 4 || p.o == 8) = false := by simp [g]
  have hV : db p k.cres a = eu k.cres.reverse a := by unfold db; rw [if_neg (by omega), if_neg (by omega), if_neg (by omega), if_neg (by omega), if_neg (by omega), if_neg (by omega), if_neg (by omega), if_pos g]
  have E := (ol p k a).1
  have T := (ol p k a).2
  unfold LD.row at E T
  rw [hV, hw, E, T]
  exact ⟨ce ⟨rfl, rfl, ⟨p, k, rfl, hd, hk, k9 g, k10⟩, hga⟩, fun g2 => (aF g2.2).symm, fun g2 => (bk g2.2).symm, trivial⟩
theorem Ih {N : Nat} (h : d8 N) (h' : d6 N) : ∀ ag al, A5 (N + 1) ag = some al -> ∀ a ∈ al, a.1 -> Ev C 33 ag a.2 := by
 intro ag al hl x hx hp
 unfold A5 at hl
 split at hl
 ·simp only [Option.some.injEq] at hl; subst hl
  simp only [List.mem_cons, List.not_mem_nil, or_false] at hx
  rcases hx with rfl | rfl | rfl
  ·obtain ⟨⟨rfl, rfl, ⟨p, k, er, hd, hf⟩, a, rfl, ha⟩, he⟩ := hp
   have := Ck h h' p k hf (by rw [Ls.one_deep] at hd; omega) a ha
   rw [er] at he ⊢
   rw [fM] at he
   rw [aF he] at this
   simp only [fM]
   exact this
  ·obtain ⟨⟨⟨rfl, rfl, ⟨p, k, er, hd, hf⟩, a, rfl, ha⟩, he⟩, hw⟩ := hp
   have := Ck h h' p k hf (by rw [Ls.one_deep] at hd; omega) a ha
   rw [er] at he hw ⊢
   rw [fM] at he
   rw [hw, be he] at this
   simp only [kT]
   exact this
  ·obtain ⟨⟨⟨rfl, rfl, ⟨p, k, er, hd, hf⟩, a, rfl, ha⟩, he⟩, hw⟩ := hp
   have := Ck h h' p k hf (by rw [Ls.one_deep] at hd; omega) a ha
   rw [er] at he hw ⊢
   rw [fM] at he
   rw [hw, bk he] at this
   simp only [kT]
   exact this
 ·exact absurd hl (by simp)
theorem FN {N : Nat} (h : d8 N) (h' : d6 N) (p : LD) (k : Ls) (hf : (Ls.cons p k .nil).fine) (hd : (Ls.cons p k .nil).deep < N + 1) (a : Tr) (ha : a.good) : Ev C 15 [.pv (.agg (p.row k.rows)), .pv (.sl a.rows)] (dm false (aO p k a)) := by
 have hS : aK C (Ff (N + 1)) := az (am (Ih h h') (am CV ax))
 have v6 := fp p k hf a ha
 have hL : aC (N + 1) (p.row k.rows) := ⟨p, k, rfl, hd, hf⟩
 have hga : an a.rows := ⟨a, rfl, ha⟩
 have E := fM p k a
 have T := kT p k a
 have hR : aO p k a = cH (db p k.cres a) := rfl
 rw [hR]
 generalize db p k.cres a = V at *
 have t1 : V.2 = 0 -> (cq V.1 none 1 0).2 ≠ 0 -> (([TV.pv (PV.sl []), TV.pv (PV.int IntKind.i64 (bf V.1.rows 1 0))], []) : RT) = dm false (cH V) := fun h1 h2 => by
  rw [ji h1 h2, aW]
  exact (aF (r := (Tr.nil, _)) h2).symm
 have t2 : V.2 = 0 -> (cq V.1 none 1 0).2 = 0 -> (([TV.pv (PV.sl V.1.rows), TV.pv (PV.int IntKind.i64 0)], []) : RT) = dm false (cH V) := fun h1 h2 => by
  rw [gV h1 h2]
  exact (bk (r := (V.1, 0)) rfl).symm
 refine bh hS (K6 ..) ?_
 conv => zeta
 unfold LD.row at E T
 rw [E, T]
 refine ⟨rK ⟨rfl, rfl, hL, hga⟩, fun g => ⟨.inl ⟨g.2, rfl⟩, fun _ => ?_, fun g2 => absurd g2.1.1 g.2, fun g2 => absurd g2.1.1 g.2, trivial⟩, fun g => ?_, fun g => ?_, trivial⟩
 ·rw [jj g.2]
  exact (aF (r := (Tr.nil, _)) g.2).symm
 all_goals
  have h6 := v6 g.1.2
  have hs : gt V.1.rows := ⟨_, rfl, h6.2, h6.1⟩
  refine ⟨.inr (ce ⟨rfl, hs⟩), fun g2 => absurd rfl g2.1, fun g2 => ?_, fun g2 => ?_, trivial⟩
  ·exact t1 g.1.2 (by rw [<- aW]; exact g2.2)
  ·exact t2 g.1.2 (by rw [<- aW]; exact g2.2)
theorem xF : ∀ N, d8 N /\ d6 N
 | 0 => by
  refine ⟨?_, ?_⟩
  ·intro ag al hl x hx hp
   unfold qq at hl
   split at hl
   ·simp only [Option.some.injEq] at hl; subst hl
    simp only [List.mem_cons, List.not_mem_nil, or_false] at hx
    rcases hx with rfl | rfl
    ·obtain ⟨⟨⟨p, k, _, hd, _⟩, _⟩, _⟩ := hp
     exact absurd hd (by omega)
    ·obtain ⟨⟨⟨p, k, _, hd, _⟩, _⟩, _⟩ := hp
     exact absurd hd (by omega)
   ·exact absurd hl (by simp)
  ·intro ag al hl x hx hp
   unfold qp at hl
   split at hl
   ·simp only [Option.some.injEq] at hl; subst hl
    simp only [List.mem_cons, List.not_mem_nil, or_false] at hx
    rcases hx with rfl | rfl
    ·obtain ⟨⟨⟨p, k, _, hd, _⟩, _⟩, _⟩ := hp
     exact absurd hd (by omega)
    ·obtain ⟨⟨⟨p, k, _, hd, _⟩, _⟩, _⟩ := hp
     exact absurd hd (by omega)
   ·exact absurd hl (by simp)
 | N + 1 => by
  obtain ⟨h, h'⟩ := xF N
  refine ⟨?_, ?_⟩
  ·intro ag al hl x hx hp
   unfold qq at hl
   split at hl
   ·simp only [Option.some.injEq] at hl; subst hl
    simp only [List.mem_cons, List.not_mem_nil, or_false] at hx
    rcases hx with rfl | rfl
    ·obtain ⟨⟨⟨p, k, er, hd, hf⟩, ⟨a, rfl, ha⟩, c, rfl, hc⟩, he⟩ := hp
     have := FV h h' p k hf hd a c ha hc
     rw [er] at he ⊢
     rw [dl] at he
     rw [aF he] at this
     simp only [dl]
     exact this
    ·obtain ⟨⟨⟨p, k, er, hd, hf⟩, ⟨a, rfl, ha⟩, c, rfl, hc⟩, he⟩ := hp
     have := FV h h' p k hf hd a c ha hc
     rw [er] at he ⊢
     rw [dl] at he
     rw [bk he] at this
     simp only [eq]
     exact this
   ·exact absurd hl (by simp)
  ·intro ag al hl x hx hp
   unfold qp at hl
   split at hl
   ·simp only [Option.some.injEq] at hl; subst hl
    simp only [List.mem_cons, List.not_mem_nil, or_false] at hx
    rcases hx with rfl | rfl
    ·obtain ⟨⟨⟨p, k, er, hd, hf⟩, a, rfl, ha⟩, he⟩ := hp
     have := FN h h' p k hf hd a ha
     rw [er] at he ⊢
     rw [de] at he
     rw [aF he] at this
     simp only [de]
     exact this
    ·obtain ⟨⟨⟨p, k, er, hd, hf⟩, a, rfl, ha⟩, he⟩ := hp
     have := FN h h' p k hf hd a ha
     rw [er] at he ⊢
     rw [de] at he
     rw [bk he] at this
     simp only [dU]
     exact this
   ·exact absurd hl (by simp)
def zg (k : Int) : BS := if k = 1 then [97] else if k = 2 then [98] else if k = 3 then [99] else if k = 4 then [100] else []
def pd (s : BS) : BS := zg (wi (s.length : Int) 5)
def cC (w : Nat) : Nat -> Tr -> Tr
 | 0, _ => .nil
 | d + 1, l => Tr.of ((l.list.take w).foldl (fun acc e => bH acc (pd e.1) (cC w d e.2)) [])
noncomputable def fq (l : LP) : LP := (((iM l).take 6).map pd).map ak
theorem MO (c a : Int) (Q : QT) : (bq C cd 36 [.pv (.int .i64 c), .pv (.int .i64 a)] Q) (H.s (H.b H.auto H.auto)) = (¬a = (0 : Int) /\ (decide (Int.tmod c a <  0) = true -> Q ([tI (IntKind.wrap .i64 (Int.tmod c a + a))], [])) /\ (decide (Int.tmod c a <  0) = false -> Q ([tI (Int.tmod c a)], []))) := by kernel_rfl
theorem MP (c a : Int) (Q : QT) : (bq C cd 26 [.pv (.int .i64 c), .pv (.int .i64 a)] Q) (H.s (H.b H.auto H.auto)) = (¬a = (0 : Int) /\ (decide (Int.tmod c a <  0) = true -> Q ([tI (IntKind.wrap .i64 (Int.tmod c a + a))], [])) /\ (decide (Int.tmod c a <  0) = false -> Q ([tI (Int.tmod c a)], []))) := by kernel_rfl
noncomputable def yb (w N : Nat) : List TV -> Option Alts
 | [.pv (.sl a), .pv (.int .i64 w'), .pv (.int .i64 d')] => one (∃ l : Tr, a = l.rows /\ l.list.length <= 140737488351232 /\ l.lim 140737488351232 /\ w' = w /\ 0 <= d' /\ d' < N /\ w <= 4000) ([.own 2 (cC w d'.toNat (aH a)).rows], [])
 | _ => none
noncomputable def mr (w N : Nat) : Specs := aZ [(25, xg), (26, iZ), (9, yb w N)]
theorem MJ (e d : Nat) (a : LP) (c b : Int) (Q : QT) : (bq C (mr e d) 9 [.pv (.sl a), .pv (.int .i64 c), .pv (.int .i64 b)] Q) (H.auto) = (bd C 9 (d0 (u1 (d0 (u2 CP.top)))) (St.mk [(0, aS a), (1, aI c), (2, aI b), (7, AV.own 14), (8, aI 0)] [(14, Obj.buf 2 [])]) (cA (au 0 (aQ (bA C (mr e d) 9 99997 (u3 CP.top)) (aU C 9 [tS a, tI c, tI b] Q))))) := by kernel_rfl
def F2 : CP := (d0 (u1 (d0 (u2 CP.top))))
def F3 (b : LP) (c d e : Int) (a : LP) : St := (St.mk [(0, aS b), (1, aI c), (2, aI d), (7, AV.own 14), (8, aI e)] [(14, Obj.buf 2 a)])
theorem Lm (f j : Nat) (p : LP) (r q : Int) (e : LP) (i c a : Int) (d : LP)  (J0 : St -> Prop) (Q : QT) : (bA C (mr f j) 9 1000 (F2.dn 0) (F3 e i c a d) (bO C 9 F2 J0 (cA (au 0 (aQ (bA C (mr f j) 9 99997 (u3 CP.top)) (aU C 9 [tS p, tI r, tI q] Q)))))) (H.b (H.n 3 (H.b (H.n 2 (H.b (H.s (H.s (H.s (H.s (H.s (H.s H.auto)))))) H.auto)) H.auto)) H.auto) = (let o := Int.toNat (IntKind.wrap .i64 (c - 1)); (decide (a < (↑(List.length e) : Int)) = true -> (decide (a < i) = true -> (decide (c >  0) = true -> (0 : Int) <= a /\ ∃ (g : BS) (es : LP), let m := List.length g; e[Int.toNat a]? = some [pT g, pS es] /\ ¬(5 : Int) = (0 : Int) /\ ((0 : Int) <= wi (↑m : Int) (5 : Int) /\ wi (↑m : Int) (5 : Int) <  5) /\ ∃ (k : List PV), [[pT []], [pT [(97 : UInt8)]], [pT [(98 : UInt8)]], [pT [(99 : UInt8)]], [pT [(100 : UInt8)]]][Int.toNat (wi (↑m : Int) (5 : Int))]? = some k /\ 1 <= List.length k /\ ∃ (g : BS), List.take 1 k = [pT g] /\ (0 : Int) <= a /\ ∃ (s_1 : BS) (es : LP), e[Int.toNat a]? = some [pT s_1, pS es] /\ (∃ (l : Tr), es = Tr.rows l /\ List.length (Tr.list l) <= 140737488351232 /\ Tr.lim 140737488351232 l /\ i = (↑f : Int) /\ (0 : Int) <= IntKind.wrap .i64 (c - 1) /\ IntKind.wrap .i64 (c - 1) < (↑j : Int) /\ f <= 4000) /\ (∃ (t u : Tr), d = Tr.rows t /\ Tr.rows (cC f o (aH es)) = Tr.rows u /\ List.length (Tr.list t) <= 4000000) /\ J0 (St.mk [(0, aS e), (1, aI i), (2, aI c), (7, AV.own 14), (8, aI (IntKind.wrap .i64 (a + 1)))] [(14, Obj.buf 2 (Tr.rows (Tr.of (bH (Tr.list (aH d)) g (aH (Tr.rows (cC f o (aH es))))))))])) /\ (decide (c >  0) = false -> ∃ (h : H), Q ([TV.own 2 d], []))) /\ (decide (a < i) = false -> ∃ (h : H), Q ([TV.own 2 d], []))) /\ (decide (a < (↑(List.length e) : Int)) = false -> ∃ (h : H), Q ([TV.own 2 d], []))) := by kernel_rfl
noncomputable def wR : Specs := aZ [(36, iZ)]
theorem Mp (a : Bool) (b : LP) (Q : QT) : (bq C wR 23 [.pv (.agg [.bool a, .sl b])] Q) (H.auto) = (bd C 23 (d0 (u1 (d0 (u2 CP.top)))) (St.mk [(1, AV.addr 2 0 0), (2, AV.addr 4 0 0), (3, AV.addr 6 0 0), (4, aI 0)] [(2, Obj.box [aB a, aS b]), (4, Obj.box [aB false, AV.own 10002]), (6, Obj.box [aB a, AV.nilSl]), (10002, Obj.buf 1 [])]) (cA (au 0 (aQ (bA C wR 23 99997 (u3 CP.top)) (aU C 23 [TV.pv (PV.agg [pB a, pS b])] Q))))) := by kernel_rfl
def yl : CP := (d0 (u1 (d0 (u2 CP.top))))
def FF (e : Int) (b : Bool) (c : LP) (d : Bool) (a : LP) : St := (St.mk [(1, AV.addr 2 0 0), (2, AV.addr 4 0 0), (3, AV.addr 6 0 0), (4, aI e)] [(2, Obj.box [aB b, aS c]), (4, Obj.box [aB false, AV.own 10002]), (6, Obj.box [aB d, AV.nilSl]), (10002, Obj.buf 1 a)])
theorem KC (j : Bool) (k : LP) (a : Int) (i : Bool) (b : LP) (d : Bool) (g : LP)  (J0 : St -> Prop) (Q : QT) : (bA C wR 23 1000 (yl.dn 0) (FF a i b d g) (bO C 23 yl J0 (cA (au 0 (aQ (bA C wR 23 99997 (u3 CP.top)) (aU C 23 [TV.pv (PV.agg [pB j, pS k])] Q)))))) (H.b (H.n 2 (H.b (H.s (H.s (H.s (H.s H.auto)))) H.auto)) H.auto) = ((decide (a < (↑(List.length b) : Int)) = true -> (decide (a <  6) = true -> (0 : Int) <= a /\ ∃ (c : BS), let f := List.length c; b[Int.toNat a]? = some [pT c] /\ ¬(5 : Int) = (0 : Int) /\ ((0 : Int) <= wi (↑f : Int) (5 : Int) /\ wi (↑f : Int) (5 : Int) <  5) /\ ∃ (e : List PV), [[pT []], [pT [(97 : UInt8)]], [pT [(98 : UInt8)]], [pT [(99 : UInt8)]], [pT [(100 : UInt8)]]][Int.toNat (wi (↑f : Int) (5 : Int))]? = some e /\ 1 <= List.length e /\ ∃ (c : BS), List.take 1 e = [pT c] /\ J0 (St.mk [(1, AV.addr 2 0 0), (2, AV.addr 4 0 0), (3, AV.addr 6 0 0), (4, aI (IntKind.wrap .i64 (a + 1)))] [(2, Obj.box [aB i, aS b]), (4, Obj.box [aB false, AV.own 10002]), (6, Obj.box [aB d, AV.own 14002]), (10002, Obj.buf 1 g), (14002, Obj.buf 1 [[pT c]])])) /\ (decide (a <  6) = false -> ∃ (h : H), Q ([TV.pv (PV.agg [pB d, pS []])], []))) /\ (decide (a < (↑(List.length b) : Int)) = false -> ∃ (h : H), Q ([TV.pv (PV.agg [pB d, pS []])], []))) := by kernel_rfl
def FG (f : Int) (c : Bool) (d : LP) (e : Bool) (a b : LP) : St := (St.mk [(1, AV.addr 2 0 0), (2, AV.addr 4 0 0), (3, AV.addr 6 0 0), (4, aI f)] [(2, Obj.box [aB c, aS d]), (4, Obj.box [aB false, AV.own 10002]), (6, Obj.box [aB e, AV.own 14002]), (10002, Obj.buf 1 a), (14002, Obj.buf 1 b)])
theorem KD (l : Bool) (m : LP) (a : Int) (j : Bool) (c : LP) (f : Bool) (i b : LP) (J0 : St -> Prop) (Q : QT) : (bA C wR 23 1000 (yl.dn 0) (FG a j c f i b) (bO C 23 yl J0 (cA (au 0 (aQ (bA C wR 23 99997 (u3 CP.top)) (aU C 23 [TV.pv (PV.agg [pB l, pS m])] Q)))))) (H.b (H.n 2 (H.b (H.s (H.s (H.s (H.s (H.s H.auto))))) H.auto)) H.auto) = (let k := PV.agg [pB f, pS b]; (decide (a < (↑(List.length c) : Int)) = true -> (decide (a <  6) = true -> (0 : Int) <= a /\ ∃ (d : BS), let g := List.length d; c[Int.toNat a]? = some [pT d] /\ ¬(5 : Int) = (0 : Int) /\ ((0 : Int) <= wi (↑g : Int) (5 : Int) /\ wi (↑g : Int) (5 : Int) <  5) /\ ∃ (e : List PV), [[pT []], [pT [(97 : UInt8)]], [pT [(98 : UInt8)]], [pT [(99 : UInt8)]], [pT [(100 : UInt8)]]][Int.toNat (wi (↑g : Int) (5 : Int))]? = some e /\ 1 <= List.length e /\ ∃ (d : BS), List.take 1 e = [pT d] /\ ((List.length b + 1) * 16 <= du /\ List.length b + 1 <= bz) /\ J0 (St.mk [(1, AV.addr 2 0 0), (2, AV.addr 4 0 0), (3, AV.addr 6 0 0), (4, aI (IntKind.wrap .i64 (a + 1)))] [(2, Obj.box [aB j, aS c]), (4, Obj.box [aB false, AV.own 10002]), (6, Obj.box [aB f, AV.own 14002]), (10002, Obj.buf 1 i), (14002, Obj.buf 1 (b ++ [[pT d]]))])) /\ (decide (a <  6) = false -> ∃ (h : H), Q ([TV.pv k], []))) /\ (decide (a < (↑(List.length c) : Int)) = false -> ∃ (h : H), Q ([TV.pv k], []))) := by kernel_rfl
theorem LF (a n : Int) (hn : ¬ n = 0) : Ev C 36 [.pv (.int .i64 a), .pv (.int .i64 n)] ([.pv (.int .i64 (wi a n))], []) := by
 refine bh bM (MO a n _) ⟨hn, fun h => ?_, fun h => ?_⟩
 ·simp only [decide_eq_true_eq] at h; simp [wi, h]
 ·simp only [decide_eq_false_iff_not] at h; simp [wi, h]
theorem LG (a n : Int) (hn : ¬ n = 0) : Ev C 26 [.pv (.int .i64 a), .pv (.int .i64 n)] ([.pv (.int .i64 (wi a n))], []) := by
 refine bh bM (MP a n _) ⟨hn, fun h => ?_, fun h => ?_⟩
 ·simp only [decide_eq_true_eq] at h; simp [wi, h]
 ·simp only [decide_eq_false_iff_not] at h; simp [wi, h]
theorem mK {k : Int} (h : 0 <= k /\ k < 5) : [[PV.str []], [PV.str [(97 : UInt8)]], [PV.str [(98 : UInt8)]], [PV.str [(99 : UInt8)]], [PV.str [(100 : UInt8)]]][Int.toNat k]? = some [PV.str (zg k)] := by
 have : k = 0 ∨ k = 1 ∨ k = 2 ∨ k = 3 ∨ k = 4 := by omega
 rcases this with rfl | rfl | rfl | rfl | rfl <;> rfl
def fI (w d : Nat) (acc : List Edge) (e : Edge) : List Edge := bH acc (pd e.1) (cC w d e.2)
theorem ni (w d : Nat) (l : Tr) : cC w (d + 1) l = Tr.of ((l.list.take w).foldl (fI w d) []) := rfl
theorem xL (w d : Nat) (l : List Edge) : ∀ acc : List Edge, (l.foldl (fI w d) acc).length <= acc.length + l.length := by
 induction l with
 | nil => intro acc; simp
 | cons e l ih =>
  intro acc
  have h1 := ih (fI w d acc e)
  have h2 := tg acc (pd e.1) (cC w d e.2)
  simp only [List.foldl_cons, List.length_cons] at h1 ⊢
  unfold fI at h1 ⊢
  omega
theorem CI (w : Nat) (hw : w <= 4000) : ∀ (d : Nat) (l : Tr), d <= 4000 -> l.list.length <= 140737488351232 -> l.lim 140737488351232 -> Ev C 9 [.pv (.sl l.rows), .pv (.int .i64 w), .pv (.int .i64 d)] ([.own 2 (cC w d l).rows], []) := by
 intro d
 induction d using Nat.strongRecOn with
 | _ d ih =>
 intro l hd hl1 hl2
 have hS : aK C (mr w d) := az (am E7 (am (iH LG) (am (by
  intro ag al hl x hx hp
  unfold yb at hl
  split at hl
  ·rename_i a w' d'
   have e := aD hl hx; subst e
   obtain ⟨u, rfl, h1, h2, rfl, h3, h4, h5⟩ := hp
   rw [aq]
   have := ih d'.toNat (by omega) u (by omega) h1 h2
   rwa [show ((d'.toNat : Nat) : Int) = d' by omega] at this
  ·exact absurd hl (by simp)) ax)))
 have hlen := rows_len l
 refine bh hS (MJ w d l.rows w d _) ?_
 refine aJ hS (by kernel_rfl) 1000 (fun m st => ∃ i : Nat, st = F3 l.rows w d i (Tr.of ((l.list.take i).foldl (fI w (d - 1)) [])).rows /\ i <= l.list.length /\ i <= w /\ (i = 0 ∨ 0 < d) /\ m = l.list.length - i) ?_ (n := l.list.length) ⟨0, rfl, by omega, by omega, .inl rfl, rfl⟩
 rintro m st ⟨i, rfl, hi, hiw, hid, rfl⟩
 have hacc : ((l.list.take i).foldl (fI w (d - 1)) []).length <= i := by
  have := xL w (d - 1) (l.list.take i) []
  simp only [List.length_nil, List.length_take] at this; omega
 have fin : (l.list.length <= i ∨ w <= i ∨ d = 0) -> Tr.of ((l.list.take i).foldl (fI w (d - 1)) []) = cC w d l := by
  intro h
  cases d with
  | zero =>
   have : i = 0 := by omega
   subst this
   rfl
  | succ d =>
   rw [ni, Nat.add_sub_cancel]
   have : l.list.take i = l.list.take w := by
    rcases Nat.lt_or_ge i w with h2 | h2
    ·rw [List.take_of_length_le (by omega), List.take_of_length_le (by omega)]
    ·rw [show i = w by omega]
   rw [this]
 refine cr (Lm ..) ?_
 conv => zeta
 refine ⟨fun h => ⟨fun h2 => ⟨fun h3 => ?_, fun h3 => ?_⟩, fun h2 => ?_⟩, fun h => ?_⟩
 ·simp only [decide_eq_true_eq, gt_iff_lt] at h h2 h3
  have hi' : i < l.list.length := by omega
  have w1 := dJ (i := i) (by omega)
  have w2 : IntKind.wrap .i64 ((d : Int) - 1) = ((d - 1 : Nat) : Int) := by rw [oY (by omega)]; omega
  obtain ⟨m1, m2, m3⟩ := t8 hl2 (List.getElem_mem hi')
  have hw5 : 0 <= wi (l.list[i].1.length : Int) 5 /\ wi (l.list[i].1.length : Int) 5 < 5 := nA (n := 5) (by omega) (by omega)
  refine ⟨by omega, _, _, row_get l hi', by decide, hw5, _, mK hw5, by simp, pd l.list[i].1, rfl, by omega, _, _, row_get l hi', ?_⟩
  rw [w2, aq, aq, aq, w1]
  simp only [Int.toNat_natCast, list_of]
  refine ⟨⟨_, rfl, m2, m3, trivial, by omega, by omega, hw⟩, ⟨_, _, rfl, rfl, by rw [list_of]; omega⟩, l.list.length - (i + 1), by omega, i + 1, ?_, by omega, by omega, .inr (by omega), rfl⟩
  rw [List.take_succ_eq_append_getElem hi', List.foldl_append]
  rfl
 ·simp only [decide_eq_false_iff_not, gt_iff_lt] at h3
  exact ⟨.auto, by rw [fin (.inr (.inr (by omega)))]⟩
 ·simp only [decide_eq_false_iff_not] at h2
  exact ⟨.auto, by rw [fin (.inr (.inl (by omega)))]⟩
 ·simp only [decide_eq_false_iff_not] at h
  exact ⟨.auto, by rw [fin (.inl (by omega))]⟩
theorem om {w d : Nat} (P : Edge -> Prop) : ∀ {l : List Edge} {acc : List Edge}, (∀ e ∈ acc, P e) -> (∀ e ∈ l, P (pd e.1, cC w d e.2)) -> ∀ e ∈ l.foldl (fI w d) acc, P e
 | [], acc, h, _ => h
 | a :: l, acc, h, hl => by
  rw [List.foldl_cons]
  refine om P (l := l) (acc := fI w d acc a) (fun e he => ?_) (fun e he => hl e (by simp [he]))
  rcases oy he with he | rfl
  ·exact h e he
  ·exact hl a (by simp)
theorem oT (w : Nat) : ∀ (d : Nat) (l : Tr), (cC w d l).nodes <= l.nodes
 | 0, l => by simp [cC, Tr.nodes]
 | d + 1, l => by
  have key : ∀ (m acc : List Edge), cQ (m.foldl (fI w d) acc) <= cQ acc + cQ m := by
   intro m
   induction m with
   | nil => intro acc; simp [cQ]
   | cons e m ih =>
    intro acc
    have h1 := ih (fI w d acc e)
    have h2 := oz acc (pd e.1) (cC w d e.2)
    have h3 := oT w d e.2
    have h4 : cQ (e :: m) = e.2.nodes + 1 + cQ m := by simp [cQ]
    simp only [List.foldl_cons]
    unfold fI at h1 ⊢
    omega
  rw [ni, ed]
  have h1 := key (l.list.take w) []
  have h2 : cQ l.list = cQ (l.list.take w) + cQ (l.list.drop w) := by rw [<- jf, List.take_append_drop]
  have h3 : l.nodes = cQ l.list := by rw [<- ed, of_list]
  have h4 : cQ ([] : List Edge) = 0 := rfl
  omega
theorem Ek (k : Int) : (zg k).length <= 1 := by
 unfold zg
 split
 ·simp
 ·split
  ·simp
  ·split
   ·simp
   ·split <;> simp
theorem s7 {w d : Nat} : ∀ {l acc : List Edge}, dI none acc -> dI none (l.foldl (fI w d) acc)
 | [], acc, h => h
 | e :: l, acc, h => s7 (l := l) (mg _ _ h rfl)
theorem oU (w : Nat) : ∀ (d : Nat) (l : Tr) (e : Int), e + d <= 13 -> (cC w d l).sound none e
 | 0, l, e, _ => trivial
 | d + 1, l, e, h => by
  rw [ni]
  refine ri (by omega) (s7 trivial) ?_
  exact om (fun e' => e'.1.length <= 80 /\ e'.2.sound none (e + 1)) (by simp) fun y hy => ⟨Nat.le_trans (Ek _) (by decide), oU w d y.2 (e + 1) (by omega)⟩
noncomputable def mM : List TV -> Option Alts
 | [.pv (.sl a), .pv (.int .i64 w), .pv (.int .i64 d)] => one (∃ l : Tr, a = l.rows /\ l.list.length <= 140737488351232 /\ l.lim 140737488351232 /\ (0 <= w /\ w <= 4000) /\ 0 <= d /\ d <= 4000) ([.own 2 (cC w.toNat d.toNat (aH a)).rows], [])
 | _ => none
theorem sZ : ∀ ag al, mM ag = some al -> ∀ a ∈ al, a.1 -> Ev C 9 ag a.2 := by
 intro ag al hl x hx hp
 unfold mM at hl
 split at hl
 ·rename_i a w d
  have e := aD hl hx; subst e
  obtain ⟨l, rfl, h1, h2, h3, h4⟩ := hp
  rw [aq]
  have := CI w.toNat (by omega) d.toNat l (by omega) h1 h2
  rwa [show ((w.toNat : Nat) : Int) = w by omega, show ((d.toNat : Nat) : Int) = d by omega] at this
 ·exact absurd hl (by simp)
theorem s9 (q : List (BS)) {i : Nat} (h : i < q.length) : (q.map ak)[((i : Int)).toNat]? = some [.str q[i]] := by
 rw [Int.toNat_natCast, List.getElem?_map, List.getElem?_eq_getElem h]; rfl
def wn (q : List (BS)) (i : Nat) : LP := ((q.take i).map pd).map ak
theorem sN {q : List (BS)} {i : Nat} (h : i < q.length) : wn q (i + 1) = wn q i ++ [[.str (pd q[i])]] := by
 unfold wn
 rw [List.take_succ_eq_append_getElem h, List.map_append, List.map_append]; rfl
theorem BX (q : List (BS)) (i : Nat) : (wn q i).length <= i := by
 unfold wn
 rw [List.length_map, List.length_map, List.length_take]; omega
theorem KB (b : Bool) (q : List (BS)) (hq : q.length <= 140737488351232) : Ev C 23 [.pv (.agg [.bool b, .sl (q.map ak)])] ([.pv (.agg [.bool b, .sl (fq (q.map ak))])], []) := by
 have hr := cz
 have hm := bN
 have hS : aK C wR := az (am (iH LF) ax)
 have hL : (q.map ak).length = q.length := List.length_map _
 have fin : ∀ i, (q.length <= i ∨ 6 <= i) -> i <= q.length -> i <= 6 -> wn q i = fq (q.map ak) := by
  intro i h h1 h2
  unfold wn fq
  rw [bF]
  have : q.take i = q.take 6 := by
   rcases Nat.lt_or_ge i 6 with h3 | h3
   ·rw [List.take_of_length_le (by omega), List.take_of_length_le (by omega)]
   ·rw [show i = 6 by omega]
  rw [this]
 refine bh hS (Mp ..) ?_
 refine aJ hS (by kernel_rfl) 1000 (fun k st => ∃ i : Nat, ((i = 0 /\ st = FF i b (q.map ak) b []) ∨ (1 <= i /\ st = FG i b (q.map ak) b [] (wn q i))) /\ i <= q.length /\ i <= 6 /\ k = 6 - i) ?_ (n := 6) ⟨0, .inl ⟨rfl, rfl⟩, by omega, by omega, rfl⟩
 rintro k st ⟨i, hst, hi, hi6, rfl⟩
 have five : ∀ h : i < q.length, 0 <= wi (q[i].length : Int) 5 /\ wi (q[i].length : Int) 5 < 5 := fun h => nA (n := 5) (by omega) (by omega)
 have hpl := BX q i
 rcases hst with ⟨h0, rfl⟩ | ⟨h1, rfl⟩
 ·subst h0
  refine cr (KC ..) ?_
  conv => zeta
  rw [hL]
  refine ⟨fun g => ⟨fun g6 => ?_, fun g6 => ?_⟩, fun g => ?_⟩
  ·simp only [decide_eq_true_eq] at g g6
   have hi' : 0 < q.length := by omega
   have hs := s9 q hi'
   have hp1 := sN hi'
   refine ⟨by omega, _, hs, by decide, five hi', _, mK (five hi'), by simp, pd q[0], rfl, 5, by omega, 1, .inr ⟨by omega, ?_⟩, by omega, by omega, rfl⟩
   rw [hp1, dJ (by omega)]; rfl
  ·simp only [decide_eq_false_iff_not] at g6; omega
  ·simp only [decide_eq_false_iff_not] at g
   have := fin 0 (.inl (by omega)) (by omega) (by omega)
   exact ⟨.auto, by rw [<- this]; rfl⟩
 ·refine cr (KD ..) ?_
  conv => zeta
  rw [hL]
  refine ⟨fun g => ⟨fun g6 => ?_, fun g6 => ?_⟩, fun g => ?_⟩
  ·simp only [decide_eq_true_eq] at g g6
   have hi' : i < q.length := by omega
   have hs := s9 q hi'
   have hp1 := sN hi'
   refine ⟨by omega, _, hs, by decide, five hi', _, mK (five hi'), by simp, pd q[i], rfl, ⟨by omega, by omega⟩, 6 - (i + 1), by omega, i + 1, .inr ⟨by omega, ?_⟩, by omega, by omega, rfl⟩
   rw [hp1, dJ (by omega)]; rfl
  ·simp only [decide_eq_false_iff_not] at g6
   exact ⟨.auto, by rw [fin i (.inr (by omega)) hi hi6]⟩
  ·simp only [decide_eq_false_iff_not] at g
   exact ⟨.auto, by rw [fin i (.inl (by omega)) hi hi6]⟩
noncomputable def G7 : List TV -> Option Alts
 | [.pv (.agg [.bool b, .sl l])] => one (∃ q : List (BS), l = q.map ak /\ q.length <= 140737488351232) ([.pv (.agg [.bool b, .sl (fq l)])], [])
 | _ => none
theorem KE : ∀ ag al, G7 ag = some al -> ∀ a ∈ al, a.1 -> Ev C 23 ag a.2 := by
 intro ag al hl x hx hp
 unfold G7 at hl
 split at hl
 ·have e := aD hl hx; subst e
  obtain ⟨q, rfl, h⟩ := hp
  exact KB _ q h
 ·exact absurd hl (by simp)
end Go.Proofs.YtcoikmicjbppmaaGreat.Vm
