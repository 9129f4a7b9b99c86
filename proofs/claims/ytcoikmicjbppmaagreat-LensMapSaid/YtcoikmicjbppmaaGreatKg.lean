/-
  The law LensMap: a part of its proof; no conditions.
-/
import Derived.Test.YtcoikmicjbppmaaGreatKf
import Derived.Test.YtcoikmicjbppmaaGreatKd
namespace Go.Proofs.YtcoikmicjbppmaaGreat.Vm
open Go Go.RowKit
set_option linter.unusedVariables false
set_option linter.unusedSimpArgs false
set_option maxRecDepth 100000
structure RD where
 o : Int
 a : Int
 b : Int
 n : Bool
 nl : List (BS)
 m : Bool
 ml : List (BS)
 t : Tr
inductive Rs where
 | nil
 | cons (d : RD) (k r : Rs)
def RD.row (d : RD) (k : LP) : List PV := [.int .i64 d.o, .int .i64 d.a, .int .i64 d.b, .bool d.n, .sl (d.nl.map ak), .bool d.m, .sl (d.ml.map ak), .sl d.t.rows, .sl k]
def Rs.rows : Rs -> LP
 | .nil => []
 | .cons d k r => d.row k.rows :: r.rows
def Rs.len : Rs -> Nat
 | .nil => 0
 | .cons _ _ r => r.len + 1
def Rs.nodes : Rs -> Nat
 | .nil => 0
 | .cons _ k r => k.nodes + r.nodes + 1
def Rs.lim : Rs -> Prop
 | .nil => True
 | .cons d k r => (d.nl.length <= 140737488351232 /\ d.ml.length <= 140737488351232 /\ d.t.list.length <= 140737488351232 /\ d.t.lim 140737488351232 /\ k.len <= 140737488351232) /\ k.lim /\ r.lim
def un (N : Nat) (row : List PV) : Prop := ∃ (d : RD) (k : Rs), row = d.row k.rows /\ (Rs.cons d k .nil).nodes < N /\ (Rs.cons d k .nil).lim
def DM (row : List PV) (mo n : Int) : Prop := Ev C 18 [.pv (.agg row), .pv (.int .i64 mo)] ([.pv (.int .i64 n)], []) /\ ∀ (d : RD) (k : Rs), row = d.row k.rows -> 1 <= n /\ (n <= 1 ∨ n <= mo) /\ (n < mo -> n = (Rs.cons d k .nil).nodes)
noncomputable def rB (row : List PV) (mo : Int) : Int := @dite _ (∃ n : Int, DM row mo n) (Classical.propDecidable _) (fun h => h.choose) (fun _ => 0)
def Rs.few : Rs -> Prop
 | .nil => True
 | .cons d k r => (d.t.nodes < 200 /\ d.nl.length <= 25 /\ d.ml.length <= 25) /\ k.few /\ r.few
def x7 (row : List PV) (b : Bool) : Prop := Ev C 19 [.pv (.agg row)] ([.pv (.bool b)], []) /\ (b = true -> ∀ (d : RD) (k : Rs), row = d.row k.rows -> (Rs.cons d k .nil).few)
noncomputable def vp (row : List PV) : Bool := @dite _ (∃ b : Bool, x7 row b) (Classical.propDecidable _) (fun h => h.choose) (fun _ => false)
def wx (row : List PV) : Prop := ∃ (d : RD) (r : Rs), row = d.row r.rows /\ (Rs.cons d r .nil).nodes < 1000 /\ (Rs.cons d r .nil).few /\ (Rs.cons d r .nil).lim
def KF (row : List PV) (dp : Int) (x : LD × Ls) : Prop := Ev C 7 [.pv (.agg row), .pv (.int .i64 dp)] ([.pv (.agg (x.1.row x.2.rows))], []) /\ ((Ls.cons x.1 x.2 .nil).deep : Int) <= 1 + (if 0 <= dp then dp else 0) /\ (Ls.cons x.1 x.2 .nil).fine /\ x.2.len <= 10
noncomputable def nH (row : List PV) (dp : Int) : LD × Ls := @dite _ (∃ x, KF row dp x) (Classical.propDecidable _) (fun h => h.choose) (fun _ => (⟨0, [], [], false, [], false, [], .nil, .nil⟩, .nil))
noncomputable def fj (l : LP) (i : Int) : RD × Rs := @dite _ (∃ x : RD × Rs, 0 <= i /\ l[i.toNat]? = some (x.1.row x.2.rows)) (Classical.propDecidable _) (fun h => h.choose) (fun _ => (⟨0, 0, 0, false, [], false, [], .nil⟩, .nil))
noncomputable def Fy (N : Nat) : List TV -> Option Alts
 | [.pv (.agg [.int .i64 o, .int .i64 a, .int .i64 b, .bool n, .sl nl, .bool m, .sl ml, .sl t, .sl k]), .pv (.int .i64 mo)] => one (un N [.int .i64 o, .int .i64 a, .int .i64 b, .bool n, .sl nl, .bool m, .sl ml, .sl t, .sl k] /\ mo <= 4000) ([.pv (.int .i64 (rB [.int .i64 o, .int .i64 a, .int .i64 b, .bool n, .sl nl, .bool m, .sl ml, .sl t, .sl k] mo))], [])
 | _ => none
noncomputable def uQ (N : Nat) : Specs := aZ [(18, Fy N)]
theorem Jy (k : Nat) (i a b : Int) (g : Bool) (h : LP) (d : Bool) (e j c : LP) (f : Int) (Q : QT) : (bq C (uQ k) 18 [.pv (.agg [.int .i64 i, .int .i64 a, .int .i64 b, .bool g, .sl h, .bool d, .sl e, .sl j, .sl c]), .pv (.int .i64 f)] Q) (H.auto) = (bd C 18 (d0 (u1 (d0 (u2 CP.top)))) (St.mk [(1, aI f), (2, AV.addr 4 0 0), (5, aI 1), (6, aI 0)] [(4, Obj.box [aI i, aI a, aI b, aB g, aS h, aB d, aS e, aS j, aS c])]) (cA (au 0 (aQ (bA C (uQ k) 18 99997 (u3 CP.top)) (aU C 18 [TV.pv (PV.agg (r9 i a b g h d e j c)), tI f] Q))))) := by kernel_rfl
def Ao : CP := (d0 (u1 (d0 (u2 CP.top))))
def Ap (j k l a b c : Int) (d : Bool) (e : LP) (f : Bool) (g h i : LP) : St := (St.mk [(1, aI j), (2, AV.addr 4 0 0), (5, aI k), (6, aI l)] [(4, Obj.box [aI a, aI b, aI c, aB d, aS e, aB f, aS g, aS h, aS i])])
theorem GF (e : Nat) (y r f : Int) (g : Bool) (x : LP) (u : Bool) (v z t : LP) (w b a c j k l : Int) (m : Bool) (n : LP) (o : Bool) (p q d : LP)  (J0 : St -> Prop) (Q : QT) : (bA C (uQ e) 18 1000 (Ao.dn 0) (Ap b a c j k l m n o p q d) (bO C 18 Ao J0 (cA (au 0 (aQ (bA C (uQ e) 18 99997 (u3 CP.top)) (aU C 18 [TV.pv (PV.agg (r9 y r f g x u v z t)), tI w] Q)))))) (H.b (H.n 3 (H.b (H.s (H.s H.auto)) H.auto)) H.auto) = ((decide (c < (↑(List.length d) : Int)) = true -> (decide (a < b) = true -> (0 : Int) <= c /\ ∃ (g n_1 n_2 : Int) (f : Bool) (es : LP) (b_1 : Bool) (es_1 es_2 es_3 : LP), let i := r9 g n_1 n_2 f es b_1 es_1 es_2 es_3; d[Int.toNat c]? = some i /\ (un e i /\ IntKind.wrap .i64 (b - a) <= (4000 : Int)) /\ J0 (St.mk [(1, aI b), (2, AV.addr 4 0 0), (5, aI (IntKind.wrap .i64 (a + rB i (IntKind.wrap .i64 (b - a))))), (6, aI (IntKind.wrap .i64 (c + 1)))] [(4, Obj.box [aI j, aI k, aI l, aB m, aS n, aB o, aS p, aS q, aS d])])) /\ (decide (a < b) = false -> ∃ (h : H), Q ([tI a], []))) /\ (decide (c < (↑(List.length d) : Int)) = false -> ∃ (h : H), Q ([tI a], []))) := by kernel_rfl
def G1 : List TV -> Option Alts
 | [.pv (.agg [.bool b, .sl l])] => one True ([.pv (.bool (decide ((l.length : Int) <= 25)))], [])
 | _ => none
noncomputable def vz (N : Nat) : List TV -> Option Alts
 | [.pv (.agg [.int .i64 o, .int .i64 a, .int .i64 b, .bool n, .sl nl, .bool m, .sl ml, .sl t, .sl k])] => one (un N [.int .i64 o, .int .i64 a, .int .i64 b, .bool n, .sl nl, .bool m, .sl ml, .sl t, .sl k] /\ N <= 4000000) ([.pv (.bool (vp [.int .i64 o, .int .i64 a, .int .i64 b, .bool n, .sl nl, .bool m, .sl ml, .sl t, .sl k]))], [])
 | _ => none
noncomputable def pL (N : Nat) : Specs := aZ [(6, x9), (35, G1), (19, vz N)]
theorem J6 (j : Nat) (h a b : Int) (f : Bool) (g : LP) (d : Bool) (e i c : LP) (Q : QT) : (bq C (pL j) 19 [.pv (.agg [.int .i64 h, .int .i64 a, .int .i64 b, .bool f, .sl g, .bool d, .sl e, .sl i, .sl c])] Q) (H.auto) = (bd C 19 (d0 (u1 (d0 (u1 CP.top)))) (St.mk [(1, AV.addr 2 0 0), (3, aI 0)] [(2, Obj.box [aI h, aI a, aI b, aB f, aS g, aB d, aS e, aS i, aS c])]) (cA (au 0 (aQ (bA C (pL j) 19 99998 (u2 CP.top)) (aU C 19 [TV.pv (PV.agg (r9 h a b f g d e i c))] Q))))) := by kernel_rfl
def AD : CP := (d0 (u1 (d0 (u1 CP.top))))
def AE (j a b c : Int) (d : Bool) (e : LP) (f : Bool) (g h i : LP) : St := (St.mk [(1, AV.addr 2 0 0), (3, aI j)] [(2, Obj.box [aI a, aI b, aI c, aB d, aS e, aB f, aS g, aS h, aS i])])
theorem GR (c : Nat) (w q d : Int) (e : Bool) (v : LP) (t : Bool) (u x r : LP) (a g i j : Int) (k : Bool) (l : LP) (m : Bool) (n o b : LP)  (J0 : St -> Prop) (Q : QT) : (bA C (pL c) 19 1000 (AD.dn 0) (AE a g i j k l m n o b) (bO C 19 AD J0 (cA (au 0 (aQ (bA C (pL c) 19 99998 (u2 CP.top)) (aU C 19 [TV.pv (PV.agg (r9 w q d e v t u x r))] Q)))))) (H.b (H.s (H.s (H.b H.auto H.auto))) H.auto) = (let p := List.length b; (decide (a < (↑p : Int)) = true -> (0 : Int) <= a /\ ∃ (e n_1 n_2 : Int) (d : Bool) (es : LP) (b_1 : Bool) (es_1 es_2 es_3 : LP), let f := r9 e n_1 n_2 d es b_1 es_1 es_2 es_3; b[Int.toNat a]? = some f /\ (un c f /\ c <= 4000000) /\ ((!vp f) = true -> ∃ (h : H), Q ([tB false], [])) /\ ((!vp f) = false -> J0 (St.mk [(1, AV.addr 2 0 0), (3, aI (IntKind.wrap .i64 (a + 1)))] [(2, Obj.box [aI g, aI i, aI j, aB k, aS l, aB m, aS n, aS o, aS b])]))) /\ (decide (a < (↑p : Int)) = false -> cA (au 0 (aQ (bA C (pL c) 19 99998 (u2 CP.top)) (aU C 19 [TV.pv (PV.agg (r9 w q d e v t u x r))] Q))) (Ex.exit 0) (St.mk [(8, aB false), (7, aI (↑p : Int)), (6, aS b), (5, AV.addr 2 0 8), (4, aI a), (1, AV.addr 2 0 0), (3, aI a)] [(2, Obj.box [aI g, aI i, aI j, aB k, aS l, aB m, aS n, aS o, aS b])]))) := by kernel_rfl
def GT (m : Int) (l : LP) (k j a b c : Int) (d : Bool) (e : LP) (f : Bool) (g h i : LP) : St := (St.mk [(8, aB false), (7, aI m), (6, aS l), (5, AV.addr 2 0 8), (4, aI k), (1, AV.addr 2 0 0), (3, aI j)] [(2, Obj.box [aI a, aI b, aI c, aB d, aS e, aB f, aS g, aS h, aS i])])
theorem GU (e : Nat) (n f g : Int) (l : Bool) (m : LP) (j : Bool) (k u i : LP) (y : Int) (x : LP) (w v o p q : Int) (r : Bool) (c : LP) (s : Bool) (d a t : LP)  (Q : QT) : (fun h => au 0 (aQ (bA C (pL e) 19 99998 (u2 CP.top)) (aU C 19 [TV.pv (PV.agg (r9 n f g l m j k u i))] Q)) h (Ex.exit 0) (GT y x w v o p q r c s d a t)) (H.b (H.n 3 (H.b H.auto H.auto)) H.auto) = ((∃ (b : Tr), a = Tr.rows b /\ List.length (Tr.list b) <= 140737488351232 /\ Tr.lim 140737488351232 b) /\ (tG a = true -> True /\ (decide ((↑(List.length c) : Int) <= (25 : Int)) = true -> True /\ Q ([tB (decide ((↑(List.length d) : Int) <= (25 : Int)))], [])) /\ (decide ((↑(List.length c) : Int) <= (25 : Int)) = false -> Q ([tB false], []))) /\ (tG a = false -> Q ([tB false], []))) := by kernel_rfl
theorem LE (c a : Int) (Q : QT) : (bq C cd 21 [.pv (.int .i64 c), .pv (.int .i64 a)] Q) (H.s (H.b H.auto H.auto)) = (¬a = (0 : Int) /\ (decide (Int.tmod c a <  0) = true -> Q ([tI (IntKind.wrap .i64 (Int.tmod c a + a))], [])) /\ (decide (Int.tmod c a <  0) = false -> Q ([tI (Int.tmod c a)], []))) := by kernel_rfl
noncomputable def Gf : Specs := aZ [(21, iZ)]
theorem KJ (a : Int) (Q : QT) : (bq C Gf 22 [.pv (.int .i64 a)] Q) (H.s (H.s H.auto)) = (¬(5 : Int) = (0 : Int) /\ ((0 : Int) <= wi a (5 : Int) /\ wi a (5 : Int) <  5) /\ ∃ (b : List PV), [[pT []], [pT [(97 : UInt8)]], [pT [(98 : UInt8)]], [pT [(99 : UInt8)]], [pT [(100 : UInt8)]]][Int.toNat (wi a (5 : Int))]? = some b /\ 1 <= List.length b /\ ∃ (c : BS), List.take 1 b = [pT c] /\ Q ([tT c], [])) := by kernel_rfl
theorem Ko (c : LP) (a : Int) (Q : QT) : (bq C cd 24 [.pv (.sl c), .pv (.int .i64 a)] Q) (H.b (H.s (H.s H.auto)) H.auto) = ((decide (a < (↑(List.length c) : Int)) = true -> (0 : Int) <= a /\ ∃ (n n_1 n_2 : Int) (b : Bool) (es : LP) (b_1 : Bool) (es_1 es_2 es_3 : LP), let d := r9 n n_1 n_2 b es b_1 es_1 es_2 es_3; c[Int.toNat a]? = some d /\ Q ([TV.pv (PV.agg d)], [])) /\ (decide (a < (↑(List.length c) : Int)) = false -> Q ([TV.pv (PV.agg (r9 0 0 0 false [] false [] [] []))], []))) := by kernel_rfl
theorem L8 (b : Bool) (a : LP) (Q : QT) : (bq C cd 35 [.pv (.agg [.bool b, .sl a])] Q) (H.auto) = (Q ([tB (decide ((↑(List.length a) : Int) <= (25 : Int)))], [])) := by kernel_rfl
noncomputable def xb : List TV -> Option Alts
 | [.pv (.agg [.int .i64 o, .int .i64 a, .int .i64 b, .bool n, .sl nl, .bool m, .sl ml, .sl t, .sl k]), .pv (.int .i64 mo)] => one ((∃ N, un N [.int .i64 o, .int .i64 a, .int .i64 b, .bool n, .sl nl, .bool m, .sl ml, .sl t, .sl k]) /\ mo <= 4000) ([.pv (.int .i64 (rB [.int .i64 o, .int .i64 a, .int .i64 b, .bool n, .sl nl, .bool m, .sl ml, .sl t, .sl k] mo))], [])
 | _ => none
noncomputable def LS : Specs := aZ [(18, xb), (19, vz 100)]
theorem JT (h a b : Int) (f : Bool) (g : LP) (d : Bool) (e i c : LP) (Q : QT) : (bq C LS 5 [.pv (.agg [.int .i64 h, .int .i64 a, .int .i64 b, .bool f, .sl g, .bool d, .sl e, .sl i, .sl c])] Q) (H.b H.auto H.auto) = (((∃ (j : Nat), un j [pI h, pI a, pI b, pB f, pS g, pB d, pS e, pS i, pS c]) /\ (60 : Int) <= (4000 : Int)) /\ (decide (rB [pI h, pI a, pI b, pB f, pS g, pB d, pS e, pS i, pS c] (60 : Int) <  60) = true -> (un 100 [pI h, pI a, pI b, pB f, pS g, pB d, pS e, pS i, pS c] /\ 100 <= 4000000) /\ Q ([tB (vp [pI h, pI a, pI b, pB f, pS g, pB d, pS e, pS i, pS c])], [])) /\ (decide (rB [pI h, pI a, pI b, pB f, pS g, pB d, pS e, pS i, pS c] (60 : Int) <  60) = false -> Q ([tB false], []))) := by kernel_rfl
def AZ : List TV -> Option Alts
 | [.pv (.int .i64 n)] => one True ([.pv (.str (zg (wi n 5)))], [])
 | _ => none
noncomputable def AW : List TV -> Option Alts
 | [.pv (.sl l), .pv (.int .i64 i)] => one (0 <= i /\ ∃ r : Rs, l = r.rows /\ r.len <= 4000000) ([.pv (.agg ((fj l i).1.row (fj l i).2.rows))], [])
 | _ => none
noncomputable def J7 (N : Int) : List TV -> Option Alts
 | [.pv (.agg [.int .i64 o, .int .i64 a, .int .i64 b, .bool n, .sl nl, .bool m, .sl ml, .sl t, .sl k]), .pv (.int .i64 dp)] => one (wx [.int .i64 o, .int .i64 a, .int .i64 b, .bool n, .sl nl, .bool m, .sl ml, .sl t, .sl k] /\ -10 <= dp /\ dp < N) ([.pv (.agg ((nH [.int .i64 o, .int .i64 a, .int .i64 b, .bool n, .sl nl, .bool m, .sl ml, .sl t, .sl k] dp).1.row (nH [.int .i64 o, .int .i64 a, .int .i64 b, .bool n, .sl nl, .bool m, .sl ml, .sl t, .sl k] dp).2.rows))], [])
 | _ => none
noncomputable def zN (N : Int) : Specs := aZ [(21, iZ), (22, AZ), (23, G7), (9, mM), (24, AW), (7, J7 N)]
theorem Mq (v w n s : Int) (d : Bool) (b : LP) (g : Bool) (e p c : LP) (f : Int) (Q : QT) : (bq C (zN v) 7 [.pv (.agg [.int .i64 w, .int .i64 n, .int .i64 s, .bool d, .sl b, .bool g, .sl e, .sl p, .sl c]), .pv (.int .i64 f)] Q) (H.b (H.n 3 (H.b H.auto (H.b H.auto (H.b (H.b H.auto H.auto) (H.b H.auto (H.b (H.b H.auto H.auto) (H.b H.auto H.auto))))))) (H.n 4 (H.b H.auto (H.b (H.b H.auto H.auto) (H.b H.auto (H.b (H.b H.auto H.auto) (H.b H.auto H.auto))))))) = (let j := Prod.fst (fj c (0 : Int)); let A := r9 (RD.o j) (RD.a j) (RD.b j) (RD.n j) (List.map ak (RD.nl j)) (RD.m j) (List.map ak (RD.ml j)) (Tr.rows (RD.t j)) (Rs.rows (Prod.snd (fj c (0 : Int)))); let k := Prod.fst (fj c (1 : Int)); let B := r9 (RD.o k) (RD.a k) (RD.b k) (RD.n k) (List.map ak (RD.nl k)) (RD.m k) (List.map ak (RD.ml k)) (Tr.rows (RD.t k)) (Rs.rows (Prod.snd (fj c (1 : Int)))); let x := IntKind.wrap .i64 (f - 1); let i := Prod.fst (nH A x); let y := bU (LD.o i) (LD.a i) (LD.b i) (LD.n i) (List.map ak (LD.nl i)) (LD.m i) (List.map ak (LD.ml i)) (Tr.rows (LD.t i)) (Tr.rows (LD.u i)) (Ls.rows (Prod.snd (nH A x))); let z := wx A /\ (-10 : Int) <= IntKind.wrap .i64 (f - 1) /\ IntKind.wrap .i64 (f - 1) < v; let h := Prod.fst (nH B x); let D := bU (LD.o h) (LD.a h) (LD.b h) (LD.n h) (List.map ak (LD.nl h)) (LD.m h) (List.map ak (LD.ml h)) (Tr.rows (LD.t h)) (Tr.rows (LD.u h)) (Ls.rows (Prod.snd (nH B x))); let l := zg (wi n (5 : Int)); let q := zg (wi s (5 : Int)); let m := (1 : Int) + wi w (9 : Int); let r := IntKind.wrap .i64 m; let E := wx B /\ (-10 : Int) <= IntKind.wrap .i64 (f - 1) /\ IntKind.wrap .i64 (f - 1) < v; let G := PV.agg (bU r l q d (fq b) g (fq e) [] [] []); let I := zg (wi n (5 : Int)) == zg (wi s (5 : Int)); let J := IntKind.wrap .i64 m == 2; let K := IntKind.wrap .i64 m == 3; let L := IntKind.wrap .i64 m == 8; let M := IntKind.wrap .i64 m == 7; let N := IntKind.wrap .i64 m == 9; let O := J = false -> (K = true -> (I = true -> Q ([TV.pv (PV.agg (bU r l [(113 : UInt8)] d (fq b) g (fq e) [] [] []))], [])) /\ (I = false -> Q ([TV.pv G], []))) /\ (K = false -> (L = true -> z /\ Q ([TV.pv (PV.agg (bU r l q d (fq b) g (fq e) [] [] [y]))], [])) /\ (L = false -> (M = true -> ¬(3 : Int) = (0 : Int) /\ (decide (wi n (3 : Int) >  0) = true -> z /\ ((0 : Int) <= (1 : Int) /\ ∃ (a : Rs), c = Rs.rows a /\ Rs.len a <= 4000000) /\ E /\ Q ([TV.pv (PV.agg (bU r l q d (fq b) d (fq b) [] [] [y, D]))], [])) /\ (decide (wi n (3 : Int) >  0) = false -> z /\ ((0 : Int) <= (1 : Int) /\ ∃ (a : Rs), c = Rs.rows a /\ Rs.len a <= 4000000) /\ E /\ Q ([TV.pv (PV.agg (bU r l q d (fq b) g (fq e) [] [] [y, D]))], []))) /\ (M = false -> (N = true -> z /\ bd C 7 (d0 (u2 (d0 (u9 (d0 (u1 (d0 (u4 CP.top)))))))) (St.mk [(1, aI f), (2, AV.addr 4 0 0), (4, AV.addr 8 0 0), (5, AV.addr 10 0 0), (7, aI 1)] [(4, Obj.box [aI w, aI n, aI s, aB d, aS b, aB g, aS e, aS p, aS c]), (8, Obj.box [aI 0, aT [], aT [], aB false, AV.own 18008, aB false, AV.own 18012, AV.own 18014, AV.own 18016, AV.own 18018]), (10, Obj.box [aI r, aT l, aT q, aB d, aS (fq b), aB g, aS (fq e), AV.nilSl, AV.nilSl, AV.own 22018]), (18008, Obj.buf 1 []), (18012, Obj.buf 1 []), (18014, Obj.buf 2 []), (18016, Obj.buf 2 []), (18018, Obj.buf 10 []), (22018, Obj.buf 10 [y])]) (cA (au 1 (au 0 (aQ (bA C (zN v) 7 99995 (u5 CP.top)) (aU C 7 [TV.pv (PV.agg (r9 w n s d b g e p c)), tI f] Q)))))) /\ (N = false -> Q ([TV.pv G], []))))); let P := J = true -> (∃ (o : Tr), p = Tr.rows o /\ List.length (Tr.list o) <= 140737488351232 /\ Tr.lim 140737488351232 o /\ ((0 : Int) <= (3 : Int) /\ (3 : Int) <= (4000 : Int)) /\ (0 : Int) <= (2 : Int) /\ (2 : Int) <= (4000 : Int)) /\ (∃ (o : Tr), p = Tr.rows o /\ List.length (Tr.list o) <= 140737488351232 /\ Tr.lim 140737488351232 o /\ ((0 : Int) <= (2 : Int) /\ (2 : Int) <= (4000 : Int)) /\ (0 : Int) <= (3 : Int) /\ (3 : Int) <= (4000 : Int)) /\ Q ([TV.pv (PV.agg (bU r l q d (fq b) g (fq e) (Tr.rows (cC 3 2 (aH p))) (Tr.rows (cC 2 3 (aH p))) []))], []); ¬(9 : Int) = (0 : Int) /\ True /\ True /\ (∃ (t : List (BS)), b = List.map ak t /\ List.length t <= 140737488351232) /\ (∃ (t : List (BS)), e = List.map ak t /\ List.length t <= 140737488351232) /\ (decide (f <= (0 : Int)) = true -> (decide (IntKind.wrap .i64 m ≥ (7 : Int)) = true -> ((0 : Int) <= (0 : Int) /\ ∃ (a : Rs), c = Rs.rows a /\ Rs.len a <= 4000000) /\ Q ([TV.pv (PV.agg (bU 1 l q d (fq b) g (fq e) [] [] []))], [])) /\ (decide (IntKind.wrap .i64 m ≥ (7 : Int)) = false -> ((0 : Int) <= (0 : Int) /\ ∃ (a : Rs), c = Rs.rows a /\ Rs.len a <= 4000000) /\ P /\ O)) /\ (decide (f <= (0 : Int)) = false -> ((0 : Int) <= (0 : Int) /\ ∃ (a : Rs), c = Rs.rows a /\ Rs.len a <= 4000000) /\ P /\ O)) := by kernel_rfl
def FH : CP := (d0 (u2 (d0 (u9 (d0 (u1 (d0 (u4 CP.top))))))))
def FI (z A n o p : Int) (q : Bool) (r : LP) (s : Bool) (t u v : LP) (w : Int) (x y : BS) (a : Int) (b c : BS) (d : Bool) (e : LP) (f : Bool) (g h i j k l m : LP) : St := (St.mk [(1, aI z), (2, AV.addr 4 0 0), (4, AV.addr 8 0 0), (5, AV.addr 10 0 0), (7, aI A)] [(4, Obj.box [aI n, aI o, aI p, aB q, aS r, aB s, aS t, aS u, aS v]), (8, Obj.box [aI w, aT x, aT y, aB false, AV.own 18008, aB false, AV.own 18012, AV.own 18014, AV.own 18016, AV.own 18018]), (10, Obj.box [aI a, aT b, aT c, aB d, aS e, aB f, aS g, AV.nilSl, AV.nilSl, AV.own 22018]), (18008, Obj.buf 1 h), (18012, Obj.buf 1 i), (18014, Obj.buf 2 j), (18016, Obj.buf 2 k), (18018, Obj.buf 10 l), (22018, Obj.buf 10 m)])
theorem KG (g W O i : Int) (j : Bool) (V : LP) (T : Bool) (U X R : LP) (P e b y z A : Int) (B : Bool) (D : LP) (E : Bool) (G I d : LP) (J : Int) (K L : BS) (k : Int) (l m : BS) (n : Bool) (o : LP) (p : Bool) (q r t v w x c : LP) (J0 : St -> Prop) (Q : QT) : (bA C (zN g) 7 1000 (FH.dn 0) (FI e b y z A B D E G I d J K L k l m n o p q r t v w x c) (bO C 7 FH J0 (cA (au 1 (au 0 (aQ (bA C (zN g) 7 99995 (u5 CP.top)) (aU C 7 [TV.pv (PV.agg (r9 W O i j V T U X R)), tI P] Q))))))) (H.b (H.n 2 (H.b (H.s (H.s (H.s H.auto))) H.auto)) H.auto) = (let M := IntKind.wrap .i64 (e - 1); let N := PV.agg (bU k l m n o p q [] [] c); (decide (b < (↑(List.length d) : Int)) = true -> (decide (b <  3) = true -> (0 : Int) <= b /\ ∃ (j n_1 n_2 : Int) (i : Bool) (es : LP) (b_1 : Bool) (es_1 es_2 es_3 : LP), let f := r9 j n_1 n_2 i es b_1 es_1 es_2 es_3; let a := Prod.fst (nH f M); d[Int.toNat b]? = some f /\ (wx f /\ (-10 : Int) <= IntKind.wrap .i64 (e - 1) /\ IntKind.wrap .i64 (e - 1) < g) /\ ((List.length c + 1) * 176 <= du /\ List.length c + 1 <= bz) /\ J0 (St.mk [(1, aI e), (2, AV.addr 4 0 0), (4, AV.addr 8 0 0), (5, AV.addr 10 0 0), (7, aI (IntKind.wrap .i64 (b + 1)))] [(4, Obj.box [aI y, aI z, aI A, aB B, aS D, aB E, aS G, aS I, aS d]), (8, Obj.box [aI J, aT K, aT L, aB false, AV.own 18008, aB false, AV.own 18012, AV.own 18014, AV.own 18016, AV.own 18018]), (10, Obj.box [aI k, aT l, aT m, aB n, aS o, aB p, aS q, AV.nilSl, AV.nilSl, AV.own 22018]), (18008, Obj.buf 1 r), (18012, Obj.buf 1 t), (18014, Obj.buf 2 v), (18016, Obj.buf 2 w), (18018, Obj.buf 10 x), (22018, Obj.buf 10 (c ++ [(bU (LD.o a) (LD.a a) (LD.b a) (LD.n a) (List.map ak (LD.nl a)) (LD.m a) (List.map ak (LD.ml a)) (Tr.rows (LD.t a)) (Tr.rows (LD.u a)) (Ls.rows (Prod.snd (nH f M))))]))])) /\ (decide (b <  3) = false -> ∃ (h : H), Q ([TV.pv N], []))) /\ (decide (b < (↑(List.length d) : Int)) = false -> ∃ (h : H), Q ([TV.pv N], []))) := by kernel_rfl
theorem RD.row_inj {p q : RD} {k l : LP} (h : p.row k = q.row l) : p = q /\ k = l := by
 obtain ⟨o, a, b, n, nl, m, ml, t⟩ := p
 obtain ⟨o', a', b', n', nl', m', ml', t'⟩ := q
 simp only [RD.row, List.cons.injEq, PV.int.injEq, PV.bool.injEq, PV.sl.injEq, and_true, true_and] at h
 obtain ⟨h1, h2, h3, h4, h5, h6, h7, h8, h10⟩ := h
 have h5 := np h5
 have h7 := np h7
 have h8 := rows_inj h8
 subst h1 h2 h3 h4 h5 h6 h7 h8
 exact ⟨rfl, h10⟩
theorem Rs.rows_inj : ∀ {l m : Rs}, l.rows = m.rows -> l = m
 | .nil, .nil, _ => rfl
 | .nil, .cons _ _ _, h => by simp [Rs.rows] at h
 | .cons _ _ _, .nil, h => by simp [Rs.rows] at h
 | .cons p k r, .cons p' k' r', h => by
  simp only [Rs.rows, List.cons.injEq] at h
  obtain ⟨h1, h2⟩ := h
  obtain ⟨h3, h4⟩ := RD.row_inj h1
  rw [h3, Rs.rows_inj h4, Rs.rows_inj h2]
def Rs.list : Rs -> List (RD × Rs)
 | .nil => []
 | .cons p k r => (p, k) :: r.list
def Rs.of : List (RD × Rs) -> Rs
 | [] => .nil
 | (p, k) :: r => .cons p k (Rs.of r)
theorem Rs.of_list : ∀ l : Rs, Rs.of l.list = l
 | .nil => rfl
 | .cons p k r => by simp [Rs.list, Rs.of, Rs.of_list r]
theorem Rs.rows_list : ∀ l : Rs, l.rows = l.list.map fun e => e.1.row e.2.rows
 | .nil => rfl
 | .cons p k r => by simp [Rs.rows, Rs.list, Rs.rows_list r]
theorem Rs.len_list : ∀ l : Rs, l.list.length = l.len
 | .nil => rfl
 | .cons p k r => by simp [Rs.list, Rs.len, Rs.len_list r]
theorem Rs.rows_len (l : Rs) : l.rows.length = l.len := by rw [Rs.rows_list, List.length_map, Rs.len_list]
theorem Rs.row_get (l : Rs) {i : Nat} (h : i < l.list.length) : l.rows[Int.toNat (i : Int)]? = some (l.list[i].1.row l.list[i].2.rows) := by
 rw [Int.toNat_natCast, Rs.rows_list, List.getElem?_map, List.getElem?_eq_getElem h]; rfl
theorem Rs.nodes_of : ∀ l : List (RD × Rs), ∀ e : RD × Rs, (Rs.of (e :: l)).nodes = e.2.nodes + (Rs.of l).nodes + 1 := fun l e => rfl
theorem Rs.mem_nodes : ∀ {l : Rs} {e : RD × Rs}, e ∈ l.list -> (Rs.cons e.1 e.2 .nil).nodes <= l.nodes
 | .nil, e, h => by simp [Rs.list] at h
 | .cons p k r, e, h => by
  simp only [Rs.list, List.mem_cons] at h
  simp only [Rs.nodes]
  rcases h with rfl | h
  ·simp only; omega
  ·have := Rs.mem_nodes h
   simp only [Rs.nodes] at this; omega
theorem Rs.mem_lim : ∀ {l : Rs} {e : RD × Rs}, l.lim -> e ∈ l.list -> (Rs.cons e.1 e.2 .nil).lim
 | .nil, e, _, h => by simp [Rs.list] at h
 | .cons p k r, e, ho, h => by
  simp only [Rs.list, List.mem_cons] at h
  rcases h with rfl | h
  ·exact ⟨ho.1, ho.2.1, trivial⟩
  ·exact Rs.mem_lim ho.2.2 h
theorem Rs.few_of : ∀ {l : Rs}, (∀ e ∈ l.list, (Rs.cons e.1 e.2 .nil).few) -> l.few
 | .nil, _ => trivial
 | .cons p k r, h => ⟨(h (p, k) (by simp [Rs.list])).1, (h (p, k) (by simp [Rs.list])).2.1, Rs.few_of fun e he => h e (by simp [Rs.list, he])⟩
theorem kR {row : List PV} {mo : Int} (h : ∃ n : Int, DM row mo n) : DM row mo (rB row mo) := by
 unfold rB
 rw [dif_pos h]
 exact h.choose_spec
theorem kV {row : List PV} (h : ∃ b : Bool, x7 row b) : x7 row (vp row) := by
 unfold vp
 rw [dif_pos h]
 exact h.choose_spec
theorem tC : ∀ (N : Nat) (d : RD) (k : Rs) (mo : Int), (Rs.cons d k .nil).nodes < N -> (Rs.cons d k .nil).lim -> mo <= 4000 -> ∃ n : Int, DM (d.row k.rows) mo n
 | 0, d, k, mo, h, _, _ => by omega
 | N + 1, d, k, mo, h, hlim, hmo => by
  have hS : aK C (uQ N) := az (am (by
   intro ag al hl x hx hp
   unfold Fy at hl
   split at hl
   ·have e := aD hl hx; subst e
    obtain ⟨⟨d', k', er, h1, h2⟩, h3⟩ := hp
    rw [er]
    exact (kR (tC N d' k' _ h1 h2 h3)).1
   ·exact absurd hl (by simp)) ax)
  obtain ⟨⟨_, _, _, _, l5⟩, l6, _⟩ := hlim
  have hln := Rs.len_list k
  have hrl := Rs.rows_len k
  have hnod : (Rs.cons d k .nil).nodes = k.nodes + 1 := by simp [Rs.nodes]
  obtain ⟨r, h1, n, rfl, h2, h3, h4⟩ := vo (Q := fun r => ∃ n : Int, r = ([.pv (.int .i64 n)], []) /\ 1 <= n /\ (n <= 1 ∨ n <= mo) /\ (n < mo -> n = (Rs.cons d k .nil).nodes)) hS (Jy N d.o d.a d.b d.n (d.nl.map ak) d.m (d.ml.map ak) d.t.rows k.rows mo _) (by
   refine aJ hS (by kernel_rfl) 1000 (fun q st => ∃ (i : Nat) (n : Int), st = Ap mo n i d.o d.a d.b d.n (d.nl.map ak) d.m (d.ml.map ak) d.t.rows k.rows /\ i <= k.len /\ 1 <= n /\ (n <= 1 ∨ n <= mo) /\ (n < mo -> n + (Rs.of (k.list.drop i)).nodes = 1 + k.nodes) /\ q = k.len - i) ?_ (n := k.len) ⟨0, 1, rfl, by omega, by omega, .inl (by omega), fun _ => by rw [List.drop_zero, Rs.of_list], rfl⟩
   rintro q st ⟨i, n, rfl, hi, n1, n2, n3, rfl⟩
   refine cr (GF ..) ?_
   conv => zeta
   rw [hrl]
   refine ⟨fun g => ⟨fun g2 => ?_, fun g2 => ⟨.auto, n, rfl, n1, n2, fun h => ?_⟩⟩, fun g => ⟨.auto, n, rfl, n1, n2, fun h => ?_⟩⟩
   ·simp only [decide_eq_true_eq] at g g2
    have hi' : i < k.list.length := by omega
    have hm := List.getElem_mem hi'
    have w2 : IntKind.wrap .i64 (mo - n) = mo - n := oY (by omega)
    have hnn := Rs.mem_nodes hm
    have hkl := Rs.mem_lim l6 hm
    have hsp := kR (tC N k.list[i].1 k.list[i].2 (mo - n) (by omega) hkl (by omega))
    obtain ⟨c1, c2, c3⟩ := hsp.2 _ _ rfl
    have hd := n3 g2
    rw [List.drop_eq_getElem_cons hi', Rs.nodes_of] at hd
    refine ⟨by omega, _, _, _, _, _, _, _, _, _, Rs.row_get k hi', ?_⟩
    have eR : (r9 k.list[i].1.o k.list[i].1.a k.list[i].1.b k.list[i].1.n (k.list[i].1.nl.map ak) k.list[i].1.m (k.list[i].1.ml.map ak) k.list[i].1.t.rows k.list[i].2.rows) = k.list[i].1.row k.list[i].2.rows := rfl
    rw [eR, w2]
    generalize rB (k.list[i].1.row k.list[i].2.rows) (mo - n) = c at *
    refine ⟨⟨⟨_, _, rfl, by omega, hkl⟩, by omega⟩, k.len - (i + 1), by omega, i + 1, n + c, by rw [dJ (by omega), oY (by omega)]; rfl, by omega, by omega, .inr (by omega), fun h => ?_, rfl⟩
    have c3 := c3 (by omega)
    simp only [Rs.nodes] at c3
    omega
   ·simp only [decide_eq_false_iff_not] at g2
    omega
   ·simp only [decide_eq_false_iff_not] at g
    have : i = k.list.length := by omega
    have hd := n3 h
    rw [this, List.drop_length] at hd
    simp only [Rs.of, Rs.nodes] at hd ⊢
    omega)
  exact ⟨n, h1, fun d' k' e => by
   obtain ⟨rfl, hk⟩ := RD.row_inj e
   rw [<- Rs.rows_inj hk]
   exact ⟨h2, h3, h4⟩⟩
theorem JS : ∀ ag al, G1 ag = some al -> ∀ a ∈ al, a.1 -> Ev C 35 ag a.2 := by
 intro ag al hl x hx hp
 unfold G1 at hl
 split at hl
 ·have e := aD hl hx; subst e
  exact bh bM (L8 ..) rfl
 ·exact absurd hl (by simp)
theorem pk : ∀ (N : Nat) (d : RD) (k : Rs), (Rs.cons d k .nil).nodes < N -> (Rs.cons d k .nil).lim -> N <= 4000000 -> ∃ b : Bool, x7 (d.row k.rows) b
 | 0, d, k, h, _, _ => by omega
 | N + 1, d, k, h, hlim, hN => by
  have hS : aK C (pL N) := az (am Az (am JS (am (by
   intro ag al hl x hx hp
   unfold vz at hl
   split at hl
   ·have e := aD hl hx; subst e
    obtain ⟨⟨d', k', er, h1, h2⟩, h3⟩ := hp
    rw [er]
    exact (kV (pk N d' k' h1 h2 h3)).1
   ·exact absurd hl (by simp)) ax)))
  obtain ⟨⟨l1, l2, l3, l4, l5⟩, l6, _⟩ := hlim
  have hln := Rs.len_list k
  have hrl := Rs.rows_len k
  have hnod : (Rs.cons d k .nil).nodes = k.nodes + 1 := by simp [Rs.nodes]
  obtain ⟨r, h1, b, rfl, h2⟩ := vo (Q := fun r => ∃ b : Bool, r = ([.pv (.bool b)], []) /\ (b = true -> (Rs.cons d k .nil).few)) hS (J6 N d.o d.a d.b d.n (d.nl.map ak) d.m (d.ml.map ak) d.t.rows k.rows _) (by
   refine aJ hS (by kernel_rfl) 1000 (fun q st => ∃ i : Nat, st = AE i d.o d.a d.b d.n (d.nl.map ak) d.m (d.ml.map ak) d.t.rows k.rows /\ i <= k.len /\ (∀ e ∈ k.list.take i, (Rs.cons e.1 e.2 .nil).few) /\ q = k.len - i) ?_ (n := k.len) ⟨0, rfl, by omega, by simp, rfl⟩
   rintro q st ⟨i, rfl, hi, hf, rfl⟩
   refine cr (GR ..) ?_
   conv => zeta
   rw [hrl]
   refine ⟨fun g => ?_, fun g => ?_⟩
   ·simp only [decide_eq_true_eq] at g
    have hi' : i < k.list.length := by omega
    have hm := List.getElem_mem hi'
    have hnn := Rs.mem_nodes hm
    have hkl := Rs.mem_lim l6 hm
    have hsp := kV (pk N k.list[i].1 k.list[i].2 (by omega) hkl (by omega))
    refine ⟨by omega, _, _, _, _, _, _, _, _, _, Rs.row_get k hi', ?_⟩
    have eR : (r9 k.list[i].1.o k.list[i].1.a k.list[i].1.b k.list[i].1.n (k.list[i].1.nl.map ak) k.list[i].1.m (k.list[i].1.ml.map ak) k.list[i].1.t.rows k.list[i].2.rows) = k.list[i].1.row k.list[i].2.rows := rfl
    rw [eR]
    refine ⟨⟨⟨_, _, rfl, by omega, hkl⟩, by omega⟩, fun g2 => ⟨.auto, false, rfl, fun h => by simp at h⟩, fun g2 => ⟨k.len - (i + 1), by omega, i + 1, by rw [dJ (by omega)]; rfl, by omega, fun e he => ?_, rfl⟩⟩
    have g2 : vp (k.list[i].1.row k.list[i].2.rows) = true := by simpa using g2
    rw [List.take_succ_eq_append_getElem hi', List.mem_append, List.mem_singleton] at he
    rcases he with he | rfl
    ·exact hf e he
    ·exact hsp.2 g2 _ _ rfl
   ·simp only [decide_eq_false_iff_not] at g
    have : i = k.list.length := by omega
    rw [this, List.take_length] at hf
    refine cr (GU ..) ⟨⟨d.t, rfl, l3, l4⟩, fun g2 => ⟨trivial, fun g3 => ⟨trivial, _, rfl, fun g4 => ?_⟩, fun g3 => ⟨false, rfl, fun h => by simp at h⟩⟩, fun g2 => ⟨false, rfl, fun h => by simp at h⟩⟩
    simp only [decide_eq_true_eq, List.length_map] at g3 g4
    exact ⟨⟨nP l3 l4 g2, by omega, by omega⟩, Rs.few_of hf, trivial⟩)
  exact ⟨b, h1, fun hb d' k' e => by
   obtain ⟨rfl, hk⟩ := RD.row_inj e
   rw [<- Rs.rows_inj hk]
   exact h2 hb⟩
theorem Rs.mem_few : ∀ {l : Rs} {e : RD × Rs}, l.few -> e ∈ l.list -> (Rs.cons e.1 e.2 .nil).few
 | .nil, e, _, h => by simp [Rs.list] at h
 | .cons p k r, e, ho, h => by
  simp only [Rs.list, List.mem_cons] at h
  rcases h with rfl | h
  ·exact ⟨ho.1, ho.2.1, trivial⟩
  ·exact Rs.mem_few ho.2.2 h
theorem Rs.len_nodes : ∀ l : Rs, l.len <= l.nodes
 | .nil => by simp [Rs.len]
 | .cons p k r => by have := Rs.len_nodes r; simp only [Rs.len, Rs.nodes]; omega
theorem C3 (a n : Int) (hn : ¬ n = 0) : Ev C 21 [.pv (.int .i64 a), .pv (.int .i64 n)] ([.pv (.int .i64 (wi a n))], []) := by
 refine bh bM (LE a n _) ⟨hn, fun h => ?_, fun h => ?_⟩
 ·simp only [decide_eq_true_eq] at h; simp [wi, h]
 ·simp only [decide_eq_false_iff_not] at h; simp [wi, h]
theorem HC : ∀ ag al, AZ ag = some al -> ∀ a ∈ al, a.1 -> Ev C 22 ag a.2 := by
 intro ag al hl x hx hp
 unfold AZ at hl
 split at hl
 ·rename_i n
  have e := aD hl hx; subst e
  have h5 : 0 <= wi n 5 /\ wi n 5 < 5 := nA (n := 5) (by omega) (by omega)
  exact bh (az (am (iH C3) ax)) (KJ _ _) ⟨by decide, h5, _, mK h5, by simp, _, rfl, rfl⟩
 ·exact absurd hl (by simp)
theorem pw {r : Rs} {i : Nat} (h : i < r.list.length) : fj r.rows (i : Int) = r.list[i] := by
 have hx : ∃ x : RD × Rs, 0 <= (i : Int) /\ r.rows[(i : Int).toNat]? = some (x.1.row x.2.rows) := ⟨r.list[i], by omega, Rs.row_get r h⟩
 have hc := hx.choose_spec
 have he : fj r.rows (i : Int) = hx.choose := by unfold fj; rw [dif_pos hx]
 rw [he]
 generalize hx.choose = y at hc ⊢
 have h2 := hc.2
 rw [Rs.row_get r h] at h2
 simp only [Option.some.injEq] at h2
 obtain ⟨e1, e2⟩ := RD.row_inj h2
 exact Prod.ext e1.symm (Rs.rows_inj e2).symm
theorem vR {r : Rs} {i : Nat} (h : r.list.length <= i) : fj r.rows (i : Int) = (⟨0, 0, 0, false, [], false, [], .nil⟩, .nil) := by
 have hx : ¬ ∃ x : RD × Rs, 0 <= (i : Int) /\ r.rows[(i : Int).toNat]? = some (x.1.row x.2.rows) := by
  rintro ⟨x, _, hx⟩
  rw [Int.toNat_natCast, List.getElem?_eq_none (by rw [Rs.rows_len, <- Rs.len_list]; exact h)] at hx
  simp at hx
 unfold fj
 rw [dif_neg hx]
theorem Hs : ∀ ag al, AW ag = some al -> ∀ a ∈ al, a.1 -> Ev C 24 ag a.2 := by
 intro ag al hl x hx hp
 unfold AW at hl
 split at hl
 ·rename_i l i
  have e := aD hl hx; subst e
  obtain ⟨h0, r, rfl, hr⟩ := hp
  obtain ⟨j, rfl⟩ := Int.eq_ofNat_of_zero_le h0
  have hrl := Rs.rows_len r
  have hll := Rs.len_list r
  refine bh bM (Ko ..) ?_
  conv => zeta
  refine ⟨fun g => ?_, fun g => ?_⟩
  ·simp only [decide_eq_true_eq] at g
   have hj : j < r.list.length := by omega
   rw [pw hj]
   exact ⟨by omega, _, _, _, _, _, _, _, _, _, Rs.row_get r hj, rfl⟩
  ·simp only [decide_eq_false_iff_not] at g
   rw [vR (by omega)]
   rfl
 ·exact absurd hl (by simp)
def Rs.G (l : Rs) : Prop := l.nodes < 1000 /\ l.few /\ l.lim
theorem yg {d : RD} {r : Rs} (i : Nat) (h : (Rs.cons d r .nil).G) : (Rs.cons (fj r.rows (i : Int)).1 (fj r.rows (i : Int)).2 .nil).G := by
 obtain ⟨h1, h2, h3⟩ := h
 rcases Nat.lt_or_ge i r.list.length with hi | hi
 ·rw [pw hi]
  have hm := List.getElem_mem hi
  have hn := Rs.mem_nodes hm
  have : (Rs.cons d r .nil).nodes = r.nodes + 1 := by simp [Rs.nodes]
  exact ⟨by omega, Rs.mem_few h2.2.1 hm, Rs.mem_lim h3.2.1 hm⟩
 ·rw [vR hi]
  exact ⟨by simp [Rs.nodes], ⟨⟨by simp [Tr.nodes], by simp, by simp⟩, trivial, trivial⟩, ⟨⟨by simp, by simp, by simp [Tr.list], trivial, by simp [Rs.len]⟩, trivial, trivial⟩⟩
noncomputable def w7 (row : List PV) : Bool := decide (rB row 60 < 60) && vp row
noncomputable def xc : List TV -> Option Alts
 | [.pv (.agg [.int .i64 o, .int .i64 a, .int .i64 b, .bool n, .sl nl, .bool m, .sl ml, .sl t, .sl k])] => one (∃ N, un N [.int .i64 o, .int .i64 a, .int .i64 b, .bool n, .sl nl, .bool m, .sl ml, .sl t, .sl k]) ([.pv (.bool (w7 [.int .i64 o, .int .i64 a, .int .i64 b, .bool n, .sl nl, .bool m, .sl ml, .sl t, .sl k]))], [])
 | _ => none
theorem DL : ∀ ag al, xb ag = some al -> ∀ a ∈ al, a.1 -> Ev C 18 ag a.2 := by
 intro ag al hl x hx hp
 unfold xb at hl
 split at hl
 ·have e := aD hl hx; subst e
  obtain ⟨⟨N, d, k, er, h1, h2⟩, h3⟩ := hp
  rw [er]
  exact (kR (tC N d k _ h1 h2 h3)).1
 ·exact absurd hl (by simp)
theorem GS {N : Nat} : ∀ ag al, vz N ag = some al -> ∀ a ∈ al, a.1 -> Ev C 19 ag a.2 := by
 intro ag al hl x hx hp
 unfold vz at hl
 split at hl
 ·have e := aD hl hx; subst e
  obtain ⟨⟨d, k, er, h1, h2⟩, h3⟩ := hp
  rw [er]
  exact (kV (pk N d k h1 h2 h3)).1
 ·exact absurd hl (by simp)
theorem rX {d : RD} {k : Rs} (h : (Rs.cons d k .nil).lim) (hc : rB (d.row k.rows) 60 < 60) : (Rs.cons d k .nil).nodes < 60 := by
 have := (kR (tC _ d k 60 (Nat.lt_succ_self _) h (by decide))).2 d k rfl
 have h2 := this.2.2 hc
 omega
theorem DS : ∀ ag al, xc ag = some al -> ∀ a ∈ al, a.1 -> Ev C 5 ag a.2 := by
 intro ag al hl x hx hp
 unfold xc at hl
 split at hl
 ·have e := aD hl hx; subst e
  refine bh (az (am DL (am GS ax))) (JT ..) ⟨⟨hp, by decide⟩, fun g => ⟨⟨?_, by decide⟩, ?_⟩, fun g => ?_⟩
  ·obtain ⟨N, d, k, er, h1, h2⟩ := hp
   rw [er] at g ⊢
   simp only [decide_eq_true_eq] at g
   exact ⟨d, k, rfl, by have := rX h2 g; omega, h2⟩
  ·unfold w7; rw [g, Bool.true_and]
  ·unfold w7; rw [g, Bool.false_and]
 ·exact absurd hl (by simp)
theorem GN {d : RD} {k : Rs} (h : (Rs.cons d k .nil).lim) (hf : w7 (d.row k.rows) = true) : (Rs.cons d k .nil).G /\ (Rs.cons d k .nil).nodes < 60 := by
 unfold w7 at hf
 rw [Bool.and_eq_true, decide_eq_true_eq] at hf
 have h1 := rX h hf.1
 exact ⟨⟨by omega, (kV (pk 100 d k (by omega) h (by decide))).2 hf.2 d k rfl, h⟩, h1⟩
def Id (e : LD × Ls) : List PV := e.1.row e.2.rows
theorem mU {row : List PV} {dp : Int} (h : ∃ x, KF row dp x) : KF row dp (nH row dp) := by
 unfold nH
 rw [dif_pos h]
 exact h.choose_spec
theorem uh (i : Int) : zg i ∈ oc := by
 unfold zg oc
 split
 ·simp
 ·split
  ·simp
  ·split
   ·simp
   ·split <;> simp
theorem s6 (w : Nat) : ∀ (d : Nat) (l : Tr), (cC w d l).six
 | 0, l => trivial
 | d + 1, l => by
  rw [ni]
  exact rf (om (fun e => e.1 ∈ oc /\ e.2.six) (by simp) fun y hy => ⟨uh _, s6 w d y.2⟩)
theorem mf {w d : Nat} {l : Tr} (h : l.nodes < 200) (hd : d <= 12) : (cC w d l).good := ⟨oU w d l 1 (by omega), by have := oT w d l; omega, s6 w d l⟩
theorem Ls.of_fine : ∀ {l : List (LD × Ls)}, (∀ e ∈ l, (Ls.cons e.1 e.2 .nil).fine) -> (Ls.of l).fine
 | [], _ => trivial
 | (p, k) :: r, h => ⟨(h (p, k) (by simp)).1, (h (p, k) (by simp)).2.1, Ls.of_fine fun e he => h e (by simp [he])⟩
theorem ue {dp : Int} (p : LD) (xs : List (LD × Ls)) (h1 : p.fine xs.length) (hx : ∀ e ∈ xs, ((Ls.cons e.1 e.2 .nil).deep : Int) <= dp /\ (Ls.cons e.1 e.2 .nil).fine) (hl : xs.length <= 10) : ∃ x : LD × Ls, (([TV.pv (.agg (p.row (xs.map Id)))], []) : RT) = ([.pv (.agg (x.1.row x.2.rows))], []) /\ ((Ls.cons x.1 x.2 .nil).deep : Int) <= 1 + (if 0 <= dp then dp else 0) /\ (Ls.cons x.1 x.2 .nil).fine /\ x.2.len <= 10 := by
 refine ⟨(p, Ls.of xs), by rw [Ls.of_rows]; rfl, ?_, ⟨by rw [Ls.of_len]; exact h1, Ls.of_fine fun e he => (hx e he).2, trivial⟩, by rw [Ls.of_len]; exact hl⟩
 rw [Ls.one_deep]
 show (((Ls.of xs).deep + 1 : Nat) : Int) <= _
 cases xs with
 | nil => simp only [Ls.of, Ls.deep]; split <;> omega
 | cons y ys =>
  have h0 := (hx y (by simp)).1
  rw [Ls.one_deep] at h0
  have := Ls.of_deep (B := dp.toNat) (l := y :: ys) fun e he => by have := (hx e he).1; omega
  rw [if_pos (by omega)]
  omega
noncomputable def Dy (k : Rs) (dp : Int) (i : Nat) : List (LD × Ls) := ((k.list.take i).drop 1).map fun e => nH (e.1.row e.2.rows) dp
theorem BH {k : Rs} {dp : Int} {i : Nat} (h : i < k.list.length) (h1 : 1 <= i) : Dy k dp (i + 1) = Dy k dp i ++ [nH (k.list[i].1.row k.list[i].2.rows) dp] := by
 unfold Dy
 rw [List.take_succ_eq_append_getElem h, List.drop_append_of_le_length (by rw [List.length_take]; omega), List.map_append]; rfl
theorem yo : ∀ (M : Nat) (dp : Int) (d : RD) (k : Rs), dp + 10 < M -> -10 <= dp -> dp <= 100 -> (Rs.cons d k .nil).G -> ∃ x, KF (d.row k.rows) dp x
 | 0, dp, d, k, h, h0, _, _ => by omega
 | M + 1, dp, d, k, h, h0, hd, hG => by
  have hr := cz
  have hm := bN
  have sp : ∀ (d' : RD) (k' : Rs), (Rs.cons d' k' .nil).G -> 0 < dp -> KF (d'.row k'.rows) (dp - 1) (nH (d'.row k'.rows) (dp - 1)) := fun d' k' hg hp => mU (yo M (dp - 1) d' k' (by omega) (by omega) (by omega) hg)
  have hS : aK C (zN dp) := az (am (iH C3) (am HC (am KE (am sZ (am Hs (am (by
   intro ag al hl x hx hp
   unfold J7 at hl
   split at hl
   ·have e := aD hl hx; subst e
    obtain ⟨⟨d', k', er, h1⟩, h2, h3⟩ := hp
    rw [er]
    exact (mU (yo M _ d' k' (by omega) h2 (by omega) h1)).1
   ·exact absurd hl (by simp)) ax))))))
  have hln := Rs.len_list k
  have hrl := Rs.rows_len k
  have hlen := Rs.len_nodes k
  have hnod : (Rs.cons d k .nil).nodes = k.nodes + 1 := by simp [Rs.nodes]
  have hG' := hG
  obtain ⟨g1, ⟨⟨f1, f2, f3⟩, f4, _⟩, ⟨⟨l1, l2, l3, l4, l5⟩, l6, _⟩⟩ := hG'
  have w9 : 0 <= wi d.o 9 /\ wi d.o 9 < 9 := nA (n := 9) (by omega) (by omega)
  have w1 : IntKind.wrap .i64 (1 + wi d.o 9) = 1 + wi d.o 9 := oY (by omega)
  have w2 : IntKind.wrap .i64 (dp - 1) = dp - 1 := oY (by omega)
  have small : ∀ a b : Nat, b <= 12 -> (cC a b (aH d.t.rows)).good := fun a b hb => by
   rw [aq]
   exact mf f1 hb
  have q6 : ([113] : BS) ∈ oc := by simp [oc]
  have na := uh (wi d.a 5)
  have nb := uh (wi d.b 5)
  have mk6 : ∀ q : List (BS), (((iM (q.map ak)).take 6).map pd).length <= 4000000 := fun q => by
   rw [List.length_map, List.length_take]; omega
  have nil0 : (Tr.nil).nodes < 4000000 := by simp [Tr.nodes]
  have K0 := yg 0 hG
  have K1 := yg 1 hG
  have row9 : ∀ e : RD × Rs, (r9 e.1.o e.1.a e.1.b e.1.n (e.1.nl.map ak) e.1.m (e.1.ml.map ak) e.1.t.rows e.2.rows) = e.1.row e.2.rows := fun _ => rfl
  have kd : ∀ (d' : RD) (k' : Rs), (Rs.cons d' k' .nil).G -> 0 < dp -> ((Ls.cons (nH (d'.row k'.rows) (dp - 1)).1 (nH (d'.row k'.rows) (dp - 1)).2 .nil).deep : Int) <= dp /\ (Ls.cons (nH (d'.row k'.rows) (dp - 1)).1 (nH (d'.row k'.rows) (dp - 1)).2 .nil).fine := fun d' k' hg hp => by
   obtain ⟨_, q1, q2, _⟩ := sp d' k' hg hp
   rw [if_pos (by omega)] at q1
   exact ⟨by omega, q2⟩
  have hK : ∃ r : Rs, k.rows = r.rows /\ r.len <= 4000000 := ⟨k, rfl, by omega⟩
  have hT1 : ∃ l : Tr, d.t.rows = l.rows /\ l.list.length <= 140737488351232 /\ l.lim 140737488351232 /\ ((0 : Int) <= 3 /\ (3 : Int) <= 4000) /\ (0 : Int) <= 2 /\ (2 : Int) <= 4000 := ⟨d.t, rfl, l3, l4, ⟨by decide, by decide⟩, by decide, by decide⟩
  have hT2 : ∃ l : Tr, d.t.rows = l.rows /\ l.list.length <= 140737488351232 /\ l.lim 140737488351232 /\ ((0 : Int) <= 2 /\ (2 : Int) <= 4000) /\ (0 : Int) <= 3 /\ (3 : Int) <= 4000 := ⟨d.t, rfl, l3, l4, ⟨by decide, by decide⟩, by decide, by decide⟩
  have leaf : ∀ (o : Int) (a b : BS), a ∈ oc -> b ∈ oc -> 1 <= o -> o <= 6 -> ∃ x : LD × Ls, (([TV.pv (.agg [.int .i64 o, .str a, .str b, .bool d.n, .sl (fq (d.nl.map ak)), .bool d.m, .sl (fq (d.ml.map ak)), .sl [], .sl [], .sl []])], []) : RT) = ([.pv (.agg (x.1.row x.2.rows))], []) /\ ((Ls.cons x.1 x.2 .nil).deep : Int) <= 1 + (if 0 <= dp then dp else 0) /\ (Ls.cons x.1 x.2 .nil).fine /\ x.2.len <= 10 := fun o a b ha hb h1 h6 =>
   ue (dp := dp) ⟨o, a, b, d.n, _, d.m, _, .nil, .nil⟩ [] ⟨⟨ha, hb⟩, ⟨fi, fi⟩, ⟨mk6 d.nl, mk6 d.ml⟩, ⟨h1, by simp only; omega⟩, fun h => by simp only at h; omega, fun h => by simp only at h; omega, fun h => by simp only at h; omega, by simp⟩ (by simp) (by simp)
  have leafT : ∀ (o : Int) (a b : BS), a ∈ oc -> b ∈ oc -> 1 <= o -> o <= 6 -> ∃ x : LD × Ls, (([TV.pv (.agg [.int .i64 o, .str a, .str b, .bool d.n, .sl (fq (d.nl.map ak)), .bool d.m, .sl (fq (d.ml.map ak)), .sl (cC 3 2 (aH d.t.rows)).rows, .sl (cC 2 3 (aH d.t.rows)).rows, .sl []])], []) : RT) = ([.pv (.agg (x.1.row x.2.rows))], []) /\ ((Ls.cons x.1 x.2 .nil).deep : Int) <= 1 + (if 0 <= dp then dp else 0) /\ (Ls.cons x.1 x.2 .nil).fine /\ x.2.len <= 10 := fun o a b ha hb h1 h6 =>
   ue (dp := dp) ⟨o, a, b, d.n, _, d.m, _, cC 3 2 (aH d.t.rows), cC 2 3 (aH d.t.rows)⟩ [] ⟨⟨ha, hb⟩, ⟨small 3 2 (by decide), small 2 3 (by decide)⟩, ⟨mk6 d.nl, mk6 d.ml⟩, ⟨h1, by simp only; omega⟩, fun h => by simp only at h; omega, fun h => by simp only at h; omega, fun h => by simp only at h; omega, by simp⟩ (by simp) (by simp)
  have node : ∀ (o : Int) (a b : BS) (m : Bool) (ml : List (BS)) (xs : List (LD × Ls)), a ∈ oc -> b ∈ oc -> (1 <= o /\ o <= 9) -> (o = 7 -> xs.length = 2) -> (o = 8 -> xs.length = 1) -> (o = 9 -> 1 <= xs.length) -> (∀ e ∈ xs, ((Ls.cons e.1 e.2 .nil).deep : Int) <= dp /\ (Ls.cons e.1 e.2 .nil).fine) -> xs.length <= 10 -> ∃ x : LD × Ls, (([TV.pv (.agg [.int .i64 o, .str a, .str b, .bool d.n, .sl (fq (d.nl.map ak)), .bool m, .sl (fq (ml.map ak)), .sl [], .sl [], .sl (xs.map Id)])], []) : RT) = ([.pv (.agg (x.1.row x.2.rows))], []) /\ ((Ls.cons x.1 x.2 .nil).deep : Int) <= 1 + (if 0 <= dp then dp else 0) /\ (Ls.cons x.1 x.2 .nil).fine /\ x.2.len <= 10 := fun o a b m ml xs ha hb ho o7 o8 o9 h1 h2 =>
   ue (dp := dp) ⟨o, a, b, d.n, _, m, _, .nil, .nil⟩ xs ⟨⟨ha, hb⟩, ⟨fi, fi⟩, ⟨mk6 d.nl, mk6 ml⟩, ho, o7, o8, o9, by omega⟩ h1 h2
  obtain ⟨r, h1, x, rfl, h2, h3, h4⟩ := vo (Q := fun r => ∃ x : LD × Ls, r = ([.pv (.agg (x.1.row x.2.rows))], []) /\ ((Ls.cons x.1 x.2 .nil).deep : Int) <= 1 + (if 0 <= dp then dp else 0) /\ (Ls.cons x.1 x.2 .nil).fine /\ x.2.len <= 10) hS (Mq dp d.o d.a d.b d.n (d.nl.map ak) d.m (d.ml.map ak) d.t.rows k.rows dp _) (by
   conv => zeta
   rw [w1, w2, row9, row9]
   refine ⟨by decide, trivial, trivial, ⟨d.nl, rfl, by omega⟩, ⟨d.ml, rfl, by omega⟩, fun g => ⟨fun g2 => ?_, fun g2 => ?_⟩, fun g => ?_⟩
   ·exact ⟨⟨by decide, hK⟩, leaf _ _ _ na nb (by omega) (by omega)⟩
   ·simp only [decide_eq_true_eq, decide_eq_false_iff_not] at g g2
    refine ⟨⟨by decide, hK⟩, fun _ => ⟨hT1, hT2, leafT _ _ _ na nb (by omega) (by omega)⟩, fun _ => ⟨fun _ => ⟨fun _ => leaf _ _ _ na q6 (by omega) (by omega), fun _ => leaf _ _ _ na nb (by omega) (by omega)⟩, fun _ => ⟨fun h => ?_, fun _ => ⟨fun h => ?_, fun _ => ⟨fun h => ?_, fun _ => leaf _ _ _ na nb (by omega) (by omega)⟩⟩⟩⟩⟩
    ·simp only [beq_iff_eq] at h; omega
    ·simp only [beq_iff_eq] at h; omega
    ·simp only [beq_iff_eq] at h; omega
   ·simp only [decide_eq_false_iff_not] at g
    have hp : 0 < dp := by omega
    have k0 := kd _ _ K0 hp
    have k1 := kd _ _ K1 hp
    have c0 : wx ((fj k.rows 0).1.row (fj k.rows 0).2.rows) /\ -10 <= dp - 1 /\ dp - 1 < dp := ⟨⟨_, _, rfl, K0⟩, by omega, by omega⟩
    have c1 : wx ((fj k.rows 1).1.row (fj k.rows 1).2.rows) /\ -10 <= dp - 1 /\ dp - 1 < dp := ⟨⟨_, _, rfl, K1⟩, by omega, by omega⟩
    have one1 : ∀ e ∈ [nH ((fj k.rows 0).1.row (fj k.rows 0).2.rows) (dp - 1)], ((Ls.cons e.1 e.2 .nil).deep : Int) <= dp /\ (Ls.cons e.1 e.2 .nil).fine := fun e he => by
     simp only [List.mem_singleton] at he
     subst he; exact k0
    have two2 : ∀ e ∈ [nH ((fj k.rows 0).1.row (fj k.rows 0).2.rows) (dp - 1), nH ((fj k.rows 1).1.row (fj k.rows 1).2.rows) (dp - 1)], ((Ls.cons e.1 e.2 .nil).deep : Int) <= dp /\ (Ls.cons e.1 e.2 .nil).fine := fun e he => by
     simp only [List.mem_cons, List.not_mem_nil, or_false] at he
     rcases he with rfl | rfl
     ·exact k0
     ·exact k1
    have le6 : ((1 + wi d.o 9 == 2) = true ∨ (1 + wi d.o 9 == 3) = true ∨ (1 + wi d.o 9 == 7) = false /\ (1 + wi d.o 9 == 8) = false /\ (1 + wi d.o 9 == 9) = false) -> 1 + wi d.o 9 <= 6 := fun h => by
     simp only [beq_iff_eq, beq_eq_false_iff_ne, ne_eq] at h
     omega
    refine ⟨⟨by decide, hK⟩, fun j2 => ⟨hT1, hT2, leafT _ _ _ na nb (by omega) (le6 (.inl j2))⟩, fun j2 => ⟨fun j3 => ⟨fun _ => leaf _ _ _ na q6 (by omega) (le6 (.inr (.inl j3))), fun _ => leaf _ _ _ na nb (by omega) (le6 (.inr (.inl j3)))⟩, fun j3 => ⟨fun j8 => ⟨c0, node _ _ _ _ d.ml _ na nb (by omega) (by simp only [beq_iff_eq] at j8; omega) (by simp) (by simp) one1 (by simp)⟩, fun j8 => ⟨fun j7 => ⟨by decide, fun _ => ⟨c0, ⟨by decide, hK⟩, c1, node _ _ _ _ d.nl _ na nb (by omega) (by simp) (by simp only [beq_iff_eq] at j7; omega) (by simp) two2 (by simp)⟩, fun _ => ⟨c0, ⟨by decide, hK⟩, c1, node _ _ _ _ d.ml _ na nb (by omega) (by simp) (by simp only [beq_iff_eq] at j7; omega) (by simp) two2 (by simp)⟩⟩, fun j7 => ⟨fun j9 => ⟨c0, ?_⟩, fun j9 => leaf _ _ _ na nb (by omega) (le6 (.inr (.inr ⟨j7, j8, j9⟩)))⟩⟩⟩⟩⟩
    have kids : ∀ i, ∀ e ∈ nH ((fj k.rows 0).1.row (fj k.rows 0).2.rows) (dp - 1) :: Dy k (dp - 1) i, ((Ls.cons e.1 e.2 .nil).deep : Int) <= dp /\ (Ls.cons e.1 e.2 .nil).fine := fun i e he => by
     simp only [List.mem_cons] at he
     rcases he with rfl | he
     ·exact k0
     ·unfold Dy at he
      obtain ⟨y, hy, rfl⟩ := List.mem_map.1 he
      have hy := List.mem_of_mem_take (List.mem_of_mem_drop hy)
      obtain ⟨j, hj, rfl⟩ := List.mem_iff_getElem.1 hy
      have := yg j hG
      rw [pw hj] at this
      exact kd _ _ this hp
    have kl : ∀ i, i <= 3 -> (nH ((fj k.rows 0).1.row (fj k.rows 0).2.rows) (dp - 1) :: Dy k (dp - 1) i).length <= 10 := fun i hi => by
     unfold Dy
     rw [List.length_cons, List.length_map, List.length_drop, List.length_take]; omega
    refine aJ hS (by kernel_rfl) 1000 (fun q st => ∃ i : Nat, st = FI dp i d.o d.a d.b d.n (d.nl.map ak) d.m (d.ml.map ak) d.t.rows k.rows 0 [] [] (1 + wi d.o 9) (zg (wi d.a 5)) (zg (wi d.b 5)) d.n (fq (d.nl.map ak)) d.m (fq (d.ml.map ak)) [] [] [] [] [] ((nH ((fj k.rows 0).1.row (fj k.rows 0).2.rows) (dp - 1) :: Dy k (dp - 1) i).map Id) /\ 1 <= i /\ i <= 3 /\ q = 3 - i) ?_ (n := 2) ⟨1, ?_, by omega, by omega, rfl⟩
    ·rintro q st ⟨i, rfl, hi1, hi3, rfl⟩
     refine cr (KG ..) ?_
     conv => zeta
     rw [hrl, w2]
     refine ⟨fun g => ⟨fun g2 => ?_, fun g2 => ⟨.auto, node _ _ _ _ d.ml _ na nb (by omega) (by simp only [beq_iff_eq] at j9; omega) (by simp only [beq_iff_eq] at j9; omega) (by simp) (kids i) (kl i hi3)⟩⟩, fun g => ⟨.auto, node _ _ _ _ d.ml _ na nb (by omega) (by simp only [beq_iff_eq] at j9; omega) (by simp only [beq_iff_eq] at j9; omega) (by simp) (kids i) (kl i hi3)⟩⟩
     simp only [decide_eq_true_eq] at g g2
     have hi' : i < k.list.length := by omega
     have hmem := List.getElem_mem hi'
     have hgi := yg i hG
     rw [pw hi'] at hgi
     have hkl := kl i hi3
     refine ⟨by omega, _, _, _, _, _, _, _, _, _, Rs.row_get k hi', ?_⟩
     rw [row9]
     refine ⟨⟨⟨_, _, rfl, hgi⟩, by omega, by omega⟩, ⟨by rw [List.length_map]; omega, by rw [List.length_map]; omega⟩, 3 - (i + 1), by omega, i + 1, ?_, by omega, by omega, rfl⟩
     rw [BH hi' hi1, dJ (by omega), <- List.cons_append, List.map_append]
     rfl
    ·have : Dy k (dp - 1) 1 = [] := by
      unfold Dy
      rw [List.drop_of_length_le (by rw [List.length_take]; omega)]; rfl
     rw [this]
     rfl)
  exact ⟨x, h1, h2, h3, h4⟩
theorem Iz {P : Program} {t e : TypeId} {xs : List PV} (h : Shp P t xs) (ht : P.underlying t = some (.slice e)) : ∃ es, xs = [.sl es] /\ es.length * P.bytesOf e <= reachBytes /\ ∀ x, x ∈ es -> Shp P e x := by
 cases h with
 | int h => rw [h] at ht; simp at ht
 | bool h => rw [h] at ht; simp at ht
 | str h hb => rw [h] at ht; simp at ht
 | sl h h1 h2 =>
  rw [ht] at h
  simp only [Option.some.injEq, TypeDesc.slice.injEq] at h
  subst h
  exact ⟨_, rfl, h1, h2⟩
 | struct xs h => rw [h] at ht; simp at ht
theorem CF {P : Program} {t : TypeId} {xs : List PV} (h : Shp P t xs) (ht : P.underlying t = some .string) : ∃ s, xs = [.str s] /\ s.length <= reachBytes := by
 cases h with
 | int h => rw [h] at ht; simp at ht
 | bool h => rw [h] at ht; simp at ht
 | str h hb => exact ⟨_, rfl, hb⟩
 | sl h => rw [h] at ht; simp at ht
 | struct xs h => rw [h] at ht; simp at ht
theorem tc : ∀ {es : LP}, (∀ x ∈ es, ∃ s : BS, x = [.str s] /\ s.length <= reachBytes) -> ∃ l : List (BS), es = l.map ak /\ ∀ s ∈ l, s.length <= reachBytes
 | [], _ => ⟨[], rfl, by simp⟩
 | x :: es, h => by
  obtain ⟨s, rfl, hs⟩ := h x (by simp)
  obtain ⟨l, rfl, hl⟩ := tc (es := es) fun y hy => h y (by simp [hy])
  exact ⟨s :: l, rfl, by
   intro t ht
   rcases List.mem_cons.1 ht with rfl | ht
   ·exact hs
   ·exact hl t ht⟩
def xO (P : Program) (T : TypeId) : Bool := match P.underlying T with
 | some (.slice e) => (match P.underlying e with | some .string => decide (1 <= P.bytesOf e) | _ => false)
 | _ => false
theorem CE {P : Program} {T : TypeId} (hok : xO P T = true) {xs : List PV} (h : Shp P T xs) : ∃ l : List (BS), xs = [.sl (l.map ak)] /\ l.length <= 140737488351232 /\ ∀ s ∈ l, s.length <= 140737488351232 := by
 unfold xO at hok
 split at hok
 ·rename_i e hT
  split at hok
  ·rename_i he
   simp only [decide_eq_true_eq] at hok
   obtain ⟨es, rfl, h1, h2⟩ := Iz h hT
   obtain ⟨l, rfl, hl⟩ := tc fun x hx => CF (h2 x hx) he
   refine ⟨l, rfl, ?_, hl⟩
   rw [List.length_map] at h1
   have : l.length * 1 <= l.length * P.bytesOf e := Nat.mul_le_mul_left _ hok
   have hr : reachBytes = 140737488351232 := rfl
   omega
  ·exact absurd hok (by simp)
 ·exact absurd hok (by simp)
def pC (P : Program) (T : TypeId) : Bool := match P.underlying T with
 | some (.struct fs) => (match fs.toList with
  | [f0, f1] => (match P.underlying f0.type with | some .bool => xO P f1.type | _ => false)
  | _ => false)
 | _ => false
theorem CC {P : Program} {t : TypeId} {xs : List PV} (h : Shp P t xs) (ht : P.underlying t = some .bool) : ∃ b, xs = [.bool b] := by
 cases h with
 | int h => rw [h] at ht; simp at ht
 | bool h => exact ⟨_, rfl⟩
 | str h hb => rw [h] at ht; simp at ht
 | sl h => rw [h] at ht; simp at ht
 | struct xs h => rw [h] at ht; simp at ht
theorem wb {P : Program} {T : TypeId} (hok : pC P T = true) {xs : List PV} (h : Shp P T xs) : ∃ (b : Bool) (l : List (BS)), xs = [.bool b, .sl (l.map ak)] /\ l.length <= 140737488351232 := by
 unfold pC at hok
 split at hok
 ·rename_i fs hT
  split at hok
  ·rename_i f0 f1 hfs
   split at hok
   ·rename_i h0
    cases h with
    | int h => rw [h] at hT; simp at hT
    | bool h => rw [h] at hT; simp at hT
    | str h hb => rw [h] at hT; simp at hT
    | sl h => rw [h] at hT; simp at hT
    | struct xs h hall =>
     rw [hT] at h
     simp only [Option.some.injEq, TypeDesc.struct.injEq] at h
     subst h
     rw [hfs] at hall ⊢
     obtain ⟨b, hb⟩ := CC (hall 0 f0 rfl) h0
     obtain ⟨l, hl, h2, _⟩ := CE hok (hall 1 f1 rfl)
     refine ⟨b, l, ?_, h2⟩
     have e : (List.range [f0, f1].length).flatMap xs = xs 0 ++ xs 1 := by simp [List.range_succ]
     rw [e, hb, hl]; rfl
   ·exact absurd hok (by simp)
  ·exact absurd hok (by simp)
 ·exact absurd hok (by simp)
def vQ (P : Program) (t : TypeId) : Bool := match P.underlying t with
 | some (.int .i64) => true
 | _ => false
theorem uz {P : Program} {t : TypeId} {xs : List PV} (h : Shp P t xs) (ht : vQ P t = true) : ∃ n, xs = [.int .i64 n] := by
 unfold vQ at ht
 split at ht
 ·rename_i h2
  cases h with
  | int h => rw [h] at h2; simp only [Option.some.injEq, TypeDesc.int.injEq] at h2; subst h2; exact ⟨_, rfl⟩
  | bool h => rw [h] at h2; simp at h2
  | str h hb => rw [h] at h2; simp at h2
  | sl h => rw [h] at h2; simp at h2
  | struct xs h => rw [h] at h2; simp at h2
 ·exact absurd ht (by simp)
def xB (P : Program) (R KS T E : TypeId) : Bool := match P.underlying KS, P.underlying R with
 | some (.slice e), some (.struct fs) => (match fs.toList with
  | [f0, f1, f2, f3, f4, f5, f6] => e == R && f6.type == KS && f5.type == T && vQ P f0.type && vQ P f1.type && vQ P f2.type && pC P f3.type && pC P f4.type && yx P T E && decide (1 <= P.bytesOf R)
  | _ => false)
 | _, _ => false
theorem F1 : ∀ {es : LP}, (∀ x ∈ es, ∃ (d : RD) (k : Rs), x = d.row k.rows /\ (Rs.cons d k .nil).lim) -> ∃ r : Rs, es = r.rows /\ r.lim
 | [], _ => ⟨.nil, rfl, trivial⟩
 | x :: es, h => by
  obtain ⟨d, k, rfl, h1⟩ := h x (by simp)
  obtain ⟨r, rfl, h2⟩ := F1 (es := es) fun y hy => h y (by simp [hy])
  exact ⟨.cons d k r, rfl, h1.1, h1.2.1, h2⟩
theorem CD {P : Program} {R KS T E : TypeId} (hok : xB P R KS T E = true) : ∀ {t : TypeId} {xs : List PV}, Shp P t xs -> (t = KS -> ∃ r : Rs, xs = [.sl r.rows] /\ r.len <= 140737488351232 /\ r.lim) /\ (t = R -> ∃ (d : RD) (k : Rs), xs = d.row k.rows /\ (Rs.cons d k .nil).lim) := by
 unfold xB at hok
 split at hok
 ·rename_i e fs hT hE
  split at hok
  ·rename_i f0 f1 f2 f3 f4 f5 f6 hfs
   simp only [Bool.and_eq_true, beq_iff_eq, decide_eq_true_eq] at hok
   obtain ⟨⟨⟨⟨⟨⟨⟨⟨⟨rfl, t6⟩, t5⟩, t0⟩, t1⟩, t2⟩, t3⟩, t4⟩, tr⟩, hb⟩ := hok
   intro t xs h
   induction h with
   | int h => exact ⟨fun e => by subst e; rw [h] at hT; simp at hT, fun e => by subst e; rw [h] at hE; simp at hE⟩
   | bool h => exact ⟨fun e => by subst e; rw [h] at hT; simp at hT, fun e => by subst e; rw [h] at hE; simp at hE⟩
   | str h _ => exact ⟨fun e => by subst e; rw [h] at hT; simp at hT, fun e => by subst e; rw [h] at hE; simp at hE⟩
   | sl h hl hall ih =>
    refine ⟨fun ht => ?_, fun ht => by subst ht; rw [h] at hE; simp at hE⟩
    subst ht
    rw [hT] at h
    simp only [Option.some.injEq, TypeDesc.slice.injEq] at h
    subst h
    obtain ⟨r, rfl, h2⟩ := F1 fun x hx => (ih x hx).2 rfl
    refine ⟨r, rfl, ?_, h2⟩
    rw [Rs.rows_len] at hl
    have : r.len * 1 <= r.len * P.bytesOf e := Nat.mul_le_mul_left _ hb
    have hr : reachBytes = 140737488351232 := rfl
    omega
   | struct xs h hall ih =>
    refine ⟨fun ht => by subst ht; rw [h] at hT; simp at hT, fun ht => ?_⟩
    subst ht
    rw [hE] at h
    simp only [Option.some.injEq, TypeDesc.struct.injEq] at h
    subst h
    rw [hfs] at hall ih ⊢
    obtain ⟨o, e0⟩ := uz (hall 0 f0 rfl) t0
    obtain ⟨a, e1⟩ := uz (hall 1 f1 rfl) t1
    obtain ⟨b, e2⟩ := uz (hall 2 f2 rfl) t2
    obtain ⟨n, nl, e3, l3⟩ := wb t3 (hall 3 f3 rfl)
    obtain ⟨m, ml, e4, l4⟩ := wb t4 (hall 4 f4 rfl)
    obtain ⟨u, e5, l5, l6⟩ := (CG tr (hall 5 f5 rfl)).1 t5
    obtain ⟨r, e6, l7, l8⟩ := (ih 6 f6 rfl).1 t6
    have hr : reachBytes = 140737488351232 := rfl
    rw [hr] at l5 l6
    refine ⟨⟨o, a, b, n, nl, m, ml, u⟩, r, ?_, ⟨l3, l4, l5, l6, l7⟩, l8, trivial⟩
    have e : (List.range [f0, f1, f2, f3, f4, f5, f6].length).flatMap xs = xs 0 ++ (xs 1 ++ (xs 2 ++ (xs 3 ++ (xs 4 ++ (xs 5 ++ xs 6))))) := by simp [List.range_succ]
    rw [e, e0, e1, e2, e3, e4, e5, e6]; rfl
  ·exact absurd hok (by simp)
 ·exact absurd hok (by simp)
theorem ED {P : Program} {R KS T E : TypeId} (hok : xB P R KS T E = true) {xs : List PV} (h : Shp P R xs) : ∃ (d : RD) (k : Rs), xs = d.row k.rows /\ (Rs.cons d k .nil).lim := (CD hok h).2 rfl
noncomputable def AX : List TV -> Option Alts
 | [.pv (.agg [.int .i64 o, .int .i64 a, .int .i64 b, .bool n, .sl nl, .bool m, .sl ml, .sl t, .sl k]), .pv (.int .i64 dp)] => one (wx [.int .i64 o, .int .i64 a, .int .i64 b, .bool n, .sl nl, .bool m, .sl ml, .sl t, .sl k] /\ -10 <= dp /\ dp <= 100) ([.pv (.agg ((nH [.int .i64 o, .int .i64 a, .int .i64 b, .bool n, .sl nl, .bool m, .sl ml, .sl t, .sl k] dp).1.row (nH [.int .i64 o, .int .i64 a, .int .i64 b, .bool n, .sl nl, .bool m, .sl ml, .sl t, .sl k] dp).2.rows))], [])
 | _ => none
def tP : List TV -> Option Alts
 | [] => one True ([.pv (.bool true)], [])
 | _ => none
theorem Mm  (Q : QT) : (bq C cd 4 [] Q) (H.auto) = (Q ([tB true], [])) := by kernel_rfl
noncomputable def jX : Specs := aZ [(4, tP), (5, xc), (6, x9), (7, AX), (9, mM), (10, kf 10), (11, lS 10), (13, nT 10), (16, qq 10), (15, qp 10), (12, y0), (14, vA)]
theorem Mn (x p q : Int) (v : Bool) (w : LP) (s : Bool) (t y r g h : LP) (Q : QT) : (bq C jX 3 [.pv (.agg [.int .i64 x, .int .i64 p, .int .i64 q, .bool v, .sl w, .bool s, .sl t, .sl y, .sl r]), .pv (.sl g), .pv (.sl h)] Q) (H.n 1 (H.b H.auto (H.n 3 (H.b H.auto (H.n 3 (H.b H.auto (H.n 1 (H.b (H.b H.auto (H.b H.auto H.auto)) (H.b (H.b H.auto (H.b H.auto H.auto)) H.auto))))))))) = (let i := r9 x p q v w s t y r; let c := Prod.fst (nH i (2 : Int)); let A := Ls.rows (Prod.snd (nH i (2 : Int))); let B := List.map ak (LD.nl c); let D := List.map ak (LD.ml c); let b := bU 8 [] [] false [] false [] [] [] [(bU (LD.o c) (LD.a c) (LD.b c) (LD.n c) B (LD.m c) D (Tr.rows (LD.t c)) (Tr.rows (LD.u c)) A)]; let a := Tr.rows (cC 5 3 (aH g)); let e := Tr.rows (cC 5 3 (aH h)); let m := gC (LD.o c) (LD.a c) (LD.b c) (LD.n c) B (LD.m c) D (Tr.rows (LD.t c)) (Tr.rows (LD.u c)) A; let n := cA (au 0 (aQ (bA C jX 3 99991 (u9 CP.top)) (aU C 3 [TV.pv (PV.agg i), tS g, tS h] Q))); let f := aC 10 b /\ an e /\ an a; let o := aC 10 b /\ an a; let j := d0 (u1 (d0 (u8 CP.top))); let z := (0 : Int) <= (5 : Int) /\ (5 : Int) <= (4000 : Int); let k := bi b e a; let l := ft b e a; True /\ (∃ (E : Nat), un E i) /\ ((!w7 i) = true -> Q ([tB true], [])) /\ ((!w7 i) = false -> (∃ (d : Tr), g = Tr.rows d /\ List.length (Tr.list d) <= 140737488351232 /\ Tr.lim 140737488351232 d) /\ ((!tG g) = true -> Q ([tB true], [])) /\ ((!tG g) = false -> (∃ (d : Tr), h = Tr.rows d /\ List.length (Tr.list d) <= 140737488351232 /\ Tr.lim 140737488351232 d) /\ ((!tG h) = true -> Q ([tB true], [])) /\ ((!tG h) = false -> (wx i /\ (-10 : Int) <= (2 : Int) /\ (2 : Int) <= (100 : Int)) /\ (∃ (d : Tr), g = Tr.rows d /\ List.length (Tr.list d) <= 140737488351232 /\ Tr.lim 140737488351232 d /\ z /\ (0 : Int) <= (3 : Int) /\ (3 : Int) <= (4000 : Int)) /\ (∃ (d : Tr), h = Tr.rows d /\ List.length (Tr.list d) <= 140737488351232 /\ Tr.lim 140737488351232 d /\ z /\ (0 : Int) <= (3 : Int) /\ (3 : Int) <= (4000 : Int)) /\ aA [(o /\ aV b a ≠ (0 : Int), [tS [], tI (aV b a)], []), (o /\ aV b a = (0 : Int), [TV.own 2 (cu b a), tI 0], [])] /\ (o /\ aV b a ≠ (0 : Int) -> aA [(f /\ bi b e a ≠ (0 : Int), [tS [], tI k], []), (f /\ bi b e a = (0 : Int), [TV.own 2 l, tI 0], [])] /\ (f /\ bi b e a ≠ (0 : Int) -> bd C 3 j (St.mk [(7, AV.addr 14 0 0), (9, aS a), (10, aS e), (11, aS []), (12, aI (aV b a)), (13, aS []), (14, aI k), (15, aI 0)] [(14, Obj.box m)]) n) /\ (f /\ bi b e a = (0 : Int) -> bd C 3 j (St.mk [(7, AV.addr 14 0 0), (9, aS a), (10, aS e), (11, aS []), (12, aI (aV b a)), (13, aS l), (14, aI 0), (15, aI 0)] [(14, Obj.box m)]) n) /\ True) /\ (o /\ aV b a = (0 : Int) -> aA [(f /\ bi b e a ≠ (0 : Int), [tS [], tI k], []), (f /\ bi b e a = (0 : Int), [TV.own 2 l, tI 0], [])] /\ (f /\ bi b e a ≠ (0 : Int) -> bd C 3 j (St.mk [(7, AV.addr 14 0 0), (9, aS a), (10, aS e), (11, aS (cu b a)), (12, aI 0), (13, aS []), (14, aI k), (15, aI 0)] [(14, Obj.box m)]) n) /\ (f /\ bi b e a = (0 : Int) -> bd C 3 j (St.mk [(7, AV.addr 14 0 0), (9, aS a), (10, aS e), (11, aS (cu b a)), (12, aI 0), (13, aS l), (14, aI 0), (15, aI 0)] [(14, Obj.box m)]) n) /\ True) /\ True)))) := by kernel_rfl
def Bv : CP := (d0 (u1 (d0 (u8 CP.top))))
def Bx (q k l : LP) (m : Int) (n : LP) (o p a : Int) (b c : BS) (d : Bool) (e : LP) (f : Bool) (g h i j : LP) : St := (St.mk [(7, AV.addr 14 0 0), (9, aS q), (10, aS k), (11, aS l), (12, aI m), (13, aS n), (14, aI o), (15, aI p)] [(14, Obj.box (gC a b c d e f g h i j))])
theorem Kq (G x y : Int) (D : Bool) (E : LP) (A : Bool) (B I z J K d g a : LP) (e : Int) (i : LP) (j b l : Int) (m n : BS) (o : Bool) (p : LP) (q : Bool) (r t u v : LP)  (J0 : St -> Prop) (Q : QT) : (bA C jX 3 1000 (Bv.dn 0) (Bx d g a e i j b l m n o p q r t u v) (bO C 3 Bv J0 (cA (au 0 (aQ (bA C jX 3 99991 (u9 CP.top)) (aU C 3 [TV.pv (PV.agg (r9 G x y D E A B I z)), tS J, tS K] Q)))))) (H.b (H.n 2 (H.b (H.s (H.s (H.s (H.s (H.b (H.b H.auto (H.n 2 (H.b H.auto (H.n 4 (H.b H.auto H.auto))))) (H.b (H.b H.auto (H.n 7 (H.b H.auto H.auto))) H.auto)))))) H.auto)) H.auto) = (let c := bU l m n o p q r t u v; let w := gC l m n o p q r t u v; let L := St.mk [(7, AV.addr 14 0 0), (9, aS d), (10, aS g), (11, aS a), (12, aI e), (13, aS i), (14, aI j), (15, aI (IntKind.wrap .i64 (b + 1)))] [(14, Obj.box w)]; let M := au 0 (aQ (bA C jX 3 99991 (u9 CP.top)) (aU C 3 [TV.pv (PV.agg (r9 G x y D E A B I z)), tS J, tS K] Q)); let f := List.length d; let N := decide (b < (↑f : Int)); (decide (b < (↑f : Int)) = true -> ((e == 0) = true -> (0 : Int) <= b /\ ∃ (s : BS) (es : LP), d[Int.toNat b]? = some [pT s, pS es] /\ (an a /\ 0 = 0) /\ (0 : Int) <= b /\ ∃ (s_1 : BS) (es : LP), let k := aC 10 c /\ an es; let O := !bP (bG a s) (cu c es); d[Int.toNat b]? = some [pT s_1, pS es] /\ aA [(k /\ aV c es ≠ (0 : Int), [tS [], tI (aV c es)], []), (k /\ aV c es = (0 : Int), [tS (cu c es), tI 0], [])] /\ (k /\ aV c es ≠ (0 : Int) -> ((!aG a s) = true -> ∃ (h : H), Q ([tB false], [])) /\ ((!aG a s) = false -> ((aV c es != 0) = true -> ∃ (h : H), Q ([tB false], [])) /\ ((aV c es != 0) = false -> (an (bG a s) /\ an []) /\ ((!bP (bG a s) []) = true -> ∃ (h : H), Q ([tB false], [])) /\ ((!bP (bG a s) []) = false -> J0 L)))) /\ (k /\ aV c es = (0 : Int) -> ((!aG a s) = true -> ∃ (h : H), Q ([tB false], [])) /\ ((!aG a s) = false -> (an (bG a s) /\ an (cu c es)) /\ (O = true -> ∃ (h : H), Q ([tB false], [])) /\ (O = false -> J0 L))) /\ True) /\ ((e == 0) = false -> cA M (Ex.exit 0) (St.mk [(71, aB false), (70, aB (e == 0)), (69, aI e), (68, aB true), (67, aB N), (66, aI (↑f : Int)), (65, aS d), (64, aI b), (7, AV.addr 14 0 0), (9, aS d), (10, aS g), (11, aS a), (12, aI e), (13, aS i), (14, aI j), (15, aI b)] [(14, Obj.box w)]))) /\ (decide (b < (↑f : Int)) = false -> cA M (Ex.exit 0) (St.mk [(71, aB false), (70, AV.tup []), (69, AV.tup []), (68, aB false), (67, aB N), (66, aI (↑f : Int)), (65, aS d), (64, aI b), (7, AV.addr 14 0 0), (9, aS d), (10, aS g), (11, aS a), (12, aI e), (13, aS i), (14, aI j), (15, aI b)] [(14, Obj.box w)]))) := by kernel_rfl
def Ks (v : Bool) (u : Int) (t : Bool) (s : Int) (r : LP) (q : Int) (w k l : LP) (m : Int) (n : LP) (o p a : Int) (b c : BS) (d : Bool) (e : LP) (f : Bool) (g h i j : LP) : St := (St.mk [(71, aB false), (70, aB v), (69, aI u), (68, aB true), (67, aB t), (66, aI s), (65, aS r), (64, aI q), (7, AV.addr 14 0 0), (9, aS w), (10, aS k), (11, aS l), (12, aI m), (13, aS n), (14, aI o), (15, aI p)] [(14, Obj.box (gC a b c d e f g h i j))])
def Kt (t : Bool) (s : Int) (r : LP) (q : Int) (u k l : LP) (m : Int) (n : LP) (o p a : Int) (b c : BS) (d : Bool) (e : LP) (f : Bool) (g h i j : LP) : St := (St.mk [(71, aB false), (70, AV.tup []), (69, AV.tup []), (68, aB false), (67, aB t), (66, aI s), (65, aS r), (64, aI q), (7, AV.addr 14 0 0), (9, aS u), (10, aS k), (11, aS l), (12, aI m), (13, aS n), (14, aI o), (15, aI p)] [(14, Obj.box (gC a b c d e f g h i j))])
theorem Kw (i a b : Int) (f : Bool) (g : LP) (d : Bool) (e t c A B : LP) (L : Bool) (K : Int) (J : Bool) (I : Int) (G : LP) (E : Int) (z u v : LP) (w : Int) (x : LP) (y D j : Int) (k l : BS) (m : Bool) (n : LP) (o : Bool) (p q r s : LP)  (Q : QT) : (fun h => au 0 (aQ (bA C jX 3 99991 (u9 CP.top)) (aU C 3 [TV.pv (PV.agg (r9 i a b f g d e t c)), tS A, tS B] Q)) h (Ex.exit 0) (Ks L K J I G E z u v w x y D j k l m n o p q r s)) (H.auto) = (bd C 3 (d0 (u1 (d0 (u9 CP.top)))) (St.mk [(7, AV.addr 14 0 0), (9, aS z), (10, aS u), (11, aS v), (12, aI w), (13, aS x), (14, aI y), (20, aI 0)] [(14, Obj.box (gC j k l m n o p q r s))]) (cA (au 2 (aQ (bA C jX 3 99990 (u1 (u9 CP.top))) (aU C 3 [TV.pv (PV.agg (r9 i a b f g d e t c)), tS A, tS B] Q))))) := by kernel_rfl
def Bw : CP := (d0 (u1 (d0 (u9 CP.top))))
def Bz (q k l : LP) (m : Int) (n : LP) (o p a : Int) (b c : BS) (d : Bool) (e : LP) (f : Bool) (g h i j : LP) : St := (St.mk [(7, AV.addr 14 0 0), (9, aS q), (10, aS k), (11, aS l), (12, aI m), (13, aS n), (14, aI o), (20, aI p)] [(14, Obj.box (gC a b c d e f g h i j))])
theorem Kx (i a b : Int) (f : Bool) (g : LP) (d : Bool) (e t c A B : LP) (J : Bool) (I : Int) (G : LP) (E : Int) (z u v : LP) (w : Int) (x : LP) (y D j : Int) (k l : BS) (m : Bool) (n : LP) (o : Bool) (p q r s : LP)  (Q : QT) : (fun h => au 0 (aQ (bA C jX 3 99991 (u9 CP.top)) (aU C 3 [TV.pv (PV.agg (r9 i a b f g d e t c)), tS A, tS B] Q)) h (Ex.exit 0) (Kt J I G E z u v w x y D j k l m n o p q r s)) (H.auto) = (bd C 3 (d0 (u1 (d0 (u9 CP.top)))) (St.mk [(7, AV.addr 14 0 0), (9, aS z), (10, aS u), (11, aS v), (12, aI w), (13, aS x), (14, aI y), (20, aI 0)] [(14, Obj.box (gC j k l m n o p q r s))]) (cA (au 2 (aQ (bA C jX 3 99990 (u1 (u9 CP.top))) (aU C 3 [TV.pv (PV.agg (r9 i a b f g d e t c)), tS A, tS B] Q))))) := by kernel_rfl
theorem Kr (P I J : Int) (N : Bool) (O : LP) (L : Bool) (M R K T U c e i : LP) (j : Int) (a : LP) (f d r : Int) (t u : BS) (v : Bool) (w : LP) (x : Bool) (y z A B : LP)  (J3 : St -> Prop) (Q : QT) : (bA C jX 3 1000 (Bw.dn 0) (Bz c e i j a f d r t u v w x y z A B) (bO C 3 Bw J3 (cA (au 2 (aQ (bA C jX 3 99990 (u1 (u9 CP.top))) (aU C 3 [TV.pv (PV.agg (r9 P I J N O L M R K)), tS T, tS U] Q)))))) (H.b (H.n 2 (H.b (H.s (H.s (H.s (H.s (H.s (H.s (H.b (H.b (H.s (H.s (H.b (H.b H.auto (H.n 2 (H.b H.auto (H.n 4 (H.b H.auto H.auto))))) (H.b (H.b H.auto (H.n 7 (H.b H.auto H.auto))) H.auto)))) (H.b H.auto (H.n 2 (H.b H.auto (H.n 4 (H.b H.auto H.auto)))))) (H.b (H.b (H.s (H.s (H.b (H.b H.auto (H.n 2 (H.b H.auto (H.n 4 (H.b H.auto H.auto))))) (H.b (H.b H.auto (H.n 7 (H.b H.auto H.auto))) H.auto)))) (H.b H.auto (H.n 7 (H.b H.auto H.auto)))) H.auto)))))))) H.auto)) H.auto) = (let b := bU r t u v w x y z A B; let D := gC r t u v w x y z A B; let p := St.mk [(7, AV.addr 14 0 0), (9, aS c), (10, aS e), (11, aS i), (12, aI j), (13, aS a), (14, aI f), (20, aI (IntKind.wrap .i64 (d + 1)))] [(14, Obj.box D)]; let Y := au 2 (aQ (bA C jX 3 99990 (u1 (u9 CP.top))) (aU C 3 [TV.pv (PV.agg (r9 P I J N O L M R K)), tS T, tS U] Q)); let g := List.length e; let Z := decide (d < (↑g : Int)); (decide (d < (↑g : Int)) = true -> ((f == 0) = true -> (0 : Int) <= d /\ ∃ (s : BS) (es : LP), let q := !bP (bG a s) []; let E := an (bG a s) /\ an []; let G := q = false -> J3 p; e[Int.toNat d]? = some [pT s, pS es] /\ (an a /\ 0 = 0) /\ (0 : Int) <= d /\ ∃ (s_1 : BS) (es : LP), e[Int.toNat d]? = some [pT s_1, pS es] /\ (an c /\ 0 = 0) /\ (0 : Int) <= d /\ ∃ (s_2 : BS) (es : LP), let k := aC 10 b /\ an es; let V := !bP (bG a s) (fL b es); e[Int.toNat d]? = some [pT s_2, pS es] /\ aA [(k /\ bu b es ≠ (0 : Int), [tS [], tI (bu b es)], []), (k /\ bu b es = (0 : Int), [tS (fL b es), tI 0], [])] /\ (k /\ bu b es ≠ (0 : Int) -> (aG c s_1 = true -> (0 : Int) <= d /\ ∃ (s_3 : BS) (es : LP), let l := aC 10 b /\ an es /\ an (bG c s_1); let m := ft b es (bG c s_1); let W := bi b es (bG c s_1) != 0; e[Int.toNat d]? = some [pT s_3, pS es] /\ aA [(l /\ bi b es (bG c s_1) ≠ (0 : Int), [tS [], tI (bi b es (bG c s_1))], []), (l /\ bi b es (bG c s_1) = (0 : Int), [tS m, tI 0], [])] /\ (l /\ bi b es (bG c s_1) ≠ (0 : Int) -> ((!aG a s) = true -> ∃ (h : H), Q ([tB false], [])) /\ ((!aG a s) = false -> (W = true -> ∃ (h : H), Q ([tB false], [])) /\ (W = false -> E /\ (q = true -> ∃ (h : H), Q ([tB false], [])) /\ G))) /\ (l /\ bi b es (bG c s_1) = (0 : Int) -> ((!aG a s) = true -> ∃ (h : H), Q ([tB false], [])) /\ ((!aG a s) = false -> (an (bG a s) /\ an m) /\ ((!bP (bG a s) m) = true -> ∃ (h : H), Q ([tB false], [])) /\ ((!bP (bG a s) m) = false -> J3 p))) /\ True) /\ (aG c s_1 = false -> ((!aG a s) = true -> ∃ (h : H), Q ([tB false], [])) /\ ((!aG a s) = false -> ((bu b es != 0) = true -> ∃ (h : H), Q ([tB false], [])) /\ ((bu b es != 0) = false -> E /\ (q = true -> ∃ (h : H), Q ([tB false], [])) /\ G)))) /\ (k /\ bu b es = (0 : Int) -> (aG c s_1 = true -> (0 : Int) <= d /\ ∃ (s_3 : BS) (es : LP), let n := aC 10 b /\ an es /\ an (bG c s_1); let o := ft b es (bG c s_1); let X := bi b es (bG c s_1) != 0; e[Int.toNat d]? = some [pT s_3, pS es] /\ aA [(n /\ bi b es (bG c s_1) ≠ (0 : Int), [tS [], tI (bi b es (bG c s_1))], []), (n /\ bi b es (bG c s_1) = (0 : Int), [tS o, tI 0], [])] /\ (n /\ bi b es (bG c s_1) ≠ (0 : Int) -> ((!aG a s) = true -> ∃ (h : H), Q ([tB false], [])) /\ ((!aG a s) = false -> (X = true -> ∃ (h : H), Q ([tB false], [])) /\ (X = false -> E /\ (q = true -> ∃ (h : H), Q ([tB false], [])) /\ G))) /\ (n /\ bi b es (bG c s_1) = (0 : Int) -> ((!aG a s) = true -> ∃ (h : H), Q ([tB false], [])) /\ ((!aG a s) = false -> (an (bG a s) /\ an o) /\ ((!bP (bG a s) o) = true -> ∃ (h : H), Q ([tB false], [])) /\ ((!bP (bG a s) o) = false -> J3 p))) /\ True) /\ (aG c s_1 = false -> ((!aG a s) = true -> ∃ (h : H), Q ([tB false], [])) /\ ((!aG a s) = false -> (an (bG a s) /\ an (fL b es)) /\ (V = true -> ∃ (h : H), Q ([tB false], [])) /\ (V = false -> J3 p)))) /\ True) /\ ((f == 0) = false -> cA Y (Ex.exit 2) (St.mk [(113, aB false), (112, aB (f == 0)), (111, aI f), (110, aB true), (109, aB Z), (108, aI (↑g : Int)), (107, aS e), (106, aI d), (7, AV.addr 14 0 0), (9, aS c), (10, aS e), (11, aS i), (12, aI j), (13, aS a), (14, aI f), (20, aI d)] [(14, Obj.box D)]))) /\ (decide (d < (↑g : Int)) = false -> cA Y (Ex.exit 2) (St.mk [(113, aB false), (112, AV.tup []), (111, AV.tup []), (110, aB false), (109, aB Z), (108, aI (↑g : Int)), (107, aS e), (106, aI d), (7, AV.addr 14 0 0), (9, aS c), (10, aS e), (11, aS i), (12, aI j), (13, aS a), (14, aI f), (20, aI d)] [(14, Obj.box D)]))) := by kernel_rfl
def Ku (r : Bool) (q : Int) (o : Bool) (n : Int) (m : LP) (l : Int) (w k p : LP) (s : Int) (t : LP) (u v a : Int) (b c : BS) (d : Bool) (e : LP) (f : Bool) (g h i j : LP) : St := (St.mk [(113, aB false), (112, aB r), (111, aI q), (110, aB true), (109, aB o), (108, aI n), (107, aS m), (106, aI l), (7, AV.addr 14 0 0), (9, aS w), (10, aS k), (11, aS p), (12, aI s), (13, aS t), (14, aI u), (20, aI v)] [(14, Obj.box (gC a b c d e f g h i j))])
def Kv (o : Bool) (n : Int) (m : LP) (l : Int) (u k p : LP) (q : Int) (r : LP) (s t a : Int) (b c : BS) (d : Bool) (e : LP) (f : Bool) (g h i j : LP) : St := (St.mk [(113, aB false), (112, AV.tup []), (111, AV.tup []), (110, aB false), (109, aB o), (108, aI n), (107, aS m), (106, aI l), (7, AV.addr 14 0 0), (9, aS u), (10, aS k), (11, aS p), (12, aI q), (13, aS r), (14, aI s), (20, aI t)] [(14, Obj.box (gC a b c d e f g h i j))])
theorem Ky (r k l : Int) (p : Bool) (q : LP) (n : Bool) (o D m N O : LP) (L : Bool) (K : Int) (J : Bool) (I : Int) (G : LP) (E : Int) (f c d : LP) (a : Int) (e : LP) (b M s : Int) (t u : BS) (v : Bool) (w : LP) (x : Bool) (y z A B : LP)  (Q : QT) : (fun h => au 2 (aQ (bA C jX 3 99990 (u1 (u9 CP.top))) (aU C 3 [TV.pv (PV.agg (r9 r k l p q n o D m)), tS N, tS O] Q)) h (Ex.exit 2) (Ku L K J I G E f c d a e b M s t u v w x y z A B)) (H.b (H.n 8 (H.b H.auto H.auto)) (H.n 5 (H.b (H.n 2 (H.b H.auto H.auto)) H.auto))) = (let g := (b != 0) = false -> Q ([tB ((↑(List.length e) : Int) == (↑(List.length c) : Int))], []); let i := (↑(List.length d) : Int) == (↑(List.length f) : Int); let j := (b != 0) = true -> Q ([tB true], []); ((a != 0) = true -> j /\ g) /\ ((a != 0) = false -> (i = true -> j /\ g) /\ (i = false -> Q ([tB false], [])))) := by kernel_rfl
theorem Kz (r k l : Int) (p : Bool) (q : LP) (n : Bool) (o D m L M : LP) (J : Bool) (I : Int) (G : LP) (E : Int) (f c d : LP) (a : Int) (e : LP) (b K s : Int) (t u : BS) (v : Bool) (w : LP) (x : Bool) (y z A B : LP)  (Q : QT) : (fun h => au 2 (aQ (bA C jX 3 99990 (u1 (u9 CP.top))) (aU C 3 [TV.pv (PV.agg (r9 r k l p q n o D m)), tS L, tS M] Q)) h (Ex.exit 2) (Kv J I G E f c d a e b K s t u v w x y z A B)) (H.b (H.n 8 (H.b H.auto H.auto)) (H.n 5 (H.b (H.n 2 (H.b H.auto H.auto)) H.auto))) = (let g := (b != 0) = false -> Q ([tB ((↑(List.length e) : Int) == (↑(List.length c) : Int))], []); let i := (↑(List.length d) : Int) == (↑(List.length f) : Int); let j := (b != 0) = true -> Q ([tB true], []); ((a != 0) = true -> j /\ g) /\ ((a != 0) = false -> (i = true -> j /\ g) /\ (i = false -> Q ([tB false], [])))) := by kernel_rfl
theorem Kn : ∀ ag al, tP ag = some al -> ∀ a ∈ al, a.1 -> Ev C 4 ag a.2 := by
 intro ag al hl x hx hp
 unfold tP at hl
 split at hl
 ·have e := aD hl hx; subst e
  exact bh bM (Mm _) rfl
 ·exact absurd hl (by simp)
theorem Hz : ∀ ag al, AX ag = some al -> ∀ a ∈ al, a.1 -> Ev C 7 ag a.2 := by
 intro ag al hl x hx hp
 unfold AX at hl
 split at hl
 ·have e := aD hl hx; subst e
  obtain ⟨⟨d', k', er, h1⟩, h2, h3⟩ := hp
  rw [er]
  exact (mU (yo 200 _ d' k' (by omega) h2 (by omega) h1)).1
 ·exact absurd hl (by simp)
theorem Hu : aK C jX := az (am Kn (am DS (am Az (am Hz (am sZ (am (px 10) (am (ua 10) (am (kD 10) (am (xF 10).1 (am (xF 10).2 (am yf (am xI ax))))))))))))
theorem v8 {g : Edge -> ej} : ∀ {l : List Edge}, (bC g l).2 = 0 -> (bC g l).1 = l.map (fun e => (e.1, (g e).1)) /\ ∀ e ∈ l, (g e).2 = 0
 | [], _ => ⟨rfl, by simp⟩
 | e :: l, h => by
  unfold bC at h ⊢
  by_cases h1 : (g e).2 = 0
  ·rw [if_neg (not_not_intro h1)] at h ⊢
   by_cases h2 : (bC g l).2 = 0
   ·obtain ⟨i1, i2⟩ := v8 h2
    rw [if_neg (not_not_intro h2), i1]
    exact ⟨rfl, fun x hx => by
     rcases List.mem_cons.1 hx with rfl | hx
     ·exact h1
     ·exact i2 x hx⟩
   ·rw [if_pos h2] at h
    exact absurd h h2
  ·rw [if_pos h1] at h
   exact absurd h h1
theorem D9 {t : Tr} {p : Option (BS)} (h : dI p t.list) {n : BS} {x : Tr} (hm : (n, x) ∈ t.list) : dK t.list n = true /\ bE t n = x := by
 obtain ⟨h1, h2⟩ := yE h hm
 have := ld h1
 rw [h2] at this
 simp only [Option.some.injEq, Prod.mk.injEq, true_and] at this
 exact ⟨h1, this.symm⟩
theorem EW {r : ej} (h : (cH r).2 = 0) : r.2 = 0 /\ cH r = (r.1, 0) := by
 unfold cH at h ⊢
 by_cases h1 : r.2 = 0
 ·rw [if_neg (not_not_intro h1)] at h ⊢
  by_cases h2 : (cq r.1 none 1 0).2 = 0
  ·rw [if_neg (not_not_intro h2)]
   exact ⟨h1, rfl⟩
  ·rw [if_pos h2] at h
   exact absurd h h2
 ·rw [if_pos h1] at h
  exact absurd h h1
def dd : LD := ⟨8, [], [], false, [], false, [], .nil, .nil⟩
theorem wa {g : Edge -> ej} {t : Tr} {V : ej} (hV : V = (Tr.of (bC g t.list).1, (bC g t.list).2)) (ok : lC (cH V)) (h0 : (cH V).2 = 0) : (cH V).1.list.length = t.list.length /\ ∀ e ∈ t.list, (g e).2 = 0 /\ aG (cH V).1.rows e.1 = true /\ bE (cH V).1 e.1 = (g e).1 := by
 have gd := ok.2 h0
 obtain ⟨h1, h2⟩ := EW h0
 rw [h2] at gd ⊢
 subst hV
 obtain ⟨h3, h4⟩ := v8 h1
 simp only at gd ⊢
 rw [h3] at gd ⊢
 refine ⟨by rw [list_of, List.length_map], fun e he => ?_⟩
 have hs := eC gd.sound
 obtain ⟨k1, k2⟩ := D9 hs (n := e.1) (x := (g e).1) (by rw [list_of]; exact List.mem_map.2 ⟨e, he, rfl⟩)
 exact ⟨h4 e he, by rw [bR]; exact k1, k2⟩
theorem Hv {e h : Int} {g c p a : LP} (hG : e = 0 -> g.length = c.length) (hH : h = 0 -> p.length = a.length) : (((e != 0) = true -> ((h != 0) = true -> (([TV.pv (PV.bool true)], []) : RT) = good) /\ ((h != 0) = false -> (([TV.pv (PV.bool ((p.length : Int) == (a.length : Int)))], []) : RT) = good)) /\ ((e != 0) = false -> (((g.length : Int) == (c.length : Int)) = true -> ((h != 0) = true -> (([TV.pv (PV.bool true)], []) : RT) = good) /\ ((h != 0) = false -> (([TV.pv (PV.bool ((p.length : Int) == (a.length : Int)))], []) : RT) = good)) /\ (((g.length : Int) == (c.length : Int)) = false -> (([TV.pv (PV.bool false)], []) : RT) = good))) := by
 have k : (h != 0) = false -> (([TV.pv (PV.bool ((p.length : Int) == (a.length : Int)))], []) : RT) = good := fun q => by
  rw [hH (by simpa using q), beq_self_eq_true]; rfl
 refine ⟨fun _ => ⟨fun _ => rfl, k⟩, fun q => ⟨fun _ => ⟨fun _ => rfl, k⟩, fun q2 => ?_⟩⟩
 rw [hG (by simpa using q), beq_self_eq_true] at q2
 simp at q2
theorem Kp (d : RD) (r : Rs) (hlim : (Rs.cons d r .nil).lim) (l m : Tr) (h1 : l.list.length <= 140737488351232) (h2 : l.lim 140737488351232) (h3 : m.list.length <= 140737488351232) (h4 : m.lim 140737488351232) : Ev C 3 [.pv (.agg (d.row r.rows)), .pv (.sl l.rows), .pv (.sl m.rows)] good := by
 refine bh Hu (Mn d.o d.a d.b d.n (d.nl.map ak) d.m (d.ml.map ak) d.t.rows r.rows l.rows m.rows _) ?_
 conv => zeta
 have row9 : (r9 d.o d.a d.b d.n (d.nl.map ak) d.m (d.ml.map ak) d.t.rows r.rows) = d.row r.rows := rfl
 rw [row9]
 refine ⟨trivial, ⟨_, d, r, rfl, Nat.lt_succ_self _, hlim⟩, fun _ => rfl, fun hf => ⟨⟨l, rfl, h1, h2⟩, fun _ => rfl, fun fl => ⟨⟨m, rfl, h3, h4⟩, fun _ => rfl, fun fm => ?_⟩⟩⟩
 obtain ⟨hG, h60⟩ := GN hlim (by simpa using hf)
 have hY := mU (yo 200 2 d r (by decide) (by decide) (by decide) hG)
 obtain ⟨_, y1, y2, y3⟩ := hY
 generalize nH (d.row r.rows) 2 = Y at *
 have nl := nP h1 h2 (by simpa using fl)
 have nm := nP h3 h4 (by simpa using fm)
 rw [aq, aq]
 have gc : (cC 5 3 l).good := mf nl (by decide)
 have ga : (cC 5 3 m).good := mf nm (by decide)
 generalize cC 5 3 l = c at *
 generalize cC 5 3 m = a at *
 rw [if_pos (by decide)] at y1
 have hgc : an c.rows := ⟨c, rfl, gc⟩
 have hga : an a.rows := ⟨a, rfl, ga⟩
 have f8 : (Ls.cons dd (.cons Y.1 Y.2 .nil) .nil).fine := ⟨⟨⟨by simp [dd, oc], by simp [dd, oc]⟩, ⟨fi, fi⟩, ⟨by simp [dd], by simp [dd]⟩, ⟨by simp [dd], by simp [dd]⟩, by simp [dd], by simp [Ls.len], by simp [Ls.len], by simp [Ls.len]⟩, y2, trivial⟩
 have hL : aC 10 (bU Y.1.o Y.1.a Y.1.b Y.1.n (Y.1.nl.map ak) Y.1.m (Y.1.ml.map ak) Y.1.t.rows Y.1.u.rows Y.2.rows) := ⟨Y.1, Y.2, rfl, by omega, y2⟩
 have hL8 : aC 10 (bU 8 [] [] false [] false [] [] [] [(bU Y.1.o Y.1.a Y.1.b Y.1.n (Y.1.nl.map ak) Y.1.m (Y.1.ml.map ak) Y.1.t.rows Y.1.u.rows Y.2.rows)]) := ⟨dd, .cons Y.1 Y.2 .nil, rfl, by rw [Ls.one_deep]; omega, f8⟩
 have EG : aV (bU 8 [] [] false [] false [] [] [] [(bU Y.1.o Y.1.a Y.1.b Y.1.n (Y.1.nl.map ak) Y.1.m (Y.1.ml.map ak) Y.1.t.rows Y.1.u.rows Y.2.rows)]) c.rows = (bx dd (.cons Y.1 Y.2 .nil) c).2 := cP dd (.cons Y.1 Y.2 .nil) c
 have TG : cu (bU 8 [] [] false [] false [] [] [] [(bU Y.1.o Y.1.a Y.1.b Y.1.n (Y.1.nl.map ak) Y.1.m (Y.1.ml.map ak) Y.1.t.rows Y.1.u.rows Y.2.rows)]) c.rows = (bx dd (.cons Y.1 Y.2 .nil) c).1.rows := dz dd (.cons Y.1 Y.2 .nil) c
 have EP : bi (bU 8 [] [] false [] false [] [] [] [(bU Y.1.o Y.1.a Y.1.b Y.1.n (Y.1.nl.map ak) Y.1.m (Y.1.ml.map ak) Y.1.t.rows Y.1.u.rows Y.2.rows)]) a.rows c.rows = (aY dd (.cons Y.1 Y.2 .nil) a c).2 := dl dd (.cons Y.1 Y.2 .nil) a c
 have TP : ft (bU 8 [] [] false [] false [] [] [] [(bU Y.1.o Y.1.a Y.1.b Y.1.n (Y.1.nl.map ak) Y.1.m (Y.1.ml.map ak) Y.1.t.rows Y.1.u.rows Y.2.rows)]) a.rows c.rows = (aY dd (.cons Y.1 Y.2 .nil) a c).1.rows := eq dd (.cons Y.1 Y.2 .nil) a c
 rw [EG, TG, EP, TP]
 have okG : lC (bx dd (.cons Y.1 Y.2 .nil) c) := cl (ea dd _ f8 c gc)
 have okH : lC (aY dd (.cons Y.1 Y.2 .nil) a c) := cl (eW dd _ f8 a c ga gc)
 have mG := wa (g := fun e => bx Y.1 Y.2 e.2) (t := c) (V := bL dd (Ls.cons Y.1 Y.2 .nil).gets c) (by
  unfold bL
  rw [if_neg (by decide), if_neg (by decide), if_neg (by decide), if_neg (by decide), if_neg (by decide), if_neg (by decide), if_pos (by decide)]
  rfl) okG
 have mH := wa (g := gT (aY Y.1 Y.2) (aO Y.1 Y.2) c) (t := a) (V := cZ dd (Ls.cons Y.1 Y.2 .nil).gets (Ls.cons Y.1 Y.2 .nil).cres (Ls.cons Y.1 Y.2 .nil).puts a c) (by
  unfold cZ
  rw [if_neg (by decide), if_neg (by decide), if_neg (by decide), if_neg (by decide), if_neg (by decide), if_neg (by decide), if_pos (by decide)]
  rfl) okH
 change (bx dd (.cons Y.1 Y.2 .nil) c).2 = 0 -> (bx dd (.cons Y.1 Y.2 .nil) c).1.list.length = c.list.length /\ ∀ e ∈ c.list, (bx Y.1 Y.2 e.2).2 = 0 /\ aG (bx dd (.cons Y.1 Y.2 .nil) c).1.rows e.1 = true /\ bE (bx dd (.cons Y.1 Y.2 .nil) c).1 e.1 = (bx Y.1 Y.2 e.2).1 at mG
 change (aY dd (.cons Y.1 Y.2 .nil) a c).2 = 0 -> (aY dd (.cons Y.1 Y.2 .nil) a c).1.list.length = a.list.length /\ ∀ e ∈ a.list, (gT (aY Y.1 Y.2) (aO Y.1 Y.2) c e).2 = 0 /\ aG (aY dd (.cons Y.1 Y.2 .nil) a c).1.rows e.1 = true /\ bE (aY dd (.cons Y.1 Y.2 .nil) a c).1 e.1 = (gT (aY Y.1 Y.2) (aO Y.1 Y.2) c e).1 at mH
 generalize bx dd (.cons Y.1 Y.2 .nil) c = G at *
 generalize aY dd (.cons Y.1 Y.2 .nil) a c = H at *
 have lc := cw gc
 have la := cw ga
 have rc := rows_len c
 have ra := rows_len a
 have finS := Hv (e := G.2) (h := H.2) (g := G.1.rows) (c := c.rows) (p := H.1.rows) (a := a.rows) (fun h => by rw [rows_len, rows_len]; exact (mG h).1) (fun h => by rw [rows_len, rows_len]; exact (mH h).1)
 have two : bd C 3 Bw (Bz c.rows a.rows G.1.rows G.2 H.1.rows H.2 0 Y.1.o Y.1.a Y.1.b Y.1.n (Y.1.nl.map ak) Y.1.m (Y.1.ml.map ak) Y.1.t.rows Y.1.u.rows Y.2.rows) (cA (au (2 : Nat) (aQ (bA C jX (3 : FuncId) (99990 : Nat) (CP.dn (CP.dn (CP.dn (CP.dn (CP.dn (CP.dn (CP.dn (CP.dn (CP.dn (CP.dn CP.top (1 : Nat)) (1 : Nat)) (1 : Nat)) (1 : Nat)) (1 : Nat)) (1 : Nat)) (1 : Nat)) (1 : Nat)) (1 : Nat)) (1 : Nat))) (aU C (3 : FuncId) [TV.pv (PV.agg (d.row r.rows)), TV.pv (PV.sl l.rows), TV.pv (PV.sl m.rows)] (fun r => r = good))))) := by
  refine aJ Hu (by kernel_rfl) 1000 (fun q st => ∃ i : Nat, st = Bz c.rows a.rows G.1.rows G.2 H.1.rows H.2 i Y.1.o Y.1.a Y.1.b Y.1.n (Y.1.nl.map ak) Y.1.m (Y.1.ml.map ak) Y.1.t.rows Y.1.u.rows Y.2.rows /\ i <= a.list.length /\ q = a.list.length - i) ?_ (n := a.list.length) ⟨0, rfl, by omega, rfl⟩
  rintro q st ⟨i, rfl, hi, rfl⟩
  refine cr (Kr ..) ?_
  conv => zeta
  rw [ra]
  refine ⟨fun g => ⟨fun g0 => ?_, fun _ => cr (Ky ..) finS⟩, fun _ => cr (Kz ..) finS⟩
  simp only [decide_eq_true_eq, beq_iff_eq] at g g0
  have hi' : i < a.list.length := by omega
  have hmem := List.getElem_mem hi'
  obtain ⟨z1, z2, z3⟩ := (mH g0).2 _ hmem
  have gH : H.1.good := okH.2 g0
  have hgH : an H.1.rows := ⟨_, rfl, gH⟩
  have ge : an a.list[i].2.rows := ⟨_, rfl, dA ga hmem⟩
  have gk : an (bG c.rows a.list[i].1) := ⟨_, c8 _ _, gQ gc _⟩
  have gkp : an (bG H.1.rows a.list[i].1) := ⟨_, c8 _ _, gQ gH _⟩
  have no1 : ¬ (!aG H.1.rows a.list[i].1) = true := by rw [z2]; simp
  have pT : aG c.rows a.list[i].1 = true -> gT (aY Y.1 Y.2) (aO Y.1 Y.2) c a.list[i] = aY Y.1 Y.2 a.list[i].2 (bE c a.list[i].1) := fun hh => by unfold gT; rw [if_pos (by rw [<- bR, hh])]
  have pF : aG c.rows a.list[i].1 = false -> gT (aY Y.1 Y.2) (aO Y.1 Y.2) c a.list[i] = aO Y.1 Y.2 a.list[i].2 := fun hh => by unfold gT; rw [if_neg (by rw [<- bR, hh]; simp)]
  have E0 : bi (bU Y.1.o Y.1.a Y.1.b Y.1.n (Y.1.nl.map ak) Y.1.m (Y.1.ml.map ak) Y.1.t.rows Y.1.u.rows Y.2.rows) a.list[i].2.rows (bE c a.list[i].1).rows = _ := dl Y.1 Y.2 a.list[i].2 (bE c a.list[i].1)
  have T0 : ft (bU Y.1.o Y.1.a Y.1.b Y.1.n (Y.1.nl.map ak) Y.1.m (Y.1.ml.map ak) Y.1.t.rows Y.1.u.rows Y.2.rows) a.list[i].2.rows (bE c a.list[i].1).rows = _ := eq Y.1 Y.2 a.list[i].2 (bE c a.list[i].1)
  have E1 : bu (bU Y.1.o Y.1.a Y.1.b Y.1.n (Y.1.nl.map ak) Y.1.m (Y.1.ml.map ak) Y.1.t.rows Y.1.u.rows Y.2.rows) a.list[i].2.rows = _ := de Y.1 Y.2 a.list[i].2
  have T1 : fL (bU Y.1.o Y.1.a Y.1.b Y.1.n (Y.1.nl.map ak) Y.1.m (Y.1.ml.map ak) Y.1.t.rows Y.1.u.rows Y.2.rows) a.list[i].2.rows = _ := dU Y.1 Y.2 a.list[i].2
  have ptz : aG c.rows a.list[i].1 = true -> bi (bU Y.1.o Y.1.a Y.1.b Y.1.n (Y.1.nl.map ak) Y.1.m (Y.1.ml.map ak) Y.1.t.rows Y.1.u.rows Y.2.rows) a.list[i].2.rows (bG c.rows a.list[i].1) = 0 := fun hh => by rw [c8, E0, <- pT hh]; exact z1
  have eqp : aG c.rows a.list[i].1 = true -> bG H.1.rows a.list[i].1 = ft (bU Y.1.o Y.1.a Y.1.b Y.1.n (Y.1.nl.map ak) Y.1.m (Y.1.ml.map ak) Y.1.t.rows Y.1.u.rows Y.2.rows) a.list[i].2.rows (bG c.rows a.list[i].1) := fun hh => by rw [c8, c8, T0, <- pT hh, z3]
  have gpt : aG c.rows a.list[i].1 = true -> an (ft (bU Y.1.o Y.1.a Y.1.b Y.1.n (Y.1.nl.map ak) Y.1.m (Y.1.ml.map ak) Y.1.t.rows Y.1.u.rows Y.2.rows) a.list[i].2.rows (bG c.rows a.list[i].1)) := fun hh => by rw [<- eqp hh]; exact gkp
  have smp : aG c.rows a.list[i].1 = true -> ¬ (!bP (bG H.1.rows a.list[i].1) (ft (bU Y.1.o Y.1.a Y.1.b Y.1.n (Y.1.nl.map ak) Y.1.m (Y.1.ml.map ak) Y.1.t.rows Y.1.u.rows Y.2.rows) a.list[i].2.rows (bG c.rows a.list[i].1))) = true := fun hh => by rw [ja (eqp hh)]; simp
  have crz : aG c.rows a.list[i].1 = false -> bu (bU Y.1.o Y.1.a Y.1.b Y.1.n (Y.1.nl.map ak) Y.1.m (Y.1.ml.map ak) Y.1.t.rows Y.1.u.rows Y.2.rows) a.list[i].2.rows = 0 := fun hh => by rw [E1, <- pF hh]; exact z1
  have eqc : aG c.rows a.list[i].1 = false -> bG H.1.rows a.list[i].1 = fL (bU Y.1.o Y.1.a Y.1.b Y.1.n (Y.1.nl.map ak) Y.1.m (Y.1.ml.map ak) Y.1.t.rows Y.1.u.rows Y.2.rows) a.list[i].2.rows := fun hh => by rw [c8, T1, <- pF hh, z3]
  have gct : aG c.rows a.list[i].1 = false -> an (fL (bU Y.1.o Y.1.a Y.1.b Y.1.n (Y.1.nl.map ak) Y.1.m (Y.1.ml.map ak) Y.1.t.rows Y.1.u.rows Y.2.rows) a.list[i].2.rows) := fun hh => by rw [<- eqc hh]; exact gkp
  have smc : aG c.rows a.list[i].1 = false -> ¬ (!bP (bG H.1.rows a.list[i].1) (fL (bU Y.1.o Y.1.a Y.1.b Y.1.n (Y.1.nl.map ak) Y.1.m (Y.1.ml.map ak) Y.1.t.rows Y.1.u.rows Y.2.rows) a.list[i].2.rows)) = true := fun hh => by rw [ja (eqc hh)]; simp
  refine ⟨by omega, _, _, row_get a hi', ⟨hgH, rfl⟩, by omega, _, _, row_get a hi', ⟨hgc, rfl⟩, by omega, _, _, row_get a hi', ce ⟨hL, ge⟩, fun g1 => ⟨fun hh => ⟨by omega, _, _, row_get a hi', ce ⟨hL, ge, gk⟩, fun g => absurd (ptz hh) g.2, fun g => ⟨fun q => absurd q no1, fun _ => ⟨⟨gkp, gpt hh⟩, fun q => absurd q (smp hh), fun _ => ⟨a.list.length - (i + 1), by omega, i + 1, by rw [dJ (by omega)]; rfl, by omega, rfl⟩⟩⟩, trivial⟩, fun hh => absurd (crz hh) g1.2⟩, fun g1 => ⟨fun hh => ⟨by omega, _, _, row_get a hi', ce ⟨hL, ge, gk⟩, fun g => absurd (ptz hh) g.2, fun g => ⟨fun q => absurd q no1, fun _ => ⟨⟨gkp, gpt hh⟩, fun q => absurd q (smp hh), fun _ => ⟨a.list.length - (i + 1), by omega, i + 1, by rw [dJ (by omega)]; rfl, by omega, rfl⟩⟩⟩, trivial⟩, fun hh => ⟨fun q => absurd q no1, fun _ => ⟨⟨gkp, gct hh⟩, fun q => absurd q (smc hh), fun _ => ⟨a.list.length - (i + 1), by omega, i + 1, by rw [dJ (by omega)]; rfl, by omega, rfl⟩⟩⟩⟩, trivial⟩
 have key : ∀ (X Z : LP) (e h : Int), X = G.1.rows -> e = G.2 -> Z = H.1.rows -> h = H.2 -> bd C 3 Bv (Bx c.rows a.rows X e Z h 0 Y.1.o Y.1.a Y.1.b Y.1.n (Y.1.nl.map ak) Y.1.m (Y.1.ml.map ak) Y.1.t.rows Y.1.u.rows Y.2.rows) (cA (au (0 : Nat) (aQ (bA C jX (3 : FuncId) (99991 : Nat) (CP.dn (CP.dn (CP.dn (CP.dn (CP.dn (CP.dn (CP.dn (CP.dn (CP.dn CP.top (1 : Nat)) (1 : Nat)) (1 : Nat)) (1 : Nat)) (1 : Nat)) (1 : Nat)) (1 : Nat)) (1 : Nat)) (1 : Nat))) (aU C (3 : FuncId) [TV.pv (PV.agg (d.row r.rows)), TV.pv (PV.sl l.rows), TV.pv (PV.sl m.rows)] (fun r => r = good))))) := by
  rintro X Z e h rfl rfl rfl rfl
  refine aJ Hu (by kernel_rfl) 1000 (fun q st => ∃ i : Nat, st = Bx c.rows a.rows G.1.rows G.2 H.1.rows H.2 i Y.1.o Y.1.a Y.1.b Y.1.n (Y.1.nl.map ak) Y.1.m (Y.1.ml.map ak) Y.1.t.rows Y.1.u.rows Y.2.rows /\ i <= c.list.length /\ q = c.list.length - i) ?_ (n := c.list.length) ⟨0, rfl, by omega, rfl⟩
  rintro q st ⟨i, rfl, hi, rfl⟩
  refine cr (Kq ..) ?_
  conv => zeta
  rw [rc]
  refine ⟨fun g => ⟨fun g0 => ?_, fun _ => cr (Kw ..) two⟩, fun _ => cr (Kx ..) two⟩
  simp only [decide_eq_true_eq, beq_iff_eq] at g g0
  have hi' : i < c.list.length := by omega
  have hmem := List.getElem_mem hi'
  obtain ⟨z1, z2, z3⟩ := (mG g0).2 _ hmem
  have gG : G.1.good := okG.2 g0
  have hgG : an G.1.rows := ⟨_, rfl, gG⟩
  have ge : an c.list[i].2.rows := ⟨_, rfl, dA gc hmem⟩
  have gkp : an (bG G.1.rows c.list[i].1) := ⟨_, c8 _ _, gQ gG _⟩
  have no1 : ¬ (!aG G.1.rows c.list[i].1) = true := by rw [z2]; simp
  have E0 : aV (bU Y.1.o Y.1.a Y.1.b Y.1.n (Y.1.nl.map ak) Y.1.m (Y.1.ml.map ak) Y.1.t.rows Y.1.u.rows Y.2.rows) c.list[i].2.rows = _ := cP Y.1 Y.2 c.list[i].2
  have T0 : cu (bU Y.1.o Y.1.a Y.1.b Y.1.n (Y.1.nl.map ak) Y.1.m (Y.1.ml.map ak) Y.1.t.rows Y.1.u.rows Y.2.rows) c.list[i].2.rows = _ := dz Y.1 Y.2 c.list[i].2
  have z : aV (bU Y.1.o Y.1.a Y.1.b Y.1.n (Y.1.nl.map ak) Y.1.m (Y.1.ml.map ak) Y.1.t.rows Y.1.u.rows Y.2.rows) c.list[i].2.rows = 0 := by rw [E0]; exact z1
  have eqp : bG G.1.rows c.list[i].1 = cu (bU Y.1.o Y.1.a Y.1.b Y.1.n (Y.1.nl.map ak) Y.1.m (Y.1.ml.map ak) Y.1.t.rows Y.1.u.rows Y.2.rows) c.list[i].2.rows := by rw [c8, T0, z3]
  have gpt : an (cu (bU Y.1.o Y.1.a Y.1.b Y.1.n (Y.1.nl.map ak) Y.1.m (Y.1.ml.map ak) Y.1.t.rows Y.1.u.rows Y.2.rows) c.list[i].2.rows) := by rw [<- eqp]; exact gkp
  have smp : ¬ (!bP (bG G.1.rows c.list[i].1) (cu (bU Y.1.o Y.1.a Y.1.b Y.1.n (Y.1.nl.map ak) Y.1.m (Y.1.ml.map ak) Y.1.t.rows Y.1.u.rows Y.2.rows) c.list[i].2.rows)) = true := by rw [ja eqp]; simp
  exact ⟨by omega, _, _, row_get c hi', ⟨hgG, rfl⟩, by omega, _, _, row_get c hi', ce ⟨hL, ge⟩, fun g1 => absurd z g1.2, fun g1 => ⟨fun q => absurd q no1, fun _ => ⟨⟨gkp, gpt⟩, fun q => absurd q smp, fun _ => ⟨c.list.length - (i + 1), by omega, i + 1, by rw [dJ (by omega)]; rfl, by omega, rfl⟩⟩⟩, trivial⟩
 have eG : G.2 ≠ 0 -> ([] : LP) = G.1.rows := fun h => by rw [okG.1 h]; rfl
 have eH : H.2 ≠ 0 -> ([] : LP) = H.1.rows := fun h => by rw [okH.1 h]; rfl
 refine ⟨⟨⟨d, r, rfl, hG⟩, by decide, by decide⟩, ⟨l, rfl, h1, h2, ⟨by decide, by decide⟩, by decide, by decide⟩, ⟨m, rfl, h3, h4, ⟨by decide, by decide⟩, by decide, by decide⟩, ce ⟨hL8, hgc⟩, fun g => ⟨ce ⟨hL8, hga, hgc⟩, fun g2 => key _ _ _ _ (eG g.2) rfl (eH g2.2) rfl, fun g2 => key _ _ _ _ (eG g.2) rfl rfl g2.2.symm, trivial⟩, fun g => ⟨ce ⟨hL8, hga, hgc⟩, fun g2 => key _ _ _ _ rfl g.2.symm (eH g2.2) rfl, fun g2 => key _ _ _ _ rfl g.2.symm rfl g2.2.symm, trivial⟩, trivial⟩
theorem Dt (e1 : List PV) (s1 : Shp Tryz.prog 28 e1) (e2 : LP) (s2 : Shp Tryz.prog 25 [.sl e2]) (e3 : LP) (s3 : Shp Tryz.prog 25 [.sl e3]) {w : World} {args : List Value} (hr : f7 w ep [.agg e1, .sl e2, .sl e3] args) : Calls Tryz.prog 3 args.toArray w fun e w' => e = .returned (.bool true) /\ Below w.heap.size w w' := by
 obtain ⟨d, r, rfl, hlim⟩ := ED (KS := 26) (T := 25) (E := 62) (by kernel_rfl) s1
 obtain ⟨l, rfl, h1, h2⟩ := B5 (E := 62) (by kernel_rfl) s2
 obtain ⟨m, rfl, h3, h4⟩ := B5 (E := 62) (by kernel_rfl) s3
 obtain ⟨k, h⟩ := (Kp d r hlim l m h1 h2 h3 h4).get
 exact zd (C := C) yw Tryz.func3 (by kernel_rfl) (sound h) hr
end Go.Proofs.YtcoikmicjbppmaaGreat.Vm
