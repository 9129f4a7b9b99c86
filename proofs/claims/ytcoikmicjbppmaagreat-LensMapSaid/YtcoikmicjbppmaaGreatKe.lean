/-
  The law LensMap: a part of its proof; no conditions.
-/
import Derived.Test.YtcoikmicjbppmaaGreatKd
namespace Go.Proofs.YtcoikmicjbppmaaGreat.Vm
open Go Go.RowKit
set_option linter.unusedVariables false
set_option linter.unusedSimpArgs false
set_option maxRecDepth 100000
noncomputable def tV : List TV -> Option Alts
 | [.pv (.sl a), .pv (.sl p)] => some [((nG a /\ gB p 1000) /\ jR a p = false, [.pv (.sl []), .pv (.bool false)], []), ((nG a /\ gB p 1000) /\ jR a p = true, [.own 2 (vC a p), .pv (.bool true)], [])]
 | _ => none
theorem yH : ∀ ag al, tV ag = some al -> ∀ a ∈ al, a.1 -> Ev C 38 ag a.2 := by
 intro ag al hl x hx hp
 unfold tV at hl
 split at hl
 ·simp only [Option.some.injEq] at hl; subst hl
  simp only [List.mem_cons, List.not_mem_nil, or_false] at hx
  rcases hx with rfl | rfl
  ·obtain ⟨⟨⟨t, rfl, t1, t2⟩, q, rfl, q1, q2⟩, hb⟩ := hp
   have h := uD t q t1 t2 q2
   unfold jR at hb
   rw [aq, bF] at hb
   unfold y9 at h
   rw [if_neg (by rw [hb]; simp)] at h
   exact h
  ·obtain ⟨⟨⟨t, rfl, t1, t2⟩, q, rfl, q1, q2⟩, hb⟩ := hp
   have h := uD t q t1 t2 q2
   unfold jR at hb
   rw [aq, bF] at hb
   unfold y9 at h
   rw [if_pos hb] at h
   unfold vC
   simp only [aq, bF]
   exact h
 ·exact absurd hl (by simp)
theorem y7 (t : Tr) (q : List (BS)) : jR t.rows (q.map ak) = lI t q := by unfold jR; rw [aq, bF]
theorem y8 (t : Tr) (q : List (BS)) : vC t.rows (q.map ak) = (tW t q).rows := by unfold vC; rw [aq, bF]
theorem zk (t x : Tr) (q : List (BS)) : lD t.rows (q.map ak) x.rows = (kz t q x).rows := by unfold lD; rw [aq, aq, bF]
theorem wZ (t : Tr) (q : List (BS)) : ic t.rows (q.map ak) = (gz t q).rows := by unfold ic; rw [aq, bF]
def Dw : List (BS) -> BS -> Int -> Int
 | [], _, _ => -1
 | x :: l, s, i => if (s == x) = true then i else Dw l s (i + 1)
def xr (l : LP) (s : BS) : Bool := decide (s ∈ iM l)
def jS (b : Bool) (l : LP) (s : BS) : Bool := xr l s != b
noncomputable def cm (b : Bool) (l a : LP) : LP := (Tr.of ((aH a).list.filter fun e => jS b l e.1)).rows
noncomputable def aw (b : Bool) (l a : LP) : LP := (Tr.of ((aH a).list.filter fun e => !jS b l e.1)).rows
theorem La (a : LP) (b : BS) (Q : QT) : (bq C cd 95 [.pv (.sl a), .pv (.str b)] Q) (H.auto) = (bd C 95 (d0 (u1 (d0 (u1 CP.top)))) (St.mk [(0, aS a), (1, aT b), (5, aI 0)] []) (cA (au 0 (aQ (bA C cd 95 99998 (u2 CP.top)) (aU C 95 [tS a, tT b] Q))))) := by kernel_rfl
def Ca : CP := (d0 (u1 (d0 (u1 CP.top))))
def Cb (a : LP) (b : BS) (c : Int) : St := (St.mk [(0, aS a), (1, aT b), (5, aI c)] [])
theorem H8 (f : LP) (c : BS) (d : LP) (e : BS) (a : Int)  (J0 : St -> Prop) (Q : QT) : (bA C cd 95 1000 (Ca.dn 0) (Cb d e a) (bO C 95 Ca J0 (cA (au 0 (aQ (bA C cd 95 99998 (u2 CP.top)) (aU C 95 [tS f, tT c] Q)))))) (H.b (H.s (H.s (H.b H.auto H.auto))) H.auto) = ((decide (a < (↑(List.length d) : Int)) = true -> (0 : Int) <= a /\ ∃ (c : BS), d[Int.toNat a]? = some [pT c] /\ ((c == e) = true -> ∃ (h : H), Q ([tB true], [])) /\ ((c == e) = false -> J0 (St.mk [(0, aS d), (1, aT e), (5, aI (IntKind.wrap .i64 (a + 1)))] []))) /\ (decide (a < (↑(List.length d) : Int)) = false -> ∃ (h : H), Q ([tB false], []))) := by kernel_rfl
def sj : List TV -> Option Alts
 | [.pv (.sl l), .pv (.str s)] => one (∃ q : List (BS), l = q.map ak /\ q.length <= 4000000) ([.pv (.bool (xr l s))], [])
 | _ => none
def Gh : Specs := aZ [(95, sj)]
theorem H6 (b : Bool) (a : LP) (d : BS) (Q : QT) : (bq C Gh 79 [.pv (.agg [.bool b, .sl a]), .pv (.str d)] Q) (H.auto) = ((∃ (c : List (BS)), a = List.map ak c /\ List.length c <= 4000000) /\ Q ([tB !xr a d == b], [])) := by kernel_rfl
def si : List TV -> Option Alts
 | [.pv (.agg [.bool b, .sl l]), .pv (.str s)] => one (∃ q : List (BS), l = q.map ak /\ q.length <= 4000000) ([.pv (.bool (jS b l s))], [])
 | _ => none
def uU : Specs := aZ [(79, si)]
theorem Lc (a : LP) (b : Bool) (c : LP) (Q : QT) : (bq C uU 58 [.pv (.sl a), .pv (.agg [.bool b, .sl c])] Q) (H.auto) = (bd C 58 (d0 (u1 (d0 (u2 CP.top)))) (St.mk [(0, aS a), (3, AV.addr 6 0 0), (6, AV.own 12), (7, AV.own 14), (8, aI 0)] [(6, Obj.box [aB b, aS c]), (12, Obj.buf 2 []), (14, Obj.buf 2 [])]) (cA (au 0 (aQ (bA C uU 58 99997 (u3 CP.top)) (aU C 58 [tS a, TV.pv (PV.agg [pB b, pS c])] Q))))) := by kernel_rfl
def Cd : CP := (d0 (u1 (d0 (u2 CP.top))))
def Cf (e : LP) (f : Int) (c : Bool) (d a b : LP) : St := (St.mk [(0, aS e), (3, AV.addr 6 0 0), (6, AV.own 12), (7, AV.own 14), (8, aI f)] [(6, Obj.box [aB c, aS d]), (12, Obj.buf 2 a), (14, Obj.buf 2 b)])
theorem Ib (j : LP) (k : Bool) (l b : LP) (a : Int) (f : Bool) (e c d : LP)  (J0 : St -> Prop) (Q : QT) : (bA C uU 58 1000 (Cd.dn 0) (Cf b a f e c d) (bO C 58 Cd J0 (cA (au 0 (aQ (bA C uU 58 99997 (u3 CP.top)) (aU C 58 [tS j, TV.pv (PV.agg [pB k, pS l])] Q)))))) (H.b (H.s (H.s (H.b (H.s (H.s (H.s H.auto))) (H.s (H.s (H.s H.auto)))))) H.auto) = (let i := IntKind.wrap .i64 (a + 1); (decide (a < (↑(List.length b) : Int)) = true -> (0 : Int) <= a /\ ∃ (s : BS) (es : LP), b[Int.toNat a]? = some [pT s, pS es] /\ (∃ (g : List (BS)), e = List.map ak g /\ List.length g <= 4000000) /\ (jS f e s = true -> (0 : Int) <= a /\ ∃ (s : BS) (es : LP), b[Int.toNat a]? = some [pT s, pS es] /\ ((List.length c + 1) * 40 <= du /\ List.length c + 1 <= bz) /\ J0 (St.mk [(0, aS b), (3, AV.addr 6 0 0), (6, AV.own 12), (7, AV.own 14), (8, aI i)] [(6, Obj.box [aB f, aS e]), (12, Obj.buf 2 (c ++ [[pT s, pS es]])), (14, Obj.buf 2 d)])) /\ (jS f e s = false -> (0 : Int) <= a /\ ∃ (s : BS) (es : LP), b[Int.toNat a]? = some [pT s, pS es] /\ ((List.length d + 1) * 40 <= du /\ List.length d + 1 <= bz) /\ J0 (St.mk [(0, aS b), (3, AV.addr 6 0 0), (6, AV.own 12), (7, AV.own 14), (8, aI i)] [(6, Obj.box [aB f, aS e]), (12, Obj.buf 2 c), (14, Obj.buf 2 (d ++ [[pT s, pS es]]))]))) /\ (decide (a < (↑(List.length b) : Int)) = false -> ∃ (h : H), Q ([TV.own 2 c, TV.own 2 d], []))) := by kernel_rfl
theorem Kk (a : LP) (b : BS) (Q : QT) : (bq C cd 101 [.pv (.sl a), .pv (.str b)] Q) (H.auto) = (bd C 101 (d0 (u1 (d0 (u1 CP.top)))) (St.mk [(0, aS a), (1, aT b), (7, aI (↑(List.length a) : Int)), (8, aI 0)] []) (cA (au 0 (aQ (bA C cd 101 99998 (u2 CP.top)) (aU C 101 [tS a, tT b] Q))))) := by kernel_rfl
def Bo : CP := (d0 (u1 (d0 (u1 CP.top))))
def Bp (a : LP) (b : BS) (c d : Int) : St := (St.mk [(0, aS a), (1, aT b), (7, aI c), (8, aI d)] [])
theorem Ho (g : LP) (c : BS) (f : LP) (d : BS) (e a : Int)  (J0 : St -> Prop) (Q : QT) : (bA C cd 101 1000 (Bo.dn 0) (Bp f d e a) (bO C 101 Bo J0 (cA (au 0 (aQ (bA C cd 101 99998 (u2 CP.top)) (aU C 101 [tS g, tT c] Q)))))) (H.b (H.s (H.s (H.b H.auto H.auto))) H.auto) = ((decide (a < e) = true -> (0 : Int) <= a /\ ∃ (c : BS), f[Int.toNat a]? = some [pT c] /\ ((d == c) = true -> ∃ (h : H), Q ([tI a], [])) /\ ((d == c) = false -> J0 (St.mk [(0, aS f), (1, aT d), (7, aI e), (8, aI (IntKind.wrap .i64 (a + 1)))] []))) /\ (decide (a < e) = false -> ∃ (h : H), Q ([tI (-1)], []))) := by kernel_rfl
def AU : List TV -> Option Alts
 | [.pv (.sl l), .pv (.str s)] => one (∃ q : List (BS), l = q.map ak /\ q.length <= 4000000) ([.pv (.int .i64 (Dw (iM l) s 0))], [])
 | _ => none
def I4 : Specs := aZ [(101, AU)]
theorem JB (a : LP) (c : BS) (Q : QT) : (bq C I4 88 [.pv (.sl a), .pv (.str c)] Q) (H.auto) = ((∃ (b : List (BS)), a = List.map ak b /\ List.length b <= 4000000) /\ Q ([tB (decide (Dw (iM a) c (0 : Int) ≥ (0 : Int)))], [])) := by kernel_rfl
def Gg : Specs := aZ [(88, sj)]
theorem HD (b : Bool) (a : LP) (d : BS) (Q : QT) : (bq C Gg 69 [.pv (.agg [.bool b, .sl a]), .pv (.str d)] Q) (H.auto) = ((∃ (c : List (BS)), a = List.map ak c /\ List.length c <= 4000000) /\ Q ([tB !xr a d == b], [])) := by kernel_rfl
noncomputable def pN (N : Nat) : Specs := aZ [(68, jO N)]
theorem HJ (c : Nat) (b : LP) (Q : QT) : (bq C (pN c) 68 [.pv (.sl b)] Q) (H.s H.auto) = (let a := List.length b; ((0 : Int) <= (↑a : Int) /\ (↑a : Int) <= (↑a : Int) /\ (↑a : Int) <= (9223372036854775807 : Int) /\ (↑a : Int) * 40 <= (140737488355328 : Int)) /\ bd C 68 (d0 (u1 (d0 (u2 CP.top)))) (St.mk [(3, AV.own 6), (9, aS b), (10, aI (↑a : Int)), (11, aI 0)] [(6, Obj.buf 2 (List.replicate (Int.toNat (↑a : Int)) [pT [], pS []]))]) (cA (au 0 (aQ (bA C (pN c) 68 99997 (u3 CP.top)) (aU C 68 [tS b] Q))))) := by kernel_rfl
def yr : CP := (d0 (u1 (d0 (u2 CP.top))))
def ui (d : LP) (b c : Int) (a : LP) : St := (St.mk [(3, AV.own 6), (9, aS d), (10, aI b), (11, aI c)] [(6, Obj.buf 2 a)])
theorem Em (e : Nat) (k g : LP) (d a : Int) (c : LP)  (J0 : St -> Prop) (Q : QT) : (bA C (pN e) 68 1000 (yr.dn 0) (ui g d a c) (bO C 68 yr J0 (cA (au 0 (aQ (bA C (pN e) 68 99997 (u3 CP.top)) (aU C 68 [tS k] Q)))))) (H.b (H.s (H.s (H.s (H.s (H.s (H.s (H.s H.auto))))))) H.auto) = (let l := Int.toNat a; (decide (a < d) = true -> (0 : Int) <= a /\ ∃ (s : BS) (es : LP), g[Int.toNat a]? = some [pT s, pS es] /\ (∃ (j : Tr), es = Tr.rows j /\ Tr.nodes j < e) /\ ((0 : Int) <= a /\ a < (↑(List.length c) : Int)) /\ ∃ (f : List PV), let i := List.set c l (pT s :: pS es :: List.drop 2 f); c[Int.toNat a]? = some f /\ 2 <= List.length f /\ List.length i = List.length c /\ List.length i = List.length c /\ J0 (St.mk [(3, AV.own 6), (9, aS g), (10, aI d), (11, aI (IntKind.wrap .i64 (a + 1)))] [(6, Obj.buf 2 i)])) /\ (decide (a < d) = false -> ∃ (h : H), Q ([TV.own 2 c], []))) := by kernel_rfl
noncomputable def pM : Specs := aZ [(68, jO 4000000), (69, si), (70, vw)]
theorem KL (a : LP) (b : Bool) (c : LP) (Q : QT) : (bq C pM 42 [.pv (.sl a), .pv (.agg [.bool b, .sl c])] Q) (H.auto) = ((∃ (d : Tr), a = Tr.rows d /\ Tr.nodes d < 4000000) /\ bd C 42 (d0 (u1 (d0 (u1 CP.top)))) (St.mk [(3, AV.addr 6 0 0), (4, AV.own 8), (5, AV.own 10), (9, AV.own 18), (10, aI (↑(List.length a) : Int)), (11, aI 0)] [(6, Obj.box [aB b, aS c]), (8, Obj.buf 2 []), (10, Obj.buf 2 []), (18, Obj.buf 2 a)]) (cA (au 0 (aQ (bA C pM 42 99998 (u2 CP.top)) (aU C 42 [tS a, TV.pv (PV.agg [pB b, pS c])] Q))))) := by kernel_rfl
def BL : CP := (d0 (u1 (d0 (u1 CP.top))))
def BN (f g : Int) (c : Bool) (d e a b : LP) : St := (St.mk [(3, AV.addr 6 0 0), (4, AV.own 8), (5, AV.own 10), (9, AV.own 18), (10, aI f), (11, aI g)] [(6, Obj.box [aB c, aS d]), (8, Obj.buf 2 e), (10, Obj.buf 2 a), (18, Obj.buf 2 b)])
theorem HF (i : LP) (j : Bool) (k : LP) (g a : Int) (e : Bool) (b f c d : LP)  (J0 : St -> Prop) (Q : QT) : (bA C pM 42 1000 (BL.dn 0) (BN g a e b f c d) (bO C 42 BL J0 (cA (au 0 (aQ (bA C pM 42 99998 (u2 CP.top)) (aU C 42 [tS i, TV.pv (PV.agg [pB j, pS k])] Q)))))) (H.b (H.s (H.s (H.b (H.s H.auto) (H.s H.auto)))) H.auto) = (let m := IntKind.wrap .i64 (a + 1); (decide (a < g) = true -> ((0 : Int) <= a /\ a < (↑(List.length d) : Int)) /\ ∃ (h : List PV), d[Int.toNat a]? = some h /\ 2 <= List.length h /\ ∃ (s : BS) (es : LP), List.take 2 h = [pT s, pS es] /\ (∃ (l : List (BS)), b = List.map ak l /\ List.length l <= 4000000) /\ (jS e b s = true -> ((List.length f + 1) * 40 <= du /\ List.length f + 1 <= bz) /\ J0 (St.mk [(3, AV.addr 6 0 0), (4, AV.own 8), (5, AV.own 10), (9, AV.own 18), (10, aI g), (11, aI m)] [(6, Obj.box [aB e, aS b]), (8, Obj.buf 2 (f ++ [[pT s, pS es]])), (10, Obj.buf 2 c), (18, Obj.buf 2 d)])) /\ (jS e b s = false -> ((List.length c + 1) * 40 <= du /\ List.length c + 1 <= bz) /\ J0 (St.mk [(3, AV.addr 6 0 0), (4, AV.own 8), (5, AV.own 10), (9, AV.own 18), (10, aI g), (11, aI m)] [(6, Obj.box [aB e, aS b]), (8, Obj.buf 2 f), (10, Obj.buf 2 (c ++ [[pT s, pS es]])), (18, Obj.buf 2 d)]))) /\ (decide (a < g) = false -> cA (au 0 (aQ (bA C pM 42 99998 (u2 CP.top)) (aU C 42 [tS i, TV.pv (PV.agg [pB j, pS k])] Q))) (Ex.exit 0) (St.mk [(12, aB false), (3, AV.addr 6 0 0), (4, AV.own 8), (5, AV.own 10), (9, AV.own 18), (10, aI g), (11, aI a)] [(6, Obj.box [aB e, aS b]), (8, Obj.buf 2 f), (10, Obj.buf 2 c), (18, Obj.buf 2 d)]))) := by kernel_rfl
def HH (f g : Int) (c : Bool) (d e a b : LP) : St := (St.mk [(12, aB false), (3, AV.addr 6 0 0), (4, AV.own 8), (5, AV.own 10), (9, AV.own 18), (10, aI f), (11, aI g)] [(6, Obj.box [aB c, aS d]), (8, Obj.buf 2 e), (10, Obj.buf 2 a), (18, Obj.buf 2 b)])
theorem HI (i : LP) (j : Bool) (k : LP) (o p : Int) (m : Bool) (n b a l : LP)  (Q : QT) : (fun h => au 0 (aQ (bA C pM 42 99998 (u2 CP.top)) (aU C 42 [tS i, TV.pv (PV.agg [pB j, pS k])] Q)) h (Ex.exit 0) (HH o p m n b a l)) (H.b (H.b H.auto H.auto) (H.b H.auto H.auto)) = (let c := flatTVs [TV.own 2 a] && true; let d := List.length a * 40 <= du /\ List.length a <= bz /\ cg 2 a = true; let e := c = false -> Q ([TV.own 2 b, TV.own 2 a], []); let f := c = true -> Q ([TV.own 2 b, TV.own 2 a], []); let g := flatTVs [TV.own 2 b] && true; (List.length b * 40 <= du /\ List.length b <= bz /\ cg 2 b = true) /\ (g = true -> d /\ f /\ e) /\ (g = false -> d /\ f /\ e)) := by kernel_rfl
theorem mem_map (q : List (BS)) (s : BS) : xr (q.map ak) s = decide (s ∈ q) := by unfold xr; rw [bF]
theorem wG (q : List (BS)) {i : Nat} (h : i < q.length) : (q.map ak)[((i : Int)).toNat]? = some [.str q[i]] := by
 rw [Int.toNat_natCast, List.getElem?_map, List.getElem?_eq_getElem h]; rfl
theorem rI {q : List (BS)} {s : BS} {i : Nat} (h : i < q.length) (h1 : s ∉ q.take i) (h2 : ¬ q[i] = s) : s ∉ q.take (i + 1) := by
 rw [List.take_succ_eq_append_getElem h, List.mem_append, List.mem_singleton]
 rintro (h3 | h3)
 ·exact h1 h3
 ·exact h2 h3.symm
theorem H7 (q : List (BS)) (s : BS) (hq : q.length <= 4000000) : Ev C 95 [.pv (.sl (q.map ak)), .pv (.str s)] ([.pv (.bool (xr (q.map ak) s))], []) := by
 rw [mem_map]
 refine bh bM (La ..) ?_
 refine aJ bM (by kernel_rfl) 1000 (fun m st => ∃ i : Nat, st = Cb (q.map ak) s i /\ i <= q.length /\ s ∉ q.take i /\ m = q.length - i) ?_ (n := q.length) ⟨0, rfl, by omega, by simp, by omega⟩
 rintro m st ⟨i, rfl, hi, hn, rfl⟩
 refine cr (H8 ..) ?_
 rw [List.length_map]
 refine ⟨fun g => ?_, fun g => ?_⟩
 ·simp only [decide_eq_true_eq] at g
  have hi' : i < q.length := by omega
  refine ⟨by omega, q[i], wG q hi', fun h => ⟨.auto, ?_⟩, fun h => ⟨q.length - (i + 1), by omega, i + 1, by rw [dJ (by omega)]; rfl, by omega, rI hi' hn (by simpa using h), rfl⟩⟩
  have h : q[i] = s := by simpa using h
  rw [decide_eq_true (by rw [<- h]; exact List.getElem_mem hi')]
 ·simp only [decide_eq_false_iff_not] at g
  have : i = q.length := by omega
  subst this
  rw [List.take_length] at hn
  exact ⟨.auto, by rw [decide_eq_false hn]⟩
theorem H9 : ∀ ag al, sj ag = some al -> ∀ a ∈ al, a.1 -> Ev C 95 ag a.2 := by
 intro ag al hl x hx hp
 unfold sj at hl
 split at hl
 ·have e := aD hl hx; subst e
  obtain ⟨q, rfl, h⟩ := hp
  exact H7 q _ h
 ·exact absurd hl (by simp)
theorem EH : ∀ ag al, si ag = some al -> ∀ a ∈ al, a.1 -> Ev C 79 ag a.2 := by
 intro ag al hl x hx hp
 unfold si at hl
 split at hl
 ·have e := aD hl hx; subst e
  exact bh (az (am H9 ax)) (H6 ..) ⟨hp, rfl⟩
 ·exact absurd hl (by simp)
theorem Hn (q : List (BS)) (s : BS) (hq : q.length <= 4000000) : Ev C 101 [.pv (.sl (q.map ak)), .pv (.str s)] ([.pv (.int .i64 (Dw q s 0))], []) := by
 refine bh bM (Kk ..) ?_
 refine aJ bM (by kernel_rfl) 1000 (fun m st => ∃ i : Nat, st = Bp (q.map ak) s q.length i /\ i <= q.length /\ Dw q s 0 = Dw (q.drop i) s i /\ m = q.length - i) ?_ (n := q.length) ⟨0, by rw [List.length_map]; rfl, by omega, rfl, by omega⟩
 rintro m st ⟨i, rfl, hi, hx, rfl⟩
 refine cr (Ho ..) ⟨fun g => ?_, fun g => ?_⟩
 ·simp only [decide_eq_true_eq] at g
  have hi' : i < q.length := by omega
  rw [List.drop_eq_getElem_cons hi', Dw] at hx
  refine ⟨by omega, q[i], wG q hi', fun h => ⟨.auto, ?_⟩, fun h => ⟨q.length - (i + 1), by omega, i + 1, by rw [dJ (by omega)]; rfl, by omega, ?_, rfl⟩⟩
  ·rw [hx, if_pos h]
  ·rw [hx, if_neg (by rw [h]; simp)]; rfl
 ·simp only [decide_eq_false_iff_not] at g
  have : i = q.length := by omega
  subst this
  rw [List.drop_length] at hx
  exact ⟨.auto, by rw [hx]; rfl⟩
theorem Hp : ∀ ag al, AU ag = some al -> ∀ a ∈ al, a.1 -> Ev C 101 ag a.2 := by
 intro ag al hl x hx hp
 unfold AU at hl
 split at hl
 ·have e := aD hl hx; subst e
  obtain ⟨q, rfl, h⟩ := hp
  rw [bF]
  exact Hn q _ h
 ·exact absurd hl (by simp)
theorem ye : ∀ (q : List (BS)) (s : BS) (i : Int), 0 <= i -> decide (Dw q s i ≥ 0) = decide (s ∈ q)
 | [], s, i, _ => by simp [Dw]
 | x :: q, s, i, h => by
  rw [Dw]
  split
  ·rename_i he
   have he : s = x := by simpa using he
   subst he
   simp [h]
  ·rename_i he
   have he : ¬ s = x := by simpa using he
   rw [ye q s (i + 1) (by omega)]
   simp [he]
theorem GG : ∀ ag al, sj ag = some al -> ∀ a ∈ al, a.1 -> Ev C 88 ag a.2 := by
 intro ag al hl x hx hp
 unfold sj at hl
 split at hl
 ·have e := aD hl hx; subst e
  refine bh (az (am Hp ax)) (JB ..) ⟨hp, ?_⟩
  obtain ⟨q, rfl, h⟩ := hp
  rw [bF, mem_map, ye q _ 0 (by omega)]
 ·exact absurd hl (by simp)
theorem Ej : ∀ ag al, si ag = some al -> ∀ a ∈ al, a.1 -> Ev C 69 ag a.2 := by
 intro ag al hl x hx hp
 unfold si at hl
 split at hl
 ·have e := aD hl hx; subst e
  exact bh (az (am GG ax)) (HD ..) ⟨hp, rfl⟩
 ·exact absurd hl (by simp)
theorem El {N : Nat} (hS : aK C (pN N)) (t : Tr) (h : t.nodes <= N) (hb : t.nodes < 4000000) : Ev C 68 [.pv (.sl t.rows)] ([.own 2 t.rows], []) := by
 have hl := rows_len t
 have hn := dY t
 refine bh hS (HJ N t.rows _) ?_
 conv => zeta
 rw [hl, Int.toNat_natCast]
 refine ⟨⟨by omega, by omega, by omega, by omega⟩, ?_⟩
 refine aJ hS (by kernel_rfl) 1000 (fun m st => ∃ i : Nat, st = ui t.rows t.list.length i (t.rows.take i ++ List.replicate (t.list.length - i) [PV.str [], PV.sl []]) /\ i <= t.list.length /\ m = t.list.length - i) ?_ (n := t.list.length) ⟨0, by simp [ui], by omega, by omega⟩
 rintro m st ⟨i, rfl, hi, rfl⟩
 have hlen : (t.rows.take i ++ List.replicate (t.list.length - i) [PV.str [], PV.sl []]).length = t.list.length := by
  rw [List.length_append, List.length_take, List.length_replicate]; omega
 refine cr (Em ..) ?_
 conv => zeta
 refine ⟨fun h2 => ?_, fun h2 => ?_⟩
 ·simp only [decide_eq_true_eq] at h2
  have hi' : i < t.list.length := by omega
  have hmem := d5 (List.getElem_mem hi')
  rw [hlen]
  refine ⟨by omega, _, _, row_get t hi', ⟨_, rfl, by omega⟩, ⟨by omega, by omega⟩, [PV.str [], PV.sl []], ?_, by simp, ?_⟩
  ·rw [Int.toNat_natCast, List.getElem?_append_right (by rw [List.length_take]; omega), List.getElem?_replicate, if_pos (by rw [List.length_take]; omega)]
  ·rw [List.length_set, hlen, dJ (by omega), Int.toNat_natCast, yB t hi' rfl]
   exact ⟨rfl, rfl, t.list.length - (i + 1), by omega, i + 1, rfl, by omega, rfl⟩
 ·simp only [decide_eq_false_iff_not] at h2
  have : i = t.list.length := by omega
  subst this
  refine ⟨.auto, ?_⟩
  rw [Nat.sub_self, List.replicate_zero, List.append_nil, List.take_of_length_le (by omega)]
theorem yt : ∀ N, N <= 4000000 -> ∀ ag al, jO N ag = some al -> ∀ a ∈ al, a.1 -> Ev C 68 ag a.2
 | 0, _, ag, al, hl, x, hx, hp => by
  unfold jO at hl
  split at hl
  ·have e := aD hl hx; subst e
   obtain ⟨t, _, h⟩ := hp
   exact absurd h (by omega)
  ·exact absurd hl (by simp)
 | N + 1, hN, ag, al, hl, x, hx, hp => by
  unfold jO at hl
  split at hl
  ·have e := aD hl hx; subst e
   obtain ⟨t, rfl, h⟩ := hp
   exact El (az (am (yt N (by omega)) ax)) t (by omega) (by omega)
  ·exact absurd hl (by simp)
def pf (b : Bool) (l : LP) (t : Tr) (i : Nat) : LP := ((t.list.take i).filter fun e => jS b l e.1).map aE
def pg (b : Bool) (l : LP) (t : Tr) (i : Nat) : LP := ((t.list.take i).filter fun e => !jS b l e.1).map aE
theorem wC (b : Bool) (l : LP) (t : Tr) (i : Nat) : (pf b l t i).length <= i := by
 unfold pf
 rw [List.length_map]
 have h1 := List.length_filter_le (fun e => jS b l e.1) (t.list.take i)
 rw [List.length_take] at h1
 omega
theorem wD (b : Bool) (l : LP) (t : Tr) (i : Nat) : (pg b l t i).length <= i := by
 unfold pg
 rw [List.length_map]
 have h1 := List.length_filter_le (fun e => !jS b l e.1) (t.list.take i)
 rw [List.length_take] at h1
 omega
theorem uw {b : Bool} {l : LP} {t : Tr} {i : Nat} (h : i < t.list.length) (hh : jS b l t.list[i].1 = true) : pf b l t (i + 1) = pf b l t i ++ [[.str t.list[i].1, .sl t.list[i].2.rows]] /\ pg b l t (i + 1) = pg b l t i := by
 unfold pf pg
 rw [List.take_succ_eq_append_getElem h, List.filter_append, List.filter_append, List.map_append, List.map_append]
 simp [List.filter, hh, aE]
theorem pE {b : Bool} {l : LP} {t : Tr} {i : Nat} (h : i < t.list.length) (hh : jS b l t.list[i].1 = false) : pf b l t (i + 1) = pf b l t i /\ pg b l t (i + 1) = pg b l t i ++ [[.str t.list[i].1, .sl t.list[i].2.rows]] := by
 unfold pf pg
 rw [List.take_succ_eq_append_getElem h, List.filter_append, List.filter_append, List.map_append, List.map_append]
 simp [List.filter, hh, aE]
theorem vN (b : Bool) (l : LP) (t : Tr) : cm b l t.rows = pf b l t t.list.length := by
 unfold cm pf
 rw [aq, cG, List.take_length]
theorem sL (b : Bool) (l : LP) (t : Tr) : aw b l t.rows = pg b l t t.list.length := by
 unfold aw pg
 rw [aq, cG, List.take_length]
theorem Ce (t : Tr) (b : Bool) (q : List (BS)) (ht : t.nodes <= 2000000) (hq : q.length <= 4000000) : Ev C 58 [.pv (.sl t.rows), .pv (.agg [.bool b, .sl (q.map ak)])] ([.own 2 (cm b (q.map ak) t.rows), .own 2 (aw b (q.map ak) t.rows)], []) := by
 have hr := cz
 have hm := bN
 have hl := rows_len t
 have hn := dY t
 rw [vN, sL]
 have hS : aK C uU := az (am EH ax)
 refine bh hS (Lc t.rows b (q.map ak) _) ?_
 refine aJ hS (by kernel_rfl) 1000 (fun m st => ∃ i : Nat, st = Cf t.rows i b (q.map ak) (pf b (q.map ak) t i) (pg b (q.map ak) t i) /\ i <= t.list.length /\ m = t.list.length - i) ?_ (n := t.list.length) ⟨0, rfl, by omega, by omega⟩
 rintro m st ⟨i, rfl, hi, rfl⟩
 have f1 := wC b (q.map ak) t i
 have f2 := wD b (q.map ak) t i
 refine cr (Ib ..) ?_
 conv => zeta
 rw [hl]
 refine ⟨fun g => ?_, fun g => ?_⟩
 ·simp only [decide_eq_true_eq] at g
  have hi' : i < t.list.length := by omega
  have hg := row_get t hi'
  refine ⟨by omega, _, _, hg, ⟨q, rfl, hq⟩, fun h => ⟨by omega, _, _, hg, ⟨by omega, by omega⟩, t.list.length - (i + 1), by omega, i + 1, ?_, by omega, rfl⟩, fun h => ⟨by omega, _, _, hg, ⟨by omega, by omega⟩, t.list.length - (i + 1), by omega, i + 1, ?_, by omega, rfl⟩⟩
  ·rw [(uw hi' h).1, (uw hi' h).2, dJ (by omega)]; rfl
  ·rw [(pE hi' h).1, (pE hi' h).2, dJ (by omega)]; rfl
 ·simp only [decide_eq_false_iff_not] at g
  have : i = t.list.length := by omega
  subst this
  exact ⟨.auto, rfl⟩
noncomputable def y4 : List TV -> Option Alts
 | [.pv (.sl a), .pv (.agg [.bool b, .sl l])] => one ((∃ t : Tr, a = t.rows /\ t.nodes <= 2000000) /\ ∃ q : List (BS), l = q.map ak /\ q.length <= 4000000) ([.own 2 (cm b l a), .own 2 (aw b l a)], [])
 | _ => none
theorem Ic : ∀ ag al, y4 ag = some al -> ∀ a ∈ al, a.1 -> Ev C 58 ag a.2 := by
 intro ag al hl x hx hp
 unfold y4 at hl
 split at hl
 ·have e := aD hl hx; subst e
  obtain ⟨⟨t, rfl, h1⟩, q, rfl, h2⟩ := hp
  exact Ce t _ q h1 h2
 ·exact absurd hl (by simp)
theorem BM (t : Tr) (b : Bool) (q : List (BS)) (ht : t.nodes <= 2000000) (hq : q.length <= 4000000) : Ev C 42 [.pv (.sl t.rows), .pv (.agg [.bool b, .sl (q.map ak)])] ([.own 2 (cm b (q.map ak) t.rows), .own 2 (aw b (q.map ak) t.rows)], []) := by
 have hr := cz
 have hm := bN
 have hl := rows_len t
 have hn := dY t
 rw [vN, sL]
 have hS : aK C pM := az (am (yt 4000000 (Nat.le_refl _)) (am Ej (am wX ax)))
 refine bh hS (KL t.rows b (q.map ak) _) ⟨⟨t, rfl, by omega⟩, ?_⟩
 refine aJ hS (by kernel_rfl) 1000 (fun m st => ∃ i : Nat, st = BN t.list.length i b (q.map ak) (pf b (q.map ak) t i) (pg b (q.map ak) t i) t.rows /\ i <= t.list.length /\ m = t.list.length - i) ?_ (n := t.list.length) ⟨0, by rw [hl]; rfl, by omega, by omega⟩
 rintro m st ⟨i, rfl, hi, rfl⟩
 have f1 := wC b (q.map ak) t i
 have f2 := wD b (q.map ak) t i
 refine cr (HF ..) ?_
 conv => zeta
 refine ⟨fun g => ?_, fun g => ?_⟩
 ·simp only [decide_eq_true_eq] at g
  have hi' : i < t.list.length := by omega
  have hg := row_get t hi'
  refine ⟨⟨by omega, by omega⟩, _, hg, by simp, _, _, rfl, ⟨q, rfl, hq⟩, fun h => ⟨⟨by omega, by omega⟩, t.list.length - (i + 1), by omega, i + 1, ?_, by omega, rfl⟩, fun h => ⟨⟨by omega, by omega⟩, t.list.length - (i + 1), by omega, i + 1, ?_, by omega, rfl⟩⟩
  ·rw [(uw hi' h).1, (uw hi' h).2, dJ (by omega)]; rfl
  ·rw [(pE hi' h).1, (pE hi' h).2, dJ (by omega)]; rfl
 ·simp only [decide_eq_false_iff_not] at g
  have : i = t.list.length := by omega
  subst this
  refine cr (HI ..) ?_
  conv => zeta
  exact ⟨⟨by omega, by omega, bT _⟩, fun _ => ⟨⟨by omega, by omega, bT _⟩, fun _ => rfl, fun _ => rfl⟩, fun _ => ⟨⟨by omega, by omega, bT _⟩, fun _ => rfl, fun _ => rfl⟩⟩
theorem HG : ∀ ag al, y4 ag = some al -> ∀ a ∈ al, a.1 -> Ev C 42 ag a.2 := by
 intro ag al hl x hx hp
 unfold y4 at hl
 split at hl
 ·have e := aD hl hx; subst e
  obtain ⟨⟨t, rfl, h1⟩, q, rfl, h2⟩ := hp
  exact BM t _ q h1 h2
 ·exact absurd hl (by simp)
def vi (n m : BS) : Int := if Op.bytesLess n m = true then -1 else if Op.bytesLess m n = true then 1 else 0
def F4 (es : LP) (m : List Edge) : Prop := (∀ l : List Edge, es = l.map aE -> m.Perm l) /\ m.Pairwise fun x y => x.1 <= y.1
noncomputable def dj (es : LP) : LP := @dite _ (∃ m : List Edge, F4 es m /\ Ev C 103 [.own 2 es, .pv (.int .i64 0), .pv (.int .i64 es.length), .pv (.fn 75 [])] ([], [.own 2 (m.map aE)])) (Classical.propDecidable _) (fun h => h.choose.map aE) (fun _ => [])
def eE (x y : LP) : LP := x ++ y
theorem L0 (b a : BS) (d e : LP) (Q : QT) : (bq C cd 75 [.pv (.agg [.str b, .sl d]), .pv (.agg [.str a, .sl e])] Q) (H.b H.auto (H.b H.auto H.auto)) = (let c := !(Op.bytesLess b a || b == a); (Op.bytesLess b a = true -> Q ([tI (-1)], [])) /\ (Op.bytesLess b a = false -> (c = true -> Q ([tI 1], [])) /\ (c = false -> Q ([tI 0], [])))) := by kernel_rfl
def GV : List TV -> Option Alts
 | [.pv (.agg [.str n, .sl a]), .pv (.agg [.str m, .sl b])] => one True ([.pv (.int .i64 (vi n m))], [])
 | _ => none
def rO : Specs := aZ [(75, GV)]
theorem Kj (a : LP) (b : Int) (Q : QT) : (bq C rO 103 [.own 2 a, .pv (.int .i64 0), .pv (.int .i64 b), .pv (.fn 75 [])] Q) (H.auto) = (bd C 103 (d0 (u1 CP.top)) (St.mk [(0, AV.own 1), (1, aI 0), (2, aI b), (3, AV.pv (PV.fn 75 [])), (8, aI 1)] [(1, Obj.buf 2 a)]) (cA (au 0 (aU C 103 [TV.own 2 a, tI 0, tI b, TV.pv (PV.fn 75 [])] Q)))) := by kernel_rfl
def ko : CP := (d0 (u1 CP.top))
def xl (b c d : Int) (a : LP) : St := (St.mk [(0, AV.own 1), (1, aI b), (2, aI c), (3, AV.pv (PV.fn 75 [])), (8, aI d)] [(1, Obj.buf 2 a)])
theorem Hk (e : LP) (f g c a : Int) (d : LP)  (J0 : St -> Prop) (Q : QT) : (bA C rO 103 1000 (ko.dn 0) (xl g c a d) (bO C 103 ko J0 (cA (au 0 (aU C 103 [TV.own 2 e, tI 0, tI f, TV.pv (PV.fn 75 [])] Q))))) (H.b H.auto H.auto) = ((decide (a < c) = true -> bd C 103 (CP.dn (CP.dn (CP.dn (CP.dn (CP.dn (CP.dn ko 0) 1) 0) 0) 1) 0) (St.mk [(0, AV.own 1), (1, aI g), (2, aI c), (3, AV.pv (PV.fn 75 [])), (8, aI a), (9, aI a)] [(1, Obj.buf 2 d)]) (cA (au 2 (au 1 (aQ (bA C rO 103 998 (CP.dn (CP.dn (CP.dn ko 0) 1) 1)) (bO C 103 ko J0 (cA (au 0 (aU C 103 [TV.own 2 e, tI 0, tI f, TV.pv (PV.fn 75 [])] Q))))))))) /\ (decide (a < c) = false -> ∃ (h : H), Q ([], [TV.own 2 d]))) := by kernel_rfl
def Bm : CP := (CP.dn (CP.dn (CP.dn (CP.dn (CP.dn (CP.dn ko 0) 1) 0) 0) 1) 0)
def Bn (b c d e : Int) (a : LP) : St := (St.mk [(0, AV.own 1), (1, aI b), (2, aI c), (3, AV.pv (PV.fn 75 [])), (8, aI d), (9, aI e)] [(1, Obj.buf 2 a)])
theorem Hl (e : LP) (q g k l c : Int) (d : LP) (J0 : St -> Prop) (J1 : St -> Prop) (Q : QT) : (bA C rO 103 1000 (Bm.dn 0) (Bn g k l c d) (bO C 103 Bm J1 (cA (au 2 (au 1 (aQ (bA C rO 103 998 (CP.dn (CP.dn (CP.dn ko 0) 1) 1)) (bO C 103 ko J0 (cA (au 0 (aU C 103 [TV.own 2 e, tI 0, tI q, TV.pv (PV.fn 75 [])] Q)))))))))) (H.b (H.n 3 (H.s (H.n 1 (H.s (H.n 4 (H.s (H.n 1 (H.s (H.n 3 (H.b (H.s (H.s (H.s (H.s (H.s (H.s (H.s (H.s (H.s (H.s (H.s (H.s (H.s (H.s H.auto)))))))))))))) H.auto)))))))))) H.auto) = (let i := IntKind.wrap .i64 (c - 1); let o := St.mk [(0, AV.own 1), (1, aI g), (2, aI k), (3, AV.pv (PV.fn 75 [])), (8, aI (IntKind.wrap .i64 (l + 1)))] [(1, Obj.buf 2 d)]; let m := (0 : Int) <= c /\ c < (↑(List.length d) : Int); let p := (0 : Int) <= IntKind.wrap .i64 (c - 1) /\ IntKind.wrap .i64 (c - 1) < (↑(List.length d) : Int); let r := Int.toNat c; (decide (c > g) = true -> m /\ ∃ (a : List PV), d[Int.toNat c]? = some a /\ 2 <= List.length a /\ ∃ (s : BS) (e : LP), List.take 2 a = [pT s, pS e] /\ p /\ ∃ (a : List PV), d[Int.toNat i]? = some a /\ 2 <= List.length a /\ ∃ (s_1 : BS) (e : LP), List.take 2 a = [pT s_1, pS e] /\ True /\ (decide (vi s s_1 <  0) = true -> p /\ ∃ (a : List PV), d[Int.toNat i]? = some a /\ 2 <= List.length a /\ ∃ (s : BS) (e : LP), List.take 2 a = [pT s, pS e] /\ m /\ ∃ (a : List PV), d[Int.toNat c]? = some a /\ 2 <= List.length a /\ ∃ (s_2 : BS) (es_1 : LP), List.take 2 a = [pT s_2, pS es_1] /\ m /\ ∃ (a : List PV), let f := List.set d r (pT s :: pS e :: List.drop 2 a); d[Int.toNat c]? = some a /\ 2 <= List.length a /\ List.length f = List.length d /\ List.length f = List.length d /\ ((0 : Int) <= IntKind.wrap .i64 (c - 1) /\ IntKind.wrap .i64 (c - 1) < (↑(List.length f) : Int)) /\ ∃ (j : List PV), let n := List.set f (Int.toNat i) (pT s_2 :: pS es_1 :: List.drop 2 j); f[Int.toNat i]? = some j /\ 2 <= List.length j /\ List.length n = List.length f /\ List.length n = List.length f /\ J1 (St.mk [(0, AV.own 1), (1, aI g), (2, aI k), (3, AV.pv (PV.fn 75 [])), (8, aI l), (9, aI i)] [(1, Obj.buf 2 n)])) /\ (decide (vi s s_1 <  0) = false -> ∃ (h : H), J0 o)) /\ (decide (c > g) = false -> ∃ (h : H), J0 o)) := by kernel_rfl
noncomputable def AS : List TV -> Option Alts
 | [.own 2 es, .pv (.int .i64 a), .pv (.int .i64 n), .pv (.fn f [])] => one (f = 75 /\ a = 0 /\ n = es.length /\ ∃ l : List Edge, es = l.map aE /\ l.length < 20) ([], [.own 2 (dj es)])
 | _ => none
def Bb : List TV -> Option Alts
 | [.own 2 es, .pv (.int .i64 a), .pv (.int .i64 m), .pv (.int .i64 b), .pv (.fn f [])] => one False ([], [.own 2 es])
 | _ => none
noncomputable def tq : Specs := aZ [(103, AS), (104, Bb)]
theorem Lw (a : LP) (b : Int) (Q : QT) : (bq C tq 93 [.own 2 a, .pv (.int .i64 b), .pv (.fn 75 [])] Q) (H.auto) = (bd C 93 (d0 (d0 (u2 CP.top))) (St.mk [(0, AV.own 1), (1, aI b), (2, AV.pv (PV.fn 75 [])), (6, aI 20), (7, aI 0), (8, aI 20)] [(1, Obj.buf 2 a)]) (cA (au 0 (aQ (bA C tq 93 99997 (u3 CP.top)) (aU C 93 [TV.own 2 a, tI b, TV.pv (PV.fn 75 [])] Q))))) := by kernel_rfl
def CN : CP := (d0 (d0 (u2 CP.top)))
def CO (b c d e : Int) (a : LP) : St := (St.mk [(0, AV.own 1), (1, aI b), (2, AV.pv (PV.fn 75 [])), (6, aI c), (7, aI d), (8, aI e)] [(1, Obj.buf 2 a)])
theorem ID (g : LP) (i d e f a : Int) (c : LP)  (J0 : St -> Prop) (Q : QT) : (bA C tq 93 1000 (CN.dn 0) (CO d e f a c) (bO C 93 CN J0 (cA (au 0 (aQ (bA C tq 93 99997 (u3 CP.top)) (aU C 93 [TV.own 2 g, tI i, TV.pv (PV.fn 75 [])] Q)))))) (H.b (H.s H.auto) H.auto) = ((decide (a <= d) = true -> (75 = 75 /\ f = (0 : Int) /\ a = (↑(List.length c) : Int) /\ ∃ (h : List Proofs.YtcoikmicjbppmaaGreat.Vm.Edge), c = List.map aE h /\ List.length h < 20) /\ List.length (dj c) = List.length c /\ J0 (St.mk [(0, AV.own 1), (1, aI d), (2, AV.pv (PV.fn 75 [])), (6, aI e), (7, aI a), (8, aI (IntKind.wrap .i64 (a + e)))] [(1, Obj.buf 2 (dj c))])) /\ (decide (a <= d) = false -> cA (au 0 (aQ (bA C tq 93 99997 (u3 CP.top)) (aU C 93 [TV.own 2 g, tI i, TV.pv (PV.fn 75 [])] Q))) (Ex.exit 0) (St.mk [(13, aB false), (12, aI d), (11, aI a), (0, AV.own 1), (1, aI d), (2, AV.pv (PV.fn 75 [])), (6, aI e), (7, aI f), (8, aI a)] [(1, Obj.buf 2 c)]))) := by kernel_rfl
def IH (d c b e f g : Int) (a : LP) : St := (St.mk [(13, aB false), (12, aI d), (11, aI c), (0, AV.own 1), (1, aI b), (2, AV.pv (PV.fn 75 [])), (6, aI e), (7, aI f), (8, aI g)] [(1, Obj.buf 2 a)])
theorem II (c : LP) (e j i b f g k : Int) (a : LP)  (Q : QT) : (fun h => au 0 (aQ (bA C tq 93 99997 (u3 CP.top)) (aU C 93 [TV.own 2 c, tI e, TV.pv (PV.fn 75 [])] Q)) h (Ex.exit 0) (IH j i b f g k a)) (H.s H.auto) = ((75 = 75 /\ g = (0 : Int) /\ b = (↑(List.length a) : Int) /\ ∃ (d : List Proofs.YtcoikmicjbppmaaGreat.Vm.Edge), a = List.map aE d /\ List.length d < 20) /\ List.length (dj a) = List.length a /\ bd C 93 (d0 (u4 CP.top)) (St.mk [(0, AV.own 1), (1, aI b), (2, AV.pv (PV.fn 75 [])), (6, aI f)] [(1, Obj.buf 2 (dj a))]) (cA (au 2 (aU C 93 [TV.own 2 c, tI e, TV.pv (PV.fn 75 [])] Q)))) := by kernel_rfl
def uB : CP := (d0 (u4 CP.top))
def CQ (b c : Int) (a : LP) : St := (St.mk [(0, AV.own 1), (1, aI b), (2, AV.pv (PV.fn 75 [])), (6, aI c)] [(1, Obj.buf 2 a)])
theorem IE (e : LP) (f c a : Int) (d : LP)  (J2 : St -> Prop) (Q : QT) : (bA C tq 93 1000 (uB.dn 0) (CQ c a d) (bO C 93 uB J2 (cA (au 2 (aU C 93 [TV.own 2 e, tI f, TV.pv (PV.fn 75 [])] Q))))) (H.b H.auto H.auto) = (let g := CP.dn (CP.dn (CP.dn (CP.dn uB 0) 1) 0) 1; (decide (a < c) = true -> bd C 93 (CP.dn (CP.dn g 0) 0) (St.mk [(0, AV.own 1), (1, aI c), (2, AV.pv (PV.fn 75 [])), (6, aI a), (7, aI 0), (8, aI (IntKind.wrap .i64 ((2 : Int) * a)))] [(1, Obj.buf 2 d)]) (cA (au 4 (aQ (bA C tq 93 996 (CP.dn g 1)) (au 3 (bO C 93 uB J2 (cA (au 2 (aU C 93 [TV.own 2 e, tI f, TV.pv (PV.fn 75 [])] Q))))))))) /\ (decide (a < c) = false -> ∃ (h : H), Q ([], [TV.own 2 d]))) := by kernel_rfl
noncomputable def Ba : List TV -> Option Alts
 | [.own 2 es, .pv (.int .i64 n), .pv (.fn f [])] => one (f = 75 /\ n = es.length /\ ∃ l : List Edge, es = l.map aE /\ l.length < 20) ([], [.own 2 (dj es)])
 | _ => none
noncomputable def Ji : Specs := aZ [(93, Ba)]
theorem Lv (a : LP) (Q : QT) : (bq C Ji 74 [.own 2 a, .pv (.fn 75 [])] Q) (H.s H.auto) = ((75 = 75 /\ (↑(List.length a) : Int) = (↑(List.length a) : Int) /\ ∃ (b : List Proofs.YtcoikmicjbppmaaGreat.Vm.Edge), a = List.map aE b /\ List.length b < 20) /\ List.length (dj a) = List.length a /\ Q ([], [TV.own 2 (dj a)])) := by kernel_rfl
noncomputable def A9 : List TV -> Option Alts
 | [.own 2 es, .pv (.fn f [])] => one (f = 75 /\ ∃ l : List Edge, es = l.map aE /\ l.length < 20) ([], [.own 2 (dj es)])
 | _ => none
def xe : List TV -> Option Alts
 | [.pv .nilSlc, .pv (.int .i64 n)] => one (0 <= n /\ n <= 4000000) ([.own 2 []], [])
 | _ => none
def lF : Specs := aZ [(92, xe)]
theorem Jw (a b : LP) (Q : QT) : (bq C lF 73 [.pv (.sl [[.sl a], [.sl b]])] Q) (H.auto) = (bd C 73 (d0 (u1 (d0 (u2 CP.top)))) (St.mk [(0, aS [[pS a], [pS b]]), (3, aI 0), (9, aS [[pS a], [pS b]]), (10, aI 2), (11, aI 0)] []) (cA (au 0 (aQ (bA C lF 73 99997 (u3 CP.top)) (aU C 73 [tS [[pS a], [pS b]]] Q))))) := by kernel_rfl
def Ad : CP := (d0 (u1 (d0 (u2 CP.top))))
def Af (a b : LP) (e : Int) (f g : LP) (c d : Int) : St := (St.mk [(0, aS [[pS a], [pS b]]), (3, aI e), (9, aS [[pS f], [pS g]]), (10, aI c), (11, aI d)] [])
theorem Gv (k l f g : LP) (h : Int) (d e : LP) (c a : Int)  (J0 : St -> Prop) (Q : QT) : (bA C lF 73 1000 (Ad.dn 0) (Af f g h d e c a) (bO C 73 Ad J0 (cA (au 0 (aQ (bA C lF 73 99997 (u3 CP.top)) (aU C 73 [tS [[pS k], [pS l]]] Q)))))) (H.b (H.s (H.s (H.b H.auto H.auto))) H.auto) = ((decide (a < c) = true -> (0 : Int) <= a /\ ∃ (j : LP), let i := h + (↑(List.length j) : Int); [[pS d], [pS e]][Int.toNat a]? = some [pS j] /\ (decide (IntKind.wrap .i64 i <  0) = true -> False) /\ (decide (IntKind.wrap .i64 i <  0) = false -> J0 (St.mk [(0, aS [[pS f], [pS g]]), (3, aI (IntKind.wrap .i64 i)), (9, aS [[pS d], [pS e]]), (10, aI c), (11, aI (IntKind.wrap .i64 (a + 1)))] []))) /\ (decide (a < c) = false -> cA (au 0 (aQ (bA C lF 73 99997 (u3 CP.top)) (aU C 73 [tS [[pS k], [pS l]]] Q))) (Ex.exit 0) (St.mk [(12, aB false), (0, aS [[pS f], [pS g]]), (3, aI h), (9, aS [[pS d], [pS e]]), (10, aI c), (11, aI a)] []))) := by kernel_rfl
def Gy (a b : LP) (e : Int) (f g : LP) (c d : Int) : St := (St.mk [(12, aB false), (0, aS [[pS a], [pS b]]), (3, aI e), (9, aS [[pS f], [pS g]]), (10, aI c), (11, aI d)] [])
theorem Gz (d e b c : LP) (a : Int) (i j : LP) (f g : Int)  (Q : QT) : (fun h => au 0 (aQ (bA C lF 73 99997 (u3 CP.top)) (aU C 73 [tS [[pS d], [pS e]]] Q)) h (Ex.exit 0) (Gy b c a i j f g)) (H.auto) = (((0 : Int) <= a /\ a <= (4000000 : Int)) /\ bd C 73 (d0 (u1 (d0 (u4 CP.top)))) (St.mk [(6, AV.own 12), (25, aS [[pS b], [pS c]]), (26, aI 2), (27, aI 0)] [(12, Obj.buf 2 [])]) (cA (au 2 (aQ (bA C lF 73 99995 (u5 CP.top)) (aU C 73 [tS [[pS d], [pS e]]] Q))))) := by kernel_rfl
def Ae : CP := (d0 (u1 (d0 (u4 CP.top))))
def Ag (b c : LP) (d e : Int) (a : LP) : St := (St.mk [(6, AV.own 12), (25, aS [[pS b], [pS c]]), (26, aI d), (27, aI e)] [(12, Obj.buf 2 a)])
theorem Gw (i j f g : LP) (e a : Int) (d : LP)  (J2 : St -> Prop) (Q : QT) : (bA C lF 73 1000 (Ae.dn 0) (Ag f g e a d) (bO C 73 Ae J2 (cA (au 2 (aQ (bA C lF 73 99995 (u5 CP.top)) (aU C 73 [tS [[pS i], [pS j]]] Q)))))) (H.b (H.s (H.s (H.s (H.s H.auto)))) H.auto) = ((decide (a < e) = true -> (0 : Int) <= a /\ ∃ (c : LP), [[pS f], [pS g]][Int.toNat a]? = some [pS c] /\ ((List.length d + List.length c) * 40 <= du /\ List.length d + List.length c <= bz) /\ cg 2 c = true /\ J2 (St.mk [(6, AV.own 12), (25, aS [[pS f], [pS g]]), (26, aI e), (27, aI (IntKind.wrap .i64 (a + 1)))] [(12, Obj.buf 2 (d ++ c))])) /\ (decide (a < e) = false -> ∃ (h : H), Q ([TV.own 2 d], []))) := by kernel_rfl
def AI : List TV -> Option Alts
 | [.pv (.sl [[.sl x], [.sl y]])] => one (∃ l m : List Edge, x = l.map aE /\ y = m.map aE /\ l.length + m.length < 1000) ([.own 2 (eE x y)], [])
 | _ => none
noncomputable def zH : Specs := aZ [(73, AI), (74, A9)]
theorem L1 (c d : LP) (Q : QT) : (bq C zH 48 [.pv (.sl c), .pv (.sl d)] Q) (H.b (H.s H.auto) (H.s H.auto)) = (let e := dj (eE c d); let f := flatTVs [TV.own 2 (eE c d)] && true; (∃ (a : List Proofs.YtcoikmicjbppmaaGreat.Vm.Edge) (m : List Proofs.YtcoikmicjbppmaaGreat.Vm.Edge), c = List.map aE a /\ d = List.map aE m /\ List.length a + List.length m < 1000) /\ (f = true -> (75 = 75 /\ ∃ (a : List Proofs.YtcoikmicjbppmaaGreat.Vm.Edge), eE c d = List.map aE a /\ List.length a < 20) /\ List.length e = List.length (eE c d) /\ Q ([TV.own 2 e], [])) /\ (f = false -> (75 = 75 /\ ∃ (a : List Proofs.YtcoikmicjbppmaaGreat.Vm.Edge), eE c d = List.map aE a /\ List.length a < 20) /\ List.length e = List.length (eE c d) /\ Q ([TV.own 2 e], []))) := by kernel_rfl
theorem Bt (n : BS) : Op.bytesLess n n = false := by rw [jL]; simp [bS]
theorem Js : ∀ ag al, GV ag = some al -> ∀ a ∈ al, a.1 -> Ev C 75 ag a.2 := by
 intro ag al hl x hx hp
 unfold GV at hl
 split at hl
 ·rename_i n a m b
  have e := aD hl hx; subst e
  refine bh bM (L0 n m a b _) ?_
  conv => zeta
  refine ⟨fun h => ?_, fun h => ⟨fun h2 => ?_, fun h2 => ?_⟩⟩
  ·unfold vi; rw [if_pos h]
  ·have hne : n ≠ m := by
    intro e; subst e
    rw [Bt] at h2; simp at h2
   have := jz h hne
   unfold vi
   rw [if_neg (by rw [h]; simp), if_pos this]
  ·have he : n = m := by rw [h] at h2; simpa using h2
   subst he
   unfold vi
   rw [if_neg (by rw [h]; simp), if_neg (by rw [h]; simp)]
 ·exact absurd hl (by simp)
theorem x5 (n m : BS) : decide (vi n m < 0) = decide (n < m) := by
 unfold vi
 rw [jL, jL]
 by_cases h : n < m
 ·simp [h]
 ·by_cases h2 : m < n <;> simp [h, h2]
theorem BD {l m : List Edge} (h : l.map aE = m.map aE) : l = m := by
 rw [<- cG, <- cG] at h
 have := rows_inj h
 rw [<- list_of l, this, list_of]
theorem vn (m : List Edge) {p : Nat} (h : p < m.length) : (m.map aE)[Int.toNat (p : Int)]? = some (aE m[p]) := by
 rw [Int.toNat_natCast, List.getElem?_map, List.getElem?_eq_getElem h]; rfl
def LM (m : List Edge) (i j : Nat) : Prop := ∀ p q (hp : p < m.length) (hq : q < m.length), p < q -> q <= i -> q ≠ j -> m[p].1 <= m[q].1
def EV (m : List Edge) (j : Nat) (h : j < m.length) (h' : j - 1 < m.length) : List Edge := (m.set j m[j - 1]).set (j - 1) m[j]
theorem uC (m : List Edge) (j : Nat) (h : j < m.length) (h' : j - 1 < m.length) : (EV m j h h').length = m.length := by simp [EV]
theorem CU (m : List Edge) (j : Nat) (h : j < m.length) (h' : j - 1 < m.length) : (EV m j h h').Perm m := List.set_set_perm h h'
theorem yG (m : List Edge) (j : Nat) (h : j < m.length) (h' : j - 1 < m.length) (p : Nat) (hp : p < (EV m j h h').length) (hp' : p < m.length) : (EV m j h h')[p] = if p = j - 1 then m[j] else if p = j then m[j - 1] else m[p] := by
 have hp2 : p < ((m.set j m[j - 1]).set (j - 1) m[j]).length := hp
 show ((m.set j m[j - 1]).set (j - 1) m[j])[p]'hp2 = _
 rw [List.getElem_set]
 by_cases h1 : j - 1 = p
 ·rw [if_pos h1, if_pos h1.symm]
 ·rw [if_neg h1, if_neg (show ¬ p = j - 1 from fun e => h1 e.symm), List.getElem_set]
  by_cases h2 : j = p
  ·rw [if_pos h2, if_pos h2.symm]
  ·rw [if_neg h2, if_neg (show ¬ p = j from fun e => h2 e.symm)]
theorem BP {m : List Edge} {i j : Nat} (h : j < m.length) (h' : j - 1 < m.length) (hj : 0 < j) (hji : j <= i) (ho : LM m i j) (hl : m[j].1 < m[j - 1].1) : LM (EV m j h h') i (j - 1) := by
 intro p q hp hq hpq hqi hqj
 have hp' : p < m.length := by rw [uC] at hp; exact hp
 have hq' : q < m.length := by rw [uC] at hq; exact hq
 rw [yG m j h h' p hp hp', yG m j h h' q hq hq', if_neg hqj]
 by_cases q1 : q = j
 ·subst q1
  rw [if_pos rfl]
  by_cases p1 : p = q - 1
  ·rw [if_pos p1]; exact zw hl
  ·rw [if_neg p1, if_neg (by omega)]
   exact ho p (q - 1) hp' h' (by omega) (by omega) (by omega)
 ·rw [if_neg q1]
  by_cases p1 : p = j - 1
  ·rw [if_pos p1]
   exact ho j q h hq' (by omega) hqi q1
  ·rw [if_neg p1]
   by_cases p2 : p = j
   ·rw [if_pos p2]
    exact ho (j - 1) q h' hq' (by omega) hqi q1
   ·rw [if_neg p2]
    exact ho p q hp' hq' hpq hqi q1
theorem En {m : List Edge} {i j : Nat} (h : j < m.length) (hji : j <= i) (ho : LM m i j) (hl : j = 0 ∨ ∃ h' : j - 1 < m.length, m[j - 1].1 <= m[j].1) : ∀ p q (hp : p < m.length) (hq : q < m.length), p < q -> q <= i -> m[p].1 <= m[q].1 := by
 intro p q hp hq hpq hqi
 by_cases q1 : q = j
 ·subst q1
  rcases hl with hl | ⟨h', hl⟩
  ·omega
  ·by_cases p1 : p = q - 1
   ·subst p1; exact hl
   ·exact nn _ _ _ (ho p (q - 1) hp h' (by omega) (by omega) (by omega)) hl
 ·exact ho p q hp hq hpq hqi q1
theorem Bl : aK C rO := az (am Js ax)
theorem Hj (l : List Edge) (hl : l.length < 20) : ∃ m : List Edge, m.Perm l /\ (m.Pairwise fun x y => x.1 <= y.1) /\ Ev C 103 [.own 2 (l.map aE), .pv (.int .i64 0), .pv (.int .i64 l.length), .pv (.fn 75 [])] ([], [.own 2 (m.map aE)]) := by
 obtain ⟨r, h1, m, h2, h3, rfl⟩ := vo (Q := fun r => ∃ m : List Edge, m.Perm l /\ (m.Pairwise fun x y => x.1 <= y.1) /\ r = ([], [.own 2 (m.map aE)])) Bl (Kj (l.map aE) l.length _) (by
  refine aJ Bl (by kernel_rfl) 1000 (fun k st => ∃ (i : Nat) (m : List Edge), st = xl 0 l.length i (m.map aE) /\ m.Perm l /\ 1 <= i /\ (i <= l.length ∨ i = 1) /\ (∀ p q (hp : p < m.length) (hq : q < m.length), p < q -> q < i -> m[p].1 <= m[q].1) /\ k = l.length - i) ?_ (n := l.length - 1) ⟨1, l, rfl, List.Perm.refl _, by omega, .inr rfl, fun p q _ _ h1 h2 => by omega, rfl⟩
  rintro k st ⟨i, m, rfl, hm, hi1, hi, hs, rfl⟩
  have hml := hm.length_eq
  refine cr (Hk ..) ⟨fun g => ?_, fun g => ⟨.auto, m, hm, ?_, rfl⟩⟩
  ·simp only [decide_eq_true_eq] at g
   have hi' : i < l.length := by omega
   refine aJ Bl (by kernel_rfl) 1000 (fun j st => ∃ m' : List Edge, st = Bn 0 l.length i j (m'.map aE) /\ m'.Perm l /\ j <= i /\ LM m' i j) ?_ (n := i) ⟨m, rfl, hm, by omega, fun p q hp hq h1 h2 h3 => hs p q hp hq h1 (by omega)⟩
   rintro j st ⟨m', rfl, hm', hj, ho⟩
   have hml' := hm'.length_eq
   have hrl : (m'.map aE).length = m'.length := List.length_map _
   have hjl : j < m'.length := by omega
   have fin : (j = 0 ∨ ∃ h' : j - 1 < m'.length, m'[j - 1].1 <= m'[j].1) -> ∃ n, n < l.length - i /\ ∃ (i' : Nat) (m : List Edge), St.mk [(0, AV.own 1), (1, AV.pv (PV.int IntKind.i64 0)), (2, AV.pv (PV.int IntKind.i64 l.length)), (3, AV.pv (PV.fn 75 [])), (8, AV.pv (PV.int IntKind.i64 (IntKind.wrap IntKind.i64 ((i : Int) + 1))))] [(1, Obj.buf 2 (m'.map aE))] = xl 0 l.length i' (m.map aE) /\ m.Perm l /\ 1 <= i' /\ (i' <= l.length ∨ i' = 1) /\ (∀ p q (hp : p < m.length) (hq : q < m.length), p < q -> q < i' -> m[p].1 <= m[q].1) /\ n = l.length - i' := fun hh =>
    ⟨l.length - (i + 1), by omega, i + 1, m', by rw [dJ (by omega)]; rfl, hm', by omega, .inl (by omega), fun p q hp hq h1 h2 => En hjl hj ho hh p q hp hq h1 (by omega), rfl⟩
   refine cr (Hl ..) ?_
   conv => zeta
   refine ⟨fun g2 => ?_, fun g2 => ⟨.auto, fin (.inl ?_)⟩⟩
   ·simp only [decide_eq_true_eq] at g2
    have hj0 : 0 < j := by omega
    have hj1 : j - 1 < m'.length := by omega
    have e1 : IntKind.wrap .i64 ((j : Int) - 1) = ((j - 1 : Nat) : Int) := by rw [oY (by omega)]; omega
    have r1 := vn m' hjl
    have r2 := vn m' hj1
    rw [e1, hrl]
    refine ⟨⟨by omega, by omega⟩, _, r1, by simp [aE], _, _, rfl, ⟨by omega, by omega⟩, _, r2, by simp [aE], _, _, rfl, trivial, fun hc => ?_, fun hc => ⟨.auto, fin (.inr ⟨hj1, ?_⟩)⟩⟩
    ·rw [x5] at hc
     simp only [decide_eq_true_eq] at hc
     have s1 : (m'.map aE).set (Int.toNat (j : Int)) (PV.str m'[j - 1].1 :: PV.sl m'[j - 1].2.rows :: List.drop 2 (aE m'[j])) = (m'.set j m'[j - 1]).map aE := by rw [Int.toNat_natCast, List.map_set]; rfl
     have r3 : ((m'.set j m'[j - 1]).map aE)[Int.toNat ((j - 1 : Nat) : Int)]? = some (aE m'[j - 1]) := by
      rw [Int.toNat_natCast, List.getElem?_map, List.getElem?_set_ne (by omega), List.getElem?_eq_getElem hj1]; rfl
     have s2 : ((m'.set j m'[j - 1]).map aE).set (Int.toNat ((j - 1 : Nat) : Int)) (PV.str m'[j].1 :: PV.sl m'[j].2.rows :: List.drop 2 (aE m'[j - 1])) = (EV m' j hjl hj1).map aE := by
      rw [Int.toNat_natCast]
      show ((m'.set j m'[j - 1]).map aE).set (j - 1) (aE m'[j]) = _
      rw [<- List.map_set]
      rfl
     have l1 : ((m'.set j m'[j - 1]).map aE).length = m'.length := by simp
     have l2 : ((EV m' j hjl hj1).map aE).length = m'.length := by rw [List.length_map, uC]
     refine ⟨⟨by omega, by omega⟩, _, r2, by simp [aE], _, _, rfl, ⟨by omega, by omega⟩, _, r1, by simp [aE], _, _, rfl, ⟨by omega, by omega⟩, _, r1, by simp [aE], ?_⟩
     rw [s1, l1]
     refine ⟨rfl, rfl, ⟨by omega, by omega⟩, _, r3, by simp [aE], ?_⟩
     rw [s2, l2]
     exact ⟨rfl, rfl, j - 1, by omega, EV m' j hjl hj1, rfl, (CU m' j hjl hj1).trans hm', by omega, BP hjl hj1 hj0 hj ho hc⟩
    ·rw [x5] at hc
     simp only [decide_eq_false_iff_not] at hc
     exact List.not_lt.1 hc
   ·simp only [decide_eq_false_iff_not] at g2
    omega
  ·simp only [decide_eq_false_iff_not] at g
   rw [List.pairwise_iff_getElem]
   intro p q hp hq hpq
   exact hs p q hp hq hpq (by omega))
 exact ⟨m, h2, h3, h1⟩
theorem fJ (l : List Edge) (hl : l.length < 20) : ∃ m : List Edge, dj (l.map aE) = m.map aE /\ m.Perm l /\ (m.Pairwise fun x y => x.1 <= y.1) /\ Ev C 103 [.own 2 (l.map aE), .pv (.int .i64 0), .pv (.int .i64 l.length), .pv (.fn 75 [])] ([], [.own 2 (m.map aE)]) := by
 have h : ∃ m : List Edge, F4 (l.map aE) m /\ Ev C 103 [.own 2 (l.map aE), .pv (.int .i64 0), .pv (.int .i64 (l.map aE).length), .pv (.fn 75 [])] ([], [.own 2 (m.map aE)]) := by
  obtain ⟨m, h1, h2, h3⟩ := Hj l hl
  exact ⟨m, ⟨fun l' e => by rw [<- BD e]; exact h1, h2⟩, by rw [List.length_map]; exact h3⟩
 have hc := h.choose_spec
 have he : dj (l.map aE) = h.choose.map aE := by unfold dj; rw [dif_pos h]
 generalize h.choose = m at hc he
 rw [List.length_map] at hc
 exact ⟨m, he, hc.1.1 l rfl, hc.1.2, hc.2⟩
theorem Hm : ∀ ag al, AS ag = some al -> ∀ a ∈ al, a.1 -> Ev C 103 ag a.2 := by
 intro ag al hl x hx hp
 unfold AS at hl
 split at hl
 ·have e := aD hl hx; subst e
  obtain ⟨rfl, rfl, rfl, l, rfl, h⟩ := hp
  obtain ⟨m, e1, _, _, h2⟩ := fJ l h
  rw [e1, List.length_map]
  exact h2
 ·exact absurd hl (by simp)
theorem IJ : ∀ ag al, Bb ag = some al -> ∀ a ∈ al, a.1 -> Ev C 104 ag a.2 := by
 intro ag al hl x hx hp
 unfold Bb at hl
 split at hl
 ·have e := aD hl hx; subst e
  exact hp.elim
 ·exact absurd hl (by simp)
theorem oq {l : List Edge} (hl : l.length < 20) : (dj (l.map aE)).length = l.length := by
 obtain ⟨m, e1, h2, _⟩ := fJ l hl
 rw [e1, List.length_map, h2.length_eq]
theorem IC : aK C tq := az (am Hm (am IJ ax))
theorem IG : ∀ ag al, Ba ag = some al -> ∀ a ∈ al, a.1 -> Ev C 93 ag a.2 := by
 intro ag al hl x hx hp
 unfold Ba at hl
 split at hl
 ·have e := aD hl hx; subst e
  obtain ⟨rfl, rfl, l, rfl, h⟩ := hp
  have hs := oq h
  have hrl : (l.map aE).length = l.length := List.length_map _
  refine bh IC (Lw (l.map aE) _ _) ?_
  refine aJ IC (by kernel_rfl) 1000 (fun k st => st = CO (l.map aE).length 20 0 20 (l.map aE) /\ k = 0) ?_ (n := 0) ⟨rfl, rfl⟩
  rintro k st ⟨rfl, rfl⟩
  refine cr (ID ..) ⟨fun g => ?_, fun g => ?_⟩
  ·simp only [decide_eq_true_eq] at g; omega
  ·refine cr (II ..) ⟨⟨rfl, rfl, rfl, l, rfl, h⟩, by rw [hs, hrl], ?_⟩
   refine aJ IC (by kernel_rfl) 1000 (fun k st => st = CQ (l.map aE).length 20 (dj (l.map aE)) /\ k = 0) ?_ (n := 0) ⟨rfl, rfl⟩
   rintro k st ⟨rfl, rfl⟩
   refine cr (IE ..) ?_
   conv => zeta
   refine ⟨fun g2 => ?_, fun g2 => ⟨.auto, rfl⟩⟩
   simp only [decide_eq_true_eq] at g2; omega
 ·exact absurd hl (by simp)
theorem IB : ∀ ag al, A9 ag = some al -> ∀ a ∈ al, a.1 -> Ev C 74 ag a.2 := by
 intro ag al hl x hx hp
 unfold A9 at hl
 split at hl
 ·have e := aD hl hx; subst e
  obtain ⟨rfl, l, rfl, h⟩ := hp
  have hs := oq h
  have hrl : (l.map aE).length = l.length := List.length_map _
  exact bh (az (am IG ax)) (Lv _ _) ⟨⟨rfl, rfl, l, rfl, h⟩, by rw [hs, hrl], rfl⟩
 ·exact absurd hl (by simp)
theorem D3 : ∀ ag al, xe ag = some al -> ∀ a ∈ al, a.1 -> Ev C 92 ag a.2 := by
 intro ag al hl x hx hp
 unfold xe at hl
 split at hl
 ·have e := aD hl hx; subst e
  have hr := cz
  refine lN (g := ti Tryz.prog 47) (by kernel_rfl) ?_
  simp only [ti, nN, kG]
  rw [if_pos ⟨by decide, hp.1, by omega, by omega⟩]
 ·exact absurd hl (by simp)
theorem Ac : aK C lF := az (am D3 ax)
theorem Gx : ∀ ag al, AI ag = some al -> ∀ a ∈ al, a.1 -> Ev C 73 ag a.2 := by
 intro ag al hl x hx hp
 have hr := cz
 have hmx := bN
 unfold AI at hl
 split at hl
 ·have e := aD hl hx; subst e
  obtain ⟨l, m, rfl, rfl, h⟩ := hp
  have h1 : (l.map aE).length = l.length := List.length_map _
  have h2 : (m.map aE).length = m.length := List.length_map _
  unfold eE
  refine bh Ac (Jw ..) ?_
  refine aJ Ac (by kernel_rfl) 1000 (fun k st => ∃ (i : Nat) (t : Int), st = Af (l.map aE) (m.map aE) t (l.map aE) (m.map aE) 2 i /\ ((i = 0 /\ t = 0) ∨ (i = 1 /\ t = l.length) ∨ (i = 2 /\ t = l.length + m.length)) /\ k = 2 - i) ?_ (n := 2) ⟨0, 0, rfl, .inl ⟨rfl, rfl⟩, rfl⟩
  rintro k st ⟨i, t, rfl, hi, rfl⟩
  refine cr (Gv ..) ?_
  conv => zeta
  refine ⟨fun g => ?_, fun g => ?_⟩
  ·simp only [decide_eq_true_eq] at g
   rcases hi with ⟨rfl, rfl⟩ | ⟨rfl, rfl⟩ | ⟨rfl, rfl⟩
   ·have e1 : IntKind.wrap .i64 ((0 : Int) + ((l.map aE).length : Int)) = l.length := by rw [oY (by omega)]; omega
    refine ⟨by omega, _, rfl, ?_⟩
    rw [e1]
    exact ⟨fun g2 => by simp only [decide_eq_true_eq] at g2; omega, fun _ => ⟨1, by omega, 1, _, rfl, .inr (.inl ⟨rfl, rfl⟩), rfl⟩⟩
   ·have e1 : IntKind.wrap .i64 ((l.length : Int) + ((m.map aE).length : Int)) = l.length + m.length := by rw [oY (by omega)]; omega
    refine ⟨by omega, _, rfl, ?_⟩
    rw [e1]
    exact ⟨fun g2 => by simp only [decide_eq_true_eq] at g2; omega, fun _ => ⟨0, by omega, 2, _, rfl, .inr (.inr ⟨rfl, rfl⟩), rfl⟩⟩
   ·omega
  ·simp only [decide_eq_false_iff_not] at g
   have ht : t = l.length + m.length := by omega
   subst ht
   refine cr (Gz ..) ⟨⟨by omega, by omega⟩, ?_⟩
   refine aJ Ac (by kernel_rfl) 1000 (fun k st => ∃ (i : Nat) (o : LP), st = Ag (l.map aE) (m.map aE) 2 i o /\ ((i = 0 /\ o = []) ∨ (i = 1 /\ o = l.map aE) ∨ (i = 2 /\ o = l.map aE ++ m.map aE)) /\ k = 2 - i) ?_ (n := 2) ⟨0, [], rfl, .inl ⟨rfl, rfl⟩, rfl⟩
   rintro k st ⟨i, o, rfl, hi, rfl⟩
   refine cr (Gw ..) ⟨fun g => ?_, fun g => ?_⟩
   ·simp only [decide_eq_true_eq] at g
    rcases hi with ⟨rfl, rfl⟩ | ⟨rfl, rfl⟩ | ⟨rfl, rfl⟩
    ·exact ⟨by omega, _, rfl, ⟨by simp only [List.length_nil]; omega, by simp only [List.length_nil]; omega⟩, bT _, 1, by omega, 1, _, rfl, .inr (.inl ⟨rfl, by simp⟩), rfl⟩
    ·exact ⟨by omega, _, rfl, ⟨by omega, by omega⟩, bT _, 0, by omega, 2, _, rfl, .inr (.inr ⟨rfl, rfl⟩), rfl⟩
    ·omega
   ·simp only [decide_eq_false_iff_not] at g
    rcases hi with ⟨rfl, rfl⟩ | ⟨rfl, rfl⟩ | ⟨rfl, rfl⟩
    ·omega
    ·omega
    ·exact ⟨.auto, rfl⟩
 ·exact absurd hl (by simp)
theorem zV (l m : List Edge) (h : l.length + m.length < 20) : Ev C 48 [.pv (.sl (l.map aE)), .pv (.sl (m.map aE))] ([.own 2 (dj (eE (l.map aE) (m.map aE)))], []) := by
 have hS : aK C zH := az (am Gx (am IB ax))
 have hc : eE (l.map aE) (m.map aE) = (l ++ m).map aE := by unfold eE; rw [List.map_append]
 have hs := oq (l := l ++ m) (by rw [List.length_append]; omega)
 refine bh hS (L1 ..) ?_
 conv => zeta
 refine ⟨⟨l, m, rfl, rfl, by omega⟩, fun _ => ⟨⟨rfl, l ++ m, hc, by rw [List.length_append]; omega⟩, by rw [hc, hs, List.length_map], rfl⟩, fun _ => ⟨⟨rfl, l ++ m, hc, by rw [List.length_append]; omega⟩, by rw [hc, hs, List.length_map], rfl⟩⟩
noncomputable def AG : List TV -> Option Alts
 | [.pv (.sl x), .pv (.sl y)] => one (∃ l m : List Edge, x = l.map aE /\ y = m.map aE /\ l.length + m.length < 20) ([.own 2 (dj (eE x y))], [])
 | _ => none
theorem pj : ∀ ag al, AG ag = some al -> ∀ a ∈ al, a.1 -> Ev C 48 ag a.2 := by
 intro ag al hl x hx hp
 unfold AG at hl
 split at hl
 ·have e := aD hl hx; subst e
  obtain ⟨l, m, rfl, rfl, h⟩ := hp
  exact zV l m h
 ·exact absurd hl (by simp)
theorem wF : ∀ {l : List Edge} {p : Option (BS)}, (l.Pairwise fun x y => x.1 < y.1) -> (∀ y, p = some y -> ∀ e ∈ l, y < e.1) -> dI p l
 | [], p, _, _ => trivial
 | e :: l, p, h, hp => by
  rw [List.pairwise_cons] at h
  refine ⟨?_, wF h.2 fun y hy x hx => by
   simp only [Option.some.injEq] at hy
   subst hy; exact h.1 x hx⟩
  cases p with
  | none => rfl
  | some y =>
   have hlt := hp y rfl e (by simp)
   show (Op.bytesLess e.1 y || e.1 == y) = false
   rw [jL, Bool.or_eq_false_iff]
   refine ⟨?_, ?_⟩
   ·simp only [decide_eq_false_iff_not]
    exact fun h => bS _ (fo h hlt)
   ·simp only [beq_eq_false_iff_ne]
    intro e1; rw [e1] at hlt; exact bS _ hlt
theorem kI {l : List Edge} {p : Option (BS)} (h : dI p l) : l.Pairwise fun x y => x.1 < y.1 := List.pairwise_map.1 (iv h).1
theorem ot : ∀ {t : Tr} {p : Option (BS)} {d : Int}, t.sound p d -> ∀ e ∈ t.list, e.1.length <= 80 /\ e.2.sound none (d + 1)
 | .nil, _, _, _, e, he => by simp [Tr.list] at he
 | .cons n k r, p, d, h, e, he => by
  obtain ⟨_, h2, _, h4, h5⟩ := h
  simp only [Tr.list, List.mem_cons] at he
  rcases he with rfl | he
  ·exact ⟨h2, h4⟩
  ·exact ot h5 e he
theorem eC : ∀ {t : Tr} {p : Option (BS)} {d : Int}, t.sound p d -> dI p t.list
 | .nil, _, _, _ => trivial
 | .cons n k r, p, d, h => ⟨h.2.2.1, eC h.2.2.2.2⟩
theorem CL {l : List Edge} (hs : l.Pairwise fun x y => x.1 < y.1) (h : ∀ e ∈ l, e.1.length <= 80 /\ e.2.sound none 2) : (Tr.of l).sound none 1 := ri (by decide) (wF hs (by simp)) h
theorem rZ : ∀ {l m : List Edge}, (l.Pairwise fun x y => x.1 < y.1) -> (m.Pairwise fun x y => x.1 < y.1) -> (∀ x, x ∈ l ↔ x ∈ m) -> l = m
 | [], [], _, _, _ => rfl
 | [], b :: m, _, _, h => by have := (h b).2 (by simp); simp at this
 | a :: l, [], _, _, h => by have := (h a).1 (by simp); simp at this
 | a :: l, b :: m, hl, hm, h => by
  rw [List.pairwise_cons] at hl hm
  have hab : a = b := by
   have h1 := (h a).1 (by simp)
   have h2 := (h b).2 (by simp)
   rw [List.mem_cons] at h1 h2
   rcases h1 with h1 | h1
   ·exact h1
   ·rcases h2 with h2 | h2
    ·exact h2.symm
    ·exact absurd (fo (hl.1 b h2) (hm.1 a h1)) (bS _)
  subst hab
  congr 1
  refine rZ hl.2 hm.2 fun x => ?_
  have hx := h x
  rw [List.mem_cons, List.mem_cons] at hx
  constructor
  ·intro hm1
   rcases hx.1 (.inr hm1) with e | e
   ·subst e; exact absurd (hl.1 _ hm1) (bS _)
   ·exact e
  ·intro hm1
   rcases hx.2 (.inr hm1) with e | e
   ·subst e; exact absurd (hm.1 _ hm1) (bS _)
   ·exact e
theorem oW (f : Edge -> Bool) : ∀ l : List Edge, cQ (l.filter f) <= cQ l
 | [] => by simp [cQ]
 | e :: l => by
  have ih := oW f l
  have h1 : cQ (e :: l) = e.2.nodes + 1 + cQ l := by simp [cQ]
  rw [List.filter_cons]
  split
  ·have h2 : cQ (e :: l.filter f) = e.2.nodes + 1 + cQ (l.filter f) := by simp [cQ]
   omega
  ·omega
theorem BW {c : Tr} (hc : c.sound none 1) (f : Edge -> Bool) : (Tr.of (c.list.filter f)).sound none 1 /\ cQ (c.list.filter f) <= c.nodes := by
 refine ⟨CL ((kI (eC hc)).filter f) fun e he => ot hc e (List.mem_filter.1 he).1, ?_⟩
 have h1 := oW f c.list
 have h3 : cQ c.list = c.nodes := by rw [<- ed, of_list]
 exact Nat.le_trans h1 (by rw [h3]; exact Nat.le_refl _)
structure LD where
 o : Int
 a : BS
 b : BS
 n : Bool
 nl : List (BS)
 m : Bool
 ml : List (BS)
 t : Tr
 u : Tr
inductive Ls where
 | nil
 | cons (d : LD) (k r : Ls)
def LD.row (d : LD) (k : LP) : List PV := [.int .i64 d.o, .str d.a, .str d.b, .bool d.n, .sl (d.nl.map ak), .bool d.m, .sl (d.ml.map ak), .sl d.t.rows, .sl d.u.rows, .sl k]
def Ls.rows : Ls -> LP
 | .nil => []
 | .cons d k r => d.row k.rows :: r.rows
def Ls.len : Ls -> Nat
 | .nil => 0
 | .cons _ _ r => r.len + 1
def Ls.deep : Ls -> Nat
 | .nil => 0
 | .cons _ k r => max (k.deep + 1) r.deep
def Ls.ok : Ls -> Prop
 | .nil => True
 | .cons p k r => (p.t.nodes < 4000000 /\ p.u.nodes < 4000000 /\ p.nl.length <= 4000000 /\ p.ml.length <= 4000000 /\ k.len <= 4000000) /\ k.ok /\ r.ok
noncomputable def C1 (a : LP) : Ls := @dite _ (∃ l : Ls, a = l.rows) (Classical.propDecidable _) (fun h => h.choose) (fun _ => .nil)
theorem np {a b : List (BS)} (h : a.map ak = b.map ak) : a = b := by rw [<- bF a, h, bF]
theorem LD.row_inj {p q : LD} {k l : LP} (h : p.row k = q.row l) : p = q /\ k = l := by
 obtain ⟨o, a, b, n, nl, m, ml, t, u⟩ := p
 obtain ⟨o', a', b', n', nl', m', ml', t', u'⟩ := q
 simp only [LD.row, List.cons.injEq, PV.int.injEq, PV.str.injEq, PV.bool.injEq, PV.sl.injEq, and_true, true_and] at h
 obtain ⟨h1, h2, h3, h4, h5, h6, h7, h8, h9, h10⟩ := h
 have h5 := np h5
 have h7 := np h7
 have h8 := rows_inj h8
 have h9 := rows_inj h9
 subst h1 h2 h3 h4 h5 h6 h7 h8 h9
 exact ⟨rfl, h10⟩
theorem Ls.rows_inj : ∀ {l m : Ls}, l.rows = m.rows -> l = m
 | .nil, .nil, _ => rfl
 | .nil, .cons _ _ _, h => by simp [Ls.rows] at h
 | .cons _ _ _, .nil, h => by simp [Ls.rows] at h
 | .cons p k r, .cons p' k' r', h => by
  simp only [Ls.rows, List.cons.injEq] at h
  obtain ⟨h1, h2⟩ := h
  obtain ⟨h3, h4⟩ := LD.row_inj h1
  rw [h3, Ls.rows_inj h4, Ls.rows_inj h2]
theorem zy (l : Ls) : C1 l.rows = l := by
 unfold C1
 have h : ∃ u : Ls, l.rows = u.rows := ⟨l, rfl⟩
 rw [dif_pos h]
 exact (Ls.rows_inj h.choose_spec).symm
def Ls.list : Ls -> List (LD × Ls)
 | .nil => []
 | .cons p k r => (p, k) :: r.list
def Ls.of : List (LD × Ls) -> Ls
 | [] => .nil
 | (p, k) :: r => .cons p k (Ls.of r)
theorem Ls.of_list : ∀ l : Ls, Ls.of l.list = l
 | .nil => rfl
 | .cons p k r => by simp [Ls.list, Ls.of, Ls.of_list r]
theorem Ls.rows_list : ∀ l : Ls, l.rows = l.list.map fun e => e.1.row e.2.rows
 | .nil => rfl
 | .cons p k r => by simp [Ls.rows, Ls.list, Ls.rows_list r]
theorem Ls.len_list : ∀ l : Ls, l.list.length = l.len
 | .nil => rfl
 | .cons p k r => by simp [Ls.list, Ls.len, Ls.len_list r]
theorem Ls.rows_len (l : Ls) : l.rows.length = l.len := by rw [Ls.rows_list, List.length_map, Ls.len_list]
theorem Ls.row_get (l : Ls) {i : Nat} (h : i < l.list.length) : l.rows[Int.toNat (i : Int)]? = some (l.list[i].1.row l.list[i].2.rows) := by
 rw [Int.toNat_natCast, Ls.rows_list, List.getElem?_map, List.getElem?_eq_getElem h]; rfl
theorem Ls.mem_deep : ∀ {l : Ls} {e : LD × Ls}, e ∈ l.list -> e.2.deep + 1 <= l.deep
 | .nil, e, h => by simp [Ls.list] at h
 | .cons p k r, e, h => by
  simp only [Ls.list, List.mem_cons] at h
  simp only [Ls.deep]
  rcases h with rfl | h
  ·exact Nat.le_max_left _ _
  ·exact Nat.le_trans (Ls.mem_deep h) (Nat.le_max_right _ _)
theorem Ls.list_of : ∀ l : List (LD × Ls), (Ls.of l).list = l
 | [] => rfl
 | (p, k) :: l => by simp [Ls.of, Ls.list, Ls.list_of l]
theorem Ls.of_rows (l : List (LD × Ls)) : (Ls.of l).rows = l.map fun e => e.1.row e.2.rows := by rw [Ls.rows_list, Ls.list_of]
theorem Ls.of_len (l : List (LD × Ls)) : (Ls.of l).len = l.length := by rw [<- Ls.len_list, Ls.list_of]
theorem Ls.one_deep (p : LD) (k : Ls) : (Ls.cons p k .nil).deep = k.deep + 1 := by simp [Ls.deep]
theorem Ls.of_deep {B : Nat} : ∀ {l : List (LD × Ls)}, (∀ e ∈ l, (Ls.cons e.1 e.2 .nil).deep <= B) -> (Ls.of l).deep <= B
 | [], _ => by simp [Ls.of, Ls.deep]
 | (p, k) :: l, h => by
  have h1 := h (p, k) (by simp)
  rw [Ls.one_deep] at h1
  have h2 := Ls.of_deep (l := l) fun e he => h e (by simp [he])
  simp only [Ls.of, Ls.deep]
  exact Nat.max_le.2 ⟨h1, h2⟩
abbrev ej := Tr × Int
noncomputable def cH (r : ej) : ej := if r.2 ≠ 0 then (.nil, r.2) else if (cq r.1 none 1 0).2 ≠ 0 then (.nil, (cq r.1 none 1 0).2) else (r.1, 0)
def dR (b : Bool) (l : LP) (t : Tr) : Tr := Tr.of (t.list.filter fun e => jS b l e.1)
def bD (b : Bool) (l : LP) (t : Tr) : Tr := Tr.of (t.list.filter fun e => !jS b l e.1)
def gh (t : Tr) (a b : BS) : ej := if dK t.list b = true then (.nil, 3) else if dK t.list a = true then (Tr.of (bH (dB t.list a) b (bE t a)), 0) else (t, 0)
def fD (t : Tr) (n : BS) : ej := match t.list with
 | [e] => if e.1 = n then (e.2, 0) else (.nil, 3)
 | _ => (.nil, 3)
def mj (t : Tr) (n : BS) : ej := (.cons n t .nil, 0)
def ew (x y : Tr) : Tr := Tr.of (y.list.foldl (fun acc e => bH acc e.1 e.2) x.list)
def dH (b : Bool) (l : LP) (x y : Tr) : ej := if (bD b l x).list ≠ [] ∨ (dR b l y).list ≠ [] then (.nil, 3) else (ew x y, 0)
def cM (g h : Tr -> ej) (b : Bool) (l : LP) (b2 : Bool) (l2 : LP) (c : Tr) : ej :=
 if (g (dR b l c)).2 ≠ 0 then (.nil, (g (dR b l c)).2) else if (h (bD b l c)).2 ≠ 0 then (.nil, (h (bD b l c)).2) else dH b2 l2 (g (dR b l c)).1 (h (bD b l c)).1
def bC (g : Edge -> ej) : List Edge -> List Edge × Int
 | [] => ([], 0)
 | e :: l => if (g e).2 ≠ 0 then ([], (g e).2) else if (bC g l).2 ≠ 0 then ([], (bC g l).2) else ((e.1, (g e).1) :: (bC g l).1, 0)
def eu : List (Tr -> ej) -> Tr -> ej
 | [], c => (c, 0)
 | g :: gs, c => if (g c).2 ≠ 0 then (.nil, (g c).2) else eu gs (g c).1
def cE : List (Tr -> ej) -> Tr -> List Tr × Int
 | [], c => ([c], 0)
 | g :: gs, c => if (g c).2 ≠ 0 then ([], (g c).2) else if (cE gs (g c).1).2 ≠ 0 then ([], (cE gs (g c).1).2) else (c :: (cE gs (g c).1).1, 0)
def bL (p : LD) (gs : List (Tr -> ej)) (c : Tr) : ej :=
 if p.o = 2 then (p.t, 0) else if p.o = 3 then gh c p.a p.b else if p.o = 4 then fD c p.a else if p.o = 5 then mj c p.a else if p.o = 6 then (dR p.n (p.nl.map ak) c, 0)
 else if p.o = 7 then (match gs with | [g, h] => cM g h p.n (p.nl.map ak) p.m (p.ml.map ak) c | _ => (.nil, 1))
 else if p.o = 8 then (match gs with | [g] => (Tr.of (bC (fun e => g e.2) c.list).1, (bC (fun e => g e.2) c.list).2) | _ => (.nil, 1))
 else if p.o = 9 then eu gs c else (c, 0)
noncomputable def lB (a t u : Tr) : ej := if bP a.rows t.rows = true then (u, 0) else (.nil, 3)
noncomputable def db (p : LD) (gs : List (Tr -> ej)) (a : Tr) : ej :=
 if p.o = 2 then lB a p.t p.u else if p.o = 3 then gh a p.b p.a else if p.o = 4 then mj a p.a else if p.o = 5 then fD a p.a else if p.o = 6 then (if (bD p.n (p.nl.map ak) a).list ≠ [] then (.nil, 3) else (a, 0))
 else if p.o = 7 then (match gs with | [g, h] => cM g h p.m (p.ml.map ak) p.n (p.nl.map ak) a | _ => (.nil, 1))
 else if p.o = 8 then (match gs with | [g] => (Tr.of (bC (fun e => g e.2) a.list).1, (bC (fun e => g e.2) a.list).2) | _ => (.nil, 1))
 else if p.o = 9 then eu gs.reverse a else (a, 0)
def gT (ps : Tr -> Tr -> ej) (cs : Tr -> ej) (c : Tr) (e : Edge) : ej := if dK c.list e.1 = true then ps e.2 (bE c e.1) else cs e.2
noncomputable def cZ (p : LD) (gs cs : List (Tr -> ej)) (ps : List (Tr -> Tr -> ej)) (a c : Tr) : ej :=
 if p.o = 2 then lB a p.t c else if p.o = 3 then gh a p.b p.a else if p.o = 4 then mj a p.a else if p.o = 5 then fD a p.a
 else if p.o = 6 then (if (bD p.n (p.nl.map ak) a).list ≠ [] then (.nil, 3) else (ew a (bD p.n (p.nl.map ak) c), 0))
 else if p.o = 7 then (match ps with | [g, h] => cM (fun x => g x (dR p.n (p.nl.map ak) c)) (fun x => h x (bD p.n (p.nl.map ak) c)) p.m (p.ml.map ak) p.n (p.nl.map ak) a | _ => (.nil, 1))
 else if p.o = 8 then (match ps, cs with | [g], [h] => (Tr.of (bC (gT g h c) a.list).1, (bC (gT g h c) a.list).2) | _, _ => (.nil, 1))
 else if p.o = 9 then (if (cE gs.dropLast c).2 ≠ 0 then (.nil, (cE gs.dropLast c).2) else eu ((ps.zip (cE gs.dropLast c).1).map fun x y => x.1 y x.2).reverse a) else (a, 0)
noncomputable def Ls.gets : Ls -> List (Tr -> ej)
 | .nil => []
 | .cons p k r => (fun c => cH (bL p k.gets c)) :: r.gets
noncomputable def Ls.cres : Ls -> List (Tr -> ej)
 | .nil => []
 | .cons p k r => (fun a => cH (db p k.cres a)) :: r.cres
noncomputable def Ls.puts : Ls -> List (Tr -> Tr -> ej)
 | .nil => []
 | .cons p k r => (fun a c => cH (cZ p k.gets k.cres k.puts a c)) :: r.puts
noncomputable def bx (p : LD) (k : Ls) (c : Tr) : ej := cH (bL p k.gets c)
noncomputable def aO (p : LD) (k : Ls) (a : Tr) : ej := cH (db p k.cres a)
noncomputable def aY (p : LD) (k : Ls) (a c : Tr) : ej := cH (cZ p k.gets k.cres k.puts a c)
theorem fh : ∀ l : Ls, l.gets = l.list.map fun e => bx e.1 e.2
 | .nil => rfl
 | .cons p k r => by simp only [Ls.gets, Ls.list, List.map_cons, fh r]; rfl
theorem ib : ∀ l : Ls, l.cres = l.list.map fun e => aO e.1 e.2
 | .nil => rfl
 | .cons p k r => by simp only [Ls.cres, Ls.list, List.map_cons, ib r]; rfl
theorem kC : ∀ l : Ls, l.puts = l.list.map fun e => aY e.1 e.2
 | .nil => rfl
 | .cons p k r => by simp only [Ls.puts, Ls.list, List.map_cons, kC r]; rfl
def oc : List (BS) := [[], [97], [98], [99], [100], [113]]
def Tr.six : Tr -> Prop
 | .nil => True
 | .cons n k r => n ∈ oc /\ k.six /\ r.six
theorem eV : ∀ {t : Tr}, t.six ↔ ∀ e ∈ t.list, e.1 ∈ oc /\ e.2.six
 | .nil => by simp [Tr.six, Tr.list]
 | .cons n k r => by
  simp only [Tr.six, Tr.list, List.mem_cons, eV (t := r)]
  constructor
  ·rintro ⟨h1, h2, h3⟩ e (rfl | he)
   ·exact ⟨h1, h2⟩
   ·exact h3 e he
  ·intro h
   exact ⟨(h (n, k) (.inl rfl)).1, (h (n, k) (.inl rfl)).2, fun e he => h e (.inr he)⟩
theorem rf {l : List Edge} (h : ∀ e ∈ l, e.1 ∈ oc /\ e.2.six) : (Tr.of l).six := by rw [eV, list_of]; exact h
structure Tr.good (t : Tr) : Prop where
 sound : t.sound none 1
 size : t.nodes <= 400
 six : t.six
theorem fi : Tr.nil.good := ⟨trivial, by simp [Tr.nodes], trivial⟩
theorem rh : ∀ {t : Tr} {p : Option (BS)} {d d' : Int}, t.sound p d -> d' <= d -> t.sound p d'
 | .nil, _, _, _, _, _ => trivial
 | .cons n k r, p, d, d', h, hd => by
  obtain ⟨h1, h2, h3, h4, h5⟩ := h
  exact ⟨by omega, h2, h3, rh h4 (by omega), rh h5 hd⟩
theorem dA {t : Tr} (h : t.good) {e : Edge} (he : e ∈ t.list) : e.2.good :=
 ⟨rh (ot h.sound e he).2 (by omega), by have := d5 he; have := h.size; omega, (eV.1 h.six e he).2⟩
theorem mN {t : Tr} (h : t.good) : iB none t := by
 have key : ∀ (t : Tr) (p : Option (BS)) (d : Int), t.sound p d -> iB p t := by
  intro t
  induction t with
  | nil => intro p d _; trivial
  | cons n k r ih1 ih2 => intro p d hs; exact ⟨hs.2.2.1, ih1 _ _ hs.2.2.2.1, ih2 _ _ hs.2.2.2.2⟩
 exact key t none 1 h.sound
theorem wc : ∀ {l S : List (BS)}, l.Nodup -> (∀ x ∈ l, x ∈ S) -> l.length <= S.length
 | [], S, _, _ => Nat.zero_le _
 | a :: l, S, h, hs => by
  rw [List.nodup_cons] at h
  have ha := hs a (by simp)
  have := wc (l := l) (S := S.erase a) h.2 fun x hx => (List.mem_erase_of_ne (fun e => h.1 (by rw [<- e]; exact hx))).2 (hs x (by simp [hx]))
  rw [List.length_erase_of_mem ha] at this
  have h0 : 0 < S.length := List.length_pos_of_mem ha
  simp only [List.length_cons]
  omega
theorem cw {t : Tr} (h : t.good) : t.list.length <= 6 := by
 have h1 := qJ (List.pairwise_map.2 (kI (eC h.sound)))
 have := wc h1 (S := oc) fun x hx => by
  obtain ⟨e, he, rfl⟩ := List.mem_map.1 hx
  exact (eV.1 h.six e he).1
 rw [List.length_map] at this
 exact this
theorem oK {t : Tr} (h : t.good) (f : Edge -> Bool) : (Tr.of (t.list.filter f)).good := by
 have hp := BW h.sound f
 refine ⟨hp.1, by rw [ed]; exact Nat.le_trans hp.2 h.size, rf fun e he => eV.1 h.six e (List.mem_filter.1 he).1⟩
theorem eI {t : Tr} (h : t.good) (b : Bool) (l : LP) : (dR b l t).good := oK h _
theorem di {t : Tr} (h : t.good) (b : Bool) (l : LP) : (bD b l t).good := oK h _
theorem EQ {t : Tr} (h : t.six) (n : BS) : (bE t n).six := by
 unfold bE
 split
 ·rename_i e he
  split
  ·exact (eV.1 h e (List.mem_of_getElem? he)).2
  ·trivial
 ·trivial
theorem wE {l : List Edge} (h : ∀ e ∈ l, e.1 ∈ oc /\ e.2.six) {n : BS} {x : Tr} (hn : n ∈ oc) (hx : x.six) : ∀ e ∈ bH l n x, e.1 ∈ oc /\ e.2.six := fun e he => by
 rcases oy he with he | rfl
 ·exact h e he
 ·exact ⟨hn, hx⟩
theorem mz : ∀ (t : Tr) (p : Option (BS)) (d n : Int), (cq t p d n).2 = 0 -> t.sound p d /\ (cq t p d n).1 = n + t.nodes
 | .nil, p, d, n, _ => ⟨trivial, by simp [cq, Tr.nodes]⟩
 | .cons x k r, p, d, n, h => by
  rw [cq] at h ⊢
  split at h
  ·rename_i h1; exact absurd h h1
  ·rename_i h1
   have h1 : gm (n + 1) d p x = 0 := by simpa using h1
   rw [if_neg (by simpa using h1)]
   split at h
   ·rename_i h2; exact absurd h h2
   ·rename_i h2
    have h2 : (cq k none (d + 1) (n + 1)).2 = 0 := by simpa using h2
    rw [if_neg (by simpa using h2)]
    have i1 := mz k _ _ _ h2
    have i2 := mz r _ _ _ h
    have z := kW h1
    refine ⟨⟨z.2.1, z.2.2, ?_, i1.1, i2.1⟩, ?_⟩
    ·unfold gm at h1
     rw [if_neg (by omega), if_neg (by omega), if_neg (by omega)] at h1
     split at h1
     ·exact absurd h1 (by decide)
     ·rename_i hb; simpa using hb
    ·rw [i2.2, i1.2]
     simp only [Tr.nodes]
     omega
def lC (r : ej) : Prop := (r.2 ≠ 0 -> r.1 = .nil) /\ (r.2 = 0 -> r.1.good)
def re (r : ej) : Prop := r.2 = 0 -> r.1.six /\ r.1.nodes <= 4000
theorem d9 {t : Tr} (h : t.good) : t.six /\ t.nodes <= 4000 := ⟨h.six, Nat.le_trans h.size (by decide)⟩
theorem cl {r : ej} (h : re r) : lC (cH r) := by
 unfold cH
 split
 ·rename_i h1; exact ⟨fun _ => rfl, fun e => absurd e h1⟩
 ·rename_i h1
  have h1 : r.2 = 0 := by simpa using h1
  split
  ·rename_i h2; exact ⟨fun _ => rfl, fun e => absurd e h2⟩
  ·rename_i h2
   have h2 : (cq r.1 none 1 0).2 = 0 := by simpa using h2
   refine ⟨fun e => absurd rfl e, fun _ => ?_⟩
   have hb := mz _ _ _ _ h2
   have hc := (fw r.1 none 1 0 (by omega)).2.2 h2
   exact ⟨hb.1, by show r.1.nodes <= 400; omega, (h h1).1⟩
theorem jj {r : ej} (h : r.2 ≠ 0) : cH r = (.nil, r.2) := if_pos h
theorem rp (l : List Edge) (n : BS) : cQ (dB l n) <= cQ l := by
 unfold dB
 rw [jf]
 exact td l _ _ (by omega)
theorem kr (t : Tr) : cQ t.list = t.nodes := by rw [<- ed, of_list]
theorem uo {t : Tr} {a b : BS} (h : t.good) (hb : b ∈ oc) : re (gh t a b) := by
 unfold gh
 split
 ·intro e; simp at e
 ·split
  ·intro _
   refine ⟨rf (wE (fun e he => ?_) hb (EQ h.six a)), ?_⟩
   ·exact eV.1 h.six e ((nC _ _).subset he)
   ·show (Tr.of (bH (dB t.list a) b (bE t a))).nodes <= 4000
    rw [ed]
    have h1 := oz (dB t.list a) b (bE t a)
    have h2 := rp t.list a
    have h3 := kr t
    have h4 := nW t a
    have h5 := h.size
    omega
  ·exact fun _ => d9 h
theorem uj {t : Tr} {n : BS} (h : t.good) : re (fD t n) := by
 unfold fD
 split
 ·rename_i e he
  split
  ·exact fun _ => d9 (dA h (by rw [he]; simp))
  ·intro e; simp at e
 ·intro e; simp at e
theorem uE {t : Tr} {n : BS} (h : t.good) (hn : n ∈ oc) : re (mj t n) := fun _ => ⟨⟨hn, h.six, trivial⟩, by
 have := h.size
 show (Tr.cons n t .nil).nodes <= 4000
 simp only [Tr.nodes]; omega⟩
theorem vr : ∀ (m acc : List Edge), cQ (m.foldl (fun acc e => bH acc e.1 e.2) acc) <= cQ acc + cQ m
 | [], acc => by simp
 | e :: m, acc => by
  have h1 := vr m (bH acc e.1 e.2)
  have h2 := oz acc e.1 e.2
  have h3 : cQ (e :: m) = e.2.nodes + 1 + cQ m := by simp [cQ]
  simp only [List.foldl_cons]
  omega
theorem sH {x y : Tr} (hx : x.good) (hy : y.good) : (ew x y).six /\ (ew x y).nodes <= 4000 := by
 refine ⟨rf ?_, ?_⟩
 ·have key : ∀ (m acc : List Edge), (∀ e ∈ acc, e.1 ∈ oc /\ e.2.six) -> (∀ e ∈ m, e.1 ∈ oc /\ e.2.six) -> ∀ e ∈ m.foldl (fun acc e => bH acc e.1 e.2) acc, e.1 ∈ oc /\ e.2.six := by
   intro m
   induction m with
   | nil => intro acc h _; exact h
   | cons a m ih =>
    intro acc h hm
    exact ih _ (wE h (hm a (by simp)).1 (hm a (by simp)).2) fun e he => hm e (by simp [he])
  exact key _ _ (eV.1 hx.six) (eV.1 hy.six)
 ·unfold ew
  rw [ed]
  have h2 := kr x
  have h3 := kr y
  have h4 := hx.size
  have h5 := hy.size
  exact Nat.le_trans (vr y.list x.list) (by rw [h2, h3]; omega)
theorem zW {b : Bool} {l : LP} {x y : Tr} (hx : x.good) (hy : y.good) : re (dH b l x y) := by
 unfold dH
 split
 ·intro e; simp at e
 ·exact fun _ => sH hx hy
theorem qm {g h : Tr -> ej} {b : Bool} {l : LP} {b2 : Bool} {l2 : LP} {c : Tr} (hg : lC (g (dR b l c))) (hh : lC (h (bD b l c))) : re (cM g h b l b2 l2 c) := by
 unfold cM
 split
 ·rename_i h1; exact fun e => absurd e h1
 ·rename_i h1
  split
  ·rename_i h2; exact fun e => absurd e h2
  ·rename_i h2
   exact zW (hg.2 (by simpa using h1)) (hh.2 (by simpa using h2))
theorem yn {g : Edge -> ej} : ∀ {l : List Edge}, (bC g l).2 = 0 -> (bC g l).1 = l.map (fun e => (e.1, (g e).1)) /\ ∀ e ∈ l, (g e).2 = 0
 | [], _ => by simp [bC]
 | e :: l, h => by
  rw [bC] at h ⊢
  split at h
  ·rename_i h1; exact absurd h h1
  ·rename_i h1
   rw [if_neg h1]
   split at h
   ·rename_i h2; exact absurd h h2
   ·rename_i h2
    rw [if_neg h2]
    have i := yn (l := l) (by simpa using h2)
    refine ⟨by rw [i.1, List.map_cons], fun x hx => ?_⟩
    rcases List.mem_cons.1 hx with rfl | hx
    ·simpa using h1
    ·exact i.2 x hx
theorem CT {B : Nat} : ∀ {l : List Edge}, (∀ e ∈ l, e.2.nodes <= B) -> cQ l <= (B + 1) * l.length
 | [], _ => by simp [cQ]
 | e :: l, h => by
  have h1 := CT (l := l) fun x hx => h x (by simp [hx])
  have h2 := h e (by simp)
  have h3 : cQ (e :: l) = e.2.nodes + 1 + cQ l := by simp [cQ]
  rw [h3, List.length_cons, Nat.mul_succ]
  omega
theorem ub {g : Edge -> ej} {t : Tr} (ht : t.good) (hg : ∀ e ∈ t.list, lC (g e)) : re (Tr.of (bC g t.list).1, (bC g t.list).2) := by
 intro h
 obtain ⟨h1, h2⟩ := yn h
 show (Tr.of (bC g t.list).1).six /\ (Tr.of (bC g t.list).1).nodes <= 4000
 rw [h1]
 refine ⟨rf fun e he => ?_, ?_⟩
 ·obtain ⟨x, hx, rfl⟩ := List.mem_map.1 he
  exact ⟨(eV.1 ht.six x hx).1, ((hg x hx).2 (h2 x hx)).six⟩
 ·rw [ed]
  have h3 := CT (B := 400) (l := t.list.map fun e => (e.1, (g e).1)) fun e he => by
   obtain ⟨x, hx, rfl⟩ := List.mem_map.1 he
   exact ((hg x hx).2 (h2 x hx)).size
  rw [List.length_map] at h3
  have h4 := cw ht
  have : (400 + 1) * t.list.length <= 401 * 6 := Nat.mul_le_mul_left _ h4
  omega
theorem ux : ∀ {gs : List (Tr -> ej)} {c : Tr}, (∀ g ∈ gs, ∀ c, c.good -> lC (g c)) -> c.good -> lC (eu gs c)
 | [], c, _, hc => ⟨fun e => absurd rfl e, fun _ => hc⟩
 | g :: gs, c, h, hc => by
  rw [eu]
  split
  ·rename_i h1; exact ⟨fun _ => rfl, fun e => absurd e h1⟩
  ·rename_i h1
   exact ux (gs := gs) (fun x hx => h x (List.mem_cons_of_mem _ hx)) ((h g (by simp) c hc).2 (by simpa using h1))
theorem uW : ∀ {gs : List (Tr -> ej)} {c : Tr}, (∀ g ∈ gs, ∀ c, c.good -> lC (g c)) -> c.good -> (∀ t ∈ (cE gs c).1, t.good) /\ ((cE gs c).2 = 0 -> (cE gs c).1.length = gs.length + 1)
 | [], c, _, hc => by simp [cE, hc]
 | g :: gs, c, h, hc => by
  rw [cE]
  split
  ·rename_i h1; exact ⟨by simp, fun e => absurd e h1⟩
  ·rename_i h1
   have i := uW (gs := gs) (fun x hx => h x (List.mem_cons_of_mem _ hx)) ((h g (by simp) c hc).2 (by simpa using h1))
   split
   ·rename_i h2; exact ⟨by simp, fun e => absurd e h2⟩
   ·rename_i h2
    refine ⟨fun t ht => ?_, fun _ => by simp [i.2 (by simpa using h2)]⟩
    rcases List.mem_cons.1 ht with rfl | ht
    ·exact hc
    ·exact i.1 t ht
def jU (g : Edge -> ej) (l : List Edge) (i : Nat) (pre : List Edge) : Prop := bC g l = if (bC g (l.drop i)).2 ≠ 0 then ([], (bC g (l.drop i)).2) else (pre ++ (bC g (l.drop i)).1, 0)
theorem map_nil {g : Edge -> ej} : ∀ {l : List Edge}, (bC g l).2 ≠ 0 -> (bC g l).1 = []
 | [], h => absurd rfl h
 | e :: l, h => by
  rw [bC] at h ⊢
  split
  ·rfl
  ·rename_i h1
   rw [if_neg h1] at h
   split
   ·rfl
   ·rename_i h2
    rw [if_neg h2] at h
    exact absurd rfl h
theorem nZ (g : Edge -> ej) (l : List Edge) : jU g l 0 [] := by
 unfold jU
 rw [List.drop_zero, List.nil_append]
 split
 ·rename_i h; exact Prod.ext (map_nil h) rfl
 ·rename_i h; exact Prod.ext rfl (by simpa using h)
theorem map_drop (g : Edge -> ej) {l : List Edge} {i : Nat} (h : i < l.length) : bC g (l.drop i) = if (g l[i]).2 ≠ 0 then ([], (g l[i]).2) else if (bC g (l.drop (i + 1))).2 ≠ 0 then ([], (bC g (l.drop (i + 1))).2) else ((l[i].1, (g l[i]).1) :: (bC g (l.drop (i + 1))).1, 0) := by
 rw [List.drop_eq_getElem_cons h, bC]
theorem i6 {g : Edge -> ej} {l : List Edge} {i : Nat} {pre : List Edge} (hi : i < l.length) (h : jU g l i pre) (he : (g l[i]).2 ≠ 0) : bC g l = ([], (g l[i]).2) := by
 unfold jU at h
 rw [map_drop g hi, if_pos he] at h
 rw [h, if_pos he]
theorem gS {g : Edge -> ej} {l : List Edge} {i : Nat} {pre : List Edge} (hi : i < l.length) (h : jU g l i pre) (he : (g l[i]).2 = 0) : jU g l (i + 1) (pre ++ [(l[i].1, (g l[i]).1)]) := by
 unfold jU at h ⊢
 rw [map_drop g hi, if_neg (not_not_intro he)] at h
 by_cases h2 : (bC g (l.drop (i + 1))).2 = 0
 ·rw [if_neg (not_not_intro h2), if_neg (by simp)] at h
  rw [if_neg (not_not_intro h2), h, List.append_assoc]; rfl
 ·rw [if_pos h2, if_pos h2] at h
  rw [if_pos h2, h]
theorem i5 {g : Edge -> ej} {l : List Edge} {pre : List Edge} (h : jU g l l.length pre) : bC g l = (pre, 0) := by
 unfold jU at h
 rw [List.drop_length] at h
 simpa [bC] using h
theorem Eg {l : List Edge} {p : Option (BS)} {n : BS} {x : Tr} (h : ∀ z, (n, z) ∉ l) (e : Edge) : e ∈ bH l n x ↔ e ∈ l ∨ e = (n, x) := by
 constructor
 ·exact oy
 ·rintro (he | rfl)
  ·obtain ⟨m, y⟩ := e
   exact (BF (fun e => h y (by rw [<- e]; exact he)) x y).2 he
  ·exact List.mem_of_getElem? (Dl l n x)
theorem vq : ∀ {m acc : List Edge}, dI none acc -> (m.map Prod.fst).Nodup -> (∀ a ∈ acc, ∀ b ∈ m, a.1 ≠ b.1) -> dI none (m.foldl (fun acc e => bH acc e.1 e.2) acc) /\ ∀ e, e ∈ m.foldl (fun acc e => bH acc e.1 e.2) acc ↔ e ∈ acc ∨ e ∈ m
 | [], acc, h, _, _ => ⟨h, fun e => by simp⟩
 | b :: m, acc, h, hm, hd => by
  rw [List.map_cons, List.nodup_cons] at hm
  have hb : ∀ z, (b.1, z) ∉ acc := fun z hz => hd _ hz b (by simp) rfl
  have hmem := fun e => Eg (p := none) (x := b.2) hb e
  have ih := vq (m := m) (acc := bH acc b.1 b.2) (mg _ _ h rfl) hm.2 (fun a ha c hc => by
   rcases (hmem a).1 ha with ha | rfl
   ·exact hd a ha c (by simp [hc])
   ·intro e; exact hm.1 (by show b.1 ∈ _; rw [show b.1 = c.1 from e]; exact List.mem_map_of_mem hc))
  refine ⟨ih.1, fun e => ?_⟩
  rw [List.foldl_cons, ih.2 e, hmem e, List.mem_cons]
  constructor
  ·rintro ((h1 | h1) | h1)
   ·exact .inl h1
   ·exact .inr (.inl h1)
   ·exact .inr (.inr h1)
  ·rintro (h1 | h1 | h1)
   ·exact .inl (.inl h1)
   ·exact .inl (.inr h1)
   ·exact .inr h1
theorem qk {f : Edge -> Bool} {l : List Edge} (h : l.filter f = []) {e : Edge} (he : e ∈ l) : f e = false := by
 cases hf : f e
 ·rfl
 ·have := List.mem_filter.2 ⟨he, hf⟩
  rw [h] at this; simp at this
theorem jD {x y : Tr} (hx : x.good) (hy : y.good) {b : Bool} {l : LP} (ox : (bD b l x).list = []) (iy : (dR b l y).list = []) {pm : List Edge} (hp : pm.Perm (x.list ++ y.list)) (hle : pm.Pairwise fun a b => a.1 <= b.1) : Tr.of pm = ew x y := by
 unfold bD at ox
 unfold dR at iy
 rw [list_of] at ox iy
 have hxs : ∀ e ∈ x.list, jS b l e.1 = true := fun e he => by simpa using qk ox he
 have hys : ∀ e ∈ y.list, jS b l e.1 = false := fun e he => qk iy he
 have hd : ∀ a ∈ x.list, ∀ c ∈ y.list, a.1 ≠ c.1 := fun a ha c hc e => by
  have h1 := hxs a ha
  have h2 := hys c hc
  rw [e, h2] at h1; simp at h1
 have sx := kI (eC hx.sound)
 have sy := kI (eC hy.sound)
 have ny := qJ (List.pairwise_map.2 sy)
 have nx := qJ (List.pairwise_map.2 sx)
 obtain ⟨f1, f2⟩ := vq (eC hx.sound) ny hd
 have nd : (pm.map Prod.fst).Nodup := by
  rw [(hp.map Prod.fst).nodup_iff, List.map_append, List.nodup_append]
  refine ⟨nx, ny, ?_⟩
  intro u hu v hv e
  obtain ⟨a, ha, rfl⟩ := List.mem_map.1 hu
  obtain ⟨c, hc, rfl⟩ := List.mem_map.1 hv
  exact hd a ha c hc e
 have ne : pm.Pairwise fun x y => x.1 ≠ y.1 := List.pairwise_map.1 nd
 have sp : pm.Pairwise fun x y => x.1 < y.1 := (hle.and ne).imp fun h => tb h.1 h.2
 unfold ew
 congr 1
 exact rZ sp (kI f1) fun e => by rw [hp.mem_iff, List.mem_append]; exact (f2 e).symm
def LD.fine (p : LD) (n : Nat) : Prop := (p.a ∈ oc /\ p.b ∈ oc) /\ (p.t.good /\ p.u.good) /\ (p.nl.length <= 4000000 /\ p.ml.length <= 4000000) /\ (1 <= p.o /\ p.o <= 9) /\ (p.o = 7 -> n = 2) /\ (p.o = 8 -> n = 1) /\ (p.o = 9 -> 1 <= n) /\ n <= 4000000
def Ls.fine : Ls -> Prop
 | .nil => True
 | .cons p k r => p.fine k.len /\ k.fine /\ r.fine
theorem Ls.mem_fine : ∀ {l : Ls} {e : LD × Ls}, l.fine -> e ∈ l.list -> (Ls.cons e.1 e.2 .nil).fine
 | .nil, e, _, h => by simp [Ls.list] at h
 | .cons p k r, e, ho, h => by
  simp only [Ls.list, List.mem_cons] at h
  rcases h with rfl | h
  ·exact ⟨ho.1, ho.2.1, trivial⟩
  ·exact Ls.mem_fine ho.2.2 h
theorem yd {a t u : Tr} (h : u.good) : re (lB a t u) := by
 unfold lB
 split
 ·exact fun _ => d9 h
 ·intro e; simp at e
theorem sB {l : Ls} : (l.len = 2 -> ∃ a b, l.list = [a, b]) /\ (l.len = 1 -> ∃ a, l.list = [a]) := by
 have h := l.len_list
 constructor
 ·intro h2
  rw [h2] at h
  match l.list, h with
  | [a, b], _ => exact ⟨a, b, rfl⟩
 ·intro h1
  rw [h1] at h
  match l.list, h with
  | [a], _ => exact ⟨a, rfl⟩
mutual
theorem ea : ∀ (p : LD) (k : Ls), (Ls.cons p k .nil).fine -> ∀ c : Tr, c.good -> re (bL p k.gets c)
 | p, k, h, c, hc => by
  obtain ⟨⟨⟨ha, hb⟩, ⟨ht, hu⟩, _, _, k7, k8, k9, _⟩, hk, _⟩ := h
  have kid := vgets_ok k hk
  unfold bL
  split
  ·exact fun _ => d9 ht
  ·split
   ·exact uo hc hb
   ·split
    ·exact uj hc
    ·split
     ·exact uE hc ha
     ·split
      ·exact fun _ => d9 (eI hc _ _)
      ·split
       ·split
        ·rename_i g h hgs
         exact qm (kid g (by rw [hgs]; simp) _ (eI hc _ _)) (kid h (by rw [hgs]; simp) _ (di hc _ _))
        ·intro e; simp at e
       ·split
        ·split
         ·rename_i g hgs
          exact ub hc fun e he => kid g (by rw [hgs]; simp) _ (dA hc he)
         ·intro e; simp at e
        ·split
         ·exact fun e => d9 ((ux kid hc).2 e)
         ·exact fun _ => d9 hc
theorem vgets_ok : ∀ (l : Ls), l.fine -> ∀ g ∈ l.gets, ∀ c : Tr, c.good -> lC (g c)
 | .nil, _, g, hg, _, _ => by simp [Ls.gets] at hg
 | .cons p k r, h, g, hg, c, hc => by
  simp only [Ls.gets, List.mem_cons] at hg
  rcases hg with rfl | hg
  ·exact cl (ea p k ⟨h.1, h.2.1, trivial⟩ c hc)
  ·exact vgets_ok r h.2.2 g hg c hc
end
mutual
theorem fp : ∀ (p : LD) (k : Ls), (Ls.cons p k .nil).fine -> ∀ c : Tr, c.good -> re (db p k.cres c)
 | p, k, h, c, hc => by
  obtain ⟨⟨⟨ha, hb⟩, ⟨ht, hu⟩, _, _, k7, k8, k9, _⟩, hk, _⟩ := h
  have kid := vcres_ok k hk
  unfold db
  split
  ·exact yd hu
  ·split
   ·exact uo hc ha
   ·split
    ·exact uE hc ha
    ·split
     ·exact uj hc
     ·split
      ·split
       ·intro e; simp at e
       ·exact fun _ => d9 hc
      ·split
       ·split
        ·rename_i g h hgs
         exact qm (kid g (by rw [hgs]; simp) _ (eI hc _ _)) (kid h (by rw [hgs]; simp) _ (di hc _ _))
        ·intro e; simp at e
       ·split
        ·split
         ·rename_i g hgs
          exact ub hc fun e he => kid g (by rw [hgs]; simp) _ (dA hc he)
         ·intro e; simp at e
        ·split
         ·exact fun e => d9 ((ux (fun g hg => kid g (List.mem_reverse.1 hg)) hc).2 e)
         ·exact fun _ => d9 hc
theorem vcres_ok : ∀ (l : Ls), l.fine -> ∀ g ∈ l.cres, ∀ c : Tr, c.good -> lC (g c)
 | .nil, _, g, hg, _, _ => by simp [Ls.cres] at hg
 | .cons p k r, h, g, hg, c, hc => by
  simp only [Ls.cres, List.mem_cons] at hg
  rcases hg with rfl | hg
  ·exact cl (fp p k ⟨h.1, h.2.1, trivial⟩ c hc)
  ·exact vcres_ok r h.2.2 g hg c hc
end
theorem gQ {t : Tr} (h : t.good) (n : BS) : (bE t n).good := by
 unfold bE
 split
 ·rename_i e he
  split
  ·exact dA h (List.mem_of_getElem? he)
  ·exact fi
 ·exact fi
mutual
theorem eW : ∀ (p : LD) (k : Ls), (Ls.cons p k .nil).fine -> ∀ a c : Tr, a.good -> c.good -> re (cZ p k.gets k.cres k.puts a c)
 | p, k, h, a, c, hna, hc => by
  obtain ⟨⟨⟨ha, hb⟩, ⟨ht, hu⟩, _, _, k7, k8, k9, _⟩, hk, _⟩ := h
  have kidG := vgets_ok k hk
  have kidC := vcres_ok k hk
  have kid := vputs_ok k hk
  unfold cZ
  split
  ·exact yd hc
  ·split
   ·exact uo hna ha
   ·split
    ·exact uE hna ha
    ·split
     ·exact uj hna
     ·split
      ·split
       ·intro e; simp at e
       ·exact fun _ => sH hna (di hc _ _)
      ·split
       ·split
        ·rename_i g h hgs
         exact qm (kid g (by rw [hgs]; simp) _ _ (eI hna _ _) (eI hc _ _)) (kid h (by rw [hgs]; simp) _ _ (di hna _ _) (di hc _ _))
        ·intro e; simp at e
       ·split
        ·split
         ·rename_i g h hgs hhs
          refine ub hna fun e he => ?_
          unfold gT
          split
          ·exact kid g (by rw [hgs]; simp) _ _ (dA hna he) (gQ hc _)
          ·exact kidC h (by rw [hhs]; simp) _ (dA hna he)
         ·intro e; simp at e
        ·split
         ·split
          ·rename_i h1; exact fun e => absurd e h1
          ·refine fun e => d9 ((ux (fun g hg => ?_) hna).2 e)
           obtain ⟨x, hx, rfl⟩ := List.mem_map.1 (List.mem_reverse.1 hg)
           have h1 := (uW (gs := k.gets.dropLast) (fun g hg => kidG g (List.dropLast_subset _ hg)) hc).1 x.2 (List.of_mem_zip hx).2
           exact fun y hy => kid x.1 (List.of_mem_zip hx).1 y x.2 hy h1
         ·exact fun _ => d9 hna
theorem vputs_ok : ∀ (l : Ls), l.fine -> ∀ g ∈ l.puts, ∀ a c : Tr, a.good -> c.good -> lC (g a c)
 | .nil, _, g, hg, _, _, _, _ => by simp [Ls.puts] at hg
 | .cons p k r, h, g, hg, a, c, ha, hc => by
  simp only [Ls.puts, List.mem_cons] at hg
  rcases hg with rfl | hg
  ·exact cl (eW p k ⟨h.1, h.2.1, trivial⟩ a c ha hc)
  ·exact vputs_ok r h.2.2 g hg a c ha hc
end
def xM (a : LP) : LP := (eN (iM a)).map ak
def An (a : LP) : LP := (Lib.compact (iM a)).map ak
def xf : List TV -> Option Alts
 | [.own 1 a] => one (∃ l : List (BS), a = l.map ak /\ l.length <= 4000000) ([], [.own 1 (xM a)])
 | _ => none
def AM : List TV -> Option Alts
 | [.own 1 a] => one (∃ l : List (BS), a = l.map ak /\ l.length <= 4000000) ([.own 1 (An a)], [])
 | _ => none
def AL : List TV -> Option Alts
 | [.pv (.sl es)] => one (es.length * 16 <= du /\ es.length <= bz /\ cg 1 es = true) ([.own 1 es], [])
 | _ => none
theorem ES : ∀ ag al, xf ag = some al -> ∀ a ∈ al, a.1 -> Ev C 108 ag a.2 := by
 intro ag al hl x hx hp
 unfold xf at hl
 split at hl
 ·have e := aD hl hx; subst e
  obtain ⟨l, rfl, h1⟩ := hp
  refine lN (g := tj) (by kernel_rfl) ?_
  simp only [tj, mi, xM, bF]
  rw [if_pos h1]
 ·exact absurd hl (by simp)
theorem GE : ∀ ag al, AM ag = some al -> ∀ a ∈ al, a.1 -> Ev C 109 ag a.2 := by
 intro ag al hl x hx hp
 unfold AM at hl
 split at hl
 ·have e := aD hl hx; subst e
  obtain ⟨l, rfl, h1⟩ := hp
  refine lN (g := jm) (by kernel_rfl) ?_
  simp only [jm, mi, An, bF]
  rw [if_pos h1]
 ·exact absurd hl (by simp)
theorem GD : ∀ ag al, AL ag = some al -> ∀ a ∈ al, a.1 -> Ev C 107 ag a.2 := by
 intro ag al hl a ha hp
 unfold AL at hl
 split at hl
 ·have e := aD hl ha; subst e
  have e1 : dM Tryz.prog 9 = 16 := by kernel_rfl
  have e2 : ar Tryz.prog 9 = 1 := by kernel_rfl
  refine lN (g := iW Tryz.prog 9) (by kernel_rfl) ?_
  simp only [iW, e1, e2]
  rw [if_pos hp]
 ·exact absurd hl (by simp)
def an (a : LP) : Prop := ∃ t : Tr, a = t.rows /\ t.good
def bm (l : LP) : Prop := ∃ q : List (BS), l = q.map ak /\ q.length <= 4000000
noncomputable def aG (a : LP) (n : BS) : Bool := dK (aH a).list n
def rH : List Edge -> BS -> Int -> Int
 | [], _, _ => -1
 | e :: l, n, i => if (e.1 == n) = true then i else rH l n (i + 1)
noncomputable def D5 (a : LP) (n : BS) : Int := rH (aH a).list n 0
noncomputable def md (a : LP) (f t : BS) : LP := (Tr.of (bH (dB (aH a).list f) t (bE (aH a) f))).rows
noncomputable def gJ (a : LP) (n : BS) : Int := (fD (aH a) n).2
noncomputable def oe (a : LP) (n : BS) : LP := (fD (aH a) n).1.rows
def IO (a : LP) (n : BS) : LP := [[.str n, .sl a]]
noncomputable def bl (a b : LP) : LP := (ew (aH a) (aH b)).rows
noncomputable def th (a : LP) (n : BS) : LP := (Tr.of (dB (aH a).list n)).rows
noncomputable def nB (a : LP) (n : BS) (x : LP) : LP := (Tr.of (bH (aH a).list n (aH x))).rows
theorem Kh (a : BS) (c : LP) (b : BS) (Q : QT) : (bq C cd 85 [.pv (.agg [.str a, .sl c]), .pv (.iptr [.str b])] Q) (H.auto) = (Q ([tB (a == b)], [])) := by kernel_rfl
def AQ : List TV -> Option Alts
 | [.pv (.agg [.str m, .sl b]), .pv (.iptr [.str n])] => one True ([.pv (.bool (m == n))], [])
 | _ => none
def zM : Specs := aZ [(85, AQ)]
theorem Mh (a : LP) (b : BS) (Q : QT) : (bq C zM 98 [.pv (.sl a), .pv (.fn 85 [.iptr [.str b]])] Q) (H.auto) = (let c := PV.fn 85 [PV.iptr [pT b]]; bd C 98 (d0 (u1 (d0 (u1 CP.top)))) (St.mk [(0, aS a), (1, AV.pv c), (7, aI (↑(List.length a) : Int)), (8, aI 0)] []) (cA (au 0 (aQ (bA C zM 98 99998 (u2 CP.top)) (aU C 98 [tS a, TV.pv c] Q))))) := by kernel_rfl
def FC : CP := (d0 (u1 (d0 (u1 CP.top))))
def FD (a : LP) (b : BS) (c d : Int) : St := (St.mk [(0, aS a), (1, AV.pv (PV.fn 85 [PV.iptr [pT b]])), (7, aI c), (8, aI d)] [])
theorem Kf (f : LP) (g : BS) (e : LP) (c : BS) (d a : Int)  (J0 : St -> Prop) (Q : QT) : (bA C zM 98 1000 (FC.dn 0) (FD e c d a) (bO C 98 FC J0 (cA (au 0 (aQ (bA C zM 98 99998 (u2 CP.top)) (aU C 98 [tS f, TV.pv (PV.fn 85 [PV.iptr [pT g]])] Q)))))) (H.b (H.s (H.s (H.b H.auto H.auto))) H.auto) = ((decide (a < d) = true -> (0 : Int) <= a /\ ∃ (s : BS) (es : LP), e[Int.toNat a]? = some [pT s, pS es] /\ True /\ ((s == c) = true -> ∃ (h : H), Q ([tI a], [])) /\ ((s == c) = false -> J0 (St.mk [(0, aS e), (1, AV.pv (PV.fn 85 [PV.iptr [pT c]])), (7, aI d), (8, aI (IntKind.wrap .i64 (a + 1)))] []))) /\ (decide (a < d) = false -> ∃ (h : H), Q ([tI (-1)], []))) := by kernel_rfl
noncomputable def G5 : List TV -> Option Alts
 | [.pv (.sl a), .pv (.fn f [.iptr [.str n]])] => one (f = 85 /\ an a) ([.pv (.bool (aG a n))], [])
 | _ => none
noncomputable def AP : List TV -> Option Alts
 | [.pv (.sl a), .pv (.fn f [.iptr [.str n]])] => one (f = 85 /\ an a) ([.pv (.int .i64 (D5 a n))], [])
 | _ => none
noncomputable def LU : Specs := aZ [(98, AP)]
theorem Mg (a : LP) (b : BS) (Q : QT) : (bq C LU 84 [.pv (.sl a), .pv (.fn 85 [.iptr [.str b]])] Q) (H.auto) = ((85 = 85 /\ an a) /\ Q ([tB (decide (D5 a b ≥ (0 : Int)))], [])) := by kernel_rfl
noncomputable def LV : Specs := aZ [(84, G5)]
theorem Mi (b : BS) (a : LP) (Q : QT) : (bq C LV 65 [.pv (.sl a), .pv (.str b)] Q) (H.auto) = ((85 = 85 /\ an a) /\ Q ([tB (aG a b)], [])) := by kernel_rfl
noncomputable def G6 : List TV -> Option Alts
 | [.pv (.sl a), .pv (.str n)] => one (an a /\ 0 = 0) ([.pv (.bool (aG a n))], [])
 | _ => none
noncomputable def A2 : List TV -> Option Alts
 | [.pv (.sl a), .pv (.sl p), .pv (.sl x)] => one (nG a /\ gB p 1000 /\ nG x) ([.own 2 (lD a p x)], [])
 | _ => none
noncomputable def tO : List TV -> Option Alts
 | [.pv (.sl a), .pv (.sl [[.str n]])] => one (nG a /\ 0 = 0) ([.own 2 (ic a [[.str n]])], [])
 | _ => none
noncomputable def Jg : Specs := aZ [(65, G6), (38, tV), (67, tO), (66, A2)]
theorem ME (a : LP) (c d : BS) (Q : QT) : (bq C Jg 39 [.pv (.sl a), .pv (.str c), .pv (.str d)] Q) (H.b H.auto (H.b H.auto (H.b H.auto H.auto))) = (let f := List.set (List.replicate 1 [pT (Array.toList (ByteArray.data (ByteArray.mk #[])))]) 0 [pT c]; let e := nG a /\ gB f 1000; let g := vC a [[pT c]]; (an a /\ 0 = 0) /\ (aG a d = true -> Q (eR 3)) /\ (aG a d = false -> aA [(e /\ jR a f = false, [tS [], tB false], []), (e /\ jR a f = true, [TV.own 2 g, tB true], [])] /\ (e /\ jR a [[pT c]] = false -> Q ([tS a, tI 0], [])) /\ (e /\ jR a [[pT c]] = true -> (nG a /\ 0 = 0) /\ (nG (ic a [[pT c]]) /\ gB [[pT d]] 1000 /\ nG g) /\ Q ([TV.own 2 (lD (ic a [[pT c]]) [[pT d]] g), tI 0], [])) /\ True)) := by kernel_rfl
noncomputable def tU : List TV -> Option Alts
 | [.pv (.sl a), .pv (.str f), .pv (.str t)] => some [(an a /\ aG a t = true, [.pv (.sl []), .pv (.int .i64 3)], []), ((an a /\ aG a t = false) /\ aG a f = false, [.pv (.sl a), .pv (.int .i64 0)], []), ((an a /\ aG a t = false) /\ aG a f = true, [.own 2 (md a f t), .pv (.int .i64 0)], [])]
 | _ => none
theorem KN (a : LP) (c : BS) (Q : QT) : (bq C cd 40 [.pv (.sl a), .pv (.str c)] Q) (H.b H.auto (H.n 2 (H.s (H.n 5 (H.b H.auto (H.n 1 (H.s H.auto))))))) = (let d := (↑(List.length a) : Int) != 1; (d = true -> Q (eR 3)) /\ (d = false -> ∃ (s : BS) (es : LP), a[0]? = some [pT s, pS es] /\ ((!s == c) = true -> Q (eR 3)) /\ ((!s == c) = false -> ∃ (s : BS) (es : LP), a[0]? = some [pT s, pS es] /\ Q ([tS es, tI 0], [])))) := by kernel_rfl
noncomputable def tQ : List TV -> Option Alts
 | [.pv (.sl a), .pv (.str n)] => some [(an a /\ gJ a n ≠ 0, [.pv (.sl []), .pv (.int .i64 3)], []), (an a /\ gJ a n = 0, [.pv (.sl (oe a n)), .pv (.int .i64 0)], [])]
 | _ => none
theorem MM (a : LP) (b : BS) (Q : QT) : (bq C cd 41 [.pv (.sl a), .pv (.str b)] Q) (H.auto) = (Q ([TV.own 2 [[pT b, pS a]], tI 0], [])) := by kernel_rfl
def DX : List TV -> Option Alts
 | [.pv (.sl a), .pv (.str n)] => one True ([.own 2 (IO a n), .pv (.int .i64 0)], [])
 | _ => none
noncomputable def LR : Specs := aZ [(42, y4)]
theorem LY (a : LP) (c : Bool) (b : LP) (Q : QT) : (bq C LR 47 [.pv (.sl a), .pv (.agg [.bool c, .sl b])] Q) (H.auto) = (((∃ (e : Tr), a = Tr.rows e /\ Tr.nodes e <= 2000000) /\ ∃ (d : List (BS)), b = List.map ak d /\ List.length d <= 4000000) /\ Q ([tB ((↑(List.length (aw c b a)) : Int) == 0)], [])) := by kernel_rfl
noncomputable def vu : List TV -> Option Alts
 | [.pv (.sl a), .pv (.agg [.bool b, .sl l])] => one (an a /\ bm l) ([.pv (.bool ((aw b l a).length == 0))], [])
 | _ => none
noncomputable def Jd : Specs := aZ [(108, xf), (109, AM), (107, AL)]
theorem Ms (a : LP) (Q : QT) : (bq C Jd 102 [.pv (.sl a)] Q) (H.s (H.s H.auto)) = (let c := An (xM a); (List.length a * 16 <= du /\ List.length a <= bz /\ cg 1 a = true) /\ (∃ (b : List (BS)), a = List.map ak b /\ List.length b <= 4000000) /\ List.length (xM a) = List.length a /\ (∃ (b : List (BS)), xM a = List.map ak b /\ List.length b <= 4000000) /\ (List.length c * 16 <= du /\ List.length c <= bz /\ cg 1 c = true) /\ (flatTVs [TV.own 1 c] && true) = true /\ Q ([TV.pv (PV.agg [pS c])], [])) := by kernel_rfl
def Dz (l : LP) : LP := (iT (iM l)).map ak
def G8 : List TV -> Option Alts
 | [.pv (.sl l)] => one (bm l /\ 0 = 0) ([.pv (.agg [.sl (Dz l)])], [])
 | _ => none
def LX : Specs := aZ [(102, G8)]
theorem Mu (b : Bool) (a : LP) (Q : QT) : (bq C LX 89 [.pv (.agg [.bool b, .sl a])] Q) (H.auto) = ((bm a /\ 0 = 0) /\ Q ([TV.pv (PV.agg [pB !b, pS (Dz a)])], [])) := by kernel_rfl
def G9 : List TV -> Option Alts
 | [.pv (.agg [.bool b, .sl l])] => one (bm l /\ 0 = 0) ([.pv (.agg [.bool (!b), .sl (Dz l)])], [])
 | _ => none
noncomputable def LW : Specs := aZ [(47, vu), (89, G9)]
theorem Mt (b : LP) (c : Bool) (a : LP) (Q : QT) : (bq C LW 71 [.pv (.sl b), .pv (.agg [.bool c, .sl a])] Q) (H.auto) = ((bm a /\ 0 = 0) /\ (an b /\ bm (Dz a)) /\ Q ([tB (List.length (aw (!c) (Dz a) b) == 0)], [])) := by kernel_rfl
noncomputable def Jl : Specs := aZ [(30, AF)]
theorem MT (a : LP) (d : BS) (Q : QT) : (bq C Jl 78 [.pv (.sl a), .pv (.str d)] Q) (H.b H.auto (H.s (H.s (H.s (H.s (H.s (H.s (H.s (H.s H.auto))))))))) = (let i := Tr.list (aH a); let f := List.length (List.takeWhile (fun (e : Proofs.YtcoikmicjbppmaaGreat.Vm.Edge) ↦ Op.bytesLess (Prod.fst e) d) i); let j := (↑f : Int) + 1; let n := IntKind.wrap .i64 j; let c := List.length a; let o := Int.toNat (Int.ofNat c) - Int.toNat n; let m := List.drop (Int.toNat n) a; let h := List.take o m; let g := Int.toNat (↑f : Int) - 0; let k := List.take g a; (∃ (l : Tr), a = Tr.rows l /\ List.length (Tr.list l) <= 4000000) /\ ((!dK i d) = true -> Q ([tS a], [])) /\ ((!dK i d) = false -> cg 2 a = true /\ ((0 : Int) <= (0 : Int) /\ (0 : Int) <= (↑f : Int) /\ (↑f : Int) <= Int.ofNat c) /\ ((0 + List.length k) * 40 <= du /\ 0 + List.length k <= bz) /\ cg 2 k = true /\ cg 2 a = true /\ ((0 : Int) <= IntKind.wrap .i64 j /\ IntKind.wrap .i64 j <= Int.ofNat c /\ Int.ofNat c <= Int.ofNat c) /\ ((List.length ([] ++ List.take g a) + List.length h) * 40 <= du /\ List.length ([] ++ List.take g a) + List.length h <= bz) /\ cg 2 h = true /\ Q ([TV.own 2 ([] ++ List.take g a ++ List.take o m)], []))) := by kernel_rfl
noncomputable def Hf : List TV -> Option Alts
 | [.pv (.sl a), .pv (.str n)] => one (an a /\ aG a n = true) ([.own 2 (th a n)], [])
 | _ => none
noncomputable def y6 : List TV -> Option Alts
 | [.pv (.sl a), .pv (.str n), .pv (.sl x)] => one (∃ t u : Tr, a = t.rows /\ x = u.rows /\ t.list.length <= 4000000) ([.own 2 (nB a n x)], [])
 | _ => none
noncomputable def y0 : List TV -> Option Alts
 | [.pv (.sl a), .pv (.str n)] => one (an a /\ 0 = 0) ([.pv (.sl (bG a n)), .pv (.bool (aG a n))], [])
 | _ => none
noncomputable def Jh : Specs := aZ [(12, y0), (78, Hf), (25, y6)]
theorem MG (a : LP) (c d : BS) (Q : QT) : (bq C Jh 56 [.pv (.sl a), .pv (.str c), .pv (.str d)] Q) (H.b H.auto (H.b H.auto H.auto)) = ((an a /\ 0 = 0) /\ (aG a d = true -> Q (eR 3)) /\ (aG a d = false -> (an a /\ 0 = 0) /\ ((!aG a c) = true -> Q ([tS a, tI 0], [])) /\ ((!aG a c) = false -> (an a /\ aG a c = true) /\ (∃ (d u : Tr), th a c = Tr.rows d /\ bG a c = Tr.rows u /\ List.length (Tr.list d) <= 4000000) /\ Q ([TV.own 2 (nB (th a c) d (bG a c)), tI 0], [])))) := by kernel_rfl
theorem Lb (a : LP) (c : BS) (Q : QT) : (bq C cd 57 [.pv (.sl a), .pv (.str c)] Q) (H.b H.auto (H.n 2 (H.s (H.n 5 (H.b H.auto (H.n 1 (H.s H.auto))))))) = (let d := (↑(List.length a) : Int) != 1; (d = true -> Q (eR 3)) /\ (d = false -> ∃ (s : BS) (es : LP), a[0]? = some [pT s, pS es] /\ ((!s == c) = true -> Q (eR 3)) /\ ((!s == c) = false -> ∃ (s : BS) (es : LP), a[0]? = some [pT s, pS es] /\ Q ([tS es, tI 0], [])))) := by kernel_rfl
noncomputable def zO : Specs := aZ [(58, y4), (25, y6)]
theorem MB (c d : LP) (b : Bool) (a : LP) (Q : QT) : (bq C zO 59 [.pv (.sl c), .pv (.sl d), .pv (.agg [.bool b, .sl a])] Q) (H.b H.auto (H.n 3 (H.b H.auto H.auto))) = (((∃ (f : Tr), c = Tr.rows f /\ Tr.nodes f <= 2000000) /\ ∃ (e : List (BS)), a = List.map ak e /\ List.length e <= 4000000) /\ ((∃ (f : Tr), d = Tr.rows f /\ Tr.nodes f <= 2000000) /\ ∃ (e : List (BS)), a = List.map ak e /\ List.length e <= 4000000) /\ (decide ((↑(List.length (aw b a c)) : Int) >  0) = true -> Q (eR 3)) /\ (decide ((↑(List.length (aw b a c)) : Int) >  0) = false -> (decide ((↑(List.length (cm b a d)) : Int) >  0) = true -> Q (eR 3)) /\ (decide ((↑(List.length (cm b a d)) : Int) >  0) = false -> bd C 59 (d0 (u1 (d0 (u5 CP.top)))) (St.mk [(1, aS d), (8, aS c), (13, aI 0)] []) (cA (au 0 (aQ (bA C zO 59 99994 (u6 CP.top)) (aU C 59 [tS c, tS d, TV.pv (PV.agg [pB b, pS a])] Q))))))) := by kernel_rfl
def FL : CP := (d0 (u1 (d0 (u5 CP.top))))
def FM (a c : LP) (b : Int) : St := (St.mk [(1, aS a), (8, aS c), (13, aI b)] [])
theorem K4 (f g : LP) (d : Bool) (e b c : LP) (a : Int)  (J0 : St -> Prop) (Q : QT) : (bA C zO 59 1000 (FL.dn 0) (FM b c a) (bO C 59 FL J0 (cA (au 0 (aQ (bA C zO 59 99994 (u6 CP.top)) (aU C 59 [tS f, tS g, TV.pv (PV.agg [pB d, pS e])] Q)))))) (H.b (H.s (H.s (H.s (H.s H.auto)))) H.auto) = ((decide (a < (↑(List.length b) : Int)) = true -> (0 : Int) <= a /\ ∃ (s : BS) (es : LP), b[Int.toNat a]? = some [pT s, pS es] /\ (0 : Int) <= a /\ ∃ (s_1 : BS) (es : LP), b[Int.toNat a]? = some [pT s_1, pS es] /\ (∃ (t u : Tr), c = Tr.rows t /\ es = Tr.rows u /\ List.length (Tr.list t) <= 4000000) /\ J0 (St.mk [(1, aS b), (8, aS (nB c s es)), (13, aI (IntKind.wrap .i64 (a + 1)))] [])) /\ (decide (a < (↑(List.length b) : Int)) = false -> ∃ (h : H), Q ([tS c, tI 0], []))) := by kernel_rfl
noncomputable def AJ : List TV -> Option Alts
 | [.pv (.sl a)] => one (∃ t : Tr, a = t.rows /\ t.nodes < 4000000) ([.pv (.int .i64 (bf a 1 0))], [])
 | _ => none
noncomputable def xd : List TV -> Option Alts
 | [.pv (.sl a), .pv (.sl [])] => one (an a /\ 0 = 0) ([.own 2 (cN a), .pv (.bool true)], [])
 | _ => none
def gt (a : LP) : Prop := ∃ t : Tr, a = t.rows /\ t.nodes <= 4000 /\ t.six
noncomputable def AK : List TV -> Option Alts
 | [.pv (.sl a), .pv (.int .i64 e)] => some [(e ≠ 0 /\ 0 = 0, [.pv (.sl []), .pv (.int .i64 e)], []), ((e = 0 /\ gt a) /\ bf a 1 0 ≠ 0, [.pv (.sl []), .pv (.int .i64 (bf a 1 0))], []), ((e = 0 /\ gt a) /\ bf a 1 0 = 0, [.own 2 (cN a), .pv (.int .i64 0)], [])]
 | _ => none
noncomputable def Bc : List TV -> Option Alts
 | [.pv (.sl a), .pv (.int .i64 e)] => some [(e ≠ 0 /\ 0 = 0, [.pv (.sl []), .pv (.int .i64 e)], []), ((e = 0 /\ gt a) /\ bf a 1 0 ≠ 0, [.pv (.sl []), .pv (.int .i64 (bf a 1 0))], []), ((e = 0 /\ gt a) /\ bf a 1 0 = 0, [.pv (.sl a), .pv (.int .i64 0)], [])]
 | _ => none
noncomputable def I2 : Specs := aZ [(37, AJ), (38, xd)]
theorem GC (a : LP) (c : Int) (Q : QT) : (bq C I2 27 [.pv (.sl a), .pv (.int .i64 c)] Q) (H.b (H.b H.auto H.auto) (H.b H.auto H.auto)) = (let e := bf a (1 : Int) (0 : Int) != 0; ((c == 0) = true -> (∃ (d : Tr), a = Tr.rows d /\ Tr.nodes d < 4000000) /\ (e = true -> Q (eR (bf a (1 : Int) (0 : Int)))) /\ (e = false -> (an a /\ 0 = 0) /\ Q ([TV.own 2 (cN a), tI 0], []))) /\ ((c == 0) = false -> ((c != 0) = true -> Q (eR c)) /\ ((c != 0) = false -> (an a /\ 0 = 0) /\ Q ([TV.own 2 (cN a), tI 0], [])))) := by kernel_rfl
noncomputable def Jj : Specs := aZ [(55, AJ)]
theorem IL (a : LP) (c : Int) (Q : QT) : (bq C Jj 31 [.pv (.sl a), .pv (.int .i64 c)] Q) (H.b (H.b H.auto H.auto) (H.b H.auto H.auto)) = (let e := bf a (1 : Int) (0 : Int) != 0; ((c == 0) = true -> (∃ (d : Tr), a = Tr.rows d /\ Tr.nodes d < 4000000) /\ (e = true -> Q (eR (bf a (1 : Int) (0 : Int)))) /\ (e = false -> Q ([tS a, tI 0], []))) /\ ((c == 0) = false -> ((c != 0) = true -> Q (eR c)) /\ ((c != 0) = false -> Q ([tS a, tI 0], [])))) := by kernel_rfl
noncomputable def DU : List TV -> Option Alts
 | [.pv (.sl x), .pv (.sl y)] => one (∃ l m : List Edge, x = l.map aE /\ y = m.map aE /\ l.length + m.length < 20) ([.own 2 (dj (eE x y))], [])
 | _ => none
noncomputable def A0 : List TV -> Option Alts
 | [.pv (.sl a), .pv (.agg [.bool b, .sl l])] => one (an a /\ bm l) ([.pv (.bool ((cm b l a).length == 0))], [])
 | _ => none
noncomputable def jN : List TV -> Option Alts
 | [.pv (.sl a), .pv (.agg [.bool b, .sl l])] => one (an a /\ bm l) ([.own 2 (cm b l a), .own 2 (aw b l a)], [])
 | _ => none
noncomputable def cj (x y : LP) (b : Bool) (l : LP) : Int := (dH b l (aH x) (aH y)).2
noncomputable def A3 : List TV -> Option Alts
 | [.pv (.sl x), .pv (.sl y), .pv (.agg [.bool b, .sl l])] => some [((an x /\ an y /\ bm l) /\ cj x y b l ≠ 0, [.pv (.sl []), .pv (.int .i64 3)], []), ((an x /\ an y /\ bm l) /\ cj x y b l = 0, [.pv (.sl (bl x y)), .pv (.int .i64 0)], [])]
 | _ => none
theorem d4 {t : Tr} (h : t.good) : t.nodes <= 2000000 /\ t.nodes < 4000000 /\ t.list.length <= 4000000 := by
 have h1 := h.size
 have h2 := dE t
 omega
theorem dr (b : Bool) (l : LP) (t : Tr) : cm b l t.rows = (dR b l t).rows := by unfold cm dR; rw [aq]
theorem ct (b : Bool) (l : LP) (t : Tr) : aw b l t.rows = (bD b l t).rows := by unfold aw bD; rw [aq]
theorem Hh : ∀ ag al, AQ ag = some al -> ∀ a ∈ al, a.1 -> Ev C 85 ag a.2 := by
 intro ag al hl x hx hp
 unfold AQ at hl
 split at hl
 ·have e := aD hl hx; subst e
  exact bh bM (Kh ..) rfl
 ·exact absurd hl (by simp)
theorem Kd : aK C zM := az (am Hh ax)
theorem Ke (t : Tr) (n : BS) (h : t.list.length <= 4000000) : Ev C 98 [.pv (.sl t.rows), .pv (.fn 85 [.iptr [.str n]])] ([.pv (.int .i64 (rH t.list n 0))], []) := by
 refine bh Kd (Mh ..) ?_
 conv => zeta
 refine aJ Kd (by kernel_rfl) 1000 (fun m st => ∃ i : Nat, st = FD t.rows n t.list.length i /\ i <= t.list.length /\ rH t.list n 0 = rH (t.list.drop i) n i /\ m = t.list.length - i) ?_ (n := t.list.length) ⟨0, by rw [rows_len]; rfl, by omega, rfl, by omega⟩
 rintro m st ⟨i, rfl, hi, hx, rfl⟩
 refine cr (Kf ..) ⟨fun g => ?_, fun g => ?_⟩
 ·simp only [decide_eq_true_eq] at g
  have hi' : i < t.list.length := by omega
  rw [List.drop_eq_getElem_cons hi', rH] at hx
  refine ⟨by omega, _, _, row_get t hi', trivial, fun h => ⟨.auto, ?_⟩, fun h => ⟨t.list.length - (i + 1), by omega, i + 1, by rw [dJ (by omega)]; rfl, by omega, ?_, rfl⟩⟩
  ·rw [hx, if_pos h]
  ·rw [hx, if_neg (by rw [h]; simp)]; rfl
 ·simp only [decide_eq_false_iff_not] at g
  have : i = t.list.length := by omega
  subst this
  rw [List.drop_length] at hx
  exact ⟨.auto, by rw [hx]; rfl⟩
theorem Kg : ∀ ag al, AP ag = some al -> ∀ a ∈ al, a.1 -> Ev C 98 ag a.2 := by
 intro ag al hl x hx hp
 unfold AP at hl
 split at hl
 ·have e := aD hl hx; subst e
  obtain ⟨rfl, t, rfl, h⟩ := hp
  unfold D5
  rw [aq]
  exact Ke t _ (d4 h).2.2
 ·exact absurd hl (by simp)
theorem vM : ∀ (l : List Edge) (n : BS) (i : Int), 0 <= i -> (0 <= rH l n i ↔ ∃ x, (n, x) ∈ l)
 | [], n, i, _ => by simp [rH]
 | (m, k) :: l, n, i, h => by
  rw [rH]
  split
  ·rename_i he
   have he : m = n := by simpa using he
   subst he
   exact ⟨fun _ => ⟨k, by simp⟩, fun _ => h⟩
  ·rename_i he
   have he : ¬ m = n := by simpa using he
   rw [vM l n (i + 1) (by omega)]
   constructor
   ·rintro ⟨x, hx⟩; exact ⟨x, by simp [hx]⟩
   ·rintro ⟨x, hx⟩
    rcases List.mem_cons.1 hx with e | hx
    ·simp only [Prod.mk.injEq] at e; exact absurd e.1.symm he
    ·exact ⟨x, hx⟩
theorem D6 {t : Tr} (h : t.good) (n : BS) : decide (rH t.list n 0 ≥ 0) = dK t.list n := by
 rw [Bool.eq_iff_iff, decide_eq_true_iff, Gn (eC h.sound) n]
 exact vM t.list n 0 (by omega)
theorem Kc : ∀ ag al, G5 ag = some al -> ∀ a ∈ al, a.1 -> Ev C 84 ag a.2 := by
 intro ag al hl x hx hp
 unfold G5 at hl
 split at hl
 ·have e := aD hl hx; subst e
  obtain ⟨rfl, t, rfl, h⟩ := hp
  refine bh (az (am Kg ax)) (Mg ..) ⟨⟨rfl, t, rfl, h⟩, ?_⟩
  unfold D5 aG
  rw [aq, D6 h]
 ·exact absurd hl (by simp)
theorem Ki : ∀ ag al, G6 ag = some al -> ∀ a ∈ al, a.1 -> Ev C 65 ag a.2 := by
 intro ag al hl x hx hp
 unfold G6 at hl
 split at hl
 ·have e := aD hl hx; subst e
  exact bh (az (am Kc ax)) (Mi ..) ⟨⟨rfl, hp.1⟩, rfl⟩
 ·exact absurd hl (by simp)
theorem Es : ∀ ag al, A2 ag = some al -> ∀ a ∈ al, a.1 -> Ev C 66 ag a.2 := yI 1000
theorem As : ∀ ag al, tO ag = some al -> ∀ a ∈ al, a.1 -> Ev C 67 ag a.2 := by
 intro ag al hl x hx hp
 unfold tO at hl
 split at hl
 ·rename_i a n
  have e := aD hl hx; subst e
  exact wI 1000 [.pv (.sl a), .pv (.sl [[.str n]])] _ rfl ((nG a /\ gB [[.str n]] 1000) /\ [[PV.str n]] ≠ [], [.own 2 (ic a [[.str n]])], []) (by simp) ⟨⟨hp.1, [n], rfl, by simp, by simp⟩, by simp⟩
 ·exact absurd hl (by simp)
theorem kv (n : BS) : gB [[.str n]] 1000 := ⟨[n], rfl, by simp, by simp⟩
theorem j0 {t : Tr} (h : t.good) : nG t.rows := ⟨t, rfl, (d4 h).1, mN h⟩
theorem vB (t : Tr) (n : BS) : jR t.rows [[.str n]] = dK t.list n := by
 show jR t.rows ([n].map ak) = _
 rw [y7]
 simp [lI]
theorem vD {t : Tr} {n : BS} (h : dK t.list n = true) : vC t.rows [[.str n]] = (bE t n).rows := by
 show vC t.rows ([n].map ak) = _
 rw [y8]
 simp [tW, h]
theorem yX {t : Tr} {n : BS} (h : dK t.list n = true) : ic t.rows [[.str n]] = (Tr.of (dB t.list n)).rows := by
 show ic t.rows ([n].map ak) = _
 rw [wZ]
 simp [gz, h]
theorem B1 (t x : Tr) (n : BS) : lD t.rows [[.str n]] x.rows = (Tr.of (bH t.list n x)).rows := by
 show lD t.rows ([n].map ak) x.rows = _
 rw [zk]
 simp [kz]
theorem bR (t : Tr) (n : BS) : aG t.rows n = dK t.list n := by unfold aG; rw [aq]
theorem fH (t : Tr) (f n : BS) : md t.rows f n = (Tr.of (bH (dB t.list f) n (bE t f))).rows := by unfold md; rw [aq]
theorem MD : aK C Jg := az (am Ki (am yH (am As (am Es ax))))
theorem Ia {t : Tr} (h : t.good) (f n : BS) (R : RT) (hR : R = if aG t.rows n = true then ([.pv (.sl []), .pv (.int .i64 3)], []) else if aG t.rows f = true then ([.own 2 (md t.rows f n), .pv (.int .i64 0)], []) else ([.pv (.sl t.rows), .pv (.int .i64 0)], [])) : Ev C 39 [.pv (.sl t.rows), .pv (.str f), .pv (.str n)] R := by
 refine bh MD (ME ..) ?_
 conv => zeta
 refine ⟨⟨⟨t, rfl, h⟩, rfl⟩, fun g => by rw [hR, if_pos g], fun g => ?_⟩
 rw [if_neg (by rw [g]; simp)] at hR
 have hb : jR t.rows [[.str f]] = aG t.rows f := by rw [vB, bR]
 refine ⟨?_, fun k => ?_, fun k => ?_, trivial⟩
 ·cases e : aG t.rows f
  ·exact .inl ⟨⟨j0 h, kv f⟩, hb.trans e⟩
  ·exact .inr ⟨⟨j0 h, kv f⟩, hb.trans e⟩
 ·rw [hR, if_neg (by rw [<- hb, k.2]; simp)]
 ·have e : aG t.rows f = true := by rw [<- hb, k.2]
  have e' : dK t.list f = true := by rw [<- bR, e]
  rw [if_pos e] at hR
  have s1 := Dq (n := f) (mN h)
  have hk := nW t f
  have hl := d4 h
  have hw := rp t.list f
  have h1 : (Tr.of (dB t.list f)).nodes <= 2000000 := by rw [ed]; exact Nat.le_trans hw (by rw [kr]; omega)
  rw [yX e', vD e', B1, list_of]
  refine ⟨⟨j0 h, rfl⟩, ⟨⟨_, rfl, h1, s1⟩, kv n, ⟨_, rfl, by omega, pu (mN h)⟩⟩, ?_⟩
  rw [hR, fH]
theorem FU : ∀ ag al, tU ag = some al -> ∀ a ∈ al, a.1 -> Ev C 39 ag a.2 := by
 intro ag al hl x hx hp
 unfold tU at hl
 split at hl
 ·simp only [Option.some.injEq] at hl; subst hl
  simp only [List.mem_cons, List.not_mem_nil, or_false] at hx
  rcases hx with rfl | rfl | rfl
  ·obtain ⟨⟨t, rfl, h⟩, h1⟩ := hp
   exact Ia h _ _ _ (by rw [if_pos h1])
  ·obtain ⟨⟨⟨t, rfl, h⟩, h1⟩, h2⟩ := hp
   exact Ia h _ _ _ (by rw [if_neg (by rw [h1]; simp), if_neg (by rw [h2]; simp)])
  ·obtain ⟨⟨⟨t, rfl, h⟩, h1⟩, h2⟩ := hp
   exact Ia h _ _ _ (by rw [if_neg (by rw [h1]; simp), if_pos h2])
 ·exact absurd hl (by simp)
theorem eA (t : Tr) (n : BS) : gJ t.rows n = (fD t n).2 /\ oe t.rows n = (fD t n).1.rows := by unfold gJ oe; rw [aq]; exact ⟨rfl, rfl⟩
theorem yu (t : Tr) (n : BS) (R : RT) (hR : R = if (fD t n).2 ≠ 0 then ([.pv (.sl []), .pv (.int .i64 3)], []) else ([.pv (.sl (fD t n).1.rows), .pv (.int .i64 0)], [])) : ((((t.rows.length : Int) != 1) = true -> ([TV.pv (PV.sl []), TV.pv (PV.int IntKind.i64 3)], ([] : List TV)) = R) /\ (((t.rows.length : Int) != 1) = false -> ∃ (s : BS) (es : LP), t.rows[0]? = some [PV.str s, PV.sl es] /\ ((!s == n) = true -> ([TV.pv (PV.sl []), TV.pv (PV.int IntKind.i64 3)], ([] : List TV)) = R) /\ ((!s == n) = false -> ∃ (s : BS) (es : LP), t.rows[0]? = some [PV.str s, PV.sl es] /\ ([TV.pv (PV.sl es), TV.pv (PV.int IntKind.i64 0)], ([] : List TV)) = R))) := by
 have hl := rows_len t
 unfold fD at hR
 match e : t.list, hl with
 | [], hl =>
  rw [e] at hR
  simp only [List.length_nil] at hl
  refine ⟨fun _ => by rw [hR]; simp, fun h => ?_⟩
  rw [hl] at h; simp at h
 | [x], hl =>
  rw [e] at hR
  have hg : t.rows[0]? = some [.str x.1, .sl x.2.rows] := by rw [rows_list, e]; rfl
  refine ⟨fun h => ?_, fun _ => ⟨_, _, hg, fun h => ?_, fun h => ⟨_, _, hg, ?_⟩⟩⟩
  ·rw [hl] at h; simp at h
  ·have h : ¬ x.1 = n := by simpa using h
   rw [hR]; simp [h]
  ·have h : x.1 = n := by simpa using h
   rw [hR]; simp [h]
 | x :: y :: l, hl =>
  rw [e] at hR
  simp only [List.length_cons] at hl
  refine ⟨fun _ => by rw [hR]; simp, fun h => ?_⟩
  have h : ((t.rows.length : Int)) = 1 := by simpa using h
  omega
theorem FJ : ∀ ag al, tQ ag = some al -> ∀ a ∈ al, a.1 -> Ev C 40 ag a.2 := by
 intro ag al hl x hx hp
 unfold tQ at hl
 split at hl
 ·simp only [Option.some.injEq] at hl; subst hl
  simp only [List.mem_cons, List.not_mem_nil, or_false] at hx
  rcases hx with rfl | rfl
  ·obtain ⟨⟨t, rfl, h⟩, h1⟩ := hp
   rw [(eA _ _).1] at h1
   refine bh bM (KN ..) ?_
   conv => zeta
   exact (yu _ _ _ (by rw [if_pos h1]))
  ·obtain ⟨⟨t, rfl, h⟩, h1⟩ := hp
   rw [(eA _ _).1] at h1
   rw [(eA _ _).2]
   refine bh bM (KN ..) ?_
   conv => zeta
   exact (yu _ _ _ (by rw [if_neg (by simpa using h1)]))
 ·exact absurd hl (by simp)
theorem Cc : ∀ ag al, tQ ag = some al -> ∀ a ∈ al, a.1 -> Ev C 57 ag a.2 := by
 intro ag al hl x hx hp
 unfold tQ at hl
 split at hl
 ·simp only [Option.some.injEq] at hl; subst hl
  simp only [List.mem_cons, List.not_mem_nil, or_false] at hx
  rcases hx with rfl | rfl
  ·obtain ⟨⟨t, rfl, h⟩, h1⟩ := hp
   rw [(eA _ _).1] at h1
   refine bh bM (Lb ..) ?_
   conv => zeta
   exact (yu _ _ _ (by rw [if_pos h1]))
  ·obtain ⟨⟨t, rfl, h⟩, h1⟩ := hp
   rw [(eA _ _).1] at h1
   rw [(eA _ _).2]
   refine bh bM (Lb ..) ?_
   conv => zeta
   exact (yu _ _ _ (by rw [if_neg (by simpa using h1)]))
 ·exact absurd hl (by simp)
theorem Ga : ∀ ag al, DX ag = some al -> ∀ a ∈ al, a.1 -> Ev C 41 ag a.2 := by
 intro ag al hl x hx hp
 unfold DX at hl
 split at hl
 ·have e := aD hl hx; subst e
  exact bh bM (MM ..) rfl
 ·exact absurd hl (by simp)
theorem wd : ∀ ag al, jN ag = some al -> ∀ a ∈ al, a.1 -> Ev C 42 ag a.2 := by
 intro ag al hl x hx hp
 unfold jN at hl
 split at hl
 ·have e := aD hl hx; subst e
  obtain ⟨⟨t, rfl, h⟩, q, rfl, hq⟩ := hp
  exact BM t _ q (d4 h).1 hq
 ·exact absurd hl (by simp)
theorem BO : ∀ ag al, jN ag = some al -> ∀ a ∈ al, a.1 -> Ev C 58 ag a.2 := by
 intro ag al hl x hx hp
 unfold jN at hl
 split at hl
 ·have e := aD hl hx; subst e
  obtain ⟨⟨t, rfl, h⟩, q, rfl, hq⟩ := hp
  exact Ce t _ q (d4 h).1 hq
 ·exact absurd hl (by simp)
theorem rP : ∀ ag al, vu ag = some al -> ∀ a ∈ al, a.1 -> Ev C 47 ag a.2 := by
 intro ag al hl x hx hp
 unfold vu at hl
 split at hl
 ·have e := aD hl hx; subst e
  obtain ⟨⟨t, rfl, h⟩, q, rfl, hq⟩ := hp
  refine bh (az (am HG ax)) (LY ..) ⟨⟨⟨t, rfl, (d4 h).1⟩, q, rfl, hq⟩, ?_⟩
  refine congrArg (fun b : Bool => (([TV.pv (PV.bool b)], []) : RT)) ?_
  rw [Bool.eq_iff_iff, beq_iff_eq, beq_iff_eq]
  omega
 ·exact absurd hl (by simp)
theorem zu (l : List (BS)) : (eN l).length = l.length := by
 unfold eN
 exact (List.mergeSort_perm _ _).length_eq
theorem Mr : aK C Jd := az (am ES (am GE (am GD ax)))
theorem KK : ∀ ag al, G8 ag = some al -> ∀ a ∈ al, a.1 -> Ev C 102 ag a.2 := by
 intro ag al hl x hx hp
 have hr := cz
 have hm := bN
 unfold G8 at hl
 split at hl
 ·have e := aD hl hx; subst e
  obtain ⟨⟨q, rfl, hq⟩, _⟩ := hp
  have e1 : xM (q.map ak) = (eN q).map ak := by unfold xM; rw [bF]
  have e2 : An ((eN q).map ak) = (iT q).map ak := by unfold An iT; rw [bF]
  have e3 : Dz (q.map ak) = (iT q).map ak := by unfold Dz; rw [bF]
  have l1 := zu q
  have l2 := qI q
  rw [e3]
  refine bh Mr (Ms _ _) ?_
  conv => zeta
  rw [e1, e2]
  simp only [List.length_map]
  rw [l1]
  refine ⟨⟨by omega, by omega, i9 q⟩, ⟨q, rfl, hq⟩, rfl, ⟨_, rfl, by omega⟩, ⟨by omega, by omega, i9 _⟩, ?_, trivial⟩
  simp [flatTVs, lP, ak, flatPVs, kb]
 ·exact absurd hl (by simp)
theorem KM : ∀ ag al, G9 ag = some al -> ∀ a ∈ al, a.1 -> Ev C 89 ag a.2 := by
 intro ag al hl x hx hp
 unfold G9 at hl
 split at hl
 ·have e := aD hl hx; subst e
  exact bh (az (am KK ax)) (Mu ..) ⟨hp, rfl⟩
 ·exact absurd hl (by simp)
theorem Eq (b : Bool) (q : List (BS)) (t : Tr) : aw (!b) (Dz (q.map ak)) t.rows = cm b (q.map ak) t.rows := by
 unfold aw cm Dz
 rw [bF]
 congr 3
 funext e
 unfold jS
 rw [mem_map, mem_map]
 have : decide (e.1 ∈ iT q) = decide (e.1 ∈ q) := by rw [decide_eq_decide]; exact xt q e.1
 rw [this]
 cases b <;> simp
theorem BK : ∀ ag al, A0 ag = some al -> ∀ a ∈ al, a.1 -> Ev C 71 ag a.2 := by
 intro ag al hl x hx hp
 unfold A0 at hl
 split at hl
 ·have e := aD hl hx; subst e
  obtain ⟨⟨t, rfl, h⟩, q, rfl, hq⟩ := hp
  have l2 := qI q
  refine bh (az (am rP (am KM ax))) (Mt ..) ⟨⟨⟨q, rfl, hq⟩, rfl⟩, ⟨⟨t, rfl, h⟩, ⟨iT q, by unfold Dz; rw [bF], by omega⟩⟩, ?_⟩
  rw [Eq]
 ·exact absurd hl (by simp)
theorem MS : aK C Jl := az (am zT ax)
theorem LJ : ∀ ag al, Hf ag = some al -> ∀ a ∈ al, a.1 -> Ev C 78 ag a.2 := by
 intro ag al hl x hx hp
 have hr := cz
 have hm := bN
 unfold Hf at hl
 split at hl
 ·rename_i a n
  have e := aD hl hx; subst e
  obtain ⟨⟨t, rfl, h⟩, hb⟩ := hp
  rw [bR] at hb
  have hl := d4 h
  have hk := jn hb
  have hkl := lM t.list n
  have hrl := rows_len t
  have eK : (List.takeWhile (fun e : Edge => Op.bytesLess e.1 n) t.list).length = bX t.list n := rfl
  refine bh MS (MT ..) ?_
  conv => zeta
  rw [aq]
  refine ⟨⟨t, rfl, hl.2.2⟩, fun g => ?_, fun _ => ?_⟩
  ·rw [hb] at g; simp at g
  ·have hro : cg 2 t.rows = true := by rw [rows_list]; exact bT _
   have w1 : IntKind.wrap .i64 ((bX t.list n : Int) + 1) = ((bX t.list n + 1 : Nat) : Int) := dJ (by omega)
   rw [eK, w1]
   simp only [Nat.zero_add, List.nil_append, Int.sub_zero, Int.toNat_natCast, Int.ofNat_eq_natCast, Nat.sub_zero]
   have t1 : t.rows.take (bX t.list n) = (t.list.take (bX t.list n)).map aE := by rw [rows_list, List.map_take]
   have t2 : List.take (t.rows.length - (bX t.list n + 1)) (List.drop (bX t.list n + 1) t.rows) = (t.list.drop (bX t.list n + 1)).map aE := by
    rw [List.take_of_length_le (by rw [List.length_drop]; omega), rows_list, List.map_drop]
   have l1 : ((t.list.take (bX t.list n)).map aE).length = bX t.list n := by rw [List.length_map, List.length_take]; omega
   have l2 : ((t.list.drop (bX t.list n + 1)).map aE).length <= t.list.length := by rw [List.length_map, List.length_drop]; omega
   rw [t1, t2, l1]
   refine ⟨hro, ⟨by omega, by omega, by omega⟩, ⟨by omega, by omega⟩, bT _, hro, ⟨by omega, by omega, by omega⟩, ⟨by omega, by omega⟩, bT _, ?_⟩
   unfold th
   rw [aq, cG, dB, List.map_append]
 ·exact absurd hl (by simp)
theorem yM : ∀ ag al, y6 ag = some al -> ∀ a ∈ al, a.1 -> Ev C 25 ag a.2 := by
 intro ag al hl x hx hp
 unfold y6 at hl
 split at hl
 ·have e := aD hl hx; subst e
  obtain ⟨t, u, rfl, rfl, h⟩ := hp
  unfold nB
  rw [aq, aq]
  exact yN t _ u h
 ·exact absurd hl (by simp)
theorem yf : ∀ ag al, y0 ag = some al -> ∀ a ∈ al, a.1 -> Ev C 12 ag a.2 := by
 intro ag al hl x hx hp
 unfold y0 at hl
 split at hl
 ·rename_i a n
  have e := aD hl hx; subst e
  obtain ⟨⟨t, rfl, h⟩, _⟩ := hp
  have := Hr [.pv (.sl t.rows), .pv (.str n)] _ rfl _ (List.mem_singleton.2 rfl) ⟨t, rfl, (d4 h).2.2⟩
  exact this
 ·exact absurd hl (by simp)
theorem MF : aK C Jh := az (am yf (am LJ (am yM ax)))
theorem Il {t : Tr} (h : t.good) (f n : BS) (R : RT) (hR : R = if aG t.rows n = true then ([.pv (.sl []), .pv (.int .i64 3)], []) else if aG t.rows f = true then ([.own 2 (md t.rows f n), .pv (.int .i64 0)], []) else ([.pv (.sl t.rows), .pv (.int .i64 0)], [])) : Ev C 56 [.pv (.sl t.rows), .pv (.str f), .pv (.str n)] R := by
 have hg : an t.rows /\ 0 = 0 := ⟨⟨t, rfl, h⟩, rfl⟩
 refine bh MF (MG ..) ⟨hg, fun g => by rw [hR, if_pos g], fun g => ⟨hg, fun k => ?_, fun k => ?_⟩⟩
 ·rw [hR, if_neg (by rw [g]; simp), if_neg (by simpa using k)]
 ·have k : aG t.rows f = true := by simpa using k
  have hw := rp t.list f
  have hl := d4 h
  have e1 : th t.rows f = (Tr.of (dB t.list f)).rows := by unfold th; rw [aq]
  have e2 : bG t.rows f = (bE t f).rows := c8 t f
  have h1 : (Tr.of (dB t.list f)).list.length <= 4000000 := by
   have := dE (Tr.of (dB t.list f))
   refine Nat.le_trans this ?_
   rw [ed]
   exact Nat.le_trans hw (by rw [kr]; omega)
  refine ⟨⟨hg.1, k⟩, ⟨_, _, e1, e2, h1⟩, ?_⟩
  rw [hR, if_neg (by rw [g]; simp), if_pos k, e1, e2, fH]
  unfold nB
  rw [aq, aq, list_of]
theorem Cs : ∀ ag al, tU ag = some al -> ∀ a ∈ al, a.1 -> Ev C 56 ag a.2 := by
 intro ag al hl x hx hp
 unfold tU at hl
 split at hl
 ·simp only [Option.some.injEq] at hl; subst hl
  simp only [List.mem_cons, List.not_mem_nil, or_false] at hx
  rcases hx with rfl | rfl | rfl
  ·obtain ⟨⟨t, rfl, h⟩, h1⟩ := hp
   exact Il h _ _ _ (by rw [if_pos h1])
  ·obtain ⟨⟨⟨t, rfl, h⟩, h1⟩, h2⟩ := hp
   exact Il h _ _ _ (by rw [if_neg (by rw [h1]; simp), if_neg (by rw [h2]; simp)])
  ·obtain ⟨⟨⟨t, rfl, h⟩, h1⟩, h2⟩ := hp
   exact Il h _ _ _ (by rw [if_neg (by rw [h1]; simp), if_pos h2])
 ·exact absurd hl (by simp)
theorem sG (x y : Tr) (i : Nat) : ((y.list.take i).foldl (fun acc e => bH acc e.1 e.2) x.list).length <= x.list.length + i := by
 have key : ∀ (m acc : List Edge), (m.foldl (fun acc e => bH acc e.1 e.2) acc).length <= acc.length + m.length := by
  intro m
  induction m with
  | nil => intro acc; simp
  | cons e m ih =>
   intro acc
   have h1 := ih (bH acc e.1 e.2)
   have h2 := tg acc e.1 e.2
   simp only [List.foldl_cons, List.length_cons]
   omega
 have h1 := key (y.list.take i) x.list
 have h2 : (y.list.take i).length <= i := by rw [List.length_take]; omega
 exact Nat.le_trans h1 (by omega)
theorem K3 : aK C zO := az (am Ic (am yM ax))
theorem d7 {t : Tr} : t.rows.length = 0 ↔ t.list = [] := by rw [rows_len]; exact List.length_eq_zero_iff
theorem K2 {x y : Tr} (hx : x.good) (hy : y.good) (b : Bool) (q : List (BS)) (hq : q.length <= 4000000) (R : RT) (hR : R = if cj x.rows y.rows b (q.map ak) ≠ 0 then ([.pv (.sl []), .pv (.int .i64 3)], []) else ([.pv (.sl (bl x.rows y.rows)), .pv (.int .i64 0)], [])) : Ev C 59 [.pv (.sl x.rows), .pv (.sl y.rows), .pv (.agg [.bool b, .sl (q.map ak)])] R := by
 have lx := d4 hx
 have ly := d4 hy
 have l6 := cw hx
 have l7 := cw hy
 have ryl := rows_len y
 unfold cj bl at hR
 rw [aq, aq] at hR
 refine bh K3 (MB ..) ⟨⟨⟨x, rfl, lx.1⟩, q, rfl, hq⟩, ⟨⟨y, rfl, ly.1⟩, q, rfl, hq⟩, ?_⟩
 rw [ct, dr]
 have n1 := d7 (t := bD b (q.map ak) x)
 have n2 := d7 (t := dR b (q.map ak) y)
 refine ⟨fun g => ?_, fun g => ⟨fun g2 => ?_, fun g2 => ?_⟩⟩
 ·simp only [decide_eq_true_eq] at g
  have eb : dH b (q.map ak) x y = (.nil, 3) := if_pos (.inl fun e => by rw [n1.2 e] at g; simp at g)
  rw [hR, eb]; simp
 ·simp only [decide_eq_true_eq] at g2
  have eb : dH b (q.map ak) x y = (.nil, 3) := if_pos (.inr fun e => by rw [n2.2 e] at g2; simp at g2)
  rw [hR, eb]; simp
 ·simp only [decide_eq_false_iff_not] at g g2
  have eb : dH b (q.map ak) x y = (ew x y, 0) := if_neg (by
   rintro (e | e)
   ·exact e (n1.1 (by omega))
   ·exact e (n2.1 (by omega)))
  rw [eb, if_neg (by simp)] at hR
  refine aJ K3 (by kernel_rfl) 1000 (fun m st => ∃ i : Nat, st = FM y.rows (Tr.of ((y.list.take i).foldl (fun acc e => bH acc e.1 e.2) x.list)).rows i /\ i <= y.list.length /\ m = y.list.length - i) ?_ (n := y.list.length) ⟨0, by rw [List.take_zero, List.foldl_nil, of_list]; rfl, by omega, rfl⟩
  rintro m st ⟨i, rfl, hi, rfl⟩
  have ml := sG x y i
  refine cr (K4 ..) ?_
  rw [ryl]
  refine ⟨fun g3 => ?_, fun g3 => ⟨.auto, ?_⟩⟩
  ·simp only [decide_eq_true_eq] at g3
   have hi' : i < y.list.length := by omega
   refine ⟨by omega, _, _, row_get y hi', by omega, _, _, row_get y hi', ⟨_, _, rfl, rfl, by rw [list_of]; exact Nat.le_trans ml (by omega)⟩, y.list.length - (i + 1), by omega, i + 1, ?_, by omega, rfl⟩
   rw [dJ (by omega), List.take_succ_eq_append_getElem hi', List.foldl_append]
   unfold nB
   rw [aq, aq, list_of]
   rfl
  ·simp only [decide_eq_false_iff_not] at g3
   have : i = y.list.length := by omega
   subst this
   rw [hR, List.take_length]
   rfl
theorem B6 : ∀ ag al, A3 ag = some al -> ∀ a ∈ al, a.1 -> Ev C 59 ag a.2 := by
 intro ag al hl x hx hp
 unfold A3 at hl
 split at hl
 ·simp only [Option.some.injEq] at hl; subst hl
  simp only [List.mem_cons, List.not_mem_nil, or_false] at hx
  rcases hx with rfl | rfl
  ·obtain ⟨⟨⟨t, rfl, h⟩, ⟨u, rfl, h'⟩, q, rfl, hq⟩, h1⟩ := hp
   exact K2 h h' _ q hq _ (by rw [if_pos h1])
  ·obtain ⟨⟨⟨t, rfl, h⟩, ⟨u, rfl, h'⟩, q, rfl, hq⟩, h1⟩ := hp
   exact K2 h h' _ q hq _ (by rw [if_neg (by simpa using h1)])
 ·exact absurd hl (by simp)
theorem DY : ∀ ag al, xd ag = some al -> ∀ a ∈ al, a.1 -> Ev C 38 ag a.2 := by
 intro ag al hl x hx hp
 unfold xd at hl
 split at hl
 ·have e := aD hl hx; subst e
  obtain ⟨⟨t, rfl, h⟩, _⟩ := hp
  have := uD t [] (d4 h).1 (mN h) (by decide)
  unfold y9 at this
  have hb : lI t [] = true := rfl
  rw [if_pos hb] at this
  exact this
 ·exact absurd hl (by simp)
theorem Ak {t : Tr} (h6 : t.six) (h : bf t.rows 1 0 = 0) : t.good := by
 rw [aW] at h
 have hb := mz _ _ _ _ h
 have hc := (fw t none 1 0 (by omega)).2.2 h
 exact ⟨hb.1, by omega, h6⟩
theorem GB : aK C I2 := az (am Ah (am DY ax))
theorem Am : ∀ ag al, AK ag = some al -> ∀ a ∈ al, a.1 -> Ev C 27 ag a.2 := by
 intro ag al hl x hx hp
 unfold AK at hl
 split at hl
 ·simp only [Option.some.injEq] at hl; subst hl
  simp only [List.mem_cons, List.not_mem_nil, or_false] at hx
  rcases hx with rfl | rfl | rfl
  ·obtain ⟨h, _⟩ := hp
   refine bh GB (GC ..) ?_
   conv => zeta
   refine ⟨fun g => absurd (by simpa using g) h, fun g => ⟨fun _ => rfl, fun g2 => absurd (by simpa using g2) h⟩⟩
  ·obtain ⟨⟨rfl, t, rfl, h1, h2⟩, h⟩ := hp
   refine bh GB (GC ..) ?_
   conv => zeta
   refine ⟨fun _ => ⟨⟨t, rfl, by omega⟩, fun _ => rfl, fun g => absurd (by simpa using g) h⟩, fun g => by simp at g⟩
  ·obtain ⟨⟨rfl, t, rfl, h1, h2⟩, h⟩ := hp
   refine bh GB (GC ..) ?_
   conv => zeta
   refine ⟨fun _ => ⟨⟨t, rfl, by omega⟩, fun g => by rw [h] at g; simp at g, fun g => ⟨⟨⟨t, rfl, Ak h2 h⟩, rfl⟩, rfl⟩⟩, fun g => by simp at g⟩
 ·exact absurd hl (by simp)
theorem IK : aK C Jj := az (am zo ax)
theorem CV : ∀ ag al, Bc ag = some al -> ∀ a ∈ al, a.1 -> Ev C 31 ag a.2 := by
 intro ag al hl x hx hp
 unfold Bc at hl
 split at hl
 ·simp only [Option.some.injEq] at hl; subst hl
  simp only [List.mem_cons, List.not_mem_nil, or_false] at hx
  rcases hx with rfl | rfl | rfl
  ·obtain ⟨h, _⟩ := hp
   refine bh IK (IL ..) ?_
   conv => zeta
   refine ⟨fun g => absurd (by simpa using g) h, fun g => ⟨fun _ => rfl, fun g2 => absurd (by simpa using g2) h⟩⟩
  ·obtain ⟨⟨rfl, t, rfl, h1, h2⟩, h⟩ := hp
   refine bh IK (IL ..) ?_
   conv => zeta
   refine ⟨fun _ => ⟨⟨t, rfl, by omega⟩, fun _ => rfl, fun g => absurd (by simpa using g) h⟩, fun g => by simp at g⟩
  ·obtain ⟨⟨rfl, t, rfl, h1, h2⟩, h⟩ := hp
   refine bh IK (IL ..) ?_
   conv => zeta
   refine ⟨fun _ => ⟨⟨t, rfl, by omega⟩, fun g => by rw [h] at g; simp at g, fun _ => rfl⟩, fun g => by simp at g⟩
 ·exact absurd hl (by simp)
def aC (N : Nat) (row : List PV) : Prop := ∃ (p : LD) (k : Ls), row = p.row k.rows /\ (Ls.cons p k .nil).deep < N /\ (Ls.cons p k .nil).fine
noncomputable def aR (row : List PV) : LD := match C1 [row] with
 | .cons p _ _ => p
 | .nil => ⟨0, [], [], false, [], false, [], .nil, .nil⟩
noncomputable def bB (row : List PV) : Ls := match C1 [row] with
 | .cons _ k _ => k
 | .nil => .nil
noncomputable def aV (row : List PV) (c : LP) : Int := (bx (aR row) (bB row) (aH c)).2
noncomputable def cu (row : List PV) (c : LP) : LP := (bx (aR row) (bB row) (aH c)).1.rows
noncomputable def mn (row : List PV) (c : LP) : Int := (bL (aR row) (bB row).gets (aH c)).2
noncomputable def lE (row : List PV) (c : LP) : LP := (bL (aR row) (bB row).gets (aH c)).1.rows
noncomputable def EZ (row : List PV) (c : LP) : Bool := (aR row).o == 3 && aG c (aR row).a || (aR row).o == 5 || (aR row).o == 6 || (aR row).o == 7 || (aR row).o == 8
noncomputable def EK (row : List PV) (c : LP) : Bool := (aR row).o == 3 && aG c (aR row).a || (aR row).o == 5 || (aR row).o == 6 || (aR row).o == 8
def bW (k : LP) : List PV := k.headD []
def jV (k : LP) : List PV := k.tail.headD []
def kidG (N : Nat) (k : LP) : Prop := ∃ r, k = [r] /\ aC N r
def mQ (N : Nat) (k : LP) : Prop := ∃ r s, k = [r, s] /\ aC N r /\ aC N s
noncomputable def rD (r0 r1 : List PV) (c : LP) (b : Bool) (l : LP) (b2 : Bool) (l2 : LP) : Int := (cM (bx (aR r0) (bB r0)) (bx (aR r1) (bB r1)) b l b2 l2 (aH c)).2
noncomputable def DT (r0 r1 : List PV) (c : LP) (b : Bool) (l : LP) (b2 : Bool) (l2 : LP) : LP := (cM (bx (aR r0) (bB r0)) (bx (aR r1) (bB r1)) b l b2 l2 (aH c)).1.rows
noncomputable def qE (r0 : List PV) (c : LP) : Int := (bC (fun e => bx (aR r0) (bB r0) e.2) (aH c).list).2
noncomputable def BE (r0 : List PV) (c : LP) : LP := (bC (fun e => bx (aR r0) (bB r0) e.2) (aH c).list).1.map aE
noncomputable def kf (N : Nat) : List TV -> Option Alts
 | [.pv (.agg [.int .i64 o, .str a, .str b, .bool n, .sl nl, .bool m, .sl ml, .sl t, .sl u, .sl k]), .pv (.sl c)] => some [((aC N [.int .i64 o, .str a, .str b, .bool n, .sl nl, .bool m, .sl ml, .sl t, .sl u, .sl k] /\ an c) /\ aV [.int .i64 o, .str a, .str b, .bool n, .sl nl, .bool m, .sl ml, .sl t, .sl u, .sl k] c ≠ 0, [.pv (.sl []), .pv (.int .i64 (aV [.int .i64 o, .str a, .str b, .bool n, .sl nl, .bool m, .sl ml, .sl t, .sl u, .sl k] c))], []),
  ((aC N [.int .i64 o, .str a, .str b, .bool n, .sl nl, .bool m, .sl ml, .sl t, .sl u, .sl k] /\ an c) /\ aV [.int .i64 o, .str a, .str b, .bool n, .sl nl, .bool m, .sl ml, .sl t, .sl u, .sl k] c = 0, [.own 2 (cu [.int .i64 o, .str a, .str b, .bool n, .sl nl, .bool m, .sl ml, .sl t, .sl u, .sl k] c), .pv (.int .i64 0)], [])]
 | _ => none
noncomputable def I5 (N : Nat) : Specs := aZ [(42, jN), (10, kf N), (47, vu), (71, A0), (48, DU)]
theorem L9 (n : Nat) (K : Int) (G k : BS) (m : Bool) (J : LP) (d : Bool) (I L M o a : LP) (c : Bool) (b : LP) (i : Bool) (f : LP) (Q : QT) : (bq C (I5 n) 43 [.pv (.agg [.int .i64 K, .str G, .str k, .bool m, .sl J, .bool d, .sl I, .sl L, .sl M, .sl o]), .pv (.sl a), .pv (.agg [.bool c, .sl b]), .pv (.agg [.bool i, .sl f]), .pv (.fn 10 []), .pv (.fn 10 [])] Q) (H.n 1 (H.s (H.b (H.b H.auto (H.n 1 (H.s (H.b (H.b H.auto (H.b H.auto (H.n 4 (H.b H.auto H.auto)))) (H.b (H.n 1 (H.b H.auto (H.n 5 (H.b H.auto H.auto)))) H.auto))))) (H.b (H.n 2 (H.s (H.b (H.b H.auto (H.n 1 (H.b H.auto (H.n 4 (H.b H.auto H.auto))))) (H.b (H.n 2 (H.b H.auto (H.n 5 (H.b H.auto H.auto)))) H.auto)))) H.auto)))) = (let p := !List.length (aw i f []) == 0; let v := !List.length (cm i f []) == 0; let w := an [] /\ bm f; (an a /\ bm b) /\ ∃ (m : Int) (s s_1 : BS) (k : Bool) (es : LP) (b_1 : Bool) (es_1 es_2 es_3 es_4 : LP), let e := bU m s s_1 k es b_1 es_1 es_2 es_3 es_4; let j := cu e (cm c b a); let x := aC n e /\ an (cm c b a); let y := !List.length (aw i f j) == 0; let E := aV e (cm c b a) != 0; o[0]? = some e /\ aA [(x /\ aV e (cm c b a) ≠ (0 : Int), [tS [], tI (aV e (cm c b a))], []), (x /\ aV e (cm c b a) = (0 : Int), [TV.own 2 j, tI 0], [])] /\ (x /\ aV e (cm c b a) ≠ (0 : Int) -> (E = true -> Q (eR (aV e (cm c b a)))) /\ (E = false -> ∃ (m : Int) (s s_2 : BS) (k : Bool) (es : LP) (b_2 : Bool) (es_5 es_6 es_7 es_8 : LP), let h := bU m s s_2 k es b_2 es_5 es_6 es_7 es_8; let q := aC n h /\ an (aw c b a); let r := cu h (aw c b a); let z := !List.length (cm i f r) == 0; let A := aV h (aw c b a) != 0; o[1]? = some h /\ aA [(q /\ aV h (aw c b a) ≠ (0 : Int), [tS [], tI (aV h (aw c b a))], []), (q /\ aV h (aw c b a) = (0 : Int), [TV.own 2 r, tI 0], [])] /\ (q /\ aV h (aw c b a) ≠ (0 : Int) -> (A = true -> Q (eR (aV h (aw c b a)))) /\ (A = false -> w /\ (p = true -> Q (eR 3)) /\ (p = false -> w /\ (v = true -> Q (eR 3)) /\ (v = false -> (∃ (l : List Proofs.YtcoikmicjbppmaaGreat.Vm.Edge) (d : List Proofs.YtcoikmicjbppmaaGreat.Vm.Edge), [] = List.map aE l /\ [] = List.map aE d /\ List.length l + List.length d < 20) /\ Q ([TV.own 2 (dj (eE [] [])), tI 0], []))))) /\ (q /\ aV h (aw c b a) = (0 : Int) -> w /\ (p = true -> Q (eR 3)) /\ (p = false -> (an r /\ bm f) /\ (z = true -> Q (eR 3)) /\ (z = false -> (∃ (l : List Proofs.YtcoikmicjbppmaaGreat.Vm.Edge) (d : List Proofs.YtcoikmicjbppmaaGreat.Vm.Edge), [] = List.map aE l /\ cu h (aw c b a) = List.map aE d /\ List.length l + List.length d < 20) /\ Q ([TV.own 2 (dj (eE [] r)), tI 0], [])))) /\ True)) /\ (x /\ aV e (cm c b a) = (0 : Int) -> ∃ (n_1 : Int) (s_2 s_3 : BS) (b_2 : Bool) (es_5 : LP) (b_3 : Bool) (es_6 es_7 es_8 es_9 : LP), let g := bU n_1 s_2 s_3 b_2 es_5 b_3 es_6 es_7 es_8 es_9; let t := aC n g /\ an (aw c b a); let u := cu g (aw c b a); let B := !List.length (cm i f u) == 0; let D := aV g (aw c b a) != 0; o[1]? = some g /\ aA [(t /\ aV g (aw c b a) ≠ (0 : Int), [tS [], tI (aV g (aw c b a))], []), (t /\ aV g (aw c b a) = (0 : Int), [TV.own 2 u, tI 0], [])] /\ (t /\ aV g (aw c b a) ≠ (0 : Int) -> (D = true -> Q (eR (aV g (aw c b a)))) /\ (D = false -> (an j /\ bm f) /\ (y = true -> Q (eR 3)) /\ (y = false -> w /\ (v = true -> Q (eR 3)) /\ (v = false -> (∃ (l : List Proofs.YtcoikmicjbppmaaGreat.Vm.Edge) (d : List Proofs.YtcoikmicjbppmaaGreat.Vm.Edge), cu e (cm c b a) = List.map aE l /\ [] = List.map aE d /\ List.length l + List.length d < 20) /\ Q ([TV.own 2 (dj (eE j [])), tI 0], []))))) /\ (t /\ aV g (aw c b a) = (0 : Int) -> (an j /\ bm f) /\ (y = true -> Q (eR 3)) /\ (y = false -> (an u /\ bm f) /\ (B = true -> Q (eR 3)) /\ (B = false -> (∃ (l : List Proofs.YtcoikmicjbppmaaGreat.Vm.Edge) (d : List Proofs.YtcoikmicjbppmaaGreat.Vm.Edge), cu e (cm c b a) = List.map aE l /\ cu g (aw c b a) = List.map aE d /\ List.length l + List.length d < 20) /\ Q ([TV.own 2 (dj (eE j u)), tI 0], [])))) /\ True) /\ True) := by kernel_rfl
noncomputable def G2 (N : Nat) : List TV -> Option Alts
 | [.pv (.agg [.int .i64 o, .str a, .str b, .bool n, .sl nl, .bool m, .sl ml, .sl t, .sl u, .sl k]), .pv (.sl c), .pv (.agg [.bool v, .sl vl]), .pv (.agg [.bool w, .sl wl]), .pv (.fn f []), .pv (.fn g [])] => some [(((f = 10 /\ g = 10) /\ mQ N k /\ an c /\ bm vl /\ bm wl) /\ rD (bW k) (jV k) c v vl w wl ≠ 0, [.pv (.sl []), .pv (.int .i64 (rD (bW k) (jV k) c v vl w wl))], []), (((f = 10 /\ g = 10) /\ mQ N k /\ an c /\ bm vl /\ bm wl) /\ rD (bW k) (jV k) c v vl w wl = 0, [.own 2 (DT (bW k) (jV k) c v vl w wl), .pv (.int .i64 0)], [])]
 | _ => none
noncomputable def Jk (N : Nat) : Specs := aZ [(10, kf N)]
theorem LA (g : Nat) (f : BS) (a : LP) (m : Int) (i d : BS) (e : Bool) (l : LP) (j : Bool) (k n o h : LP) (Q : QT) : (bq C (Jk g) 45 [.pv (.agg [.str f, .sl a]), .pv (.iptr [.int .i64 m, .str i, .str d, .bool e, .sl l, .bool j, .sl k, .sl n, .sl o, .sl h])] Q) (H.n 1 (H.s (H.b H.auto (H.b H.auto H.auto)))) = (∃ (e : Int) (f s_1 : BS) (d : Bool) (es : LP) (b_1 : Bool) (es_1 es_2 es_3 es_4 : LP), let b := bU e f s_1 d es b_1 es_1 es_2 es_3 es_4; let c := aC g b /\ an a; h[0]? = some b /\ aA [(c /\ aV b a ≠ (0 : Int), [tS [], tI (aV b a)], []), (c /\ aV b a = (0 : Int), [TV.own 2 (cu b a), tI 0], [])] /\ (c /\ aV b a ≠ (0 : Int) -> Q (eR (aV b a))) /\ (c /\ aV b a = (0 : Int) -> Q ([TV.own 2 (cu b a), tI 0], [])) /\ True) := by kernel_rfl
noncomputable def Hd (N : Nat) : List TV -> Option Alts
 | [.pv (.agg [.str s, .sl c]), .pv (.iptr [.int .i64 o, .str a, .str b, .bool n, .sl nl, .bool m, .sl ml, .sl t, .sl u, .sl k])] => some [((kidG N k /\ an c) /\ aV (bW k) c ≠ 0, [.pv (.sl []), .pv (.int .i64 (aV (bW k) c))], []), ((kidG N k /\ an c) /\ aV (bW k) c = 0, [.own 2 (cu (bW k) c), .pv (.int .i64 0)], [])]
 | _ => none
noncomputable def zK (N : Nat) : Specs := aZ [(45, Hd N)]
theorem L6 (b : Nat) (a : LP) (j : Int) (c d : BS) (h : Bool) (i : LP) (f : Bool) (g k l e : LP) (Q : QT) : (bq C (zK b) 44 [.pv (.sl a), .pv (.fn 45 [.iptr [.int .i64 j, .str c, .str d, .bool h, .sl i, .bool f, .sl g, .sl k, .sl l, .sl e]])] Q) (H.auto) = (let m := PV.fn 45 [PV.iptr (bU j c d h i f g k l e)]; bd C 44 (d0 (u1 (d0 (u2 CP.top)))) (St.mk [(1, AV.pv m), (6, AV.own 12), (11, aS a), (12, aI (↑(List.length a) : Int)), (13, aI 0)] [(12, Obj.buf 2 [])]) (cA (au 0 (aQ (bA C (zK b) 44 99997 (u3 CP.top)) (aU C 44 [tS a, TV.pv m] Q))))) := by kernel_rfl
def Ft : CP := (d0 (u1 (d0 (u2 CP.top))))
def Fu (b : Int) (f g : BS) (h : Bool) (i : LP) (j : Bool) (k l m n c : LP) (d e : Int) (a : LP) : St := (St.mk [(1, AV.pv (PV.fn 45 [PV.iptr (bU b f g h i j k l m n)])), (6, AV.own 12), (11, aS c), (12, aI d), (13, aI e)] [(12, Obj.buf 2 a)])
theorem JK (g : Nat) (x : LP) (E : Int) (v w : BS) (B : Bool) (D : LP) (z : Bool) (A G I y : LP) (i : Int) (j k : BS) (l : Bool) (m : LP) (n : Bool) (o p q a e : LP) (d c : Int) (b : LP)  (J0 : St -> Prop) (Q : QT) : (bA C (zK g) 44 1000 (Ft.dn 0) (Fu i j k l m n o p q a e d c b) (bO C 44 Ft J0 (cA (au 0 (aQ (bA C (zK g) 44 99997 (u3 CP.top)) (aU C 44 [tS x, TV.pv (PV.fn 45 [PV.iptr (bU E v w B D z A G I y)])] Q)))))) (H.b (H.s (H.s (H.b (H.b H.auto (H.s H.auto)) (H.b (H.n 1 (H.s H.auto)) H.auto)))) H.auto) = (let r := (List.length b + 1) * 40 <= du /\ List.length b + 1 <= bz; let t := PV.fn 45 [PV.iptr (bU i j k l m n o p q a)]; let u := IntKind.wrap .i64 (c + 1); (decide (c < d) = true -> (0 : Int) <= c /\ ∃ (s : BS) (es : LP), let f := kidG g a /\ an es; e[Int.toNat c]? = some [pT s, pS es] /\ aA [(f /\ aV (bW a) es ≠ (0 : Int), [tS [], tI (aV (bW a) es)], []), (f /\ aV (bW a) es = (0 : Int), [TV.own 2 (cu (bW a) es), tI 0], [])] /\ (f /\ aV (bW a) es ≠ (0 : Int) -> ((aV (bW a) es != 0) = true -> ∃ (h : H), Q (eR (aV (bW a) es))) /\ ((aV (bW a) es != 0) = false -> r /\ J0 (St.mk [(1, AV.pv t), (6, AV.own 12), (11, aS e), (12, aI d), (13, aI u)] [(12, Obj.buf 2 (b ++ [[pT s, pS []]]))]))) /\ (f /\ aV (bW a) es = (0 : Int) -> r /\ J0 (St.mk [(1, AV.pv t), (6, AV.own 12), (11, aS e), (12, aI d), (13, aI u)] [(12, Obj.buf 2 (b ++ [[pT s, pS (cu (bW a) es)]]))])) /\ True) /\ (decide (c < d) = false -> ∃ (h : H), Q ([TV.own 2 b, tI 0], []))) := by kernel_rfl
noncomputable def GZ (N : Nat) : List TV -> Option Alts
 | [.pv (.sl c), .pv (.fn f [.iptr [.int .i64 o, .str a, .str b, .bool n, .sl nl, .bool m, .sl ml, .sl t, .sl u, .sl k]])] => some [((f = 45 /\ kidG N k /\ an c) /\ qE (bW k) c ≠ 0, [.pv (.sl []), .pv (.int .i64 (qE (bW k) c))], []), ((f = 45 /\ kidG N k /\ an c) /\ qE (bW k) c = 0, [.own 2 (BE (bW k) c), .pv (.int .i64 0)], [])]
 | _ => none
noncomputable def zP (N : Nat) : Specs := aZ [(39, tU), (40, tQ), (41, DX), (42, jN), (43, G2 N), (44, GZ N), (10, kf N)]
theorem MN (j : Nat) (c : Int) (d i : BS) (g : Bool) (e : LP) (h : Bool) (f n o b a : LP) (Q : QT) : (bq C (zP j) 28 [.pv (.agg [.int .i64 c, .str d, .str i, .bool g, .sl e, .bool h, .sl f, .sl n, .sl o, .sl b]), .pv (.sl a)] Q) (H.b H.auto (H.b (H.b H.auto (H.b H.auto (H.b H.auto H.auto))) (H.b (H.b H.auto (H.b H.auto H.auto)) (H.b H.auto (H.b H.auto (H.b (H.b H.auto (H.b H.auto H.auto)) (H.b (H.b H.auto (H.b H.auto H.auto)) (H.b H.auto H.auto)))))))) = (let k := (10 = 10 /\ 10 = 10) /\ mQ j b /\ an a /\ bm e /\ bm f; let l := 45 = 45 /\ kidG j b /\ an a; let m := an a /\ aG a i = false; let p := rD (bW b) (jV b) a g e h f; let q := DT (bW b) (jV b) a g e h f; ((c == 2) = true -> Q ([tS n, tI 0], [])) /\ ((c == 2) = false -> ((c == 3) = true -> aA [(an a /\ aG a i = true, [tS [], tI 3], []), (m /\ aG a d = false, [tS a, tI 0], []), (m /\ aG a d = true, [TV.own 2 (md a d i), tI 0], [])] /\ (an a /\ aG a i = true -> Q (eR 3)) /\ (m /\ aG a d = false -> Q ([tS a, tI 0], [])) /\ (m /\ aG a d = true -> Q ([TV.own 2 (md a d i), tI 0], [])) /\ True) /\ ((c == 3) = false -> ((c == 4) = true -> aA [(an a /\ gJ a d ≠ (0 : Int), [tS [], tI 3], []), (an a /\ gJ a d = (0 : Int), [tS (oe a d), tI 0], [])] /\ (an a /\ gJ a d ≠ (0 : Int) -> Q (eR 3)) /\ (an a /\ gJ a d = (0 : Int) -> Q ([tS (oe a d), tI 0], [])) /\ True) /\ ((c == 4) = false -> ((c == 5) = true -> True /\ Q ([TV.own 2 (IO a d), tI 0], [])) /\ ((c == 5) = false -> ((c == 6) = true -> (an a /\ bm e) /\ Q ([TV.own 2 (cm g e a), tI 0], [])) /\ ((c == 6) = false -> ((c == 7) = true -> aA [(k /\ rD (bW b) (jV b) a g e h f ≠ (0 : Int), [tS [], tI p], []), (k /\ rD (bW b) (jV b) a g e h f = (0 : Int), [TV.own 2 q, tI 0], [])] /\ (k /\ rD (bW b) (jV b) a g e h f ≠ (0 : Int) -> Q (eR p)) /\ (k /\ rD (bW b) (jV b) a g e h f = (0 : Int) -> Q ([TV.own 2 q, tI 0], [])) /\ True) /\ ((c == 7) = false -> ((c == 8) = true -> aA [(l /\ qE (bW b) a ≠ (0 : Int), [tS [], tI (qE (bW b) a)], []), (l /\ qE (bW b) a = (0 : Int), [TV.own 2 (BE (bW b) a), tI 0], [])] /\ (l /\ qE (bW b) a ≠ (0 : Int) -> Q (eR (qE (bW b) a))) /\ (l /\ qE (bW b) a = (0 : Int) -> Q ([TV.own 2 (BE (bW b) a), tI 0], [])) /\ True) /\ ((c == 8) = false -> ((c == 9) = true -> bd C 28 (d0 (u2 (d0 (u6 (u9 (d0 (u1 (d0 (u1 CP.top))))))))) (St.mk [(1, aS a), (74, aS b), (75, aI (↑(List.length b) : Int)), (76, aI 0)] []) (cA (au 1 (au 0 (aQ (bA C (zP j) 28 99998 (u2 CP.top)) (aU C 28 [TV.pv (PV.agg (bU c d i g e h f n o b)), tS a] Q)))))) /\ ((c == 9) = false -> Q ([tS a, tI 0], [])))))))))) := by kernel_rfl
def Gb : CP := (d0 (u2 (d0 (u6 (u9 (d0 (u1 (d0 (u1 CP.top)))))))))
def Gc (a b : LP) (c d : Int) : St := (St.mk [(1, aS a), (74, aS b), (75, aI c), (76, aI d)] [])
theorem LB (g : Nat) (r : Int) (l i : BS) (j : Bool) (q : LP) (o : Bool) (p t u n m a e : LP) (d c : Int)  (J0 : St -> Prop) (Q : QT) : (bA C (zP g) 28 1000 (Gb.dn 0) (Gc a e d c) (bO C 28 Gb J0 (cA (au 1 (au 0 (aQ (bA C (zP g) 28 99998 (u2 CP.top)) (aU C 28 [TV.pv (PV.agg (bU r l i j q o p t u n)), tS m] Q))))))) (H.b (H.s (H.s (H.b (H.b H.auto H.auto) (H.b H.auto H.auto)))) H.auto) = (let k := IntKind.wrap .i64 (c + 1); (decide (c < d) = true -> (0 : Int) <= c /\ ∃ (j : Int) (s s_1 : BS) (i : Bool) (es : LP) (b_1 : Bool) (es_1 es_2 es_3 es_4 : LP), let b := bU j s s_1 i es b_1 es_1 es_2 es_3 es_4; let f := aC g b /\ an a; e[Int.toNat c]? = some b /\ aA [(f /\ aV b a ≠ (0 : Int), [tS [], tI (aV b a)], []), (f /\ aV b a = (0 : Int), [TV.own 2 (cu b a), tI 0], [])] /\ (f /\ aV b a ≠ (0 : Int) -> ((aV b a != 0) = true -> ∃ (h : H), Q (eR (aV b a))) /\ ((aV b a != 0) = false -> J0 (St.mk [(1, aS []), (74, aS e), (75, aI d), (76, aI k)] []))) /\ (f /\ aV b a = (0 : Int) -> J0 (St.mk [(1, aS (cu b a)), (74, aS e), (75, aI d), (76, aI k)] [])) /\ True) /\ (decide (c < d) = false -> ∃ (h : H), Q ([tS a, tI 0], []))) := by kernel_rfl
noncomputable def He (N : Nat) : List TV -> Option Alts
 | [.pv (.agg [.int .i64 o, .str a, .str b, .bool n, .sl nl, .bool m, .sl ml, .sl t, .sl u, .sl k]), .pv (.sl c)] => some [((aC N [.int .i64 o, .str a, .str b, .bool n, .sl nl, .bool m, .sl ml, .sl t, .sl u, .sl k] /\ an c) /\ mn [.int .i64 o, .str a, .str b, .bool n, .sl nl, .bool m, .sl ml, .sl t, .sl u, .sl k] c ≠ 0, [.pv (.sl []), .pv (.int .i64 (mn [.int .i64 o, .str a, .str b, .bool n, .sl nl, .bool m, .sl ml, .sl t, .sl u, .sl k] c))], []),
  (((aC N [.int .i64 o, .str a, .str b, .bool n, .sl nl, .bool m, .sl ml, .sl t, .sl u, .sl k] /\ an c) /\ mn [.int .i64 o, .str a, .str b, .bool n, .sl nl, .bool m, .sl ml, .sl t, .sl u, .sl k] c = 0) /\ EZ [.int .i64 o, .str a, .str b, .bool n, .sl nl, .bool m, .sl ml, .sl t, .sl u, .sl k] c = true, [.own 2 (lE [.int .i64 o, .str a, .str b, .bool n, .sl nl, .bool m, .sl ml, .sl t, .sl u, .sl k] c), .pv (.int .i64 0)], []),
  (((aC N [.int .i64 o, .str a, .str b, .bool n, .sl nl, .bool m, .sl ml, .sl t, .sl u, .sl k] /\ an c) /\ mn [.int .i64 o, .str a, .str b, .bool n, .sl nl, .bool m, .sl ml, .sl t, .sl u, .sl k] c = 0) /\ EZ [.int .i64 o, .str a, .str b, .bool n, .sl nl, .bool m, .sl ml, .sl t, .sl u, .sl k] c = false, [.pv (.sl (lE [.int .i64 o, .str a, .str b, .bool n, .sl nl, .bool m, .sl ml, .sl t, .sl u, .sl k] c)), .pv (.int .i64 0)], [])]
 | _ => none
noncomputable def Jb (N : Nat) : Specs := aZ [(28, He N), (27, AK)]
theorem Me (i : Nat) (q : Int) (j k : BS) (o : Bool) (p : LP) (m : Bool) (n r s l a : LP) (Q : QT) : (bq C (Jb i) 10 [.pv (.agg [.int .i64 q, .str j, .str k, .bool o, .sl p, .bool m, .sl n, .sl r, .sl s, .sl l]), .pv (.sl a)] Q) (H.b (H.b H.auto (H.b H.auto (H.b H.auto H.auto))) (H.b (H.b H.auto (H.b H.auto (H.b (H.b H.auto H.auto) H.auto))) (H.b (H.b H.auto (H.b H.auto (H.b H.auto H.auto))) H.auto))) = (let b := bU q j k o p m n r s l; let c := (0 : Int) = (0 : Int) /\ gt (lE b a); let h := aC i b /\ an a; let e := h /\ mn b a = (0 : Int); let g := bf (lE b a) (1 : Int) (0 : Int); let v := c /\ bf (lE b a) (1 : Int) (0 : Int) ≠ (0 : Int) -> Q (eR g); let f := mn b a = (0 : Int) /\ gt []; let d := cN (lE b a); let w := (0 : Int) ≠ (0 : Int) /\ 0 = 0 -> Q (eR 0); let t := flatTVs [TV.own 2 d, tI 0] && true; let u := bf [] (1 : Int) (0 : Int); aA [(h /\ mn b a ≠ (0 : Int), [tS [], tI (mn b a)], []), (e /\ EZ b a = true, [TV.own 2 (lE b a), tI 0], []), (e /\ EZ b a = false, [tS (lE b a), tI 0], [])] /\ (h /\ mn b a ≠ (0 : Int) -> aA [(mn b a ≠ (0 : Int) /\ 0 = 0, [tS [], tI (mn b a)], []), (f /\ bf [] (1 : Int) (0 : Int) ≠ (0 : Int), [tS [], tI u], []), (f /\ bf [] (1 : Int) (0 : Int) = (0 : Int), [TV.own 2 (cN []), tI 0], [])] /\ (mn b a ≠ (0 : Int) /\ 0 = 0 -> Q (eR (mn b a))) /\ (f /\ bf [] (1 : Int) (0 : Int) ≠ (0 : Int) -> Q (eR u)) /\ (f /\ bf [] (1 : Int) (0 : Int) = (0 : Int) -> Q ([TV.own 2 (cN []), tI 0], [])) /\ True) /\ (e /\ EZ b a = true -> aA [((0 : Int) ≠ (0 : Int) /\ 0 = 0, [tS [], tI 0], []), (c /\ bf (lE b a) (1 : Int) (0 : Int) ≠ (0 : Int), [tS [], tI g], []), (c /\ bf (lE b a) (1 : Int) (0 : Int) = (0 : Int), [TV.own 2 d, tI 0], [])] /\ w /\ v /\ (c /\ bf (lE b a) (1 : Int) (0 : Int) = (0 : Int) -> (t = true -> Q ([TV.own 2 d, tI 0], [])) /\ (t = false -> Q ([TV.own 2 d, tI 0], []))) /\ True) /\ (e /\ EZ b a = false -> aA [((0 : Int) ≠ (0 : Int) /\ 0 = 0, [tS [], tI 0], []), (c /\ bf (lE b a) (1 : Int) (0 : Int) ≠ (0 : Int), [tS [], tI g], []), (c /\ bf (lE b a) (1 : Int) (0 : Int) = (0 : Int), [TV.own 2 d, tI 0], [])] /\ w /\ v /\ (c /\ bf (lE b a) (1 : Int) (0 : Int) = (0 : Int) -> Q ([TV.own 2 d, tI 0], [])) /\ True) /\ True) := by kernel_rfl
noncomputable def nT (N : Nat) : List TV -> Option Alts
 | [.pv (.agg [.int .i64 o, .str a, .str b, .bool n, .sl nl, .bool m, .sl ml, .sl t, .sl u, .sl k]), .pv (.sl c)] => some [((aC N [.int .i64 o, .str a, .str b, .bool n, .sl nl, .bool m, .sl ml, .sl t, .sl u, .sl k] /\ an c) /\ aV [.int .i64 o, .str a, .str b, .bool n, .sl nl, .bool m, .sl ml, .sl t, .sl u, .sl k] c ≠ 0, [.pv (.sl []), .pv (.int .i64 (aV [.int .i64 o, .str a, .str b, .bool n, .sl nl, .bool m, .sl ml, .sl t, .sl u, .sl k] c))], []),
  ((aC N [.int .i64 o, .str a, .str b, .bool n, .sl nl, .bool m, .sl ml, .sl t, .sl u, .sl k] /\ an c) /\ aV [.int .i64 o, .str a, .str b, .bool n, .sl nl, .bool m, .sl ml, .sl t, .sl u, .sl k] c = 0, [.pv (.sl (cu [.int .i64 o, .str a, .str b, .bool n, .sl nl, .bool m, .sl ml, .sl t, .sl u, .sl k] c)), .pv (.int .i64 0)], [])]
 | _ => none
noncomputable def ru (N : Nat) : Specs := aZ [(56, tU), (57, tQ), (58, jN), (59, A3), (13, nT N)]
theorem MC (o : Nat) (f : Int) (g i : BS) (c : Bool) (b : LP) (e : Bool) (d q A p a : LP) (Q : QT) : (bq C (ru o) 32 [.pv (.agg [.int .i64 f, .str g, .str i, .bool c, .sl b, .bool e, .sl d, .sl q, .sl A, .sl p]), .pv (.sl a)] Q) (H.b H.auto (H.b H.auto (H.b (H.b H.auto (H.b H.auto (H.b H.auto H.auto))) (H.b (H.b H.auto (H.b H.auto H.auto)) (H.b H.auto (H.b H.auto (H.b (H.n 1 (H.s (H.b (H.b H.auto (H.n 1 (H.s (H.b (H.b H.auto (H.b H.auto (H.b H.auto H.auto))) (H.b (H.n 1 (H.b H.auto (H.b H.auto H.auto))) H.auto))))) (H.b (H.n 2 (H.s (H.b (H.b H.auto (H.b H.auto (H.b H.auto H.auto))) (H.b (H.n 1 (H.b H.auto (H.b H.auto H.auto))) H.auto)))) H.auto)))) (H.b H.auto H.auto)))))))) = (let r := an [] /\ an [] /\ bm d; let x := an a /\ aG a i = false; let G := aU C 32 [TV.pv (PV.agg (bU f g i c b e d q A p)), tS a] Q; let I := d0 (u6 (u9 (d0 (u1 (d0 (u1 CP.top)))))); let J := gC f g i c b e d q A p; ((f == 1) = true -> Q ([tS a, tI 0], [])) /\ ((f == 1) = false -> ((f == 2) = true -> Q ([tS q, tI 0], [])) /\ ((f == 2) = false -> ((f == 3) = true -> aA [(an a /\ aG a i = true, [tS [], tI 3], []), (x /\ aG a g = false, [tS a, tI 0], []), (x /\ aG a g = true, [TV.own 2 (md a g i), tI 0], [])] /\ (an a /\ aG a i = true -> Q (eR 3)) /\ (x /\ aG a g = false -> Q ([tS a, tI 0], [])) /\ (x /\ aG a g = true -> Q ([TV.own 2 (md a g i), tI 0], [])) /\ True) /\ ((f == 3) = false -> ((f == 4) = true -> aA [(an a /\ gJ a g ≠ (0 : Int), [tS [], tI 3], []), (an a /\ gJ a g = (0 : Int), [tS (oe a g), tI 0], [])] /\ (an a /\ gJ a g ≠ (0 : Int) -> Q (eR 3)) /\ (an a /\ gJ a g = (0 : Int) -> Q ([tS (oe a g), tI 0], [])) /\ True) /\ ((f == 4) = false -> ((f == 5) = true -> Q ([TV.own 2 [[pT g, pS a]], tI 0], [])) /\ ((f == 5) = false -> ((f == 6) = true -> (an a /\ bm b) /\ Q ([TV.own 2 (cm c b a), tI 0], [])) /\ ((f == 6) = false -> ((f == 7) = true -> (an a /\ bm b) /\ ∃ (n_1 : Int) (s s_1 : BS) (i : Bool) (es : LP) (b_1 : Bool) (es_1 es_2 es_3 es_4 : LP), let l := bU n_1 s s_1 i es b_1 es_1 es_2 es_3 es_4; let h := cu l (cm c b a); let y := aC o l /\ an (cm c b a); let z := an h /\ an [] /\ bm d; let B := aV l (cm c b a) != 0; p[0]? = some l /\ aA [(y /\ aV l (cm c b a) ≠ (0 : Int), [tS [], tI (aV l (cm c b a))], []), (y /\ aV l (cm c b a) = (0 : Int), [tS h, tI 0], [])] /\ (y /\ aV l (cm c b a) ≠ (0 : Int) -> (B = true -> Q (eR (aV l (cm c b a)))) /\ (B = false -> ∃ (n_2 : Int) (s s_2 : BS) (i : Bool) (es : LP) (b_2 : Bool) (es_5 es_6 es_7 es_8 : LP), let j := bU n_2 s s_2 i es b_2 es_5 es_6 es_7 es_8; let m := cu j (aw c b a); let t := aC o j /\ an (aw c b a); let u := an [] /\ an m /\ bm d; let D := aV j (aw c b a) != 0; p[1]? = some j /\ aA [(t /\ aV j (aw c b a) ≠ (0 : Int), [tS [], tI (aV j (aw c b a))], []), (t /\ aV j (aw c b a) = (0 : Int), [tS m, tI 0], [])] /\ (t /\ aV j (aw c b a) ≠ (0 : Int) -> (D = true -> Q (eR (aV j (aw c b a)))) /\ (D = false -> aA [(r /\ cj [] [] e d ≠ (0 : Int), [tS [], tI 3], []), (r /\ cj [] [] e d = (0 : Int), [tS (bl [] []), tI 0], [])] /\ (r /\ cj [] [] e d ≠ (0 : Int) -> Q (eR 3)) /\ (r /\ cj [] [] e d = (0 : Int) -> Q ([tS (bl [] []), tI 0], [])) /\ True)) /\ (t /\ aV j (aw c b a) = (0 : Int) -> aA [(u /\ cj [] m e d ≠ (0 : Int), [tS [], tI 3], []), (u /\ cj [] m e d = (0 : Int), [tS (bl [] m), tI 0], [])] /\ (u /\ cj [] m e d ≠ (0 : Int) -> Q (eR 3)) /\ (u /\ cj [] m e d = (0 : Int) -> Q ([tS (bl [] m), tI 0], [])) /\ True) /\ True)) /\ (y /\ aV l (cm c b a) = (0 : Int) -> ∃ (n_2 : Int) (s_2 s_3 : BS) (b_2 : Bool) (es_5 : LP) (b_3 : Bool) (es_6 es_7 es_8 es_9 : LP), let k := bU n_2 s_2 s_3 b_2 es_5 b_3 es_6 es_7 es_8 es_9; let n := cu k (aw c b a); let v := aC o k /\ an (aw c b a); let w := an h /\ an n /\ bm d; let E := aV k (aw c b a) != 0; p[1]? = some k /\ aA [(v /\ aV k (aw c b a) ≠ (0 : Int), [tS [], tI (aV k (aw c b a))], []), (v /\ aV k (aw c b a) = (0 : Int), [tS n, tI 0], [])] /\ (v /\ aV k (aw c b a) ≠ (0 : Int) -> (E = true -> Q (eR (aV k (aw c b a)))) /\ (E = false -> aA [(z /\ cj h [] e d ≠ (0 : Int), [tS [], tI 3], []), (z /\ cj h [] e d = (0 : Int), [tS (bl h []), tI 0], [])] /\ (z /\ cj h [] e d ≠ (0 : Int) -> Q (eR 3)) /\ (z /\ cj h [] e d = (0 : Int) -> Q ([tS (bl h []), tI 0], [])) /\ True)) /\ (v /\ aV k (aw c b a) = (0 : Int) -> aA [(w /\ cj h n e d ≠ (0 : Int), [tS [], tI 3], []), (w /\ cj h n e d = (0 : Int), [tS (bl h n), tI 0], [])] /\ (w /\ cj h n e d ≠ (0 : Int) -> Q (eR 3)) /\ (w /\ cj h n e d = (0 : Int) -> Q ([tS (bl h n), tI 0], [])) /\ True) /\ True) /\ True) /\ ((f == 7) = false -> ((f == 8) = true -> bd C 32 (d0 (u1 (d0 (u1 I)))) (St.mk [(1, aS a), (2, AV.addr 4 0 0), (13, AV.own 26), (14, aI 0)] [(4, Obj.box J), (26, Obj.buf 2 [])]) (cA (au 1 (aQ (bA C (ru o) 32 99978 (u2 I)) (au 0 (aQ (bA C (ru o) 32 99998 (u2 CP.top)) G)))))) /\ ((f == 8) = false -> bd C 32 (d0 (u1 (d0 (u2 CP.top)))) (St.mk [(1, aS a), (2, AV.addr 4 0 0), (17, aI 0)] [(4, Obj.box J)]) (cA (au 3 (aQ (bA C (ru o) 32 99997 (u3 CP.top)) G)))))))))))) := by kernel_rfl
def FP : CP := (d0 (u1 (d0 (u1 (d0 (u6 (u9 (d0 (u1 (d0 (u1 CP.top)))))))))))
def FR (l : LP) (m b : Int) (c d : BS) (e : Bool) (f : LP) (g : Bool) (h i j k a : LP) : St := (St.mk [(1, aS l), (2, AV.addr 4 0 0), (13, AV.own 26), (14, aI m)] [(4, Obj.box (gC b c d e f g h i j k)), (26, Obj.buf 2 a)])
def FQ : CP := (d0 (u1 (d0 (u2 CP.top))))
def FS (k : LP) (l a : Int) (b c : BS) (d : Bool) (e : LP) (f : Bool) (g h i j : LP) : St := (St.mk [(1, aS k), (2, AV.addr 4 0 0), (17, aI l)] [(4, Obj.box (gC a b c d e f g h i j))])
theorem K7 (e : Nat) (E : Int) (x g : BS) (i : Bool) (D : LP) (A : Bool) (B G I z y c : LP) (b k : Int) (l m : BS) (n : Bool) (o : LP) (p : Bool) (q r t j d : LP)  (J0 : St -> Prop) (Q : QT) : (bA C (ru e) 32 1000 (FP.dn 0) (FR c b k l m n o p q r t j d) (bO C 32 FP J0 (cA (au 1 (aQ (bA C (ru e) 32 99978 (u2 (d0 (u6 (u9 (d0 (u1 (d0 (u1 CP.top))))))))) (au 0 (aQ (bA C (ru e) 32 99998 (u2 CP.top)) (aU C 32 [TV.pv (PV.agg (bU E x g i D A B G I z)), tS y] Q)))))))) (H.b (H.n 1 (H.s (H.s (H.s (H.b (H.b H.auto (H.s (H.s (H.s H.auto)))) (H.b (H.n 1 (H.s (H.s (H.s H.auto)))) H.auto)))))) H.auto) = (let u := (List.length d + 1) * 40 <= du /\ List.length d + 1 <= bz; let v := gC k l m n o p q r t j; let w := IntKind.wrap .i64 (b + 1); (decide (b < (↑(List.length c) : Int)) = true -> ∃ (i : Int) (s s_1 : BS) (g : Bool) (es : LP) (b_1 : Bool) (es_1 es_2 es_3 es_4 : LP), let a := bU i s s_1 g es b_1 es_1 es_2 es_3 es_4; j[0]? = some a /\ (0 : Int) <= b /\ ∃ (s_2 : BS) (es_5 : LP), let f := aC e a /\ an es_5; c[Int.toNat b]? = some [pT s_2, pS es_5] /\ aA [(f /\ aV a es_5 ≠ (0 : Int), [tS [], tI (aV a es_5)], []), (f /\ aV a es_5 = (0 : Int), [tS (cu a es_5), tI 0], [])] /\ (f /\ aV a es_5 ≠ (0 : Int) -> ((aV a es_5 != 0) = true -> ∃ (h : H), Q (eR (aV a es_5))) /\ ((aV a es_5 != 0) = false -> (0 : Int) <= b /\ ∃ (s : BS) (es : LP), c[Int.toNat b]? = some [pT s, pS es] /\ u /\ J0 (St.mk [(1, aS c), (2, AV.addr 4 0 0), (13, AV.own 26), (14, aI w)] [(4, Obj.box v), (26, Obj.buf 2 (d ++ [[pT s, pS []]]))]))) /\ (f /\ aV a es_5 = (0 : Int) -> (0 : Int) <= b /\ ∃ (s_3 : BS) (es_6 : LP), c[Int.toNat b]? = some [pT s_3, pS es_6] /\ u /\ J0 (St.mk [(1, aS c), (2, AV.addr 4 0 0), (13, AV.own 26), (14, aI w)] [(4, Obj.box v), (26, Obj.buf 2 (d ++ [[pT s_3, pS (cu a es_5)]]))])) /\ True) /\ (decide (b < (↑(List.length c) : Int)) = false -> ∃ (h : H), Q ([TV.own 2 d, tI 0], []))) := by kernel_rfl
theorem K8 (f : Nat) (B : Int) (v g : BS) (i : Bool) (A : LP) (y : Bool) (z D E x w a : LP) (c j : Int) (k l : BS) (m : Bool) (n : LP) (o : Bool) (p q r d : LP)  (J1 : St -> Prop) (Q : QT) : (bA C (ru f) 32 1000 (FQ.dn 0) (FS a c j k l m n o p q r d) (bO C 32 FQ J1 (cA (au 3 (aQ (bA C (ru f) 32 99997 (u3 CP.top)) (aU C 32 [TV.pv (PV.agg (bU B v g i A y z D E x)), tS w] Q)))))) (H.b (H.s (H.s (H.b (H.b H.auto H.auto) (H.b H.auto H.auto)))) H.auto) = (let t := gC j k l m n o p q r d; let u := IntKind.wrap .i64 (c + 1); (decide (c < (↑(List.length d) : Int)) = true -> (0 : Int) <= c /\ ∃ (i : Int) (s s_1 : BS) (g : Bool) (es : LP) (b_1 : Bool) (es_1 es_2 es_3 es_4 : LP), let b := bU i s s_1 g es b_1 es_1 es_2 es_3 es_4; let e := aC f b /\ an a; d[Int.toNat c]? = some b /\ aA [(e /\ aV b a ≠ (0 : Int), [tS [], tI (aV b a)], []), (e /\ aV b a = (0 : Int), [tS (cu b a), tI 0], [])] /\ (e /\ aV b a ≠ (0 : Int) -> ((aV b a != 0) = true -> ∃ (h : H), Q (eR (aV b a))) /\ ((aV b a != 0) = false -> J1 (St.mk [(1, aS []), (2, AV.addr 4 0 0), (17, aI u)] [(4, Obj.box t)]))) /\ (e /\ aV b a = (0 : Int) -> J1 (St.mk [(1, aS (cu b a)), (2, AV.addr 4 0 0), (17, aI u)] [(4, Obj.box t)])) /\ True) /\ (decide (c < (↑(List.length d) : Int)) = false -> ∃ (h : H), Q ([tS a, tI 0], []))) := by kernel_rfl
noncomputable def Hb (N : Nat) : List TV -> Option Alts
 | [.pv (.agg [.int .i64 o, .str a, .str b, .bool n, .sl nl, .bool m, .sl ml, .sl t, .sl u, .sl k]), .pv (.sl c)] => some [((aC N [.int .i64 o, .str a, .str b, .bool n, .sl nl, .bool m, .sl ml, .sl t, .sl u, .sl k] /\ an c) /\ mn [.int .i64 o, .str a, .str b, .bool n, .sl nl, .bool m, .sl ml, .sl t, .sl u, .sl k] c ≠ 0, [.pv (.sl []), .pv (.int .i64 (mn [.int .i64 o, .str a, .str b, .bool n, .sl nl, .bool m, .sl ml, .sl t, .sl u, .sl k] c))], []),
  (((aC N [.int .i64 o, .str a, .str b, .bool n, .sl nl, .bool m, .sl ml, .sl t, .sl u, .sl k] /\ an c) /\ mn [.int .i64 o, .str a, .str b, .bool n, .sl nl, .bool m, .sl ml, .sl t, .sl u, .sl k] c = 0) /\ EK [.int .i64 o, .str a, .str b, .bool n, .sl nl, .bool m, .sl ml, .sl t, .sl u, .sl k] c = true, [.own 2 (lE [.int .i64 o, .str a, .str b, .bool n, .sl nl, .bool m, .sl ml, .sl t, .sl u, .sl k] c), .pv (.int .i64 0)], []),
  (((aC N [.int .i64 o, .str a, .str b, .bool n, .sl nl, .bool m, .sl ml, .sl t, .sl u, .sl k] /\ an c) /\ mn [.int .i64 o, .str a, .str b, .bool n, .sl nl, .bool m, .sl ml, .sl t, .sl u, .sl k] c = 0) /\ EK [.int .i64 o, .str a, .str b, .bool n, .sl nl, .bool m, .sl ml, .sl t, .sl u, .sl k] c = false, [.pv (.sl (lE [.int .i64 o, .str a, .str b, .bool n, .sl nl, .bool m, .sl ml, .sl t, .sl u, .sl k] c)), .pv (.int .i64 0)], [])]
 | _ => none
noncomputable def Fg (N : Nat) : Specs := aZ [(32, Hb N), (31, Bc)]
theorem K9 (h : Nat) (p : Int) (i j : BS) (n : Bool) (o : LP) (l : Bool) (m q r k a : LP) (Q : QT) : (bq C (Fg h) 13 [.pv (.agg [.int .i64 p, .str i, .str j, .bool n, .sl o, .bool l, .sl m, .sl q, .sl r, .sl k]), .pv (.sl a)] Q) (H.b (H.b H.auto (H.b H.auto (H.b H.auto H.auto))) (H.b (H.b H.auto (H.b H.auto (H.b H.auto H.auto))) (H.b (H.b H.auto (H.b H.auto (H.b H.auto H.auto))) H.auto))) = (let b := bU p i j n o l m q r k; let c := (0 : Int) = (0 : Int) /\ gt (lE b a); let g := aC h b /\ an a; let d := g /\ mn b a = (0 : Int); let f := bf (lE b a) (1 : Int) (0 : Int); let t := c /\ bf (lE b a) (1 : Int) (0 : Int) ≠ (0 : Int) -> Q (eR f); let e := mn b a = (0 : Int) /\ gt []; let u := c /\ bf (lE b a) (1 : Int) (0 : Int) = (0 : Int) -> Q ([tS (lE b a), tI 0], []); let v := (0 : Int) ≠ (0 : Int) /\ 0 = 0 -> Q (eR 0); let s := bf [] (1 : Int) (0 : Int); aA [(g /\ mn b a ≠ (0 : Int), [tS [], tI (mn b a)], []), (d /\ EK b a = true, [TV.own 2 (lE b a), tI 0], []), (d /\ EK b a = false, [tS (lE b a), tI 0], [])] /\ (g /\ mn b a ≠ (0 : Int) -> aA [(mn b a ≠ (0 : Int) /\ 0 = 0, [tS [], tI (mn b a)], []), (e /\ bf [] (1 : Int) (0 : Int) ≠ (0 : Int), [tS [], tI s], []), (e /\ bf [] (1 : Int) (0 : Int) = (0 : Int), [tS [], tI 0], [])] /\ (mn b a ≠ (0 : Int) /\ 0 = 0 -> Q (eR (mn b a))) /\ (e /\ bf [] (1 : Int) (0 : Int) ≠ (0 : Int) -> Q (eR s)) /\ (e /\ bf [] (1 : Int) (0 : Int) = (0 : Int) -> Q (eR 0)) /\ True) /\ (d /\ EK b a = true -> aA [((0 : Int) ≠ (0 : Int) /\ 0 = 0, [tS [], tI 0], []), (c /\ bf (lE b a) (1 : Int) (0 : Int) ≠ (0 : Int), [tS [], tI f], []), (c /\ bf (lE b a) (1 : Int) (0 : Int) = (0 : Int), [tS (lE b a), tI 0], [])] /\ v /\ t /\ u /\ True) /\ (d /\ EK b a = false -> aA [((0 : Int) ≠ (0 : Int) /\ 0 = 0, [tS [], tI 0], []), (c /\ bf (lE b a) (1 : Int) (0 : Int) ≠ (0 : Int), [tS [], tI f], []), (c /\ bf (lE b a) (1 : Int) (0 : Int) = (0 : Int), [tS (lE b a), tI 0], [])] /\ v /\ t /\ u /\ True) /\ True) := by kernel_rfl
theorem aM (p : LD) (k : Ls) : aR (p.row k.rows) = p /\ bB (p.row k.rows) = k := by
 have h : C1 [p.row k.rows] = .cons p k .nil := zy (.cons p k .nil)
 unfold aR bB
 rw [h]; exact ⟨rfl, rfl⟩
theorem cP (p : LD) (k : Ls) (c : Tr) : aV (p.row k.rows) c.rows = (bx p k c).2 := by unfold aV; rw [(aM p k).1, (aM p k).2, aq]
theorem dz (p : LD) (k : Ls) (c : Tr) : cu (p.row k.rows) c.rows = (bx p k c).1.rows := by unfold cu; rw [(aM p k).1, (aM p k).2, aq]
theorem fY (p : LD) (k : Ls) (c : Tr) : mn (p.row k.rows) c.rows = (bL p k.gets c).2 := by unfold mn; rw [(aM p k).1, (aM p k).2, aq]
theorem lz (p : LD) (k : Ls) (c : Tr) : lE (p.row k.rows) c.rows = (bL p k.gets c).1.rows := by unfold lE; rw [(aM p k).1, (aM p k).2, aq]
theorem E2 (p : LD) (k : Ls) (c : LP) : EZ (p.row k.rows) c = (p.o == 3 && aG c p.a || p.o == 5 || p.o == 6 || p.o == 7 || p.o == 8) := by unfold EZ; rw [(aM p k).1]
theorem EL (p : LD) (k : Ls) (c : LP) : EK (p.row k.rows) c = (p.o == 3 && aG c p.a || p.o == 5 || p.o == 6 || p.o == 8) := by unfold EK; rw [(aM p k).1]
def dm (w : Bool) (r : ej) : RT := if r.2 ≠ 0 then ([.pv (.sl []), .pv (.int .i64 r.2)], []) else if w = true then ([.own 2 r.1.rows, .pv (.int .i64 0)], []) else ([.pv (.sl r.1.rows), .pv (.int .i64 0)], [])
theorem aF {w : Bool} {r : ej} (h : r.2 ≠ 0) : dm w r = ([.pv (.sl []), .pv (.int .i64 r.2)], []) := if_pos h
theorem be {r : ej} (h : r.2 = 0) : dm true r = ([.own 2 r.1.rows, .pv (.int .i64 0)], []) := by unfold dm; rw [if_neg (not_not_intro h), if_pos rfl]
theorem bk {r : ej} (h : r.2 = 0) : dm false r = ([.pv (.sl r.1.rows), .pv (.int .i64 0)], []) := by unfold dm; rw [if_neg (not_not_intro h), if_neg (by simp)]
theorem ce {P : Prop} {e : Int} (h : P) : (P /\ e ≠ 0) ∨ (P /\ e = 0) := by
 by_cases g : e = 0
 ·exact .inr ⟨h, g⟩
 ·exact .inl ⟨h, g⟩
theorem rK {P : Prop} {e : Int} {w : Bool} (h : P) : (P /\ e ≠ 0) ∨ ((P /\ e = 0) /\ w = true) ∨ ((P /\ e = 0) /\ w = false) := by
 by_cases g : e = 0
 ·cases w
  ·exact .inr (.inr ⟨⟨h, g⟩, rfl⟩)
  ·exact .inr (.inl ⟨⟨h, g⟩, rfl⟩)
 ·exact .inl ⟨h, g⟩
theorem nz {e : Int} {P : Prop} (h : e ≠ 0) (g : (e != 0) = false) : P := absurd (by simpa using g) h
theorem ev {k : Ls} {N : Nat} (hk : k.deep < N) (hf : k.fine) {e : LD × Ls} (he : e ∈ k.list) : aC N (e.1.row e.2.rows) := ⟨e.1, e.2, rfl, by rw [Ls.one_deep]; have := Ls.mem_deep he; omega, Ls.mem_fine hf he⟩
def gD (N : Nat) : Prop := ∀ ag al, kf N ag = some al -> ∀ a ∈ al, a.1 -> Ev C 10 ag a.2
def nc (N : Nat) : Prop := ∀ ag al, nT N ag = some al -> ∀ a ∈ al, a.1 -> Ev C 13 ag a.2
theorem JU {N : Nat} (h : gD N) (o : Int) (a b : BS) (n : Bool) (nl : LP) (m : Bool) (ml t u : LP) (e0 e1 : LD × Ls) (h0 : aC N (e0.1.row e0.2.rows)) (h1 : aC N (e1.1.row e1.2.rows)) (f0 : (Ls.cons e0.1 e0.2 .nil).fine) (f1 : (Ls.cons e1.1 e1.2 .nil).fine) (c : Tr) (hc : c.good) (v : Bool) (vl : List (BS)) (hv : vl.length <= 4000000) (w : Bool) (wl : List (BS)) (hw : wl.length <= 4000000) :
  Ev C 43 [.pv (.agg [.int .i64 o, .str a, .str b, .bool n, .sl nl, .bool m, .sl ml, .sl t, .sl u, .sl [e0.1.row e0.2.rows, e1.1.row e1.2.rows]]), .pv (.sl c.rows), .pv (.agg [.bool v, .sl (vl.map ak)]), .pv (.agg [.bool w, .sl (wl.map ak)]), .pv (.fn 10 []), .pv (.fn 10 [])] (dm true (cM (bx e0.1 e0.2) (bx e1.1 e1.2) v (vl.map ak) w (wl.map ak) c)) := by
 have hS : aK C (I5 N) := az (am wd (am h (am rP (am BK (am pj ax)))))
 have gi := eI hc v (vl.map ak)
 have go := di hc v (vl.map ak)
 have k0 := cl (ea e0.1 e0.2 f0 _ gi)
 have k1 := cl (ea e1.1 e1.2 f1 _ go)
 have hR : ∀ x : ej, x = cM (bx e0.1 e0.2) (bx e1.1 e1.2) v (vl.map ak) w (wl.map ak) c -> x = if (bx e0.1 e0.2 (dR v (vl.map ak) c)).2 ≠ 0 then (.nil, (bx e0.1 e0.2 (dR v (vl.map ak) c)).2) else if (bx e1.1 e1.2 (bD v (vl.map ak) c)).2 ≠ 0 then (.nil, (bx e1.1 e1.2 (bD v (vl.map ak) c)).2) else dH w (wl.map ak) (bx e0.1 e0.2 (dR v (vl.map ak) c)).1 (bx e1.1 e1.2 (bD v (vl.map ak) c)).1 := fun x hx => hx
 generalize cM (bx e0.1 e0.2) (bx e1.1 e1.2) v (vl.map ak) w (wl.map ak) c = F at *
 have hR := hR F rfl
 have E0 := cP e0.1 e0.2 (dR v (vl.map ak) c)
 have E1 := cP e1.1 e1.2 (bD v (vl.map ak) c)
 have T0 := dz e0.1 e0.2 (dR v (vl.map ak) c)
 have T1 := dz e1.1 e1.2 (bD v (vl.map ak) c)
 unfold LD.row at E0 E1 T0 T1
 change lC (bx e0.1 e0.2 (dR v (vl.map ak) c)) at k0
 change lC (bx e1.1 e1.2 (bD v (vl.map ak) c)) at k1
 have gI : an (cm v (vl.map ak) c.rows) := ⟨_, dr _ _ _, gi⟩
 have gO : an (aw v (vl.map ak) c.rows) := ⟨_, ct _ _ _, go⟩
 have sw : bm (wl.map ak) := ⟨wl, rfl, hw⟩
 refine bh hS (L9 ..) ?_
 conv => zeta
 refine ⟨⟨⟨c, rfl, hc⟩, vl, rfl, hv⟩, _, _, _, _, _, _, _, _, _, _, rfl, ce ⟨h0, gI⟩, fun g => ⟨fun _ => ?_, fun g2 => nz g.2 g2⟩, fun g => ⟨_, _, _, _, _, _, _, _, _, _, rfl, ce ⟨h1, gO⟩, fun g2 => ⟨fun _ => ?_, fun g3 => nz g2.2 g3⟩, fun g2 => ?_, trivial⟩, trivial⟩
 ·have g := g.2
  rw [dr, E0] at g ⊢
  rw [if_pos g] at hR
  rw [hR]
  exact (aF (r := (Tr.nil, _)) g).symm
 ·have g := g.2
  have g2 := g2.2
  rw [dr, E0] at g
  rw [ct, E1] at g2 ⊢
  rw [if_neg (not_not_intro g), if_pos g2] at hR
  rw [hR]
  exact (aF (r := (Tr.nil, _)) g2).symm
 ·have g := g.2
  have g2 := g2.2
  rw [dr, E0] at g
  rw [ct, E1] at g2
  rw [dr v _ c, T0, ct v _ c, T1]
  rw [if_neg (not_not_intro g), if_neg (not_not_intro g2)] at hR
  have gx := k0.2 g
  have gy := k1.2 g2
  generalize (bx e0.1 e0.2 (dR v (vl.map ak) c)).1 = x at *
  generalize (bx e1.1 e1.2 (bD v (vl.map ak) c)).1 = y at *
  rw [ct w _ x, dr w _ y]
  have n1 := d7 (t := bD w (wl.map ak) x)
  have n2 := d7 (t := dR w (wl.map ak) y)
  have lx := cw gx
  have ly := cw gy
  refine ⟨⟨⟨x, rfl, gx⟩, sw⟩, fun g3 => ?_, fun g3 => ⟨⟨⟨y, rfl, gy⟩, sw⟩, fun g4 => ?_, fun g4 => ⟨⟨x.list, y.list, rows_list x, rows_list y, by omega⟩, ?_⟩⟩⟩
  ·have eb : dH w (wl.map ak) x y = (.nil, 3) := if_pos (.inl fun e => by rw [n1.2 e] at g3; simp at g3)
   rw [hR, eb]; rfl
  ·have eb : dH w (wl.map ak) x y = (.nil, 3) := if_pos (.inr fun e => by rw [n2.2 e] at g4; simp at g4)
   rw [hR, eb]; rfl
  ·have o1 : (bD w (wl.map ak) x).list = [] := n1.1 (by simpa using g3)
   have o2 : (dR w (wl.map ak) y).list = [] := n2.1 (by simpa using g4)
   have eb : dH w (wl.map ak) x y = (ew x y, 0) := if_neg (by
    rintro (e | e)
    ·exact e o1
    ·exact e o2)
   obtain ⟨pm, e1, hp, hle, _⟩ := fJ (x.list ++ y.list) (by rw [List.length_append]; omega)
   have e2 : eE x.rows y.rows = (x.list ++ y.list).map aE := by unfold eE; rw [rows_list, rows_list, List.map_append]
   rw [hR, eb, be rfl, e2, e1, <- cG, jD gx gy o1 o2 hp hle]
theorem pq (e0 e1 : LD × Ls) (c : Tr) (v : Bool) (vl : LP) (w : Bool) (wl : LP) : rD (bW [e0.1.row e0.2.rows, e1.1.row e1.2.rows]) (jV [e0.1.row e0.2.rows, e1.1.row e1.2.rows]) c.rows v vl w wl = (cM (bx e0.1 e0.2) (bx e1.1 e1.2) v vl w wl c).2 /\ DT (bW [e0.1.row e0.2.rows, e1.1.row e1.2.rows]) (jV [e0.1.row e0.2.rows, e1.1.row e1.2.rows]) c.rows v vl w wl = (cM (bx e0.1 e0.2) (bx e1.1 e1.2) v vl w wl c).1.rows := by
 unfold rD DT
 show (cM (bx (aR (e0.1.row e0.2.rows)) (bB (e0.1.row e0.2.rows))) (bx (aR (e1.1.row e1.2.rows)) (bB (e1.1.row e1.2.rows))) v vl w wl (aH c.rows)).2 = _ /\ (cM (bx (aR (e0.1.row e0.2.rows)) (bB (e0.1.row e0.2.rows))) (bx (aR (e1.1.row e1.2.rows)) (bB (e1.1.row e1.2.rows))) v vl w wl (aH c.rows)).1.rows = _
 rw [(aM e0.1 e0.2).1, (aM e0.1 e0.2).2, (aM e1.1 e1.2).1, (aM e1.1 e1.2).2, aq]
 exact ⟨rfl, rfl⟩
theorem JV {N : Nat} (h : gD N) : ∀ ag al, G2 N ag = some al -> ∀ a ∈ al, a.1 -> Ev C 43 ag a.2 := by
 intro ag al hl x hx hp
 unfold G2 at hl
 split at hl
 ·rename_i o a b n nl m ml t u k c v vl w wl f g
  simp only [Option.some.injEq] at hl; subst hl
  simp only [List.mem_cons, List.not_mem_nil, or_false] at hx
  rcases hx with rfl | rfl
  ·obtain ⟨⟨⟨rfl, rfl⟩, ⟨r, s, rfl, ⟨p0, q0, rfl, d0, f0⟩, ⟨p1, q1, rfl, d1, f1⟩⟩, ⟨c, rfl, hg⟩, ⟨vl, rfl, hv⟩, wl, rfl, hw⟩, he⟩ := hp
   have := JU h o a b n nl m ml t u (p0, q0) (p1, q1) ⟨p0, q0, rfl, d0, f0⟩ ⟨p1, q1, rfl, d1, f1⟩ f0 f1 c hg v vl hv w wl hw
   have er := pq (p0, q0) (p1, q1) c v (vl.map ak) w (wl.map ak)
   simp only at er
   rw [er.1] at he
   rw [aF he] at this
   simp only [er.1]
   exact this
  ·obtain ⟨⟨⟨rfl, rfl⟩, ⟨r, s, rfl, ⟨p0, q0, rfl, d0, f0⟩, ⟨p1, q1, rfl, d1, f1⟩⟩, ⟨c, rfl, hg⟩, ⟨vl, rfl, hv⟩, wl, rfl, hw⟩, he⟩ := hp
   have := JU h o a b n nl m ml t u (p0, q0) (p1, q1) ⟨p0, q0, rfl, d0, f0⟩ ⟨p1, q1, rfl, d1, f1⟩ f0 f1 c hg v vl hv w wl hw
   have er := pq (p0, q0) (p1, q1) c v (vl.map ak) w (wl.map ak)
   simp only at er
   rw [er.1] at he
   rw [be he] at this
   simp only [er.2]
   exact this
 ·exact absurd hl (by simp)
theorem Lz {N : Nat} (h : gD N) : ∀ ag al, Hd N ag = some al -> ∀ a ∈ al, a.1 -> Ev C 45 ag a.2 := by
 intro ag al hl x hx hp
 have hS : aK C (Jk N) := az (am h ax)
 unfold Hd at hl
 split at hl
 ·simp only [Option.some.injEq] at hl; subst hl
  simp only [List.mem_cons, List.not_mem_nil, or_false] at hx
  rcases hx with rfl | rfl
  ·obtain ⟨⟨⟨r, rfl, p, q, rfl, hd, hf⟩, hg⟩, he⟩ := hp
   refine bh hS (LA ..) ?_
   conv => zeta
   exact ⟨_, _, _, _, _, _, _, _, _, _, rfl, ce ⟨⟨p, q, rfl, hd, hf⟩, hg⟩, fun _ => rfl, fun g => absurd g.2 he, trivial⟩
  ·obtain ⟨⟨⟨r, rfl, p, q, rfl, hd, hf⟩, hg⟩, he⟩ := hp
   refine bh hS (LA ..) ?_
   conv => zeta
   exact ⟨_, _, _, _, _, _, _, _, _, _, rfl, ce ⟨⟨p, q, rfl, hd, hf⟩, hg⟩, fun g => absurd he g.2, fun _ => rfl, trivial⟩
 ·exact absurd hl (by simp)
theorem JJ {N : Nat} (h : gD N) (o : Int) (a b : BS) (n : Bool) (nl : LP) (m : Bool) (ml t u : LP) (p : LD) (q : Ls) (h0 : aC N (p.row q.rows)) (c : Tr) (hc : c.good) : Ev C 44 [.pv (.sl c.rows), .pv (.fn 45 [.iptr [.int .i64 o, .str a, .str b, .bool n, .sl nl, .bool m, .sl ml, .sl t, .sl u, .sl [p.row q.rows]]])] (dm true (Tr.of (bC (fun e => bx p q e.2) c.list).1, (bC (fun e => bx p q e.2) c.list).2)) := by
 have hr := cz
 have hm := bN
 have hS : aK C (zK N) := az (am (Lz h) ax)
 have hl := rows_len c
 have h6 := cw hc
 refine bh hS (L6 ..) ?_
 conv => zeta
 refine aJ hS (by kernel_rfl) 1000 (fun k st => ∃ (i : Nat) (pre : List Edge), st = Fu o a b n nl m ml t u [p.row q.rows] c.rows c.list.length i (pre.map aE) /\ i <= c.list.length /\ pre.length = i /\ jU (fun e => bx p q e.2) c.list i pre /\ k = c.list.length - i) ?_ (n := c.list.length) ⟨0, [], by rw [hl]; rfl, by omega, rfl, nZ _ _, by omega⟩
 rintro k st ⟨i, pre, rfl, hi, hp, hI, rfl⟩
 refine cr (JK ..) ?_
 conv => zeta
 refine ⟨fun g => ?_, fun g => ?_⟩
 ·simp only [decide_eq_true_eq] at g
  have hi' : i < c.list.length := by omega
  have hk := dA hc (List.getElem_mem hi')
  have E0 := cP p q c.list[i].2
  have T0 := dz p q c.list[i].2
  have e1 : aV (bW [p.row q.rows]) c.list[i].2.rows = (bx p q c.list[i].2).2 := E0
  have e2 : cu (bW [p.row q.rows]) c.list[i].2.rows = (bx p q c.list[i].2).1.rows := T0
  refine ⟨by omega, _, _, row_get c hi', ce ⟨⟨_, rfl, h0⟩, _, rfl, hk⟩, fun g2 => ⟨fun _ => ⟨.auto, ?_⟩, fun g3 => nz g2.2 g3⟩, fun g2 => ⟨⟨by rw [List.length_map]; omega, by rw [List.length_map]; omega⟩, ?_⟩, trivial⟩
  ·have g2 := g2.2
   rw [e1] at g2 ⊢
   rw [i6 hi' hI g2]
   exact (aF (r := (Tr.of [], _)) g2).symm
  ·have g2 := g2.2
   rw [e1] at g2
   rw [e2]
   refine ⟨c.list.length - (i + 1), by omega, i + 1, pre ++ [(c.list[i].1, (bx p q c.list[i].2).1)], ?_, by omega, by rw [List.length_append, hp]; rfl, gS hi' hI g2, rfl⟩
   rw [dJ (by omega), List.map_append]; rfl
 ·simp only [decide_eq_false_iff_not] at g
  have : i = c.list.length := by omega
  subst this
  refine ⟨.auto, ?_⟩
  rw [i5 hI, be rfl, cG]
theorem pA (p : LD) (q : Ls) (c : Tr) : qE (bW [p.row q.rows]) c.rows = (bC (fun e => bx p q e.2) c.list).2 /\ BE (bW [p.row q.rows]) c.rows = (Tr.of (bC (fun e => bx p q e.2) c.list).1).rows := by
 unfold qE BE
 show (bC (fun e => bx (aR (p.row q.rows)) (bB (p.row q.rows)) e.2) (aH c.rows).list).2 = _ /\ (bC (fun e => bx (aR (p.row q.rows)) (bB (p.row q.rows)) e.2) (aH c.rows).list).1.map aE = _
 rw [(aM p q).1, (aM p q).2, aq, cG]
 exact ⟨rfl, rfl⟩
theorem JL {N : Nat} (h : gD N) : ∀ ag al, GZ N ag = some al -> ∀ a ∈ al, a.1 -> Ev C 44 ag a.2 := by
 intro ag al hl x hx hp
 unfold GZ at hl
 split at hl
 ·rename_i c f o a b n nl m ml t u k
  simp only [Option.some.injEq] at hl; subst hl
  simp only [List.mem_cons, List.not_mem_nil, or_false] at hx
  rcases hx with rfl | rfl
  ·obtain ⟨⟨rfl, ⟨r, rfl, p, q, rfl, hd, hf⟩, c, rfl, hg⟩, he⟩ := hp
   have := JJ h o a b n nl m ml t u p q ⟨p, q, rfl, hd, hf⟩ c hg
   have er := pA p q c
   rw [er.1] at he
   rw [aF he] at this
   simp only [er.1]
   exact this
  ·obtain ⟨⟨rfl, ⟨r, rfl, p, q, rfl, hd, hf⟩, c, rfl, hg⟩, he⟩ := hp
   have := JJ h o a b n nl m ml t u p q ⟨p, q, rfl, hd, hf⟩ c hg
   have er := pA p q c
   rw [er.1] at he
   rw [be he] at this
   simp only [er.2]
   exact this
 ·exact absurd hl (by simp)
theorem jk {k : Ls} {N : Nat} (hd : k.deep < N) (hf : k.fine) (h2 : k.len = 2) : ∃ e0 e1 : LD × Ls, k.list = [e0, e1] /\ k.rows = [e0.1.row e0.2.rows, e1.1.row e1.2.rows] /\ aC N (e0.1.row e0.2.rows) /\ aC N (e1.1.row e1.2.rows) /\ k.gets = [bx e0.1 e0.2, bx e1.1 e1.2] /\ k.cres = [aO e0.1 e0.2, aO e1.1 e1.2] /\ k.puts = [aY e0.1 e0.2, aY e1.1 e1.2] := by
 obtain ⟨e0, e1, he⟩ := sB.1 h2
 refine ⟨e0, e1, he, by rw [Ls.rows_list, he]; rfl, ev hd hf (by rw [he]; simp), ev hd hf (by rw [he]; simp), by rw [fh, he]; rfl, by rw [ib, he]; rfl, by rw [kC, he]; rfl⟩
theorem lk {k : Ls} {N : Nat} (hd : k.deep < N) (hf : k.fine) (h1 : k.len = 1) : ∃ e0 : LD × Ls, k.list = [e0] /\ k.rows = [e0.1.row e0.2.rows] /\ aC N (e0.1.row e0.2.rows) /\ k.gets = [bx e0.1 e0.2] /\ k.cres = [aO e0.1 e0.2] /\ k.puts = [aY e0.1 e0.2] := by
 obtain ⟨e0, he⟩ := sB.2 h1
 refine ⟨e0, he, by rw [Ls.rows_list, he]; rfl, ev hd hf (by rw [he]; simp), by rw [fh, he]; rfl, by rw [ib, he]; rfl, by rw [kC, he]; rfl⟩
theorem sk (k : Ls) {i : Nat} (h : i < k.list.length) : k.gets.drop i = bx k.list[i].1 k.list[i].2 :: k.gets.drop (i + 1) := by
 rw [fh, <- List.map_drop, List.drop_eq_getElem_cons h, List.map_cons, List.map_drop]
theorem jb {g : Tr -> ej} {gs : List (Tr -> ej)} {c : Tr} : eu (g :: gs) c = if (g c).2 ≠ 0 then (.nil, (g c).2) else eu gs (g c).1 := rfl
theorem IP {N : Nat} (h : gD N) (p : LD) (k : Ls) (hf : (Ls.cons p k .nil).fine) (hd : k.deep < N) (c : Tr) (hc : c.good) : Ev C 28 [.pv (.agg (p.row k.rows)), .pv (.sl c.rows)] (dm (EZ (p.row k.rows) c.rows) (bL p k.gets c)) := by
 have hS : aK C (zP N) := az (am FU (am FJ (am Ga (am wd (am (JV h) (am (JL h) (am h ax)))))))
 rw [E2]
 obtain ⟨⟨⟨ha, hb⟩, ⟨ht, hu⟩, ⟨hn, hm⟩, hop, k7, k8, k9, k10⟩, hk, _⟩ := id hf
 have hg : an c.rows := ⟨c, rfl, hc⟩
 have sn : bm (p.nl.map ak) := ⟨_, rfl, hn⟩
 have sm : bm (p.ml.map ak) := ⟨_, rfl, hm⟩
 refine bh hS (MN N p.o p.a p.b p.n (p.nl.map ak) p.m (p.ml.map ak) p.t.rows p.u.rows k.rows c.rows _) ?_
 conv => zeta
 refine ⟨fun g => ?_, fun n2 => ⟨fun g => ?_, fun n3 => ⟨fun g => ?_, fun n4 => ⟨fun g => ?_, fun n5 => ⟨fun g => ?_, fun n6 => ⟨fun g => ?_, fun n7 => ⟨fun g => ?_, fun n8 => ⟨fun g => ?_, fun n9 => ?_⟩⟩⟩⟩⟩⟩⟩⟩
 all_goals simp only [beq_iff_eq, beq_eq_false_iff_ne, ne_eq] at *
 ·have hV : bL p k.gets c = (p.t, 0) := by unfold bL; rw [if_pos g]
  rw [hV, g]
  exact (bk (r := (p.t, 0)) rfl).symm
 ·have hV : bL p k.gets c = gh c p.a p.b := by unfold bL; rw [if_neg n2, if_pos g]
  rw [hV, g]
  have hb' := bR c p.b
  have ha' := bR c p.a
  refine ⟨?_, fun g2 => ?_, fun g2 => ?_, fun g2 => ?_, trivial⟩
  ·cases e1 : aG c.rows p.b
   ·cases e2 : aG c.rows p.a
    ·exact .inr (.inl ⟨⟨hg, rfl⟩, rfl⟩)
    ·exact .inr (.inr ⟨⟨hg, rfl⟩, rfl⟩)
   ·exact .inl ⟨hg, rfl⟩
  ·have e : gh c p.a p.b = (.nil, 3) := if_pos (by rw [<- hb', g2.2])
   rw [e]
   exact (aF (r := (Tr.nil, 3)) (by decide)).symm
  ·have e : gh c p.a p.b = (c, 0) := by unfold gh; rw [if_neg (by rw [<- hb', g2.1.2]; simp), if_neg (by rw [<- ha', g2.2]; simp)]
   rw [e, g2.2]
   exact (bk (r := (c, 0)) rfl).symm
  ·have e : gh c p.a p.b = (Tr.of (bH (dB c.list p.a) p.b (bE c p.a)), 0) := by unfold gh; rw [if_neg (by rw [<- hb', g2.1.2]; simp), if_pos (by rw [<- ha', g2.2])]
   rw [e, g2.2, fH]
   exact (be (r := (Tr.of (bH (dB c.list p.a) p.b (bE c p.a)), 0)) rfl).symm
 ·have hV : bL p k.gets c = fD c p.a := by unfold bL; rw [if_neg n2, if_neg n3, if_pos g]
  rw [hV, g]
  obtain ⟨o1, o2⟩ := eA c p.a
  have o3 : (fD c p.a).2 ≠ 0 -> (fD c p.a).2 = 3 := by
   unfold fD
   split
   ·split
    ·intro e; simp at e
    ·intro _; rfl
   ·intro _; rfl
  refine ⟨ce hg, fun g2 => ?_, fun g2 => ?_, trivial⟩
  ·have e := g2.2
   rw [o1] at e
   rw [aF e, o3 e]
  ·have e := g2.2
   rw [o1] at e
   rw [o2]
   exact (bk e).symm
 ·have hV : bL p k.gets c = mj c p.a := by unfold bL; rw [if_neg n2, if_neg n3, if_neg n4, if_pos g]
  rw [hV, g]
  exact ⟨trivial, (be (r := mj c p.a) rfl).symm⟩
 ·have hV : bL p k.gets c = (dR p.n (p.nl.map ak) c, 0) := by unfold bL; rw [if_neg n2, if_neg n3, if_neg n4, if_neg n5, if_pos g]
  rw [hV, g, dr]
  exact ⟨⟨hg, sn⟩, (be (r := (dR p.n (p.nl.map ak) c, 0)) rfl).symm⟩
 ·obtain ⟨e0, e1, hl, hkr, l0, l1, hgs, _, _⟩ := jk hd hk (k7 g)
  have hV : bL p k.gets c = cM (bx e0.1 e0.2) (bx e1.1 e1.2) p.n (p.nl.map ak) p.m (p.ml.map ak) c := by unfold bL; rw [if_neg n2, if_neg n3, if_neg n4, if_neg n5, if_neg n6, if_pos g, hgs]
  rw [hV, g, hkr, (pq e0 e1 c ..).1, (pq e0 e1 c ..).2]
  refine ⟨ce ⟨⟨trivial, trivial⟩, ⟨_, _, rfl, l0, l1⟩, hg, sn, sm⟩, fun g2 => (aF g2.2).symm, fun g2 => (be g2.2).symm, trivial⟩
 ·obtain ⟨e0, hl, hkr, l0, hgs, _, _⟩ := lk hd hk (k8 g)
  have hV : bL p k.gets c = (Tr.of (bC (fun e => bx e0.1 e0.2 e.2) c.list).1, (bC (fun e => bx e0.1 e0.2 e.2) c.list).2) := by unfold bL; rw [if_neg n2, if_neg n3, if_neg n4, if_neg n5, if_neg n6, if_neg n7, if_pos g, hgs]
  rw [hV, g, hkr, (pA e0.1 e0.2 c).1, (pA e0.1 e0.2 c).2]
  refine ⟨ce ⟨trivial, ⟨_, rfl, l0⟩, hg⟩, fun g2 => ?_, fun g2 => ?_, trivial⟩
  ·exact (aF (r := (Tr.of (bC (fun e => bx e0.1 e0.2 e.2) c.list).1, (bC (fun e => bx e0.1 e0.2 e.2) c.list).2)) g2.2).symm
  ·exact (be (r := (Tr.of (bC (fun e => bx e0.1 e0.2 e.2) c.list).1, (bC (fun e => bx e0.1 e0.2 e.2) c.list).2)) g2.2).symm
 ·have hV : bL p k.gets c = eu k.gets c := by unfold bL; rw [if_neg n2, if_neg n3, if_neg n4, if_neg n5, if_neg n6, if_neg n7, if_neg n8, if_pos g]
  have hln := Ls.len_list k
  have hrl := Ls.rows_len k
  rw [hV, g, hrl]
  refine aJ hS (by kernel_rfl) 1000 (fun q st => ∃ (i : Nat) (d : Tr), st = Gc d.rows k.rows k.len i /\ i <= k.len /\ d.good /\ eu k.gets c = eu (k.gets.drop i) d /\ q = k.len - i) ?_ (n := k.len) ⟨0, c, rfl, by omega, hc, rfl, rfl⟩
  rintro q st ⟨i, d, rfl, hi, hdg, he, rfl⟩
  refine cr (LB ..) ?_
  conv => zeta
  refine ⟨fun g1 => ?_, fun g1 => ?_⟩
  ·simp only [decide_eq_true_eq] at g1
   have hi' : i < k.list.length := by omega
   have hmem := List.getElem_mem hi'
   have E0 := cP k.list[i].1 k.list[i].2 d
   have T0 := dz k.list[i].1 k.list[i].2 d
   have ok := cl (ea k.list[i].1 k.list[i].2 (Ls.mem_fine hk hmem) d hdg)
   change lC (bx k.list[i].1 k.list[i].2 d) at ok
   rw [sk k hi', jb] at he
   refine ⟨by omega, _, _, _, _, _, _, _, _, _, _, Ls.row_get k hi', ?_⟩
   unfold LD.row at E0 T0
   rw [E0, T0]
   refine ⟨ce ⟨ev hd hk hmem, d, rfl, hdg⟩, fun g2 => ⟨fun _ => ⟨.auto, ?_⟩, fun g3 => nz g2.2 g3⟩, fun g2 => ?_, trivial⟩
   ·rw [if_pos g2.2] at he
    rw [he]
    exact (aF (r := (Tr.nil, _)) g2.2).symm
   ·rw [if_neg (not_not_intro g2.2)] at he
    exact ⟨k.len - (i + 1), by omega, i + 1, _, by rw [dJ (by omega)]; rfl, by omega, ok.2 g2.2, he, rfl⟩
  ·simp only [decide_eq_false_iff_not] at g1
   have hi' : i = k.list.length := by omega
   have hgl : k.gets.length = k.list.length := by rw [fh, List.length_map]
   rw [List.drop_of_length_le (by omega)] at he
   refine ⟨.auto, ?_⟩
   rw [he]
   exact (bk (r := (d, 0)) rfl).symm
 ·have hV : bL p k.gets c = (c, 0) := by unfold bL; rw [if_neg n2, if_neg n3, if_neg n4, if_neg n5, if_neg n6, if_neg n7, if_neg n8, if_neg n9]
  have hw : (p.o == 3 && aG c.rows p.a || p.o == 5 || p.o == 6 || p.o == 7 || p.o == 8) = false := by simp [n3, n5, n6, n7, n8]
  rw [hV, hw]
  exact (bk (r := (c, 0)) rfl).symm
theorem LC {N : Nat} (h : gD N) : ∀ ag al, He (N + 1) ag = some al -> ∀ a ∈ al, a.1 -> Ev C 28 ag a.2 := by
 intro ag al hl x hx hp
 unfold He at hl
 split at hl
 ·simp only [Option.some.injEq] at hl; subst hl
  simp only [List.mem_cons, List.not_mem_nil, or_false] at hx
  rcases hx with rfl | rfl | rfl
  ·obtain ⟨⟨⟨p, k, er, hd, hf⟩, c, rfl, hc⟩, he⟩ := hp
   have := IP h p k hf (by rw [Ls.one_deep] at hd; omega) c hc
   rw [er] at he ⊢
   rw [fY] at he
   rw [aF he] at this
   simp only [fY]
   exact this
  ·obtain ⟨⟨⟨⟨p, k, er, hd, hf⟩, c, rfl, hc⟩, he⟩, hw⟩ := hp
   have := IP h p k hf (by rw [Ls.one_deep] at hd; omega) c hc
   rw [er] at he hw ⊢
   rw [fY] at he
   rw [hw, be he] at this
   simp only [lz]
   exact this
  ·obtain ⟨⟨⟨⟨p, k, er, hd, hf⟩, c, rfl, hc⟩, he⟩, hw⟩ := hp
   have := IP h p k hf (by rw [Ls.one_deep] at hd; omega) c hc
   rw [er] at he hw ⊢
   rw [fY] at he
   rw [hw, bk he] at this
   simp only [lz]
   exact this
 ·exact absurd hl (by simp)
theorem gV {r : ej} (h : r.2 = 0) (hz : (cq r.1 none 1 0).2 = 0) : cH r = (r.1, 0) := by unfold cH; rw [if_neg (not_not_intro h), if_neg (not_not_intro hz)]
theorem ji {r : ej} (h : r.2 = 0) (hz : (cq r.1 none 1 0).2 ≠ 0) : cH r = (.nil, (cq r.1 none 1 0).2) := by unfold cH; rw [if_neg (not_not_intro h), if_pos hz]
theorem Kb {N : Nat} (h : gD N) (p : LD) (k : Ls) (hf : (Ls.cons p k .nil).fine) (hd : (Ls.cons p k .nil).deep < N + 1) (c : Tr) (hc : c.good) : Ev C 10 [.pv (.agg (p.row k.rows)), .pv (.sl c.rows)] (dm true (bx p k c)) := by
 have hS : aK C (Jb (N + 1)) := az (am (LC h) (am Am ax))
 have v6 := ea p k hf c hc
 have hL : aC (N + 1) (p.row k.rows) := ⟨p, k, rfl, hd, hf⟩
 have hg : an c.rows := ⟨c, rfl, hc⟩
 have E := fY p k c
 have T := lz p k c
 have hR : bx p k c = cH (bL p k.gets c) := rfl
 rw [hR]
 generalize bL p k.gets c = V at *
 have t1 : V.2 = 0 -> (cq V.1 none 1 0).2 ≠ 0 -> (([TV.pv (PV.sl []), TV.pv (PV.int IntKind.i64 (bf V.1.rows 1 0))], []) : RT) = dm true (cH V) := fun h1 h2 => by
  rw [ji h1 h2, aW]
  exact (aF (r := (Tr.nil, _)) h2).symm
 have t2 : V.2 = 0 -> (cq V.1 none 1 0).2 = 0 -> (([TV.own 2 (cN V.1.rows), TV.pv (PV.int IntKind.i64 0)], []) : RT) = dm true (cH V) := fun h1 h2 => by
  rw [gV h1 h2]
  exact (be (r := (V.1, 0)) rfl).symm
 refine bh hS (Me ..) ?_
 conv => zeta
 have E' : mn (bU p.o p.a p.b p.n (p.nl.map ak) p.m (p.ml.map ak) p.t.rows p.u.rows k.rows) c.rows = V.2 := E
 have T' : lE (bU p.o p.a p.b p.n (p.nl.map ak) p.m (p.ml.map ak) p.t.rows p.u.rows k.rows) c.rows = V.1.rows := T
 rw [E', T']
 refine ⟨rK ⟨hL, hg⟩, fun g => ⟨.inl ⟨g.2, rfl⟩, fun _ => ?_, fun g2 => absurd g2.1.1 g.2, fun g2 => absurd g2.1.1 g.2, trivial⟩, fun g => ?_, fun g => ?_, trivial⟩
 ·rw [jj g.2]
  exact (aF (r := (Tr.nil, _)) g.2).symm
 ·have h6 := v6 g.1.2
  have hs : gt V.1.rows := ⟨_, rfl, h6.2, h6.1⟩
  refine ⟨.inr (ce ⟨rfl, hs⟩), fun g2 => absurd rfl g2.1, fun g2 => ?_, fun g2 => ⟨fun _ => ?_, fun _ => ?_⟩, trivial⟩
  ·exact t1 g.1.2 (by rw [<- aW]; exact g2.2)
  ·exact t2 g.1.2 (by rw [<- aW]; exact g2.2)
  ·exact t2 g.1.2 (by rw [<- aW]; exact g2.2)
 ·have h6 := v6 g.1.2
  have hs : gt V.1.rows := ⟨_, rfl, h6.2, h6.1⟩
  refine ⟨.inr (ce ⟨rfl, hs⟩), fun g2 => absurd rfl g2.1, fun g2 => ?_, fun g2 => ?_, trivial⟩
  ·exact t1 g.1.2 (by rw [<- aW]; exact g2.2)
  ·exact t2 g.1.2 (by rw [<- aW]; exact g2.2)
theorem px : ∀ N, gD N
 | 0 => by
  intro ag al hl x hx hp
  unfold kf at hl
  split at hl
  ·simp only [Option.some.injEq] at hl; subst hl
   simp only [List.mem_cons, List.not_mem_nil, or_false] at hx
   rcases hx with rfl | rfl
   ·obtain ⟨⟨⟨p, k, _, hd, _⟩, _⟩, _⟩ := hp
    exact absurd hd (by omega)
   ·obtain ⟨⟨⟨p, k, _, hd, _⟩, _⟩, _⟩ := hp
    exact absurd hd (by omega)
  ·exact absurd hl (by simp)
 | N + 1 => by
  intro ag al hl x hx hp
  unfold kf at hl
  split at hl
  ·simp only [Option.some.injEq] at hl; subst hl
   simp only [List.mem_cons, List.not_mem_nil, or_false] at hx
   rcases hx with rfl | rfl
   ·obtain ⟨⟨⟨p, k, er, hd, hf⟩, c, rfl, hc⟩, he⟩ := hp
    have := Kb (px N) p k hf hd c hc
    rw [er] at he ⊢
    rw [cP] at he
    rw [aF he] at this
    simp only [cP]
    exact this
   ·obtain ⟨⟨⟨p, k, er, hd, hf⟩, c, rfl, hc⟩, he⟩ := hp
    have := Kb (px N) p k hf hd c hc
    rw [er] at he ⊢
    rw [cP] at he
    rw [be he] at this
    simp only [dz]
    exact this
  ·exact absurd hl (by simp)
theorem oh (x y : Tr) (b : Bool) (l : LP) : cj x.rows y.rows b l = (dH b l x y).2 /\ bl x.rows y.rows = (ew x y).rows := by unfold cj bl; rw [aq, aq]; exact ⟨rfl, rfl⟩
theorem nM (x y : Tr) (b : Bool) (l : LP) : ((dH b l x y).2 ≠ 0 -> dH b l x y = (.nil, 3)) /\ ((dH b l x y).2 = 0 -> dH b l x y = (ew x y, 0)) := by
 unfold dH
 split
 ·exact ⟨fun _ => rfl, fun e => by simp at e⟩
 ·exact ⟨fun e => absurd rfl e, fun _ => rfl⟩
theorem H5 {N : Nat} (h : nc N) (p : LD) (k : Ls) (hf : (Ls.cons p k .nil).fine) (hd : k.deep < N) (c : Tr) (hc : c.good) : Ev C 32 [.pv (.agg (p.row k.rows)), .pv (.sl c.rows)] (dm (EK (p.row k.rows) c.rows) (bL p k.gets c)) := by
 have hr := cz
 have hmx := bN
 have hS : aK C (ru N) := az (am Cs (am Cc (am BO (am B6 (am h ax)))))
 rw [EL]
 obtain ⟨⟨⟨ha, hb⟩, ⟨ht, hu⟩, ⟨hn, hm⟩, hop, k7, k8, k9, k10⟩, hk, _⟩ := id hf
 have hg : an c.rows := ⟨c, rfl, hc⟩
 have sn : bm (p.nl.map ak) := ⟨_, rfl, hn⟩
 have sm : bm (p.ml.map ak) := ⟨_, rfl, hm⟩
 have hln := Ls.len_list k
 have hrl := Ls.rows_len k
 have hcl := rows_len c
 have h6 := cw hc
 refine bh hS (MC N p.o p.a p.b p.n (p.nl.map ak) p.m (p.ml.map ak) p.t.rows p.u.rows k.rows c.rows _) ?_
 conv => zeta
 refine ⟨fun g => ?_, fun n1 => ⟨fun g => ?_, fun n2 => ⟨fun g => ?_, fun n3 => ⟨fun g => ?_, fun n4 => ⟨fun g => ?_, fun n5 => ⟨fun g => ?_, fun n6 => ⟨fun g => ?_, fun n7 => ⟨fun g => ?_, fun n8 => ?_⟩⟩⟩⟩⟩⟩⟩⟩
 all_goals simp only [beq_iff_eq, beq_eq_false_iff_ne, ne_eq] at *
 ·have hV : bL p k.gets c = (c, 0) := by unfold bL; simp [g]
  rw [hV, g]
  exact (bk (r := (c, 0)) rfl).symm
 ·have hV : bL p k.gets c = (p.t, 0) := by unfold bL; rw [if_pos g]
  rw [hV, g]
  exact (bk (r := (p.t, 0)) rfl).symm
 ·have hV : bL p k.gets c = gh c p.a p.b := by unfold bL; rw [if_neg n2, if_pos g]
  rw [hV, g]
  have hb' := bR c p.b
  have ha' := bR c p.a
  refine ⟨?_, fun g2 => ?_, fun g2 => ?_, fun g2 => ?_, trivial⟩
  ·cases e1 : aG c.rows p.b
   ·cases e2 : aG c.rows p.a
    ·exact .inr (.inl ⟨⟨hg, rfl⟩, rfl⟩)
    ·exact .inr (.inr ⟨⟨hg, rfl⟩, rfl⟩)
   ·exact .inl ⟨hg, rfl⟩
  ·have e : gh c p.a p.b = (.nil, 3) := if_pos (by rw [<- hb', g2.2])
   rw [e]
   exact (aF (r := (Tr.nil, 3)) (by decide)).symm
  ·have e : gh c p.a p.b = (c, 0) := by unfold gh; rw [if_neg (by rw [<- hb', g2.1.2]; simp), if_neg (by rw [<- ha', g2.2]; simp)]
   rw [e, g2.2]
   exact (bk (r := (c, 0)) rfl).symm
  ·have e : gh c p.a p.b = (Tr.of (bH (dB c.list p.a) p.b (bE c p.a)), 0) := by unfold gh; rw [if_neg (by rw [<- hb', g2.1.2]; simp), if_pos (by rw [<- ha', g2.2])]
   rw [e, g2.2, fH]
   exact (be (r := (Tr.of (bH (dB c.list p.a) p.b (bE c p.a)), 0)) rfl).symm
 ·have hV : bL p k.gets c = fD c p.a := by unfold bL; rw [if_neg n2, if_neg n3, if_pos g]
  rw [hV, g]
  obtain ⟨o1, o2⟩ := eA c p.a
  have o3 : (fD c p.a).2 ≠ 0 -> (fD c p.a).2 = 3 := by
   unfold fD
   split
   ·split
    ·intro e; simp at e
    ·intro _; rfl
   ·intro _; rfl
  refine ⟨ce hg, fun g2 => ?_, fun g2 => ?_, trivial⟩
  ·have e := g2.2
   rw [o1] at e
   rw [aF e, o3 e]
  ·have e := g2.2
   rw [o1] at e
   rw [o2]
   exact (bk e).symm
 ·have hV : bL p k.gets c = mj c p.a := by unfold bL; rw [if_neg n2, if_neg n3, if_neg n4, if_pos g]
  rw [hV, g]
  exact (be (r := mj c p.a) rfl).symm
 ·have hV : bL p k.gets c = (dR p.n (p.nl.map ak) c, 0) := by unfold bL; rw [if_neg n2, if_neg n3, if_neg n4, if_neg n5, if_pos g]
  rw [hV, g, dr]
  exact ⟨⟨hg, sn⟩, (be (r := (dR p.n (p.nl.map ak) c, 0)) rfl).symm⟩
 ·obtain ⟨e0, e1, hl, hkr, l0, l1, hgs, _, _⟩ := jk hd hk (k7 g)
  have hV : bL p k.gets c = cM (bx e0.1 e0.2) (bx e1.1 e1.2) p.n (p.nl.map ak) p.m (p.ml.map ak) c := by unfold bL; rw [if_neg n2, if_neg n3, if_neg n4, if_neg n5, if_neg n6, if_pos g, hgs]
  have hF : bL p k.gets c = if (bx e0.1 e0.2 (dR p.n (p.nl.map ak) c)).2 ≠ 0 then (.nil, (bx e0.1 e0.2 (dR p.n (p.nl.map ak) c)).2) else if (bx e1.1 e1.2 (bD p.n (p.nl.map ak) c)).2 ≠ 0 then (.nil, (bx e1.1 e1.2 (bD p.n (p.nl.map ak) c)).2) else dH p.m (p.ml.map ak) (bx e0.1 e0.2 (dR p.n (p.nl.map ak) c)).1 (bx e1.1 e1.2 (bD p.n (p.nl.map ak) c)).1 := hV
  have hw : (p.o == 3 && aG c.rows p.a || p.o == 5 || p.o == 6 || p.o == 8) = false := by simp [g]
  rw [hw]
  generalize bL p k.gets c = F at *
  have gi := eI hc p.n (p.nl.map ak)
  have go := di hc p.n (p.nl.map ak)
  have f0 : (Ls.cons e0.1 e0.2 .nil).fine := Ls.mem_fine hk (by rw [hl]; simp)
  have f1 : (Ls.cons e1.1 e1.2 .nil).fine := Ls.mem_fine hk (by rw [hl]; simp)
  have k0 : lC (bx e0.1 e0.2 (dR p.n (p.nl.map ak) c)) := cl (ea e0.1 e0.2 f0 _ gi)
  have k1 : lC (bx e1.1 e1.2 (bD p.n (p.nl.map ak) c)) := cl (ea e1.1 e1.2 f1 _ go)
  have E0 := cP e0.1 e0.2 (dR p.n (p.nl.map ak) c)
  have E1 := cP e1.1 e1.2 (bD p.n (p.nl.map ak) c)
  have T0 := dz e0.1 e0.2 (dR p.n (p.nl.map ak) c)
  have T1 := dz e1.1 e1.2 (bD p.n (p.nl.map ak) c)
  unfold LD.row at E0 E1 T0 T1
  have gI : an (cm p.n (p.nl.map ak) c.rows) := ⟨_, dr _ _ _, gi⟩
  have gO : an (aw p.n (p.nl.map ak) c.rows) := ⟨_, ct _ _ _, go⟩
  rw [hkr]
  refine ⟨⟨hg, sn⟩, _, _, _, _, _, _, _, _, _, _, rfl, ce ⟨l0, gI⟩, fun g1 => ⟨fun _ => ?_, fun g2 => nz g1.2 g2⟩, fun g1 => ⟨_, _, _, _, _, _, _, _, _, _, rfl, ce ⟨l1, gO⟩, fun g2 => ⟨fun _ => ?_, fun g3 => nz g2.2 g3⟩, fun g2 => ?_, trivial⟩, trivial⟩
  ·have g1 := g1.2
   rw [dr, E0] at g1 ⊢
   rw [if_pos g1] at hF
   rw [hF]
   exact (aF (r := (Tr.nil, _)) g1).symm
  ·have g1 := g1.2
   have g2 := g2.2
   rw [dr, E0] at g1
   rw [ct, E1] at g2 ⊢
   rw [if_neg (not_not_intro g1), if_pos g2] at hF
   rw [hF]
   exact (aF (r := (Tr.nil, _)) g2).symm
  ·have g1 := g1.2
   have g2 := g2.2
   rw [dr, E0] at g1
   rw [ct, E1] at g2
   rw [dr p.n _ c, T0, ct p.n _ c, T1]
   rw [if_neg (not_not_intro g1), if_neg (not_not_intro g2)] at hF
   have gx := k0.2 g1
   have gy := k1.2 g2
   generalize (bx e0.1 e0.2 (dR p.n (p.nl.map ak) c)).1 = x at *
   generalize (bx e1.1 e1.2 (bD p.n (p.nl.map ak) c)).1 = y at *
   rw [(oh x y _ _).1, (oh x y p.m (p.ml.map ak)).2]
   refine ⟨ce ⟨⟨x, rfl, gx⟩, ⟨y, rfl, gy⟩, sm⟩, fun g3 => ?_, fun g3 => ?_, trivial⟩
   ·rw [hF, (nM x y _ _).1 g3.2]; rfl
   ·rw [hF, (nM x y _ _).2 g3.2]; rfl
 ·obtain ⟨e0, hl, hkr, l0, hgs, _, _⟩ := lk hd hk (k8 g)
  have hV : bL p k.gets c = (Tr.of (bC (fun e => bx e0.1 e0.2 e.2) c.list).1, (bC (fun e => bx e0.1 e0.2 e.2) c.list).2) := by unfold bL; rw [if_neg n2, if_neg n3, if_neg n4, if_neg n5, if_neg n6, if_neg n7, if_pos g, hgs]
  have hw : (p.o == 3 && aG c.rows p.a || p.o == 5 || p.o == 6 || p.o == 8) = true := by simp [g]
  rw [hw, hV, hkr]
  refine aJ hS (by kernel_rfl) 1000 (fun q st => ∃ (i : Nat) (pre : List Edge), st = FR c.rows i p.o p.a p.b p.n (p.nl.map ak) p.m (p.ml.map ak) p.t.rows p.u.rows [e0.1.row e0.2.rows] (pre.map aE) /\ i <= c.list.length /\ pre.length = i /\ jU (fun e => bx e0.1 e0.2 e.2) c.list i pre /\ q = c.list.length - i) ?_ (n := c.list.length) ⟨0, [], rfl, by omega, rfl, nZ _ _, by omega⟩
  rintro q st ⟨i, pre, rfl, hi, hp, hI, rfl⟩
  refine cr (K7 ..) ?_
  conv => zeta
  rw [hcl]
  refine ⟨fun g1 => ?_, fun g1 => ?_⟩
  ·simp only [decide_eq_true_eq] at g1
   have hi' : i < c.list.length := by omega
   have hkd := dA hc (List.getElem_mem hi')
   have E0 := cP e0.1 e0.2 c.list[i].2
   have T0 := dz e0.1 e0.2 c.list[i].2
   unfold LD.row at E0 T0
   refine ⟨_, _, _, _, _, _, _, _, _, _, rfl, by omega, _, _, row_get c hi', ?_⟩
   rw [E0, T0]
   refine ⟨ce ⟨l0, _, rfl, hkd⟩, fun g2 => ⟨fun _ => ⟨.auto, ?_⟩, fun g3 => nz g2.2 g3⟩, fun g2 => ⟨by omega, _, _, row_get c hi', ⟨by rw [List.length_map]; omega, by rw [List.length_map]; omega⟩, ?_⟩, trivial⟩
   ·rw [i6 hi' hI g2.2]
    exact (aF (r := (Tr.of [], _)) g2.2).symm
   ·refine ⟨c.list.length - (i + 1), by omega, i + 1, pre ++ [(c.list[i].1, (bx e0.1 e0.2 c.list[i].2).1)], ?_, by omega, by rw [List.length_append, hp]; rfl, gS hi' hI g2.2, rfl⟩
    rw [dJ (by omega), List.map_append]; rfl
  ·simp only [decide_eq_false_iff_not] at g1
   have : i = c.list.length := by omega
   subst this
   refine ⟨.auto, ?_⟩
   rw [i5 hI, be rfl, cG]
 ·have g9 : p.o = 9 := by omega
  have hV : bL p k.gets c = eu k.gets c := by unfold bL; rw [if_neg n2, if_neg n3, if_neg n4, if_neg n5, if_neg n6, if_neg n7, if_neg n8, if_pos g9]
  have hw : (p.o == 3 && aG c.rows p.a || p.o == 5 || p.o == 6 || p.o == 8) = false := by simp [g9]
  rw [hw, hV]
  refine aJ hS (by kernel_rfl) 1000 (fun q st => ∃ (i : Nat) (d : Tr), st = FS d.rows i p.o p.a p.b p.n (p.nl.map ak) p.m (p.ml.map ak) p.t.rows p.u.rows k.rows /\ i <= k.len /\ d.good /\ eu k.gets c = eu (k.gets.drop i) d /\ q = k.len - i) ?_ (n := k.len) ⟨0, c, rfl, by omega, hc, rfl, rfl⟩
  rintro q st ⟨i, d, rfl, hi, hdg, he, rfl⟩
  refine cr (K8 ..) ?_
  conv => zeta
  rw [hrl]
  refine ⟨fun g1 => ?_, fun g1 => ?_⟩
  ·simp only [decide_eq_true_eq] at g1
   have hi' : i < k.list.length := by omega
   have hmem := List.getElem_mem hi'
   have E0 := cP k.list[i].1 k.list[i].2 d
   have T0 := dz k.list[i].1 k.list[i].2 d
   have ok := cl (ea k.list[i].1 k.list[i].2 (Ls.mem_fine hk hmem) d hdg)
   change lC (bx k.list[i].1 k.list[i].2 d) at ok
   rw [sk k hi', jb] at he
   refine ⟨by omega, _, _, _, _, _, _, _, _, _, _, Ls.row_get k hi', ?_⟩
   unfold LD.row at E0 T0
   rw [E0, T0]
   refine ⟨ce ⟨ev hd hk hmem, d, rfl, hdg⟩, fun g2 => ⟨fun _ => ⟨.auto, ?_⟩, fun g3 => nz g2.2 g3⟩, fun g2 => ?_, trivial⟩
   ·rw [if_pos g2.2] at he
    rw [he]
    exact (aF (r := (Tr.nil, _)) g2.2).symm
   ·rw [if_neg (not_not_intro g2.2)] at he
    exact ⟨k.len - (i + 1), by omega, i + 1, _, by rw [dJ (by omega)]; rfl, by omega, ok.2 g2.2, he, rfl⟩
  ·simp only [decide_eq_false_iff_not] at g1
   have hi' : i = k.list.length := by omega
   have hgl : k.gets.length = k.list.length := by rw [fh, List.length_map]
   rw [List.drop_of_length_le (by omega)] at he
   refine ⟨.auto, ?_⟩
   rw [he]
   exact (bk (r := (d, 0)) rfl).symm
theorem Lk {N : Nat} (h : nc N) : ∀ ag al, Hb (N + 1) ag = some al -> ∀ a ∈ al, a.1 -> Ev C 32 ag a.2 := by
 intro ag al hl x hx hp
 unfold Hb at hl
 split at hl
 ·simp only [Option.some.injEq] at hl; subst hl
  simp only [List.mem_cons, List.not_mem_nil, or_false] at hx
  rcases hx with rfl | rfl | rfl
  ·obtain ⟨⟨⟨p, k, er, hd, hf⟩, c, rfl, hc⟩, he⟩ := hp
   have := H5 h p k hf (by rw [Ls.one_deep] at hd; omega) c hc
   rw [er] at he ⊢
   rw [fY] at he
   rw [aF he] at this
   simp only [fY]
   exact this
  ·obtain ⟨⟨⟨⟨p, k, er, hd, hf⟩, c, rfl, hc⟩, he⟩, hw⟩ := hp
   have := H5 h p k hf (by rw [Ls.one_deep] at hd; omega) c hc
   rw [er] at he hw ⊢
   rw [fY] at he
   rw [hw, be he] at this
   simp only [lz]
   exact this
  ·obtain ⟨⟨⟨⟨p, k, er, hd, hf⟩, c, rfl, hc⟩, he⟩, hw⟩ := hp
   have := H5 h p k hf (by rw [Ls.one_deep] at hd; omega) c hc
   rw [er] at he hw ⊢
   rw [fY] at he
   rw [hw, bk he] at this
   simp only [lz]
   exact this
 ·exact absurd hl (by simp)
theorem FT {N : Nat} (h : nc N) (p : LD) (k : Ls) (hf : (Ls.cons p k .nil).fine) (hd : (Ls.cons p k .nil).deep < N + 1) (c : Tr) (hc : c.good) : Ev C 13 [.pv (.agg (p.row k.rows)), .pv (.sl c.rows)] (dm false (bx p k c)) := by
 have hS : aK C (Fg (N + 1)) := az (am (Lk h) (am CV ax))
 have v6 := ea p k hf c hc
 have hL : aC (N + 1) (p.row k.rows) := ⟨p, k, rfl, hd, hf⟩
 have hg : an c.rows := ⟨c, rfl, hc⟩
 have E := fY p k c
 have T := lz p k c
 have hR : bx p k c = cH (bL p k.gets c) := rfl
 rw [hR]
 generalize bL p k.gets c = V at *
 have t1 : V.2 = 0 -> (cq V.1 none 1 0).2 ≠ 0 -> (([TV.pv (PV.sl []), TV.pv (PV.int IntKind.i64 (bf V.1.rows 1 0))], []) : RT) = dm false (cH V) := fun h1 h2 => by
  rw [ji h1 h2, aW]
  exact (aF (r := (Tr.nil, _)) h2).symm
 have t2 : V.2 = 0 -> (cq V.1 none 1 0).2 = 0 -> (([TV.pv (PV.sl V.1.rows), TV.pv (PV.int IntKind.i64 0)], []) : RT) = dm false (cH V) := fun h1 h2 => by
  rw [gV h1 h2]
  exact (bk (r := (V.1, 0)) rfl).symm
 refine bh hS (K9 ..) ?_
 conv => zeta
 have E' : mn (bU p.o p.a p.b p.n (p.nl.map ak) p.m (p.ml.map ak) p.t.rows p.u.rows k.rows) c.rows = V.2 := E
 have T' : lE (bU p.o p.a p.b p.n (p.nl.map ak) p.m (p.ml.map ak) p.t.rows p.u.rows k.rows) c.rows = V.1.rows := T
 rw [E', T']
 refine ⟨rK ⟨hL, hg⟩, fun g => ⟨.inl ⟨g.2, rfl⟩, fun _ => ?_, fun g2 => absurd g2.1.1 g.2, fun g2 => absurd g2.1.1 g.2, trivial⟩, fun g => ?_, fun g => ?_, trivial⟩
 ·rw [jj g.2]
  exact (aF (r := (Tr.nil, _)) g.2).symm
 all_goals
  have h6 := v6 g.1.2
  have hs : gt V.1.rows := ⟨_, rfl, h6.2, h6.1⟩
  refine ⟨.inr (ce ⟨rfl, hs⟩), fun g2 => absurd rfl g2.1, fun g2 => ?_, fun g2 => ?_, trivial⟩
  ·exact t1 g.1.2 (by rw [<- aW]; exact g2.2)
  ·exact t2 g.1.2 (by rw [<- aW]; exact g2.2)
theorem kD : ∀ N, nc N
 | 0 => by
  intro ag al hl x hx hp
  unfold nT at hl
  split at hl
  ·simp only [Option.some.injEq] at hl; subst hl
   simp only [List.mem_cons, List.not_mem_nil, or_false] at hx
   rcases hx with rfl | rfl
   ·obtain ⟨⟨⟨p, k, _, hd, _⟩, _⟩, _⟩ := hp
    exact absurd hd (by omega)
   ·obtain ⟨⟨⟨p, k, _, hd, _⟩, _⟩, _⟩ := hp
    exact absurd hd (by omega)
  ·exact absurd hl (by simp)
 | N + 1 => by
  intro ag al hl x hx hp
  unfold nT at hl
  split at hl
  ·simp only [Option.some.injEq] at hl; subst hl
   simp only [List.mem_cons, List.not_mem_nil, or_false] at hx
   rcases hx with rfl | rfl
   ·obtain ⟨⟨⟨p, k, er, hd, hf⟩, c, rfl, hc⟩, he⟩ := hp
    have := FT (kD N) p k hf hd c hc
    rw [er] at he ⊢
    rw [cP] at he
    rw [aF he] at this
    simp only [cP]
    exact this
   ·obtain ⟨⟨⟨p, k, er, hd, hf⟩, c, rfl, hc⟩, he⟩ := hp
    have := FT (kD N) p k hf hd c hc
    rw [er] at he ⊢
    rw [cP] at he
    rw [bk he] at this
    simp only [dz]
    exact this
  ·exact absurd hl (by simp)
end Go.Proofs.YtcoikmicjbppmaaGreat.Vm
