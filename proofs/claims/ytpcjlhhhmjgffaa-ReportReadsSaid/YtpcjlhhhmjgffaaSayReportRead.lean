/-
  Paths' texts, read, in the machine.
-/
import Derived.Test.YtpcjlhhhmjgffaaSayReportName
namespace Go.Proofs.Ytpcjlhhhmjgffaa.Vm
open Go Go.RowKit
set_option linter.unusedVariables false
set_option linter.unusedSimpArgs false
set_option maxRecDepth 100000

noncomputable def nmV (s : List UInt8) : List UInt8 × Nat := Classical.epsilon fun p => Ev C 45 [.pv (.str s)] (nmRes p) ∧ NmP s p

theorem nmV_spec (s : List UInt8) (hs : s.length ≤ 5000) : Ev C 45 [.pv (.str s)] (nmRes (nmV s)) ∧ NmP s (nmV s) := by
  obtain ⟨r, h1, p, rfl, h2⟩ := nm_ex s hs
  exact Classical.epsilon_spec (p := fun p => Ev C 45 [.pv (.str s)] (nmRes p) ∧ NmP s p) ⟨p, h1, h2⟩

noncomputable def nmO (s : List UInt8) : List UInt8 := (nmV s).1

noncomputable def nmK (s : List UInt8) : Int := ((nmV s).2 : Nat)

noncomputable def g_nm : List TV → Option Alts
  | [.pv (.str s)] => one (s.length ≤ 5000) ([.pv (.str (nmO s)), .pv (.int .i64 (nmK s))], [])
  | _ => none

theorem nmS_ok : ∀ ag al, g_nm ag = some al → ∀ a ∈ al, a.1 → Ev C 45 ag a.2 := by
  intro ag al hl x hx hp
  unfold g_nm at hl
  split at hl
  · have e := one_mem hl hx; subst e
    exact (nmV_spec _ hp).1
  · exact absurd hl (by simp)

noncomputable def rnV (s : List UInt8) (a : Nat) : List UInt8 × Nat × Bool := Classical.epsilon fun p => Ev C 46 [.pv (.str s), .pv (.int .i64 a)] (rnRes p) ∧ RnP s a p

theorem rnV_spec (s : List UInt8) (a : Nat) (hs : s.length ≤ 5000) (ha : a ≤ 10000) : Ev C 46 [.pv (.str s), .pv (.int .i64 a)] (rnRes (rnV s a)) ∧ RnP s a (rnV s a) := by
  obtain ⟨r, h1, p, rfl, h2⟩ := rn_ex s a hs ha
  exact Classical.epsilon_spec (p := fun p => Ev C 46 [.pv (.str s), .pv (.int .i64 a)] (rnRes p) ∧ RnP s a p) ⟨p, h1, h2⟩

noncomputable def rnO (s : List UInt8) (a : Int) : List UInt8 := (rnV s a.toNat).1

noncomputable def rnK (s : List UInt8) (a : Int) : Int := ((rnV s a.toNat).2.1 : Nat)

noncomputable def rnB (s : List UInt8) (a : Int) : Bool := (rnV s a.toNat).2.2

noncomputable def g_rn : List TV → Option Alts
  | [.pv (.str s), .pv (.int .i64 a)] => one (s.length ≤ 5000 ∧ 0 ≤ a ∧ a ≤ 10000) ([.pv (.str (rnO s a)), .pv (.int .i64 (rnK s a)), .pv (.bool (rnB s a))], [])
  | _ => none

theorem rnS_ok : ∀ ag al, g_rn ag = some al → ∀ a ∈ al, a.1 → Ev C 46 ag a.2 := by
  intro ag al hl x hx hp
  unfold g_rn at hl
  split at hl
  · have e := one_mem hl hx; subst e
    rename_i s a
    have h := (rnV_spec s a.toNat hp.1 (by omega)).1
    have e : ((a.toNat : Nat) : Int) = a := by omega
    rw [e] at h
    exact h
  · exact absurd hl (by simp)

noncomputable def S_pp : Specs := specL [(44, g_pre), (45, g_nm), (26, g_path)]

theorem pp_w (s : List UInt8) (Q : List TV × List TV → Prop) : (wFun C S_pp 32 [.pv (.str s)] Q) (H.b H.auto (H.b H.auto H.auto)) = ((decide ((↑(List.length s) : Int) > (4000 : Int)) = true → Q ([TV.pv (PV.sl []), TV.pv (PV.int IntKind.i64 (5 : Int))], [])) ∧ (decide ((↑(List.length s) : Int) > (4000 : Int)) = false → ((s == [(47 : UInt8)]) = true → Q ([TV.pv (PV.sl []), TV.pv (PV.int IntKind.i64 (0 : Int))], [])) ∧ ((s == [(47 : UInt8)]) = false → LoopAt C (32 : FuncId) (CP.dn (CP.dn (CP.dn (CP.dn (CP.dn (CP.dn (CP.dn CP.top (1 : Nat)) (1 : Nat)) (1 : Nat)) (1 : Nat)) (0 : Nat)) (1 : Nat)) (0 : Nat)) (St.mk [((0 : Nat), AV.pv (PV.str s)), ((4 : Nat), AV.own (8 : Nat)), ((5 : Nat), AV.pv (PV.str s))] [((8 : Nat), Obj.buf (1 : Nat) [])]) (exK (blockK (0 : Nat) (seqK (wAt C S_pp (32 : FuncId) (99995 : Nat) (CP.dn (CP.dn (CP.dn (CP.dn (CP.dn CP.top (1 : Nat)) (1 : Nat)) (1 : Nat)) (1 : Nat)) (1 : Nat))) (retK C (32 : FuncId) [TV.pv (PV.str s)] Q))))))) := by kernel_rfl

def pp_c0 : CP := (CP.dn (CP.dn (CP.dn (CP.dn (CP.dn (CP.dn (CP.dn CP.top (1 : Nat)) (1 : Nat)) (1 : Nat)) (1 : Nat)) (0 : Nat)) (1 : Nat)) (0 : Nat))

def pp_h0 (t0 : List UInt8) (t5 : List UInt8) (o8 : List (List PV)) : St := (St.mk [((0 : Nat), AV.pv (PV.str t0)), ((4 : Nat), AV.own (8 : Nat)), ((5 : Nat), AV.pv (PV.str t5))] [((8 : Nat), Obj.buf (1 : Nat) o8)])

theorem pp_l0 (s : List UInt8) (t0 : List UInt8) (t5 : List UInt8) (o8 : List (List PV))  (J0 : St → Prop) (Q : List TV × List TV → Prop) : (wAt C S_pp 32 1000 (pp_c0.dn 0) (pp_h0 t0 t5 o8) (loopK C 32 pp_c0 J0 (exK (blockK (0 : Nat) (seqK (wAt C S_pp (32 : FuncId) (99995 : Nat) (CP.dn (CP.dn (CP.dn (CP.dn (CP.dn CP.top (1 : Nat)) (1 : Nat)) (1 : Nat)) (1 : Nat)) (1 : Nat))) (retK C (32 : FuncId) [TV.pv (PV.str s)] Q)))))) (H.b (H.b H.auto (H.s (H.b H.auto (H.s (H.n (1 : Nat) (H.s H.auto)))))) H.auto) = (((!t5 == []) = true → (List.length t5 ≤ room ∧ (2 : Nat) ≤ room) ∧ ((!preB t5 [(47 : UInt8), (34 : UInt8)]) = true → ∃ (h : H), Q ([TV.pv (PV.sl []), TV.pv (PV.int IntKind.i64 (10 : Int))], [])) ∧ ((!preB t5 [(47 : UInt8), (34 : UInt8)]) = false → ((0 : Int) ≤ (1 : Int) ∧ (1 : Int) ≤ Int.ofNat (List.length t5) ∧ Int.ofNat (List.length t5) ≤ Int.ofNat (List.length t5)) ∧ List.length (List.take (Int.toNat (Int.ofNat (List.length t5)) - (1 : Nat)) (List.drop (1 : Nat) t5)) ≤ (5000 : Nat) ∧ ((nmK (List.take (Int.toNat (Int.ofNat (List.length t5)) - (1 : Nat)) (List.drop (1 : Nat) t5)) == (0 : Int)) = true → ∃ (h : H), Q ([TV.pv (PV.sl []), TV.pv (PV.int IntKind.i64 (10 : Int))], [])) ∧ ((nmK (List.take (Int.toNat (Int.ofNat (List.length t5)) - (1 : Nat)) (List.drop (1 : Nat) t5)) == (0 : Int)) = false → ((List.length o8 + (1 : Nat)) * (16 : Nat) ≤ room ∧ List.length o8 + (1 : Nat) ≤ maxInt) ∧ ((0 : Int) ≤ IntKind.wrap IntKind.i64 ((1 : Int) + nmK (List.take (Int.toNat (Int.ofNat (List.length t5)) - (1 : Nat)) (List.drop (1 : Nat) t5))) ∧ IntKind.wrap IntKind.i64 ((1 : Int) + nmK (List.take (Int.toNat (Int.ofNat (List.length t5)) - (1 : Nat)) (List.drop (1 : Nat) t5))) ≤ Int.ofNat (List.length t5) ∧ Int.ofNat (List.length t5) ≤ Int.ofNat (List.length t5)) ∧ J0 (St.mk [((0 : Nat), AV.pv (PV.str t0)), ((4 : Nat), AV.own (8 : Nat)), ((5 : Nat), AV.pv (PV.str (List.take (Int.toNat (Int.ofNat (List.length t5)) - Int.toNat (IntKind.wrap IntKind.i64 ((1 : Int) + nmK (List.take (Int.toNat (Int.ofNat (List.length t5)) - (1 : Nat)) (List.drop (1 : Nat) t5))))) (List.drop (Int.toNat (IntKind.wrap IntKind.i64 ((1 : Int) + nmK (List.take (Int.toNat (Int.ofNat (List.length t5)) - (1 : Nat)) (List.drop (1 : Nat) t5))))) t5))))] [((8 : Nat), Obj.buf (1 : Nat) (o8 ++ [[PV.str (nmO (List.take (Int.toNat (Int.ofNat (List.length t5)) - (1 : Nat)) (List.drop (1 : Nat) t5)))]]))])))) ∧ ((!t5 == []) = false → exK (blockK (0 : Nat) (seqK (wAt C S_pp (32 : FuncId) (99995 : Nat) (CP.dn (CP.dn (CP.dn (CP.dn (CP.dn CP.top (1 : Nat)) (1 : Nat)) (1 : Nat)) (1 : Nat)) (1 : Nat))) (retK C (32 : FuncId) [TV.pv (PV.str s)] Q))) (Ex.exit (0 : Nat)) (St.mk [((15 : Nat), AV.pv (PV.bool false)), ((14 : Nat), AV.pv (PV.str t5)), ((0 : Nat), AV.pv (PV.str t0)), ((4 : Nat), AV.own (8 : Nat)), ((5 : Nat), AV.pv (PV.str t5))] [((8 : Nat), Obj.buf (1 : Nat) o8)]))) := by kernel_rfl

def pp_s1 (t14 : List UInt8) (t0 : List UInt8) (t5 : List UInt8) (o8 : List (List PV)) : St := (St.mk [((15 : Nat), AV.pv (PV.bool false)), ((14 : Nat), AV.pv (PV.str t14)), ((0 : Nat), AV.pv (PV.str t0)), ((4 : Nat), AV.own (8 : Nat)), ((5 : Nat), AV.pv (PV.str t5))] [((8 : Nat), Obj.buf (1 : Nat) o8)])

theorem pp_x1 (s : List UInt8) (t14 : List UInt8) (t0 : List UInt8) (t5 : List UInt8) (o8 : List (List PV))  (Q : List TV × List TV → Prop) : (fun h => blockK (0 : Nat) (seqK (wAt C S_pp (32 : FuncId) (99995 : Nat) (CP.dn (CP.dn (CP.dn (CP.dn (CP.dn CP.top (1 : Nat)) (1 : Nat)) (1 : Nat)) (1 : Nat)) (1 : Nat))) (retK C (32 : FuncId) [TV.pv (PV.str s)] Q)) h (Ex.exit (0 : Nat)) (pp_s1 t14 t0 t5 o8)) (H.n (1 : Nat) (H.b H.auto (H.s (H.s H.auto)))) = ((∃ (l : List (List UInt8)), o8 = List.map strRow l ∧ List.length (pathF l) ≤ (800000 : Nat)) ∧ ((!pathF (unstr o8) == t0) = true → Q ([TV.pv (PV.sl []), TV.pv (PV.int IntKind.i64 (10 : Int))], [])) ∧ ((!pathF (unstr o8) == t0) = false → (((0 : Nat) + List.length o8) * (16 : Nat) ≤ room ∧ (0 : Nat) + List.length o8 ≤ maxInt) ∧ rowOk (1 : Nat) o8 = true ∧ Q ([TV.own (1 : Nat) o8, TV.pv (PV.int IntKind.i64 (0 : Int))], []))) := by kernel_rfl

noncomputable def S_rpp : Specs := specL [(46, g_rn), (25, g_path)]

theorem rpp_w (s : List UInt8) (Q : List TV × List TV → Prop) : (wFun C S_rpp 34 [.pv (.str s)] Q) (H.b H.auto (H.b H.auto H.auto)) = ((decide ((↑(List.length s) : Int) > (4000 : Int)) = true → Q ([TV.pv (PV.sl []), TV.pv (PV.int IntKind.i64 (5 : Int))], [])) ∧ (decide ((↑(List.length s) : Int) > (4000 : Int)) = false → ((s == [(47 : UInt8)]) = true → Q ([TV.pv (PV.sl []), TV.pv (PV.int IntKind.i64 (0 : Int))], [])) ∧ ((s == [(47 : UInt8)]) = false → LoopAt C (34 : FuncId) (CP.dn (CP.dn (CP.dn (CP.dn (CP.dn (CP.dn (CP.dn CP.top (1 : Nat)) (1 : Nat)) (1 : Nat)) (1 : Nat)) (1 : Nat)) (0 : Nat)) (0 : Nat)) (St.mk [((0 : Nat), AV.pv (PV.str s)), ((4 : Nat), AV.own (8 : Nat)), ((5 : Nat), AV.pv (PV.int IntKind.i64 (0 : Int)))] [((8 : Nat), Obj.buf (1 : Nat) [])]) (exK (blockK (0 : Nat) (seqK (wAt C S_rpp (34 : FuncId) (99994 : Nat) (CP.dn (CP.dn (CP.dn (CP.dn (CP.dn (CP.dn CP.top (1 : Nat)) (1 : Nat)) (1 : Nat)) (1 : Nat)) (1 : Nat)) (1 : Nat))) (retK C (34 : FuncId) [TV.pv (PV.str s)] Q))))))) := by kernel_rfl

def rpp_c0 : CP := (CP.dn (CP.dn (CP.dn (CP.dn (CP.dn (CP.dn (CP.dn CP.top (1 : Nat)) (1 : Nat)) (1 : Nat)) (1 : Nat)) (1 : Nat)) (0 : Nat)) (0 : Nat))

def rpp_h0 (t0 : List UInt8) (t5 : Int) (o8 : List (List PV)) : St := (St.mk [((0 : Nat), AV.pv (PV.str t0)), ((4 : Nat), AV.own (8 : Nat)), ((5 : Nat), AV.pv (PV.int IntKind.i64 t5))] [((8 : Nat), Obj.buf (1 : Nat) o8)])

theorem rpp_l0 (s : List UInt8) (t0 : List UInt8) (t5 : Int) (o8 : List (List PV))  (J0 : St → Prop) (Q : List TV × List TV → Prop) : (wAt C S_rpp 34 1000 (rpp_c0.dn 0) (rpp_h0 t0 t5 o8) (loopK C 34 rpp_c0 J0 (exK (blockK (0 : Nat) (seqK (wAt C S_rpp (34 : FuncId) (99994 : Nat) (CP.dn (CP.dn (CP.dn (CP.dn (CP.dn (CP.dn CP.top (1 : Nat)) (1 : Nat)) (1 : Nat)) (1 : Nat)) (1 : Nat)) (1 : Nat))) (retK C (34 : FuncId) [TV.pv (PV.str s)] Q)))))) (H.b (H.n (2 : Nat) (H.s (H.s (H.n (2 : Nat) (H.b (H.n (3 : Nat) (H.s (H.s (H.n (2 : Nat) (H.b (H.b H.auto (H.s H.auto)) H.auto))))) H.auto))))) H.auto) = ((decide (IntKind.wrap IntKind.i64 (t5 + (1 : Int)) < (↑(List.length t0) : Int)) = true → (0 : Int) ≤ t5 ∧ ∃ (c : UInt8), t0[Int.toNat t5]? = some c ∧ (((↑(UInt8.toNat c) : Int) == (47 : Int)) = true → (0 : Int) ≤ IntKind.wrap IntKind.i64 (t5 + (1 : Int)) ∧ ∃ (c_1 : UInt8), t0[Int.toNat (IntKind.wrap IntKind.i64 (t5 + (1 : Int)))]? = some c_1 ∧ (((↑(UInt8.toNat c_1) : Int) == (34 : Int)) = true → (List.length t0 ≤ (5000 : Nat) ∧ (0 : Int) ≤ IntKind.wrap IntKind.i64 (t5 + (2 : Int)) ∧ IntKind.wrap IntKind.i64 (t5 + (2 : Int)) ≤ (10000 : Int)) ∧ ((!rnB t0 (IntKind.wrap IntKind.i64 (t5 + (2 : Int)))) = true → ∃ (h : H), Q ([TV.pv (PV.sl []), TV.pv (PV.int IntKind.i64 (10 : Int))], [])) ∧ ((!rnB t0 (IntKind.wrap IntKind.i64 (t5 + (2 : Int)))) = false → ((List.length o8 + (1 : Nat)) * (16 : Nat) ≤ room ∧ List.length o8 + (1 : Nat) ≤ maxInt) ∧ J0 (St.mk [((0 : Nat), AV.pv (PV.str t0)), ((4 : Nat), AV.own (8 : Nat)), ((5 : Nat), AV.pv (PV.int IntKind.i64 (rnK t0 (IntKind.wrap IntKind.i64 (t5 + (2 : Int))))))] [((8 : Nat), Obj.buf (1 : Nat) (o8 ++ [[PV.str (rnO t0 (IntKind.wrap IntKind.i64 (t5 + (2 : Int))))]]))]))) ∧ (((↑(UInt8.toNat c_1) : Int) == (34 : Int)) = false → exK (blockK (0 : Nat) (seqK (wAt C S_rpp (34 : FuncId) (99994 : Nat) (CP.dn (CP.dn (CP.dn (CP.dn (CP.dn (CP.dn CP.top (1 : Nat)) (1 : Nat)) (1 : Nat)) (1 : Nat)) (1 : Nat)) (1 : Nat))) (retK C (34 : FuncId) [TV.pv (PV.str s)] Q))) (Ex.exit (0 : Nat)) (St.mk [((31 : Nat), AV.pv (PV.bool false)), ((30 : Nat), AV.pv (PV.bool ((↑(UInt8.toNat c_1) : Int) == (34 : Int)))), ((29 : Nat), AV.pv (PV.int IntKind.u8 (↑(UInt8.toNat c_1) : Int))), ((28 : Nat), AV.pv (PV.int IntKind.i64 (IntKind.wrap IntKind.i64 (t5 + (1 : Int))))), ((27 : Nat), AV.pv (PV.int IntKind.i64 t5)), ((26 : Nat), AV.pv (PV.str t0)), ((25 : Nat), AV.pv (PV.bool true)), ((24 : Nat), AV.pv (PV.bool ((↑(UInt8.toNat c) : Int) == (47 : Int)))), ((23 : Nat), AV.pv (PV.bool ((↑(UInt8.toNat c) : Int) == (47 : Int)))), ((22 : Nat), AV.pv (PV.int IntKind.u8 (↑(UInt8.toNat c) : Int))), ((21 : Nat), AV.pv (PV.int IntKind.i64 t5)), ((20 : Nat), AV.pv (PV.str t0)), ((19 : Nat), AV.pv (PV.bool true)), ((18 : Nat), AV.pv (PV.bool (decide (IntKind.wrap IntKind.i64 (t5 + (1 : Int)) < (↑(List.length t0) : Int))))), ((17 : Nat), AV.pv (PV.int IntKind.i64 (↑(List.length t0) : Int))), ((16 : Nat), AV.pv (PV.str t0)), ((15 : Nat), AV.pv (PV.int IntKind.i64 (IntKind.wrap IntKind.i64 (t5 + (1 : Int))))), ((14 : Nat), AV.pv (PV.int IntKind.i64 t5)), ((0 : Nat), AV.pv (PV.str t0)), ((4 : Nat), AV.own (8 : Nat)), ((5 : Nat), AV.pv (PV.int IntKind.i64 t5))] [((8 : Nat), Obj.buf (1 : Nat) o8)]))) ∧ (((↑(UInt8.toNat c) : Int) == (47 : Int)) = false → exK (blockK (0 : Nat) (seqK (wAt C S_rpp (34 : FuncId) (99994 : Nat) (CP.dn (CP.dn (CP.dn (CP.dn (CP.dn (CP.dn CP.top (1 : Nat)) (1 : Nat)) (1 : Nat)) (1 : Nat)) (1 : Nat)) (1 : Nat))) (retK C (34 : FuncId) [TV.pv (PV.str s)] Q))) (Ex.exit (0 : Nat)) (St.mk [((31 : Nat), AV.pv (PV.bool false)), ((30 : Nat), AV.tup []), ((29 : Nat), AV.tup []), ((28 : Nat), AV.tup []), ((27 : Nat), AV.tup []), ((26 : Nat), AV.tup []), ((25 : Nat), AV.pv (PV.bool false)), ((24 : Nat), AV.pv (PV.bool ((↑(UInt8.toNat c) : Int) == (47 : Int)))), ((23 : Nat), AV.pv (PV.bool ((↑(UInt8.toNat c) : Int) == (47 : Int)))), ((22 : Nat), AV.pv (PV.int IntKind.u8 (↑(UInt8.toNat c) : Int))), ((21 : Nat), AV.pv (PV.int IntKind.i64 t5)), ((20 : Nat), AV.pv (PV.str t0)), ((19 : Nat), AV.pv (PV.bool true)), ((18 : Nat), AV.pv (PV.bool (decide (IntKind.wrap IntKind.i64 (t5 + (1 : Int)) < (↑(List.length t0) : Int))))), ((17 : Nat), AV.pv (PV.int IntKind.i64 (↑(List.length t0) : Int))), ((16 : Nat), AV.pv (PV.str t0)), ((15 : Nat), AV.pv (PV.int IntKind.i64 (IntKind.wrap IntKind.i64 (t5 + (1 : Int))))), ((14 : Nat), AV.pv (PV.int IntKind.i64 t5)), ((0 : Nat), AV.pv (PV.str t0)), ((4 : Nat), AV.own (8 : Nat)), ((5 : Nat), AV.pv (PV.int IntKind.i64 t5))] [((8 : Nat), Obj.buf (1 : Nat) o8)]))) ∧ (decide (IntKind.wrap IntKind.i64 (t5 + (1 : Int)) < (↑(List.length t0) : Int)) = false → exK (blockK (0 : Nat) (seqK (wAt C S_rpp (34 : FuncId) (99994 : Nat) (CP.dn (CP.dn (CP.dn (CP.dn (CP.dn (CP.dn CP.top (1 : Nat)) (1 : Nat)) (1 : Nat)) (1 : Nat)) (1 : Nat)) (1 : Nat))) (retK C (34 : FuncId) [TV.pv (PV.str s)] Q))) (Ex.exit (0 : Nat)) (St.mk [((31 : Nat), AV.pv (PV.bool false)), ((30 : Nat), AV.tup []), ((29 : Nat), AV.tup []), ((28 : Nat), AV.tup []), ((27 : Nat), AV.tup []), ((26 : Nat), AV.tup []), ((25 : Nat), AV.pv (PV.bool false)), ((24 : Nat), AV.pv (PV.bool false)), ((23 : Nat), AV.tup []), ((22 : Nat), AV.tup []), ((21 : Nat), AV.tup []), ((20 : Nat), AV.tup []), ((19 : Nat), AV.pv (PV.bool false)), ((18 : Nat), AV.pv (PV.bool (decide (IntKind.wrap IntKind.i64 (t5 + (1 : Int)) < (↑(List.length t0) : Int))))), ((17 : Nat), AV.pv (PV.int IntKind.i64 (↑(List.length t0) : Int))), ((16 : Nat), AV.pv (PV.str t0)), ((15 : Nat), AV.pv (PV.int IntKind.i64 (IntKind.wrap IntKind.i64 (t5 + (1 : Int))))), ((14 : Nat), AV.pv (PV.int IntKind.i64 t5)), ((0 : Nat), AV.pv (PV.str t0)), ((4 : Nat), AV.own (8 : Nat)), ((5 : Nat), AV.pv (PV.int IntKind.i64 t5))] [((8 : Nat), Obj.buf (1 : Nat) o8)]))) := by kernel_rfl

def rpp_s1 (t30 : Bool) (t29 : Int) (t28 : Int) (t27 : Int) (t26 : List UInt8) (t24 : Bool) (t23 : Bool) (t22 : Int) (t21 : Int) (t20 : List UInt8) (t18 : Bool) (t17 : Int) (t16 : List UInt8) (t15 : Int) (t14 : Int) (t0 : List UInt8) (t5 : Int) (o8 : List (List PV)) : St := (St.mk [((31 : Nat), AV.pv (PV.bool false)), ((30 : Nat), AV.pv (PV.bool t30)), ((29 : Nat), AV.pv (PV.int IntKind.u8 t29)), ((28 : Nat), AV.pv (PV.int IntKind.i64 t28)), ((27 : Nat), AV.pv (PV.int IntKind.i64 t27)), ((26 : Nat), AV.pv (PV.str t26)), ((25 : Nat), AV.pv (PV.bool true)), ((24 : Nat), AV.pv (PV.bool t24)), ((23 : Nat), AV.pv (PV.bool t23)), ((22 : Nat), AV.pv (PV.int IntKind.u8 t22)), ((21 : Nat), AV.pv (PV.int IntKind.i64 t21)), ((20 : Nat), AV.pv (PV.str t20)), ((19 : Nat), AV.pv (PV.bool true)), ((18 : Nat), AV.pv (PV.bool t18)), ((17 : Nat), AV.pv (PV.int IntKind.i64 t17)), ((16 : Nat), AV.pv (PV.str t16)), ((15 : Nat), AV.pv (PV.int IntKind.i64 t15)), ((14 : Nat), AV.pv (PV.int IntKind.i64 t14)), ((0 : Nat), AV.pv (PV.str t0)), ((4 : Nat), AV.own (8 : Nat)), ((5 : Nat), AV.pv (PV.int IntKind.i64 t5))] [((8 : Nat), Obj.buf (1 : Nat) o8)])

def rpp_s2 (t24 : Bool) (t23 : Bool) (t22 : Int) (t21 : Int) (t20 : List UInt8) (t18 : Bool) (t17 : Int) (t16 : List UInt8) (t15 : Int) (t14 : Int) (t0 : List UInt8) (t5 : Int) (o8 : List (List PV)) : St := (St.mk [((31 : Nat), AV.pv (PV.bool false)), ((30 : Nat), AV.tup []), ((29 : Nat), AV.tup []), ((28 : Nat), AV.tup []), ((27 : Nat), AV.tup []), ((26 : Nat), AV.tup []), ((25 : Nat), AV.pv (PV.bool false)), ((24 : Nat), AV.pv (PV.bool t24)), ((23 : Nat), AV.pv (PV.bool t23)), ((22 : Nat), AV.pv (PV.int IntKind.u8 t22)), ((21 : Nat), AV.pv (PV.int IntKind.i64 t21)), ((20 : Nat), AV.pv (PV.str t20)), ((19 : Nat), AV.pv (PV.bool true)), ((18 : Nat), AV.pv (PV.bool t18)), ((17 : Nat), AV.pv (PV.int IntKind.i64 t17)), ((16 : Nat), AV.pv (PV.str t16)), ((15 : Nat), AV.pv (PV.int IntKind.i64 t15)), ((14 : Nat), AV.pv (PV.int IntKind.i64 t14)), ((0 : Nat), AV.pv (PV.str t0)), ((4 : Nat), AV.own (8 : Nat)), ((5 : Nat), AV.pv (PV.int IntKind.i64 t5))] [((8 : Nat), Obj.buf (1 : Nat) o8)])

def rpp_s3 (t18 : Bool) (t17 : Int) (t16 : List UInt8) (t15 : Int) (t14 : Int) (t0 : List UInt8) (t5 : Int) (o8 : List (List PV)) : St := (St.mk [((31 : Nat), AV.pv (PV.bool false)), ((30 : Nat), AV.tup []), ((29 : Nat), AV.tup []), ((28 : Nat), AV.tup []), ((27 : Nat), AV.tup []), ((26 : Nat), AV.tup []), ((25 : Nat), AV.pv (PV.bool false)), ((24 : Nat), AV.pv (PV.bool false)), ((23 : Nat), AV.tup []), ((22 : Nat), AV.tup []), ((21 : Nat), AV.tup []), ((20 : Nat), AV.tup []), ((19 : Nat), AV.pv (PV.bool false)), ((18 : Nat), AV.pv (PV.bool t18)), ((17 : Nat), AV.pv (PV.int IntKind.i64 t17)), ((16 : Nat), AV.pv (PV.str t16)), ((15 : Nat), AV.pv (PV.int IntKind.i64 t15)), ((14 : Nat), AV.pv (PV.int IntKind.i64 t14)), ((0 : Nat), AV.pv (PV.str t0)), ((4 : Nat), AV.own (8 : Nat)), ((5 : Nat), AV.pv (PV.int IntKind.i64 t5))] [((8 : Nat), Obj.buf (1 : Nat) o8)])

theorem rpp_x1 (s : List UInt8) (t30 : Bool) (t29 : Int) (t28 : Int) (t27 : Int) (t26 : List UInt8) (t24 : Bool) (t23 : Bool) (t22 : Int) (t21 : Int) (t20 : List UInt8) (t18 : Bool) (t17 : Int) (t16 : List UInt8) (t15 : Int) (t14 : Int) (t0 : List UInt8) (t5 : Int) (o8 : List (List PV))  (Q : List TV × List TV → Prop) : (fun h => blockK (0 : Nat) (seqK (wAt C S_rpp (34 : FuncId) (99994 : Nat) (CP.dn (CP.dn (CP.dn (CP.dn (CP.dn (CP.dn CP.top (1 : Nat)) (1 : Nat)) (1 : Nat)) (1 : Nat)) (1 : Nat)) (1 : Nat))) (retK C (34 : FuncId) [TV.pv (PV.str s)] Q)) h (Ex.exit (0 : Nat)) (rpp_s1 t30 t29 t28 t27 t26 t24 t23 t22 t21 t20 t18 t17 t16 t15 t14 t0 t5 o8)) (H.b H.auto (H.n (3 : Nat) (H.b H.auto (H.n (5 : Nat) (H.b H.auto H.auto))))) = (((t5 != (↑(List.length t0) : Int)) = true → Q ([TV.pv (PV.sl []), TV.pv (PV.int IntKind.i64 (10 : Int))], [])) ∧ ((t5 != (↑(List.length t0) : Int)) = false → (((↑(List.length o8) : Int) == (0 : Int)) = true → Q ([TV.pv (PV.sl []), TV.pv (PV.int IntKind.i64 (10 : Int))], [])) ∧ (((↑(List.length o8) : Int) == (0 : Int)) = false → (∃ (l : List (List UInt8)), o8 = List.map strRow l ∧ List.length (pathF l) ≤ (800000 : Nat)) ∧ ((!pathF (unstr o8) == t0) = true → Q ([TV.pv (PV.sl []), TV.pv (PV.int IntKind.i64 (10 : Int))], [])) ∧ ((!pathF (unstr o8) == t0) = false → Q ([TV.own (1 : Nat) o8, TV.pv (PV.int IntKind.i64 (0 : Int))], []))))) := by kernel_rfl

theorem rpp_x2 (s : List UInt8) (t24 : Bool) (t23 : Bool) (t22 : Int) (t21 : Int) (t20 : List UInt8) (t18 : Bool) (t17 : Int) (t16 : List UInt8) (t15 : Int) (t14 : Int) (t0 : List UInt8) (t5 : Int) (o8 : List (List PV))  (Q : List TV × List TV → Prop) : (fun h => blockK (0 : Nat) (seqK (wAt C S_rpp (34 : FuncId) (99994 : Nat) (CP.dn (CP.dn (CP.dn (CP.dn (CP.dn (CP.dn CP.top (1 : Nat)) (1 : Nat)) (1 : Nat)) (1 : Nat)) (1 : Nat)) (1 : Nat))) (retK C (34 : FuncId) [TV.pv (PV.str s)] Q)) h (Ex.exit (0 : Nat)) (rpp_s2 t24 t23 t22 t21 t20 t18 t17 t16 t15 t14 t0 t5 o8)) (H.b H.auto (H.n (3 : Nat) (H.b H.auto (H.n (5 : Nat) (H.b H.auto H.auto))))) = (((t5 != (↑(List.length t0) : Int)) = true → Q ([TV.pv (PV.sl []), TV.pv (PV.int IntKind.i64 (10 : Int))], [])) ∧ ((t5 != (↑(List.length t0) : Int)) = false → (((↑(List.length o8) : Int) == (0 : Int)) = true → Q ([TV.pv (PV.sl []), TV.pv (PV.int IntKind.i64 (10 : Int))], [])) ∧ (((↑(List.length o8) : Int) == (0 : Int)) = false → (∃ (l : List (List UInt8)), o8 = List.map strRow l ∧ List.length (pathF l) ≤ (800000 : Nat)) ∧ ((!pathF (unstr o8) == t0) = true → Q ([TV.pv (PV.sl []), TV.pv (PV.int IntKind.i64 (10 : Int))], [])) ∧ ((!pathF (unstr o8) == t0) = false → Q ([TV.own (1 : Nat) o8, TV.pv (PV.int IntKind.i64 (0 : Int))], []))))) := by kernel_rfl

theorem rpp_x3 (s : List UInt8) (t18 : Bool) (t17 : Int) (t16 : List UInt8) (t15 : Int) (t14 : Int) (t0 : List UInt8) (t5 : Int) (o8 : List (List PV))  (Q : List TV × List TV → Prop) : (fun h => blockK (0 : Nat) (seqK (wAt C S_rpp (34 : FuncId) (99994 : Nat) (CP.dn (CP.dn (CP.dn (CP.dn (CP.dn (CP.dn CP.top (1 : Nat)) (1 : Nat)) (1 : Nat)) (1 : Nat)) (1 : Nat)) (1 : Nat))) (retK C (34 : FuncId) [TV.pv (PV.str s)] Q)) h (Ex.exit (0 : Nat)) (rpp_s3 t18 t17 t16 t15 t14 t0 t5 o8)) (H.b H.auto (H.n (3 : Nat) (H.b H.auto (H.n (5 : Nat) (H.b H.auto H.auto))))) = (((t5 != (↑(List.length t0) : Int)) = true → Q ([TV.pv (PV.sl []), TV.pv (PV.int IntKind.i64 (10 : Int))], [])) ∧ ((t5 != (↑(List.length t0) : Int)) = false → (((↑(List.length o8) : Int) == (0 : Int)) = true → Q ([TV.pv (PV.sl []), TV.pv (PV.int IntKind.i64 (10 : Int))], [])) ∧ (((↑(List.length o8) : Int) == (0 : Int)) = false → (∃ (l : List (List UInt8)), o8 = List.map strRow l ∧ List.length (pathF l) ≤ (800000 : Nat)) ∧ ((!pathF (unstr o8) == t0) = true → Q ([TV.pv (PV.sl []), TV.pv (PV.int IntKind.i64 (10 : Int))], [])) ∧ ((!pathF (unstr o8) == t0) = false → Q ([TV.own (1 : Nat) o8, TV.pv (PV.int IntKind.i64 (0 : Int))], []))))) := by kernel_rfl

/-- What is read of a path up to k. -/
def Cp (s : List UInt8) (k : Nat) (l : List (List UInt8)) : Prop := ∀ p, pathF p = s → p ≠ [] → ∃ p', p = l ++ p' ∧ s.drop k = togF [47] (p'.map quoF)

theorem cp_0 (s : List UInt8) : Cp s 0 [] := by
  intro p h hp
  exact ⟨p, rfl, by rw [List.drop_zero, ← h, path_ne hp]⟩

theorem tog_cons (x : List UInt8) (p : List (List UInt8)) : togF [47] ((x :: p).map quoF) = 47 :: 34 :: (x.flatMap esc ++ 34 :: togF [47] (p.map quoF)) := by
  simp [togF, quoF]

theorem cp_head {s : List UInt8} {k : Nat} {l : List (List UInt8)} (h : Cp s k l) (hk : k < s.length) {p : List (List UInt8)} (hp : pathF p = s) (h47 : s ≠ [47]) : ∃ x p', p = l ++ x :: p' ∧ s.drop k = 47 :: 34 :: (x.flatMap esc ++ 34 :: togF [47] (p'.map quoF)) := by
  have hn : p ≠ [] := by rintro rfl; exact h47 hp.symm
  obtain ⟨p', e1, e2⟩ := h p hp hn
  cases p' with
  | nil =>
    have := congrArg List.length e2
    simp only [List.length_drop, togF, List.map_nil, List.flatMap_nil, List.length_nil] at this
    omega
  | cons x p' => exact ⟨x, p', e1, by rw [e2, tog_cons]⟩

theorem drop_two {s r : List UInt8} {k : Nat} {a b : UInt8} (h : s.drop k = a :: b :: r) : s.drop (k + 1) = b :: r ∧ s.drop (k + 2) = r := by
  constructor
  · rw [← List.drop_drop, h]; rfl
  · rw [← List.drop_drop, h]; rfl

theorem cp_step {s o : List UInt8} {k k' : Nat} {l : List (List UInt8)} (h : Cp s k l) (hk : k < s.length) (h47 : s ≠ [47]) (hn : ∀ x y : List UInt8, s.drop (k + 2) = x.flatMap esc ++ 34 :: y → o = x ∧ k' = k + 2 + (x.flatMap esc).length + 1) : Cp s k' (l ++ [o]) := by
  intro p hp _
  obtain ⟨x, p', e1, e2⟩ := cp_head h hk hp h47
  have e3 := (drop_two e2).2
  obtain ⟨rfl, rfl⟩ := hn x _ e3
  refine ⟨p', by rw [e1, List.append_assoc]; rfl, ?_⟩
  rw [Nat.add_assoc (k + 2), ← List.drop_drop, e3]
  rw [show (o.flatMap esc).length + 1 = (o.flatMap esc ++ [34]).length by simp]
  rw [show o.flatMap esc ++ 34 :: togF [47] (p'.map quoF) = (o.flatMap esc ++ [34]) ++ togF [47] (p'.map quoF) by simp]
  rw [List.drop_left]

theorem cp_end {s : List UInt8} {k : Nat} {l : List (List UInt8)} (h : Cp s k l) (hk : s.length ≤ k) {p : List (List UInt8)} (hp : pathF p = s) (h47 : s ≠ [47]) : p = l := by
  have hn : p ≠ [] := by rintro rfl; exact h47 hp.symm
  obtain ⟨p', e1, e2⟩ := h p hp hn
  rw [List.drop_eq_nil_of_le hk] at e2
  cases p' with
  | nil => simpa using e1
  | cons x p' => rw [tog_cons] at e2; exact absurd e2 (by simp)

/-- A text that is a path's, and not the empty one's. -/
def goodS (s : List UInt8) : Prop := s.length ≤ 4000 ∧ s ≠ [47] ∧ ∃ p, pathF p = s

open Classical in
noncomputable def parseE (s : List UInt8) : Int := if 4000 < s.length then 5 else if ∃ p, pathF p = s then 0 else 10

open Classical in
noncomputable def parseP (s : List UInt8) : List (List UInt8) := if h : s.length ≤ 4000 ∧ ∃ p, pathF p = s then Classical.choose h.2 else []

theorem parseP_path {p : List (List UInt8)} (h : (pathF p).length ≤ 4000) : parseP (pathF p) = p := by
  have hx : (pathF p).length ≤ 4000 ∧ ∃ q, pathF q = pathF p := ⟨h, p, rfl⟩
  unfold parseP
  rw [dif_pos hx]
  exact pathF_inj (Classical.choose_spec hx.2)

theorem parseE_path {p : List (List UInt8)} (h : (pathF p).length ≤ 4000) : parseE (pathF p) = 0 := by
  rw [parseE, if_neg (by omega), if_pos ⟨p, rfl⟩]

theorem parseE_bad {s : List UInt8} (h : ¬ 4000 < s.length) (hn : ¬ ∃ p, pathF p = s) : parseE s = 10 := by
  rw [parseE, if_neg h, if_neg hn]

/-- What a reader of paths answers. -/
def PpR (s : List UInt8) (r : List TV × List TV) : Prop := (¬ goodS s ∧ r = ([.pv (.sl []), .pv (.int .i64 (parseE s))], [])) ∨ (goodS s ∧ r = ([.own 1 ((parseP s).map strRow), .pv (.int .i64 0)], []))

theorem ppr_bad {s : List UInt8} (h : ¬ 4000 < s.length) (hn : ∀ p, pathF p = s → False) : PpR s ([.pv (.sl []), .pv (.int .i64 10)], []) := by
  have hx : ¬ ∃ p, pathF p = s := fun ⟨p, e⟩ => hn p e
  exact .inl ⟨fun g => hx g.2.2, by rw [parseE_bad h hx]⟩

theorem ppr_good {s : List UInt8} {l : List (List UInt8)} (h : ¬ 4000 < s.length) (h47 : s ≠ [47]) (hl : pathF l = s) : PpR s ([.own 1 (l.map strRow), .pv (.int .i64 0)], []) := by
  subst hl
  exact .inr ⟨⟨by omega, h47, l, rfl⟩, by rw [parseP_path (by omega)]⟩

theorem ppr_long {s : List UInt8} (h : 4000 < s.length) : PpR s ([.pv (.sl []), .pv (.int .i64 5)], []) :=
  .inl ⟨fun g => by have := g.1; omega, by rw [parseE, if_pos h]⟩

theorem ppr_one : PpR [47] ([.pv (.sl []), .pv (.int .i64 0)], []) :=
  .inl ⟨fun g => g.2.1 rfl, by rw [parseE, if_neg (by decide), if_pos ⟨[], rfl⟩]⟩

theorem pre_two {s : List UInt8} : preB s [47, 34] = true ↔ ∃ r, s = 47 :: 34 :: r := by
  constructor
  · intro h
    simp only [preB, Bool.and_eq_true, decide_eq_true_eq, beq_iff_eq] at h
    match s, h with
    | a :: b :: r, ⟨_, h⟩ =>
      simp only [List.length_cons, List.length_nil, List.take_succ_cons, List.take_zero, List.cons.injEq, and_true] at h
      exact ⟨r, by rw [h.1, h.2]⟩
    | [a], ⟨h, _⟩ => simp at h
    | [], ⟨h, _⟩ => simp at h
  · rintro ⟨r, rfl⟩
    simp [preB]

theorem path_le_tog (l : List (List UInt8)) : (pathF l).length ≤ 1 + (togF [47] (l.map quoF)).length := by
  by_cases h : l = []
  · subst h; simp [pathF]
  · rw [path_ne h]; omega

theorem tog_push (l : List (List UInt8)) (o : List UInt8) : (togF [47] ((l ++ [o]).map quoF)).length ≤ (togF [47] (l.map quoF)).length + 4 * o.length + 3 := by
  have := quoF_le o
  simp only [togF, List.map_append, List.map_cons, List.map_nil, List.flatMap_append, List.flatMap_cons, List.flatMap_nil, List.append_nil, List.length_append, List.length_cons, List.length_nil] at *
  omega

def ppI (s : List UInt8) (n : Nat) (st : St) : Prop := ∃ (k : Nat) (l : List (List UInt8)), st = pp_h0 s (s.drop k) (l.map strRow) ∧ k ≤ s.length ∧ l.length ≤ k ∧ (togF [47] (l.map quoF)).length ≤ 4 * k ∧ Cp s k l ∧ n = s.length - k

theorem pp_S : SpecOK C S_pp := specL_ok (specs_cons (pre_ok hp2_ev) (specs_cons nmS_ok (specs_cons (path_ok pth_ev) specs_nil)))
theorem rpp_S : SpecOK C S_rpp := specL_ok (specs_cons rnS_ok (specs_cons (path_ok rth_ev) specs_nil))

theorem strs_push (l : List (List UInt8)) (o : List UInt8) : l.map strRow ++ [[PV.str o]] = (l ++ [o]).map strRow := by rw [List.map_append]; rfl
theorem rowOk_strs (l : List (List UInt8)) : rowOk 1 (l.map strRow) = true := by simp [rowOk, strRow]

theorem pp_ex (s : List UInt8) : ∃ r, Ev C 32 [.pv (.str s)] r ∧ PpR s r := by
  have hr := room_val
  have hm := maxInt_val
  refine ev_wx pp_S (pp_w _ _) ⟨fun c1 => ?_, fun c1 => ⟨fun c2 => ?_, fun c2 => ?_⟩⟩
  · simp only [gt_iff_lt, decide_eq_true_eq] at c1
    exact ppr_long (by omega)
  · have : s = [47] := by simpa using c2
    subst this
    exact ppr_one
  · simp only [gt_iff_lt, decide_eq_false_iff_not] at c1
    have hs : ¬ 4000 < s.length := by omega
    have h47 : s ≠ [47] := by simpa using c2
    refine loop_rule pp_S (by kernel_rfl) 1000 (ppI s) ?_ (n := s.length) ⟨0, [], rfl, by omega, by simp, by simp [togF], cp_0 s, by omega⟩
    rintro n st ⟨k, l, rfl, hk, hlk, ht, hC, rfl⟩
    refine ex_w (pp_l0 _ _ _ _ _ _) ⟨fun c3 => ?_, fun c3 => ?_⟩
    · have hlen : (s.drop k).length = s.length - k := List.length_drop
      have hk' : k < s.length := by
        rcases Nat.lt_or_ge k s.length with h | h
        · exact h
        · rw [List.drop_eq_nil_of_le h] at c3; exact absurd c3 (by simp)
      have et : List.take (Int.toNat (Int.ofNat (List.length (s.drop k))) - 1) (List.drop 1 (s.drop k)) = s.drop (k + 1) := by
        rw [List.take_of_length_le (by simp; omega), List.drop_drop]
      simp only [et]
      refine ⟨⟨by omega, by omega⟩, fun c4 => ⟨.auto, ppr_bad hs fun p hp => ?_⟩, fun c4 => ⟨⟨by omega, by simp only [Int.ofNat_eq_natCast]; omega, by omega⟩, by simp only [List.length_drop]; omega, fun c5 => ⟨.auto, ppr_bad hs fun p hp => ?_⟩, fun c5 => ?_⟩⟩
      · obtain ⟨x, p', e1, e2⟩ := cp_head hC hk' hp h47
        have := pre_two.2 ⟨_, e2⟩
        rw [this] at c4; exact absurd c4 (by simp)
      · have c5 := beq_iff_eq.1 c5
        obtain ⟨x, p', e1, e2⟩ := cp_head hC hk' hp h47
        have hx := (nmV_spec (s.drop (k + 1)) (by simp only [List.length_drop]; omega)).2.2.2 x (togF [47] (p'.map quoF)) (by rw [List.drop_drop]; exact (drop_two e2).2)
        simp only [nmK] at c5
        omega
      · have c5 := beq_eq_false_iff_ne.1 c5
        obtain ⟨h1, h2, h3⟩ := (nmV_spec (s.drop (k + 1)) (by simp only [List.length_drop]; omega)).2
        have hv : nmK (s.drop (k + 1)) = ((nmV (s.drop (k + 1))).2 : Nat) := rfl
        have ho : nmO (s.drop (k + 1)) = (nmV (s.drop (k + 1))).1 := rfl
        rw [hv] at c5
        rw [hv, ho]
        generalize nmV (s.drop (k + 1)) = v at *
        have hv2 := h2 (by omega)
        rw [List.length_drop] at h1
        have w1 : IntKind.wrap .i64 (1 + (v.2 : Int)) = ((1 + v.2 : Nat) : Int) := by rw [w64 (by omega)]; omega
        have hsl : (l.map strRow).length = l.length := List.length_map _
        rw [w1, hlen, strs_push]
        refine ⟨⟨by omega, by omega⟩, ⟨by omega, by simp only [Int.ofNat_eq_natCast]; omega, by omega⟩, s.length - (k + (1 + v.2)), by omega, k + (1 + v.2), l ++ [v.1], ?_, by omega, by simp; omega, ?_, ?_, rfl⟩
        · rw [Int.toNat_natCast, List.drop_drop, List.take_of_length_le (by simp only [List.length_drop, Int.ofNat_eq_natCast, Int.toNat_natCast]; omega)]
          rfl
        · have := tog_push l v.1; omega
        · refine cp_step hC hk' h47 fun x y e => ?_
          have := h3 x y (by rw [List.drop_drop]; exact e)
          exact ⟨this.1, by omega⟩
    · have hk' : s.length ≤ k := by
        have : s.drop k = [] := by simpa using c3
        have := congrArg List.length this
        simp only [List.length_drop, List.length_nil] at this; omega
      have hpl := path_le_tog l
      refine ex_w (pp_x1 _ _ _ _ _ _) ⟨⟨l, rfl, by omega⟩, ?_⟩
      rw [unstr_map]
      refine ⟨fun c4 => ppr_bad hs fun p hp => ?_, fun c4 => ⟨⟨by rw [List.length_map]; omega, by rw [List.length_map]; omega⟩, rowOk_strs l, ppr_good hs h47 (by simpa using c4)⟩⟩
      have := cp_end hC hk' hp h47
      subst this
      rw [hp] at c4; exact absurd c4 (by simp)

def rppI (s : List UInt8) (n : Nat) (st : St) : Prop := ∃ (k : Nat) (l : List (List UInt8)), st = rpp_h0 s k (l.map strRow) ∧ k ≤ s.length ∧ l.length ≤ k ∧ (togF [47] (l.map quoF)).length ≤ 4 * k ∧ Cp s k l ∧ n = s.length - k

theorem rpp_ex (s : List UInt8) : ∃ r, Ev C 34 [.pv (.str s)] r ∧ PpR s r := by
  have hr := room_val
  have hm := maxInt_val
  refine ev_wx rpp_S (rpp_w _ _) ⟨fun c1 => ?_, fun c1 => ⟨fun c2 => ?_, fun c2 => ?_⟩⟩
  · simp only [gt_iff_lt, decide_eq_true_eq] at c1
    exact ppr_long (by omega)
  · have : s = [47] := by simpa using c2
    subst this
    exact ppr_one
  · simp only [gt_iff_lt, decide_eq_false_iff_not] at c1
    have hs : ¬ 4000 < s.length := by omega
    have h47 : s ≠ [47] := by simpa using c2
    refine loop_rule rpp_S (by kernel_rfl) 1000 (rppI s) ?_ (n := s.length) ⟨0, [], rfl, by omega, by simp, by simp [togF], cp_0 s, by omega⟩
    rintro n st ⟨k, l, rfl, hk, hlk, ht, hC, rfl⟩
    have hpl := path_le_tog l
    have hsl : (l.map strRow).length = l.length := List.length_map _
    have fin : (k < s.length → ∀ r, s.drop k = 47 :: 34 :: r → k + 1 < s.length → False) → (((k : Int) != (s.length : Int)) = true → PpR s ([.pv (.sl []), .pv (.int .i64 10)], [])) ∧ (((k : Int) != (s.length : Int)) = false → ((((l.map strRow).length : Int) == 0) = true → PpR s ([.pv (.sl []), .pv (.int .i64 10)], [])) ∧ ((((l.map strRow).length : Int) == 0) = false → (∃ q : List (List UInt8), l.map strRow = q.map strRow ∧ (pathF q).length ≤ 800000) ∧ ((!pathF (unstr (l.map strRow)) == s) = true → PpR s ([.pv (.sl []), .pv (.int .i64 10)], [])) ∧ ((!pathF (unstr (l.map strRow)) == s) = false → PpR s ([.own 1 (l.map strRow), .pv (.int .i64 0)], [])))) := by
      intro hno
      rw [unstr_map]
      refine ⟨fun d1 => ppr_bad hs fun p hp => ?_, fun d1 => ⟨fun d2 => ppr_bad hs fun p hp => ?_, fun d2 => ⟨⟨l, rfl, by omega⟩, fun d3 => ppr_bad hs fun p hp => ?_, fun d3 => ppr_good hs h47 (by simpa using d3)⟩⟩⟩
      · have d1 := bne_iff_ne.1 d1
        have hk' : k < s.length := by omega
        obtain ⟨x, p', e1, e2⟩ := cp_head hC hk' hp h47
        have l2 := congrArg List.length e2
        simp only [List.length_drop, List.length_cons] at l2
        exact hno hk' _ e2 (by omega)
      · have d2 := beq_iff_eq.1 d2
        have d1 : (k : Int) = s.length := by simpa using d1
        have := cp_end hC (by omega) hp h47
        subst this
        have : p = [] := List.eq_nil_of_length_eq_zero (by omega)
        subst this
        exact h47 hp.symm
      · have d1 : (k : Int) = s.length := by simpa using d1
        have := cp_end hC (by omega) hp h47
        subst this
        rw [hp] at d3; exact absurd d3 (by simp)
    have at0 : ∀ {r : List UInt8} (h : k < s.length), s.drop k = 47 :: 34 :: r → k + 1 < s.length → s[k] = 47 ∧ s[k + 1]? = some 34 := by
      intro r h e h1
      rw [List.drop_eq_getElem_cons h, List.drop_eq_getElem_cons h1] at e
      simp only [List.cons.injEq] at e
      exact ⟨e.1, by rw [List.getElem?_eq_getElem h1, e.2.1]⟩
    have w1 := w64s (i := k) (by omega)
    have w2 : IntKind.wrap .i64 ((k : Int) + 2) = ((k + 2 : Nat) : Int) := by rw [w64 (by omega)]; omega
    refine ex_w (rpp_l0 _ _ _ _ _ _) ⟨fun c3 => ?_, fun c3 => ?_⟩
    · simp only [w1, decide_eq_true_eq] at c3
      have hk' : k + 1 < s.length := by omega
      simp only [w1, w2, Int.toNat_natCast]
      refine ⟨by omega, s[k], List.getElem?_eq_getElem _, fun c4 => ⟨by omega, s[k + 1], List.getElem?_eq_getElem _, fun c5 => ⟨⟨by omega, by omega, by omega⟩, fun c6 => ⟨.auto, ppr_bad hs fun p hp => ?_⟩, fun c6 => ?_⟩, fun c5 => ?_⟩, fun c4 => ?_⟩
      · obtain ⟨x, p', e1, e2⟩ := cp_head hC (by omega) hp h47
        have hx := (rnV_spec s (k + 2) (by omega) (by omega)).2.2 x _ (drop_two e2).2
        simp only [rnB, Int.toNat_natCast, hx.1] at c6
        exact absurd c6 (by simp)
      · obtain ⟨h1, h2⟩ := (rnV_spec s (k + 2) (by omega) (by omega)).2
        simp only [rnB, Int.toNat_natCast] at c6
        simp only [rnK, rnO, Int.toNat_natCast]
        generalize rnV s (k + 2) = v at *
        have h1 := h1 (by simpa using c6)
        rw [strs_push]
        refine ⟨⟨by omega, by omega⟩, s.length - v.2.1, by omega, v.2.1, l ++ [v.1], rfl, by omega, by simp; omega, ?_, ?_, rfl⟩
        · have := tog_push l v.1; omega
        · exact cp_step hC (by omega) h47 fun x y e => (h2 x y e).2
      · refine ex_w (rpp_x1 _ _ _ _ _ _ _ _ _ _ _ _ _ _ _ _ _ _ _ _) (fin fun h r e h1 => ?_)
        have := (at0 h e h1).2
        rw [List.getElem?_eq_getElem h1] at this
        have n34 : s[k + 1] ≠ 34 := u8f 34 (by decide) rfl c5
        exact n34 (by simpa using this)
      · refine ex_w (rpp_x2 _ _ _ _ _ _ _ _ _ _ _ _ _ _ _) (fin fun h r e h1 => ?_)
        have n47 : s[k] ≠ 47 := u8f 47 (by decide) rfl c4
        exact n47 (at0 h e h1).1
    · simp only [w1, decide_eq_false_iff_not] at c3
      exact ex_w (rpp_x3 _ _ _ _ _ _ _ _ _ _) (fin fun h r e h1 => by omega)

end Go.Proofs.Ytpcjlhhhmjgffaa.Vm
