/-
  ReportTexts, in the machine.
-/
import Derived.Test.YtpcjlhhhmjgffaaSayReportUnlike
namespace Go.Proofs.Ytpcjlhhhmjgffaa.Vm
open Go Go.RowKit
set_option linter.unusedVariables false
set_option linter.unusedSimpArgs false
set_option maxRecDepth 100000

abbrev Conf := List (List UInt8) × Int

def kindF (k : Int) : List UInt8 := if k = 1 then [103, 111, 110, 101] else if k = 2 then [115, 104, 97, 112, 101] else [119, 104, 97, 116]

def lineF (c : Conf) : List UInt8 := kindF c.2 ++ [32] ++ pathF c.1 ++ [10]

def textC (l : List Conf) : List UInt8 := l.flatMap lineF

def confRow (c : Conf) : List PV := [.sl (c.1.map strRow), .int .i64 c.2]

def unconf (a : List (List PV)) : List Conf := a.map fun r => match r with | [.sl p, .int _ k] => (unstr p, k) | _ => ([], 0)

def g_kind : List TV → Option Alts
  | [.pv (.int .i64 k)] => one True ([.pv (.str (kindF k))], [])
  | _ => none

theorem knd_w (k : Int) (Q : List TV × List TV → Prop) : (wFun C noSpec 43 [.pv (.int .i64 k)] Q) (H.b H.auto (H.b H.auto H.auto)) = (((k == (1 : Int)) = true → Q ([TV.pv (PV.str [(103 : UInt8), (111 : UInt8), (110 : UInt8), (101 : UInt8)])], [])) ∧ ((k == (1 : Int)) = false → ((k == (2 : Int)) = true → Q ([TV.pv (PV.str [(115 : UInt8), (104 : UInt8), (97 : UInt8), (112 : UInt8), (101 : UInt8)])], [])) ∧ ((k == (2 : Int)) = false → Q ([TV.pv (PV.str [(119 : UInt8), (104 : UInt8), (97 : UInt8), (116 : UInt8)])], [])))) := by kernel_rfl

theorem knd_ev (k : Int) : Ev C 43 [.pv (.int .i64 k)] ([.pv (.str (kindF k))], []) := by
  refine ev_w noSpec_ok (knd_w _ _) ⟨fun h => ?_, fun h => ⟨fun h2 => ?_, fun h2 => ?_⟩⟩
  · have h := beq_iff_eq.1 h; rw [kindF, if_pos h]
  · have h := beq_eq_false_iff_ne.1 h; have h2 := beq_iff_eq.1 h2; rw [kindF, if_neg h, if_pos h2]
  · have h := beq_eq_false_iff_ne.1 h; have h2 := beq_eq_false_iff_ne.1 h2; rw [kindF, if_neg h, if_neg h2]

theorem knd_ok : ∀ ag al, g_kind ag = some al → ∀ a ∈ al, a.1 → Ev C 43 ag a.2 := by
  intro ag al hl x hx hp
  unfold g_kind at hl
  split at hl
  · have e := one_mem hl hx; subst e
    exact knd_ev _
  · exact absurd hl (by simp)

theorem unconf_map (l : List Conf) : unconf (l.map confRow) = l := by
  unfold unconf
  rw [List.map_map]
  simp [Function.comp_def, confRow, unstr_map]

theorem conf_get {l : List Conf} {i : Nat} (h : i < l.length) : (l.map confRow)[((i : Int)).toNat]? = some [.sl (l[i].1.map strRow), .int .i64 l[i].2] := by
  rw [Int.toNat_natCast, List.getElem?_map, List.getElem?_eq_getElem h]; rfl

theorem textC_take {l : List Conf} {i : Nat} (h : i < l.length) : textC (l.take (i + 1)) = textC (l.take i) ++ lineF l[i] := by
  rw [List.take_succ_eq_append_getElem h]; simp only [textC, List.flatMap_append, List.flatMap_cons, List.flatMap_nil, List.append_nil]

theorem textC_le (l : List Conf) (i : Nat) : (textC (l.take i)).length ≤ (textC l).length := by
  have : textC l = textC (l.take i) ++ textC (l.drop i) := by simp only [textC]; rw [← List.flatMap_append, List.take_append_drop]
  rw [this, List.length_append]; omega

theorem kind_le (k : Int) : 4 ≤ (kindF k).length ∧ (kindF k).length ≤ 5 := by
  unfold kindF
  split <;> (try split) <;> simp

theorem textC_tog (l : List Conf) : togF [] (l.map lineF) = textC l := by
  simp [togF, textC, List.flatMap_map]

theorem textC_cnt : ∀ l : List Conf, l.length ≤ (textC l).length
  | [] => by simp
  | c :: l => by
    have := textC_cnt l
    simp only [textC, List.flatMap_cons, List.length_append, List.length_cons, lineF, List.length_nil] at *; omega

def S_rtx : Specs := specL [(43, g_kind), (26, g_path), (42, g_tog)]

theorem rtx_w (a : List (List PV)) (Q : List TV × List TV → Prop) : (wFun C S_rtx 30 [.pv (.sl a)] Q) (H.auto) = (LoopAt C (30 : FuncId) (CP.dn (CP.dn (CP.dn (CP.dn (CP.dn CP.top (1 : Nat)) (1 : Nat)) (0 : Nat)) (1 : Nat)) (0 : Nat)) (St.mk [((3 : Nat), AV.own (6 : Nat)), ((6 : Nat), AV.pv (PV.sl a)), ((7 : Nat), AV.pv (PV.int IntKind.i64 (↑(List.length a) : Int))), ((8 : Nat), AV.pv (PV.int IntKind.i64 (0 : Int)))] [((6 : Nat), Obj.buf (1 : Nat) [])]) (exK (blockK (0 : Nat) (seqK (wAt C S_rtx (30 : FuncId) (99997 : Nat) (CP.dn (CP.dn (CP.dn CP.top (1 : Nat)) (1 : Nat)) (1 : Nat))) (retK C (30 : FuncId) [TV.pv (PV.sl a)] Q))))) := by kernel_rfl

def rtx_c0 : CP := (CP.dn (CP.dn (CP.dn (CP.dn (CP.dn CP.top (1 : Nat)) (1 : Nat)) (0 : Nat)) (1 : Nat)) (0 : Nat))

def rtx_h0 (t6 : List (List PV)) (t7 : Int) (t8 : Int) (o6 : List (List PV)) : St := (St.mk [((3 : Nat), AV.own (6 : Nat)), ((6 : Nat), AV.pv (PV.sl t6)), ((7 : Nat), AV.pv (PV.int IntKind.i64 t7)), ((8 : Nat), AV.pv (PV.int IntKind.i64 t8))] [((6 : Nat), Obj.buf (1 : Nat) o6)])

theorem rtx_l0 (a : List (List PV)) (t6 : List (List PV)) (t7 : Int) (t8 : Int) (o6 : List (List PV))  (J0 : St → Prop) (Q : List TV × List TV → Prop) : (wAt C S_rtx 30 1000 (rtx_c0.dn 0) (rtx_h0 t6 t7 t8 o6) (loopK C 30 rtx_c0 J0 (exK (blockK (0 : Nat) (seqK (wAt C S_rtx (30 : FuncId) (99997 : Nat) (CP.dn (CP.dn (CP.dn CP.top (1 : Nat)) (1 : Nat)) (1 : Nat))) (retK C (30 : FuncId) [TV.pv (PV.sl a)] Q)))))) (H.b (H.s (H.s (H.s (H.s (H.s (H.s H.auto)))))) H.auto) = ((decide (t8 < t7) = true → (0 : Int) ≤ t8 ∧ ∃ (es : List (List PV)), ∃ (n : Int), t6[Int.toNat t8]? = some [PV.sl es, PV.int IntKind.i64 n] ∧ True ∧ List.length (kindF n) + (1 : Nat) ≤ maxInt ∧ (∃ (l : List (List UInt8)), es = List.map strRow l ∧ List.length (pathF l) ≤ (800000 : Nat)) ∧ List.length (kindF n ++ [(32 : UInt8)]) + List.length (pathF (unstr es)) ≤ maxInt ∧ List.length (kindF n ++ [(32 : UInt8)] ++ pathF (unstr es)) + (1 : Nat) ≤ maxInt ∧ ((List.length o6 + (1 : Nat)) * (16 : Nat) ≤ room ∧ List.length o6 + (1 : Nat) ≤ maxInt) ∧ J0 (St.mk [((3 : Nat), AV.own (6 : Nat)), ((6 : Nat), AV.pv (PV.sl t6)), ((7 : Nat), AV.pv (PV.int IntKind.i64 t7)), ((8 : Nat), AV.pv (PV.int IntKind.i64 (IntKind.wrap IntKind.i64 (t8 + (1 : Int)))))] [((6 : Nat), Obj.buf (1 : Nat) (o6 ++ [[PV.str (kindF n ++ [(32 : UInt8)] ++ pathF (unstr es) ++ [(10 : UInt8)])]]))])) ∧ (decide (t8 < t7) = false → exK (blockK (0 : Nat) (seqK (wAt C S_rtx (30 : FuncId) (99997 : Nat) (CP.dn (CP.dn (CP.dn CP.top (1 : Nat)) (1 : Nat)) (1 : Nat))) (retK C (30 : FuncId) [TV.pv (PV.sl a)] Q))) (Ex.exit (0 : Nat)) (St.mk [((9 : Nat), AV.pv (PV.bool false)), ((3 : Nat), AV.own (6 : Nat)), ((6 : Nat), AV.pv (PV.sl t6)), ((7 : Nat), AV.pv (PV.int IntKind.i64 t7)), ((8 : Nat), AV.pv (PV.int IntKind.i64 t8))] [((6 : Nat), Obj.buf (1 : Nat) o6)]))) := by kernel_rfl

def rtx_s1 (t6 : List (List PV)) (t7 : Int) (t8 : Int) (o6 : List (List PV)) : St := (St.mk [((9 : Nat), AV.pv (PV.bool false)), ((3 : Nat), AV.own (6 : Nat)), ((6 : Nat), AV.pv (PV.sl t6)), ((7 : Nat), AV.pv (PV.int IntKind.i64 t7)), ((8 : Nat), AV.pv (PV.int IntKind.i64 t8))] [((6 : Nat), Obj.buf (1 : Nat) o6)])

theorem rtx_x1 (a : List (List PV)) (t6 : List (List PV)) (t7 : Int) (t8 : Int) (o6 : List (List PV))  (Q : List TV × List TV → Prop) : (fun h => blockK (0 : Nat) (seqK (wAt C S_rtx (30 : FuncId) (99997 : Nat) (CP.dn (CP.dn (CP.dn CP.top (1 : Nat)) (1 : Nat)) (1 : Nat))) (retK C (30 : FuncId) [TV.pv (PV.sl a)] Q)) h (Ex.exit (0 : Nat)) (rtx_s1 t6 t7 t8 o6)) (H.auto) = ((∃ (l : List (List UInt8)), o6 = List.map strRow l ∧ List.length l ≤ (4000000 : Nat) ∧ List.length (togF [] l) ≤ (4000000 : Nat)) ∧ Q ([TV.pv (PV.str (togF [] (unstr o6)))], [])) := by kernel_rfl

def S_ftx : Specs := specL [(25, g_path)]

theorem ftx_w (a : List (List PV)) (Q : List TV × List TV → Prop) : (wFun C S_ftx 31 [.pv (.sl a)] Q) (H.auto) = (LoopAt C (31 : FuncId) (CP.dn (CP.dn (CP.dn (CP.dn (CP.dn CP.top (1 : Nat)) (1 : Nat)) (0 : Nat)) (1 : Nat)) (0 : Nat)) (St.mk [((0 : Nat), AV.pv (PV.sl a)), ((3 : Nat), AV.pv (PV.str [])), ((4 : Nat), AV.pv (PV.int IntKind.i64 (0 : Int)))] []) (exK (blockK (0 : Nat) (seqK (wAt C S_ftx (31 : FuncId) (99997 : Nat) (CP.dn (CP.dn (CP.dn CP.top (1 : Nat)) (1 : Nat)) (1 : Nat))) (retK C (31 : FuncId) [TV.pv (PV.sl a)] Q))))) := by kernel_rfl

def ftx_c0 : CP := (CP.dn (CP.dn (CP.dn (CP.dn (CP.dn CP.top (1 : Nat)) (1 : Nat)) (0 : Nat)) (1 : Nat)) (0 : Nat))

def ftx_h0 (t0 : List (List PV)) (t3 : List UInt8) (t4 : Int) : St := (St.mk [((0 : Nat), AV.pv (PV.sl t0)), ((3 : Nat), AV.pv (PV.str t3)), ((4 : Nat), AV.pv (PV.int IntKind.i64 t4))] [])

theorem ftx_l0 (a : List (List PV)) (t0 : List (List PV)) (t3 : List UInt8) (t4 : Int)  (J0 : St → Prop) (Q : List TV × List TV → Prop) : (wAt C S_ftx 31 1000 (ftx_c0.dn 0) (ftx_h0 t0 t3 t4) (loopK C 31 ftx_c0 J0 (exK (blockK (0 : Nat) (seqK (wAt C S_ftx (31 : FuncId) (99997 : Nat) (CP.dn (CP.dn (CP.dn CP.top (1 : Nat)) (1 : Nat)) (1 : Nat))) (retK C (31 : FuncId) [TV.pv (PV.sl a)] Q)))))) (H.b (H.s (H.s (H.b (H.s (H.s (H.s (H.s (H.s (H.s H.auto)))))) (H.b (H.s (H.s (H.s (H.s (H.s (H.s H.auto)))))) (H.s (H.s (H.s (H.s (H.s (H.s H.auto)))))))))) H.auto) = ((decide (t4 < (↑(List.length t0) : Int)) = true → (0 : Int) ≤ t4 ∧ ∃ (es : List (List PV)), ∃ (n : Int), t0[Int.toNat t4]? = some [PV.sl es, PV.int IntKind.i64 n] ∧ ((n == (1 : Int)) = true → List.length t3 + (4 : Nat) ≤ maxInt ∧ List.length (t3 ++ [(103 : UInt8), (111 : UInt8), (110 : UInt8), (101 : UInt8)]) + (1 : Nat) ≤ maxInt ∧ (0 : Int) ≤ t4 ∧ ∃ (es : List (List PV)), ∃ (n : Int), t0[Int.toNat t4]? = some [PV.sl es, PV.int IntKind.i64 n] ∧ (∃ (l : List (List UInt8)), es = List.map strRow l ∧ List.length (pathF l) ≤ (800000 : Nat)) ∧ List.length (t3 ++ [(103 : UInt8), (111 : UInt8), (110 : UInt8), (101 : UInt8)] ++ [(32 : UInt8)]) + List.length (pathF (unstr es)) ≤ maxInt ∧ List.length (t3 ++ [(103 : UInt8), (111 : UInt8), (110 : UInt8), (101 : UInt8)] ++ [(32 : UInt8)] ++ pathF (unstr es)) + (1 : Nat) ≤ maxInt ∧ J0 (St.mk [((0 : Nat), AV.pv (PV.sl t0)), ((3 : Nat), AV.pv (PV.str (t3 ++ [(103 : UInt8), (111 : UInt8), (110 : UInt8), (101 : UInt8)] ++ [(32 : UInt8)] ++ pathF (unstr es) ++ [(10 : UInt8)]))), ((4 : Nat), AV.pv (PV.int IntKind.i64 (IntKind.wrap IntKind.i64 (t4 + (1 : Int)))))] [])) ∧ ((n == (1 : Int)) = false → ((n == (2 : Int)) = true → List.length t3 + (5 : Nat) ≤ maxInt ∧ List.length (t3 ++ [(115 : UInt8), (104 : UInt8), (97 : UInt8), (112 : UInt8), (101 : UInt8)]) + (1 : Nat) ≤ maxInt ∧ (0 : Int) ≤ t4 ∧ ∃ (es : List (List PV)), ∃ (n : Int), t0[Int.toNat t4]? = some [PV.sl es, PV.int IntKind.i64 n] ∧ (∃ (l : List (List UInt8)), es = List.map strRow l ∧ List.length (pathF l) ≤ (800000 : Nat)) ∧ List.length (t3 ++ [(115 : UInt8), (104 : UInt8), (97 : UInt8), (112 : UInt8), (101 : UInt8)] ++ [(32 : UInt8)]) + List.length (pathF (unstr es)) ≤ maxInt ∧ List.length (t3 ++ [(115 : UInt8), (104 : UInt8), (97 : UInt8), (112 : UInt8), (101 : UInt8)] ++ [(32 : UInt8)] ++ pathF (unstr es)) + (1 : Nat) ≤ maxInt ∧ J0 (St.mk [((0 : Nat), AV.pv (PV.sl t0)), ((3 : Nat), AV.pv (PV.str (t3 ++ [(115 : UInt8), (104 : UInt8), (97 : UInt8), (112 : UInt8), (101 : UInt8)] ++ [(32 : UInt8)] ++ pathF (unstr es) ++ [(10 : UInt8)]))), ((4 : Nat), AV.pv (PV.int IntKind.i64 (IntKind.wrap IntKind.i64 (t4 + (1 : Int)))))] [])) ∧ ((n == (2 : Int)) = false → List.length t3 + (4 : Nat) ≤ maxInt ∧ List.length (t3 ++ [(119 : UInt8), (104 : UInt8), (97 : UInt8), (116 : UInt8)]) + (1 : Nat) ≤ maxInt ∧ (0 : Int) ≤ t4 ∧ ∃ (es : List (List PV)), ∃ (n : Int), t0[Int.toNat t4]? = some [PV.sl es, PV.int IntKind.i64 n] ∧ (∃ (l : List (List UInt8)), es = List.map strRow l ∧ List.length (pathF l) ≤ (800000 : Nat)) ∧ List.length (t3 ++ [(119 : UInt8), (104 : UInt8), (97 : UInt8), (116 : UInt8)] ++ [(32 : UInt8)]) + List.length (pathF (unstr es)) ≤ maxInt ∧ List.length (t3 ++ [(119 : UInt8), (104 : UInt8), (97 : UInt8), (116 : UInt8)] ++ [(32 : UInt8)] ++ pathF (unstr es)) + (1 : Nat) ≤ maxInt ∧ J0 (St.mk [((0 : Nat), AV.pv (PV.sl t0)), ((3 : Nat), AV.pv (PV.str (t3 ++ [(119 : UInt8), (104 : UInt8), (97 : UInt8), (116 : UInt8)] ++ [(32 : UInt8)] ++ pathF (unstr es) ++ [(10 : UInt8)]))), ((4 : Nat), AV.pv (PV.int IntKind.i64 (IntKind.wrap IntKind.i64 (t4 + (1 : Int)))))] [])))) ∧ (decide (t4 < (↑(List.length t0) : Int)) = false → ∃ (h : H), Q ([TV.pv (PV.str t3)], []))) := by kernel_rfl

theorem rtx_ev (l : List Conf) (hb : (textC l).length ≤ 700000) : Ev C 30 [.pv (.sl (l.map confRow))] ([.pv (.str (textC l))], []) := by
  have hr := room_val
  have hm := maxInt_val
  have hS : SpecOK C S_rtx := specL_ok (specs_cons knd_ok (specs_cons (path_ok pth_ev) (specs_cons tog_ok specs_nil)))
  have hc := textC_cnt l
  have hl : (l.map confRow).length = l.length := List.length_map _
  refine ev_w hS (rtx_w _ _) ?_
  refine loop_rule hS (by kernel_rfl) 1000 (fun n st => ∃ i : Nat, st = rtx_h0 (l.map confRow) l.length i (((l.map lineF).take i).map strRow) ∧ i ≤ l.length ∧ n = l.length - i) ?_ (n := l.length) ⟨0, by rw [hl]; rfl, by omega, by omega⟩
  rintro n st ⟨i, rfl, hi, rfl⟩
  refine ex_w (rtx_l0 _ _ _ _ _ _ _) ⟨fun h1 => ?_, fun h1 => ?_⟩
  · simp only [decide_eq_true_eq] at h1
    have hi' : i < l.length := by omega
    have hi2 : i < (l.map lineF).length := by rw [List.length_map]; omega
    have w1 := w64s (i := i) (by omega)
    have b1 := textC_le l (i + 1)
    have hk := kind_le l[i].2
    rw [textC_take hi'] at b1
    simp only [lineF, List.length_append, List.length_cons, List.length_nil] at b1
    rw [w1]
    refine ⟨by omega, _, _, conf_get hi', trivial, by omega, ⟨_, rfl, by omega⟩, ?_⟩
    rw [unstr_map]
    refine ⟨by simp only [List.length_append, List.length_cons, List.length_nil]; omega, by simp only [List.length_append, List.length_cons, List.length_nil]; omega, ⟨by simp only [List.length_map, List.length_take]; omega, by simp only [List.length_map, List.length_take]; omega⟩, l.length - (i + 1), by omega, i + 1, ?_, by omega, rfl⟩
    rw [List.take_succ_eq_append_getElem hi2, List.map_append, List.getElem_map]; rfl
  · simp only [decide_eq_false_iff_not] at h1
    have : i = l.length := by omega
    subst this
    have htk : (l.map lineF).take l.length = l.map lineF := List.take_of_length_le (by rw [List.length_map]; omega)
    rw [htk]
    refine ex_w (rtx_x1 _ _ _ _ _ _) ⟨⟨l.map lineF, rfl, by rw [List.length_map]; omega, by rw [textC_tog]; omega⟩, ?_⟩
    rw [unstr_map, textC_tog]

theorem ftx_ev (l : List Conf) (hb : (textC l).length ≤ 700000) : Ev C 31 [.pv (.sl (l.map confRow))] ([.pv (.str (textC l))], []) := by
  have hr := room_val
  have hm := maxInt_val
  have hS : SpecOK C S_ftx := specL_ok (specs_cons (path_ok rth_ev) specs_nil)
  have hc := textC_cnt l
  have hl : (l.map confRow).length = l.length := List.length_map _
  refine ev_w hS (ftx_w _ _) ?_
  refine loop_rule hS (by kernel_rfl) 1000 (fun n st => ∃ i : Nat, st = ftx_h0 (l.map confRow) (textC (l.take i)) i ∧ i ≤ l.length ∧ n = l.length - i) ?_ (n := l.length) ⟨0, rfl, by omega, by omega⟩
  rintro n st ⟨i, rfl, hi, rfl⟩
  refine ex_w (ftx_l0 _ _ _ _ _ _) ⟨fun h1 => ?_, fun h1 => ?_⟩
  · simp only [decide_eq_true_eq] at h1
    have hi' : i < l.length := by omega
    have w1 := w64s (i := i) (by omega)
    have b1 := textC_le l (i + 1)
    have hk := kind_le l[i].2
    have e1 := textC_take hi'
    rw [e1] at b1
    simp only [lineF, List.length_append, List.length_cons, List.length_nil] at b1
    have fin : ∀ x, x = textC (l.take i) ++ lineF l[i] → ∃ m, m < l.length - i ∧ ∃ j : Nat, St.mk [((0 : Nat), AV.pv (PV.sl (l.map confRow))), ((3 : Nat), AV.pv (PV.str x)), ((4 : Nat), AV.pv (PV.int IntKind.i64 ((i + 1 : Nat) : Int)))] [] = ftx_h0 (l.map confRow) (textC (l.take j)) j ∧ j ≤ l.length ∧ m = l.length - j := by
      rintro x rfl
      exact ⟨l.length - (i + 1), by omega, i + 1, by rw [e1]; rfl, by omega, rfl⟩
    have kk : ∀ w : List UInt8, kindF l[i].2 = w → (textC (l.take i)).length + w.length ≤ maxInt ∧ (textC (l.take i) ++ w).length + 1 ≤ maxInt ∧ 0 ≤ (i : Int) ∧ ∃ (es : List (List PV)) (n : Int), (l.map confRow)[((i : Int)).toNat]? = some [PV.sl es, PV.int .i64 n] ∧ (∃ q : List (List UInt8), es = q.map strRow ∧ (pathF q).length ≤ 800000) ∧ (textC (l.take i) ++ w ++ [32]).length + (pathF (unstr es)).length ≤ maxInt ∧ (textC (l.take i) ++ w ++ [32] ++ pathF (unstr es)).length + 1 ≤ maxInt ∧ ∃ m, m < l.length - i ∧ ∃ j : Nat, St.mk [((0 : Nat), AV.pv (PV.sl (l.map confRow))), ((3 : Nat), AV.pv (PV.str (textC (l.take i) ++ w ++ [32] ++ pathF (unstr es) ++ [10]))), ((4 : Nat), AV.pv (PV.int IntKind.i64 ((i + 1 : Nat) : Int)))] [] = ftx_h0 (l.map confRow) (textC (l.take j)) j ∧ j ≤ l.length ∧ m = l.length - j := by
      rintro w rfl
      refine ⟨by omega, by simp only [List.length_append]; omega, by omega, _, _, conf_get hi', ⟨_, rfl, by omega⟩, ?_⟩
      rw [unstr_map]
      refine ⟨by simp only [List.length_append, List.length_cons, List.length_nil]; omega, by simp only [List.length_append, List.length_cons, List.length_nil]; omega, fin _ ?_⟩
      simp only [lineF, List.append_assoc]
    rw [w1]
    refine ⟨by omega, _, _, conf_get hi', fun h => ?_, fun h => ⟨fun h2 => ?_, fun h2 => ?_⟩⟩
    · have h := beq_iff_eq.1 h; exact kk _ (by rw [kindF, if_pos h])
    · have h := beq_eq_false_iff_ne.1 h; have h2 := beq_iff_eq.1 h2; exact kk _ (by rw [kindF, if_neg h, if_pos h2])
    · have h := beq_eq_false_iff_ne.1 h; have h2 := beq_eq_false_iff_ne.1 h2; exact kk _ (by rw [kindF, if_neg h, if_neg h2])
  · simp only [decide_eq_false_iff_not] at h1
    have : i = l.length := by omega
    subst this
    rw [List.take_length]
    exact ⟨.auto, rfl⟩

def g_textC : List TV → Option Alts
  | [.pv (.sl a)] => one (∃ l : List Conf, a = l.map confRow ∧ (textC l).length ≤ 700000) ([.pv (.str (textC (unconf a)))], [])
  | _ => none

def S_rt : Specs := specL [(23, g_kn), (24, g_fewR), (30, g_textC), (31, g_textC)]

theorem rtl_w (a : List (List PV)) (b : List (List PV)) (Q : List TV × List TV → Prop) : (wFun C S_rt 9 [.pv (.sl a), .pv (.sl b)] Q) (H.n (1 : Nat) (H.b H.auto H.auto)) = (True ∧ (decide ((↑(List.length a) : Int) > (10 : Int)) = true → Q ([TV.pv (PV.bool true)], [])) ∧ (decide ((↑(List.length a) : Int) > (10 : Int)) = false → LoopAt C (9 : FuncId) (CP.dn (CP.dn (CP.dn (CP.dn (CP.dn (CP.dn (CP.dn CP.top (1 : Nat)) (1 : Nat)) (1 : Nat)) (1 : Nat)) (0 : Nat)) (1 : Nat)) (0 : Nat)) (St.mk [((0 : Nat), AV.pv (PV.sl a)), ((1 : Nat), AV.pv (PV.sl b)), ((5 : Nat), AV.own (10 : Nat)), ((6 : Nat), AV.pv (PV.int IntKind.i64 (0 : Int)))] [((10 : Nat), Obj.buf (2 : Nat) [])]) (exK (blockK (0 : Nat) (seqK (wAt C S_rt (9 : FuncId) (99995 : Nat) (CP.dn (CP.dn (CP.dn (CP.dn (CP.dn CP.top (1 : Nat)) (1 : Nat)) (1 : Nat)) (1 : Nat)) (1 : Nat))) (retK C (9 : FuncId) [TV.pv (PV.sl a), TV.pv (PV.sl b)] Q)))))) := by kernel_rfl

def rtl_c0 : CP := (CP.dn (CP.dn (CP.dn (CP.dn (CP.dn (CP.dn (CP.dn CP.top (1 : Nat)) (1 : Nat)) (1 : Nat)) (1 : Nat)) (0 : Nat)) (1 : Nat)) (0 : Nat))

def rtl_h0 (t0 : List (List PV)) (t1 : List (List PV)) (t6 : Int) (o10 : List (List PV)) : St := (St.mk [((0 : Nat), AV.pv (PV.sl t0)), ((1 : Nat), AV.pv (PV.sl t1)), ((5 : Nat), AV.own (10 : Nat)), ((6 : Nat), AV.pv (PV.int IntKind.i64 t6))] [((10 : Nat), Obj.buf (2 : Nat) o10)])

theorem rtl_l0 (a : List (List PV)) (b : List (List PV)) (t0 : List (List PV)) (t1 : List (List PV)) (t6 : Int) (o10 : List (List PV))  (J0 : St → Prop) (Q : List TV × List TV → Prop) : (wAt C S_rt 9 1000 (rtl_c0.dn 0) (rtl_h0 t0 t1 t6 o10) (loopK C 9 rtl_c0 J0 (exK (blockK (0 : Nat) (seqK (wAt C S_rt (9 : FuncId) (99995 : Nat) (CP.dn (CP.dn (CP.dn (CP.dn (CP.dn CP.top (1 : Nat)) (1 : Nat)) (1 : Nat)) (1 : Nat)) (1 : Nat))) (retK C (9 : FuncId) [TV.pv (PV.sl a), TV.pv (PV.sl b)] Q)))))) (H.b (H.s (H.s (H.b H.auto (H.s (H.s (H.n (1 : Nat) (H.b (H.s (H.s (H.s H.auto))) (H.s H.auto)))))))) H.auto) = ((decide (t6 < (↑(List.length t0) : Int)) = true → (0 : Int) ≤ t6 ∧ ∃ (es : List (List PV)), t0[Int.toNat t6]? = some [PV.sl es] ∧ (∃ (l : List (List UInt8)), es = List.map strRow l ∧ List.length l ≤ (140737488351232 : Nat)) ∧ ((!fewP (unstr es)) = true → ∃ (h : H), Q ([TV.pv (PV.bool true)], [])) ∧ ((!fewP (unstr es)) = false → (0 : Int) ≤ t6 ∧ ∃ (es : List (List PV)), t0[Int.toNat t6]? = some [PV.sl es] ∧ (decide (t6 < (↑(List.length t1) : Int)) = true → (0 : Int) ≤ t6 ∧ ∃ (n : Int), t1[Int.toNat t6]? = some [PV.int IntKind.i64 n] ∧ ((List.length o10 + (1 : Nat)) * (32 : Nat) ≤ room ∧ List.length o10 + (1 : Nat) ≤ maxInt) ∧ J0 (St.mk [((0 : Nat), AV.pv (PV.sl t0)), ((1 : Nat), AV.pv (PV.sl t1)), ((5 : Nat), AV.own (10 : Nat)), ((6 : Nat), AV.pv (PV.int IntKind.i64 (IntKind.wrap IntKind.i64 (t6 + (1 : Int)))))] [((10 : Nat), Obj.buf (2 : Nat) (o10 ++ [[PV.sl es, PV.int IntKind.i64 n]]))])) ∧ (decide (t6 < (↑(List.length t1) : Int)) = false → ((List.length o10 + (1 : Nat)) * (32 : Nat) ≤ room ∧ List.length o10 + (1 : Nat) ≤ maxInt) ∧ J0 (St.mk [((0 : Nat), AV.pv (PV.sl t0)), ((1 : Nat), AV.pv (PV.sl t1)), ((5 : Nat), AV.own (10 : Nat)), ((6 : Nat), AV.pv (PV.int IntKind.i64 (IntKind.wrap IntKind.i64 (t6 + (1 : Int)))))] [((10 : Nat), Obj.buf (2 : Nat) (o10 ++ [[PV.sl es, PV.int IntKind.i64 (IntKind.wrap IntKind.i64 ((1 : Int) + Int.tmod t6 (2 : Int)))]]))])))) ∧ (decide (t6 < (↑(List.length t0) : Int)) = false → exK (blockK (0 : Nat) (seqK (wAt C S_rt (9 : FuncId) (99995 : Nat) (CP.dn (CP.dn (CP.dn (CP.dn (CP.dn CP.top (1 : Nat)) (1 : Nat)) (1 : Nat)) (1 : Nat)) (1 : Nat))) (retK C (9 : FuncId) [TV.pv (PV.sl a), TV.pv (PV.sl b)] Q))) (Ex.exit (0 : Nat)) (St.mk [((19 : Nat), AV.pv (PV.bool false)), ((18 : Nat), AV.pv (PV.int IntKind.i64 (↑(List.length t0) : Int))), ((17 : Nat), AV.pv (PV.sl t0)), ((16 : Nat), AV.pv (PV.int IntKind.i64 t6)), ((0 : Nat), AV.pv (PV.sl t0)), ((1 : Nat), AV.pv (PV.sl t1)), ((5 : Nat), AV.own (10 : Nat)), ((6 : Nat), AV.pv (PV.int IntKind.i64 t6))] [((10 : Nat), Obj.buf (2 : Nat) o10)]))) := by kernel_rfl

def rtl_s1 (t18 : Int) (t17 : List (List PV)) (t16 : Int) (t0 : List (List PV)) (t1 : List (List PV)) (t6 : Int) (o10 : List (List PV)) : St := (St.mk [((19 : Nat), AV.pv (PV.bool false)), ((18 : Nat), AV.pv (PV.int IntKind.i64 t18)), ((17 : Nat), AV.pv (PV.sl t17)), ((16 : Nat), AV.pv (PV.int IntKind.i64 t16)), ((0 : Nat), AV.pv (PV.sl t0)), ((1 : Nat), AV.pv (PV.sl t1)), ((5 : Nat), AV.own (10 : Nat)), ((6 : Nat), AV.pv (PV.int IntKind.i64 t6))] [((10 : Nat), Obj.buf (2 : Nat) o10)])

theorem rtl_x1 (a : List (List PV)) (b : List (List PV)) (t18 : Int) (t17 : List (List PV)) (t16 : Int) (t0 : List (List PV)) (t1 : List (List PV)) (t6 : Int) (o10 : List (List PV))  (Q : List TV × List TV → Prop) : (fun h => blockK (0 : Nat) (seqK (wAt C S_rt (9 : FuncId) (99995 : Nat) (CP.dn (CP.dn (CP.dn (CP.dn (CP.dn CP.top (1 : Nat)) (1 : Nat)) (1 : Nat)) (1 : Nat)) (1 : Nat))) (retK C (9 : FuncId) [TV.pv (PV.sl a), TV.pv (PV.sl b)] Q)) h (Ex.exit (0 : Nat)) (rtl_s1 t18 t17 t16 t0 t1 t6 o10)) (H.auto) = ((∃ (l : List Conf), o10 = List.map confRow l ∧ List.length (textC l) ≤ (700000 : Nat)) ∧ LoopAt C (9 : FuncId) (CP.dn (CP.dn (CP.dn (CP.dn (CP.dn (CP.dn (CP.dn (CP.dn (CP.dn (CP.dn CP.top (1 : Nat)) (1 : Nat)) (1 : Nat)) (1 : Nat)) (1 : Nat)) (1 : Nat)) (1 : Nat)) (0 : Nat)) (1 : Nat)) (0 : Nat)) (St.mk [((5 : Nat), AV.own (10 : Nat)), ((8 : Nat), AV.pv (PV.str (textC (unconf o10)))), ((9 : Nat), AV.pv (PV.int IntKind.i64 (0 : Int))), ((10 : Nat), AV.pv (PV.int IntKind.i64 (0 : Int)))] [((10 : Nat), Obj.buf (2 : Nat) o10)]) (exK (blockK (2 : Nat) (seqK (wAt C S_rt (9 : FuncId) (99992 : Nat) (CP.dn (CP.dn (CP.dn (CP.dn (CP.dn (CP.dn (CP.dn (CP.dn CP.top (1 : Nat)) (1 : Nat)) (1 : Nat)) (1 : Nat)) (1 : Nat)) (1 : Nat)) (1 : Nat)) (1 : Nat))) (retK C (9 : FuncId) [TV.pv (PV.sl a), TV.pv (PV.sl b)] Q))))) := by kernel_rfl

def rtl_c2 : CP := (CP.dn (CP.dn (CP.dn (CP.dn (CP.dn (CP.dn (CP.dn (CP.dn (CP.dn (CP.dn CP.top (1 : Nat)) (1 : Nat)) (1 : Nat)) (1 : Nat)) (1 : Nat)) (1 : Nat)) (1 : Nat)) (0 : Nat)) (1 : Nat)) (0 : Nat))

def rtl_h2 (t8 : List UInt8) (t9 : Int) (t10 : Int) (o10 : List (List PV)) : St := (St.mk [((5 : Nat), AV.own (10 : Nat)), ((8 : Nat), AV.pv (PV.str t8)), ((9 : Nat), AV.pv (PV.int IntKind.i64 t9)), ((10 : Nat), AV.pv (PV.int IntKind.i64 t10))] [((10 : Nat), Obj.buf (2 : Nat) o10)])

theorem rtl_l2 (a : List (List PV)) (b : List (List PV)) (t8 : List UInt8) (t9 : Int) (t10 : Int) (o10 : List (List PV))  (J2 : St → Prop) (Q : List TV × List TV → Prop) : (wAt C S_rt 9 1000 (rtl_c2.dn 0) (rtl_h2 t8 t9 t10 o10) (loopK C 9 rtl_c2 J2 (exK (blockK (2 : Nat) (seqK (wAt C S_rt (9 : FuncId) (99992 : Nat) (CP.dn (CP.dn (CP.dn (CP.dn (CP.dn (CP.dn (CP.dn (CP.dn CP.top (1 : Nat)) (1 : Nat)) (1 : Nat)) (1 : Nat)) (1 : Nat)) (1 : Nat)) (1 : Nat)) (1 : Nat))) (retK C (9 : FuncId) [TV.pv (PV.sl a), TV.pv (PV.sl b)] Q)))))) (H.b (H.s (H.s (H.b H.auto H.auto))) H.auto) = ((decide (t10 < (↑(List.length t8) : Int)) = true → (0 : Int) ≤ t10 ∧ ∃ (c : UInt8), t8[Int.toNat t10]? = some c ∧ (((↑(UInt8.toNat c) : Int) == (10 : Int)) = true → J2 (St.mk [((5 : Nat), AV.own (10 : Nat)), ((8 : Nat), AV.pv (PV.str t8)), ((9 : Nat), AV.pv (PV.int IntKind.i64 (IntKind.wrap IntKind.i64 (t9 + (1 : Int))))), ((10 : Nat), AV.pv (PV.int IntKind.i64 (IntKind.wrap IntKind.i64 (t10 + (1 : Int)))))] [((10 : Nat), Obj.buf (2 : Nat) o10)])) ∧ (((↑(UInt8.toNat c) : Int) == (10 : Int)) = false → J2 (St.mk [((5 : Nat), AV.own (10 : Nat)), ((8 : Nat), AV.pv (PV.str t8)), ((9 : Nat), AV.pv (PV.int IntKind.i64 t9)), ((10 : Nat), AV.pv (PV.int IntKind.i64 (IntKind.wrap IntKind.i64 (t10 + (1 : Int)))))] [((10 : Nat), Obj.buf (2 : Nat) o10)]))) ∧ (decide (t10 < (↑(List.length t8) : Int)) = false → exK (blockK (2 : Nat) (seqK (wAt C S_rt (9 : FuncId) (99992 : Nat) (CP.dn (CP.dn (CP.dn (CP.dn (CP.dn (CP.dn (CP.dn (CP.dn CP.top (1 : Nat)) (1 : Nat)) (1 : Nat)) (1 : Nat)) (1 : Nat)) (1 : Nat)) (1 : Nat)) (1 : Nat))) (retK C (9 : FuncId) [TV.pv (PV.sl a), TV.pv (PV.sl b)] Q))) (Ex.exit (2 : Nat)) (St.mk [((54 : Nat), AV.pv (PV.bool false)), ((53 : Nat), AV.pv (PV.int IntKind.i64 (↑(List.length t8) : Int))), ((52 : Nat), AV.pv (PV.str t8)), ((51 : Nat), AV.pv (PV.int IntKind.i64 t10)), ((5 : Nat), AV.own (10 : Nat)), ((8 : Nat), AV.pv (PV.str t8)), ((9 : Nat), AV.pv (PV.int IntKind.i64 t9)), ((10 : Nat), AV.pv (PV.int IntKind.i64 t10))] [((10 : Nat), Obj.buf (2 : Nat) o10)]))) := by kernel_rfl

def rtl_s3 (t53 : Int) (t52 : List UInt8) (t51 : Int) (t8 : List UInt8) (t9 : Int) (t10 : Int) (o10 : List (List PV)) : St := (St.mk [((54 : Nat), AV.pv (PV.bool false)), ((53 : Nat), AV.pv (PV.int IntKind.i64 t53)), ((52 : Nat), AV.pv (PV.str t52)), ((51 : Nat), AV.pv (PV.int IntKind.i64 t51)), ((5 : Nat), AV.own (10 : Nat)), ((8 : Nat), AV.pv (PV.str t8)), ((9 : Nat), AV.pv (PV.int IntKind.i64 t9)), ((10 : Nat), AV.pv (PV.int IntKind.i64 t10))] [((10 : Nat), Obj.buf (2 : Nat) o10)])

theorem rtl_x3 (a : List (List PV)) (b : List (List PV)) (t53 : Int) (t52 : List UInt8) (t51 : Int) (t8 : List UInt8) (t9 : Int) (t10 : Int) (o10 : List (List PV))  (Q : List TV × List TV → Prop) : (fun h => blockK (2 : Nat) (seqK (wAt C S_rt (9 : FuncId) (99992 : Nat) (CP.dn (CP.dn (CP.dn (CP.dn (CP.dn (CP.dn (CP.dn (CP.dn CP.top (1 : Nat)) (1 : Nat)) (1 : Nat)) (1 : Nat)) (1 : Nat)) (1 : Nat)) (1 : Nat)) (1 : Nat))) (retK C (9 : FuncId) [TV.pv (PV.sl a), TV.pv (PV.sl b)] Q)) h (Ex.exit (2 : Nat)) (rtl_s3 t53 t52 t51 t8 t9 t10 o10)) (H.n (1 : Nat) (H.b H.auto H.auto)) = ((∃ (l : List Conf), o10 = List.map confRow l ∧ List.length (textC l) ≤ (700000 : Nat)) ∧ ((t8 == textC (unconf o10)) = true → Q ([TV.pv (PV.bool (t9 == (↑(List.length o10) : Int)))], [])) ∧ ((t8 == textC (unconf o10)) = false → Q ([TV.pv (PV.bool false)], []))) := by kernel_rfl

theorem textC_ok {f : FuncId} (h : ∀ l : List Conf, (textC l).length ≤ 700000 → Ev C f [.pv (.sl (l.map confRow))] ([.pv (.str (textC l))], [])) : ∀ ag al, g_textC ag = some al → ∀ a ∈ al, a.1 → Ev C f ag a.2 := by
  intro ag al hl x hx hp
  unfold g_textC at hl
  split at hl
  · have e := one_mem hl hx; subst e
    obtain ⟨l, rfl, h1⟩ := hp
    rw [unconf_map]
    exact h l h1
  · exact absurd hl (by simp)

theorem rt_specs : SpecOK C S_rt := specL_ok (specs_cons kn_ok (specs_cons fewR_ok (specs_cons (textC_ok rtx_ev) (specs_cons (textC_ok ftx_ev) specs_nil))))

theorem path_get {l : List (List (List UInt8))} {i : Nat} (h : i < l.length) : (l.map pathRow)[((i : Int)).toNat]? = some [.sl (l[i].map strRow)] := by
  rw [Int.toNat_natCast, List.getElem?_map, List.getElem?_eq_getElem h]; rfl

theorem int_get {l : List Int} {i : Nat} (h : i < l.length) : (l.map fun n => [PV.int .i64 n])[((i : Int)).toNat]? = some [.int .i64 l[i]] := by
  rw [Int.toNat_natCast, List.getElem?_map, List.getElem?_eq_getElem h]; rfl

theorem esc_ten_all : (List.range 256).all (fun n => (esc (UInt8.ofNat n)).count 10 == 0) = true := by decide +kernel

theorem esc_ten (c : UInt8) : (esc c).count 10 = 0 := by
  have h := List.all_eq_true.1 esc_ten_all c.toNat (List.mem_range.2 c.toNat_lt)
  simpa using h

theorem quoF_ten (s : List UInt8) : (quoF s).count 10 = 0 := by
  have h : (s.flatMap esc).count 10 = 0 := by
    induction s with
    | nil => rfl
    | cons c s ih => rw [List.flatMap_cons, List.count_append, esc_ten, ih]
  simp only [quoF, List.count_append, h]; decide

theorem path_ten (p : List (List UInt8)) : (pathF p).count 10 = 0 := by
  by_cases hp : p = []
  · subst hp; decide
  · rw [path_ne hp]
    clear hp
    induction p with
    | nil => rfl
    | cons x p ih =>
      simp only [togF, List.map_cons, List.flatMap_cons, List.count_append, quoF_ten] at ih ⊢
      rw [ih]; decide

theorem kind_ten (k : Int) : (kindF k).count 10 = 0 := by
  unfold kindF
  split <;> (try split) <;> decide

theorem textC_ten : ∀ l : List Conf, (textC l).count 10 = l.length
  | [] => rfl
  | c :: l => by
    have ih := textC_ten l
    simp only [textC] at ih
    have h1 : List.count (10 : UInt8) [32] = 0 := by decide
    have h2 : List.count (10 : UInt8) [10] = 1 := by decide
    simp only [textC, List.flatMap_cons, List.count_append, lineF, path_ten, kind_ten, h1, h2, ih, List.length_cons]
    omega

theorem textC_size : ∀ {l : List Conf}, (∀ c ∈ l, fewP c.1 = true) → (textC l).length ≤ 3010 * l.length
  | [], _ => by simp [textC]
  | c :: l, h => by
    have h1 := textC_size (l := l) fun y hy => h y (by simp [hy])
    have h2 := (few_path (h c (by simp))).1
    have h3 := kind_le c.2
    simp only [textC] at h1
    simp only [textC, List.flatMap_cons, List.length_append, lineF, List.length_cons, List.length_nil]; omega

theorem rtl_ev (ps : List (List (List UInt8))) (ns : List Int) (hp : ∀ p ∈ ps, p.length ≤ 140737488351232) : Ev C 9 [.pv (.sl (ps.map pathRow)), .pv (.sl (ns.map fun n => [.int .i64 n]))] good := by
  have hr := room_val
  have hm := maxInt_val
  have hl : (ps.map pathRow).length = ps.length := List.length_map _
  have hl2 : (ns.map fun n => [PV.int .i64 n]).length = ns.length := List.length_map _
  refine ev_w rt_specs (rtl_w _ _ _) ⟨trivial, fun _ => rfl, fun h0 => ?_⟩
  simp only [gt_iff_lt, decide_eq_false_iff_not] at h0
  have h0' : ps.length ≤ 10 := by omega
  refine loop_rule rt_specs (by kernel_rfl) 1000 (fun n st => ∃ (i : Nat) (l : List Conf), st = rtl_h0 (ps.map pathRow) (ns.map fun n => [.int .i64 n]) i (l.map confRow) ∧ l.length = i ∧ (∀ c ∈ l, fewP c.1 = true) ∧ i ≤ ps.length ∧ n = ps.length - i) ?_ (n := ps.length) ⟨0, [], rfl, rfl, by simp, by omega, by omega⟩
  rintro n st ⟨i, l, rfl, hll, ha, hi, rfl⟩
  have hlc : (l.map confRow).length = l.length := List.length_map _
  refine ex_w (rtl_l0 _ _ _ _ _ _ _ _) ⟨fun h1 => ?_, fun h1 => ?_⟩
  · simp only [decide_eq_true_eq] at h1
    have hi' : i < ps.length := by omega
    have w1 := w64s (i := i) (by omega)
    rw [w1]
    refine ⟨by omega, _, path_get hi', ⟨_, rfl, hp _ (List.getElem_mem hi')⟩, fun h2 => ⟨.auto, rfl⟩, fun h2 => ?_⟩
    rw [unstr_map] at h2
    have hf : fewP ps[i] = true := by simpa using h2
    have fin : ∀ k : Int, ∃ m, m < ps.length - i ∧ ∃ (j : Nat) (l' : List Conf), St.mk [((0 : Nat), AV.pv (PV.sl (ps.map pathRow))), ((1 : Nat), AV.pv (PV.sl (ns.map fun n => [.int .i64 n]))), ((5 : Nat), AV.own (10 : Nat)), ((6 : Nat), AV.pv (PV.int IntKind.i64 ((i + 1 : Nat) : Int)))] [((10 : Nat), Obj.buf (2 : Nat) (l.map confRow ++ [[PV.sl (ps[i].map strRow), PV.int .i64 k]]))] = rtl_h0 (ps.map pathRow) (ns.map fun n => [.int .i64 n]) j (l'.map confRow) ∧ l'.length = j ∧ (∀ c ∈ l', fewP c.1 = true) ∧ j ≤ ps.length ∧ m = ps.length - j := by
      intro k
      refine ⟨ps.length - (i + 1), by omega, i + 1, l ++ [(ps[i], k)], by rw [List.map_append]; rfl, by simp [hll], ?_, by omega, rfl⟩
      intro c hc
      rcases List.mem_append.1 hc with hc | hc
      · exact ha c hc
      · simp only [List.mem_singleton] at hc; subst hc; exact hf
    refine ⟨by omega, _, path_get hi', fun h3 => ?_, fun h3 => ⟨⟨by omega, by omega⟩, fin _⟩⟩
    simp only [decide_eq_true_eq] at h3
    exact ⟨by omega, _, int_get (by omega), ⟨by omega, by omega⟩, fin _⟩
  · simp only [decide_eq_false_iff_not] at h1
    have : i = ps.length := by omega
    subst this
    have hsz := textC_size ha
    have hcn := textC_cnt l
    refine ex_w (rtl_x1 _ _ _ _ _ _ _ _ _ _) ⟨⟨l, rfl, by omega⟩, ?_⟩
    rw [unconf_map]
    refine loop_rule rt_specs (by kernel_rfl) 1000 (fun n st => ∃ j : Nat, st = rtl_h2 (textC l) (((textC l).take j).count 10 : Nat) j (l.map confRow) ∧ j ≤ (textC l).length ∧ n = (textC l).length - j) ?_ (n := (textC l).length) ⟨0, rfl, by omega, by omega⟩
    rintro n st ⟨j, rfl, hj, rfl⟩
    refine ex_w (rtl_l2 _ _ _ _ _ _ _ _) ⟨fun h2 => ?_, fun h2 => ?_⟩
    · simp only [decide_eq_true_eq] at h2
      have hj' : j < (textC l).length := by omega
      have w2 := w64s (i := j) (by omega)
      have hcl : ((textC l).take j).count 10 ≤ j := by
        have := List.count_le_length (a := (10 : UInt8)) (l := (textC l).take j)
        rw [List.length_take] at this; omega
      have w3 := w64s (i := ((textC l).take j).count 10) (by omega)
      rw [w2, w3]
      have ec : ((textC l).take (j + 1)).count 10 = ((textC l).take j).count 10 + [(textC l)[j]].count 10 := by
        rw [List.take_succ_eq_append_getElem hj', List.count_append]
      refine ⟨by omega, (textC l)[j], by rw [Int.toNat_natCast]; exact List.getElem?_eq_getElem hj', fun h3 => ⟨(textC l).length - (j + 1), by omega, j + 1, ?_, by omega, rfl⟩, fun h3 => ⟨(textC l).length - (j + 1), by omega, j + 1, ?_, by omega, rfl⟩⟩
      · have h3 := beq_iff_eq.1 h3
        have : (textC l)[j] = 10 := (u8_eq (n := 10) (by decide)).1 (by omega)
        rw [ec, this]; rfl
      · have h3 := beq_eq_false_iff_ne.1 h3
        have : ¬ (textC l)[j] = 10 := fun e => h3 (by rw [e]; rfl)
        have e0 : [(textC l)[j]].count 10 = 0 := List.count_eq_zero.2 (by simp only [List.mem_singleton]; exact fun e => this e.symm)
        rw [ec, e0]; rfl
    · simp only [decide_eq_false_iff_not] at h2
      have : j = (textC l).length := by omega
      subst this
      rw [List.take_length, textC_ten]
      refine ex_w (rtl_x3 _ _ _ _ _ _ _ _ _ _) ⟨⟨l, rfl, by omega⟩, ?_⟩
      rw [unconf_map]
      refine ⟨fun _ => ?_, fun h => by simp at h⟩
      rw [hlc, beq_self_eq_true]; rfl

theorem ReportTexts_calls {q : Prop} (e1 : List (List PV)) (s1 : Shp Try.prog 45 [.sl e1]) (ns : List Int) (_hn : q) {w : World} {args : List Value} (hr : RepA w noCells [.sl e1, .sl (ns.map fun n => [.int .i64 n])] args) : Calls Try.prog 9 args.toArray w fun e w' => e = .returned (.bool true) ∧ Below w.heap.size w w' := by
  obtain ⟨l, rfl, _, h1⟩ := paths_of (by kernel_rfl) s1
  obtain ⟨k, h⟩ := (rtl_ev l ns h1).get
  exact law_calls (C := C) progOKp Try.func9 (by kernel_rfl) (sound h) hr

end Go.Proofs.Ytpcjlhhhmjgffaa.Vm
