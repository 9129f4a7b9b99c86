/-
  ReportLong, in the machine.
-/
import Derived.Test.YtpcjlhhhmjgffaaSayReportPaths
import Derived.Test.YtpcjlhhhmjgffaaSayReportWithin
namespace Go.Proofs.Ytpcjlhhhmjgffaa.Vm
open Go Go.RowKit
set_option linter.unusedVariables false
set_option linter.unusedSimpArgs false
set_option maxRecDepth 100000

noncomputable def S_rlg : Specs := specL [(23, g_kn), (33, g_within), (32, g_parse)]

theorem rlg_w (a b : Int) (Q : List TV × List TV → Prop) : (wFun C S_rlg 12 [.pv (.int .i64 a), .pv (.int .i64 b)] Q) (H.auto) = (True ∧ ¬(30 : Int) = (0 : Int) ∧ ¬(3 : Int) = (0 : Int) ∧ LoopAt C (12 : FuncId) (CP.dn (CP.dn (CP.dn (CP.dn (CP.dn (CP.dn CP.top (1 : Nat)) (1 : Nat)) (1 : Nat)) (1 : Nat)) (0 : Nat)) (0 : Nat)) (St.mk [((0 : Nat), AV.pv (PV.int IntKind.i64 (wi a (30 : Int)))), ((1 : Nat), AV.pv (PV.int IntKind.i64 (wi b (3 : Int)))), ((5 : Nat), AV.pv (PV.str [(47 : UInt8), (34 : UInt8)]))] []) (exK (blockK (0 : Nat) (seqK (wAt C S_rlg (12 : FuncId) (99995 : Nat) (CP.dn (CP.dn (CP.dn (CP.dn (CP.dn CP.top (1 : Nat)) (1 : Nat)) (1 : Nat)) (1 : Nat)) (1 : Nat))) (retK C (12 : FuncId) [TV.pv (PV.int IntKind.i64 a), TV.pv (PV.int IntKind.i64 b)] Q))))) := by kernel_rfl

def rlg_c0 : CP := (CP.dn (CP.dn (CP.dn (CP.dn (CP.dn (CP.dn CP.top (1 : Nat)) (1 : Nat)) (1 : Nat)) (1 : Nat)) (0 : Nat)) (0 : Nat))

def rlg_h0 (t0 : Int) (t1 : Int) (t5 : List UInt8) : St := (St.mk [((0 : Nat), AV.pv (PV.int IntKind.i64 t0)), ((1 : Nat), AV.pv (PV.int IntKind.i64 t1)), ((5 : Nat), AV.pv (PV.str t5))] [])

theorem rlg_l0 (a b : Int) (t0 : Int) (t1 : Int) (t5 : List UInt8)  (J0 : St → Prop) (Q : List TV × List TV → Prop) : (wAt C S_rlg 12 1000 (rlg_c0.dn 0) (rlg_h0 t0 t1 t5) (loopK C 12 rlg_c0 J0 (exK (blockK (0 : Nat) (seqK (wAt C S_rlg (12 : FuncId) (99995 : Nat) (CP.dn (CP.dn (CP.dn (CP.dn (CP.dn CP.top (1 : Nat)) (1 : Nat)) (1 : Nat)) (1 : Nat)) (1 : Nat))) (retK C (12 : FuncId) [TV.pv (PV.int IntKind.i64 a), TV.pv (PV.int IntKind.i64 b)] Q)))))) (H.b (H.n (1 : Nat) (H.s H.auto)) H.auto) = ((decide ((↑(List.length t5) : Int) < IntKind.wrap IntKind.i64 ((3985 : Int) + t0)) = true → List.length t5 + (1 : Nat) ≤ maxInt ∧ J0 (St.mk [((0 : Nat), AV.pv (PV.int IntKind.i64 t0)), ((1 : Nat), AV.pv (PV.int IntKind.i64 t1)), ((5 : Nat), AV.pv (PV.str (t5 ++ [UInt8.ofNat (Int.toNat (IntKind.wrap IntKind.u8 (IntKind.wrap IntKind.i64 ((97 : Int) + t1))))])))] [])) ∧ (decide ((↑(List.length t5) : Int) < IntKind.wrap IntKind.i64 ((3985 : Int) + t0)) = false → exK (blockK (0 : Nat) (seqK (wAt C S_rlg (12 : FuncId) (99995 : Nat) (CP.dn (CP.dn (CP.dn (CP.dn (CP.dn CP.top (1 : Nat)) (1 : Nat)) (1 : Nat)) (1 : Nat)) (1 : Nat))) (retK C (12 : FuncId) [TV.pv (PV.int IntKind.i64 a), TV.pv (PV.int IntKind.i64 b)] Q))) (Ex.exit (0 : Nat)) (St.mk [((18 : Nat), AV.pv (PV.bool false)), ((17 : Nat), AV.pv (PV.int IntKind.i64 (IntKind.wrap IntKind.i64 ((3985 : Int) + t0)))), ((16 : Nat), AV.pv (PV.int IntKind.i64 t0)), ((15 : Nat), AV.pv (PV.int IntKind.i64 (↑(List.length t5) : Int))), ((14 : Nat), AV.pv (PV.str t5)), ((0 : Nat), AV.pv (PV.int IntKind.i64 t0)), ((1 : Nat), AV.pv (PV.int IntKind.i64 t1)), ((5 : Nat), AV.pv (PV.str t5))] []))) := by kernel_rfl

def rlg_s1 (t17 : Int) (t16 : Int) (t15 : Int) (t14 : List UInt8) (t0 : Int) (t1 : Int) (t5 : List UInt8) : St := (St.mk [((18 : Nat), AV.pv (PV.bool false)), ((17 : Nat), AV.pv (PV.int IntKind.i64 t17)), ((16 : Nat), AV.pv (PV.int IntKind.i64 t16)), ((15 : Nat), AV.pv (PV.int IntKind.i64 t15)), ((14 : Nat), AV.pv (PV.str t14)), ((0 : Nat), AV.pv (PV.int IntKind.i64 t0)), ((1 : Nat), AV.pv (PV.int IntKind.i64 t1)), ((5 : Nat), AV.pv (PV.str t5))] [])

theorem rlg_x1 (a b : Int) (t17 : Int) (t16 : Int) (t15 : Int) (t14 : List UInt8) (t0 : Int) (t1 : Int) (t5 : List UInt8)  (Q : List TV × List TV → Prop) : (fun h => blockK (0 : Nat) (seqK (wAt C S_rlg (12 : FuncId) (99995 : Nat) (CP.dn (CP.dn (CP.dn (CP.dn (CP.dn CP.top (1 : Nat)) (1 : Nat)) (1 : Nat)) (1 : Nat)) (1 : Nat))) (retK C (12 : FuncId) [TV.pv (PV.int IntKind.i64 a), TV.pv (PV.int IntKind.i64 b)] Q)) h (Ex.exit (0 : Nat)) (rlg_s1 t17 t16 t15 t14 t0 t1 t5)) (H.s (H.b (H.b (H.b H.auto H.auto) (H.b H.auto H.auto)) (H.b (H.b H.auto (H.n (4 : Nat) (H.b (H.n (1 : Nat) (H.s (H.n (1 : Nat) (H.s H.auto)))) H.auto))) H.auto))) = (List.length t5 + (1 : Nat) ≤ maxInt ∧ orAll [(¬goodS (t5 ++ [(34 : UInt8)]), [TV.pv (PV.sl []), TV.pv (PV.int IntKind.i64 (parseE (t5 ++ [(34 : UInt8)])))], []), (goodS (t5 ++ [(34 : UInt8)]), [TV.own (1 : Nat) (rowsP (t5 ++ [(34 : UInt8)])), TV.pv (PV.int IntKind.i64 (0 : Int))], [])] ∧ (¬goodS (t5 ++ [(34 : UInt8)]) → (decide ((↑(List.length (t5 ++ [(34 : UInt8)])) : Int) > (4000 : Int)) = true → ((parseE (t5 ++ [(34 : UInt8)]) == (5 : Int)) = true → Q ([TV.pv (PV.bool true)], [])) ∧ ((parseE (t5 ++ [(34 : UInt8)]) == (5 : Int)) = false → Q ([TV.pv (PV.bool false)], []))) ∧ (decide ((↑(List.length (t5 ++ [(34 : UInt8)])) : Int) > (4000 : Int)) = false → ((parseE (t5 ++ [(34 : UInt8)]) == (0 : Int)) = true → Q ([TV.pv (PV.bool false)], [])) ∧ ((parseE (t5 ++ [(34 : UInt8)]) == (0 : Int)) = false → Q ([TV.pv (PV.bool false)], [])))) ∧ (goodS (t5 ++ [(34 : UInt8)]) → (decide ((↑(List.length (t5 ++ [(34 : UInt8)])) : Int) > (4000 : Int)) = true → Q ([TV.pv (PV.bool false)], [])) ∧ (decide ((↑(List.length (t5 ++ [(34 : UInt8)])) : Int) > (4000 : Int)) = false → (((↑(List.length (rowsP (t5 ++ [(34 : UInt8)]))) : Int) == (1 : Int)) = true → ((0 : Int) ≤ (0 : Int) ∧ (0 : Int) < (↑(List.length (rowsP (t5 ++ [(34 : UInt8)]))) : Int)) ∧ ∃ (c : List PV), (rowsP (t5 ++ [(34 : UInt8)]))[(0 : Nat)]? = some c ∧ (1 : Nat) ≤ List.length c ∧ ∃ (s : List UInt8), List.take (1 : Nat) c = [PV.str s] ∧ Q ([TV.pv (PV.bool ((↑(List.length s) : Int) == IntKind.wrap IntKind.i64 ((↑(List.length (t5 ++ [(34 : UInt8)])) : Int) - (3 : Int))))], [])) ∧ (((↑(List.length (rowsP (t5 ++ [(34 : UInt8)]))) : Int) == (1 : Int)) = false → Q ([TV.pv (PV.bool false)], [])))) ∧ True) := by kernel_rfl

theorem rlg_specs : SpecOK C S_rlg := specL_ok (specs_cons kn_ok (specs_cons (g_within_ok within_ev) (specs_cons (parse_ok pp_ex) specs_nil)))

theorem esc_abc : (List.range 3).all (fun m => esc (UInt8.ofNat (97 + m)) == [UInt8.ofNat (97 + m)]) = true := by decide +kernel

theorem path_rep (c : UInt8) (hc : esc c = [c]) (k : Nat) : ([47, 34] ++ List.replicate k c) ++ [34] = pathF [List.replicate k c] := by
  have e : ∀ k : Nat, (List.replicate k c).flatMap esc = List.replicate k c := by
    intro k
    induction k with
    | zero => rfl
    | succ k ih => rw [List.replicate_succ, List.flatMap_cons, ih, hc]; rfl
  simp [pathF, togF, quoF, e]

theorem rlg_ev (a b : Int) : Ev C 12 [.pv (.int .i64 a), .pv (.int .i64 b)] good := by
  have hm := maxInt_val
  have h30 : 0 ≤ wi a 30 ∧ wi a 30 < 30 := wi_range (a := a) (n := 30) (by omega) (by omega)
  have h3 : 0 ≤ wi b 3 ∧ wi b 3 < 3 := wi_range (a := b) (n := 3) (by omega) (by omega)
  refine ev_w rlg_specs (rlg_w _ _ _) ⟨trivial, by decide, by decide, ?_⟩
  obtain ⟨n, hn⟩ : ∃ n : Nat, wi a 30 = n := ⟨(wi a 30).toNat, by omega⟩
  obtain ⟨m, hmm⟩ : ∃ m : Nat, wi b 3 = m := ⟨(wi b 3).toNat, by omega⟩
  rw [hn, hmm]
  have hc : IntKind.wrap .u8 (IntKind.wrap .i64 (97 + (m : Int))) = ((97 + m : Nat) : Int) := by rw [IntWalk.i64_in _ (by omega), IntWalk.u8_in _ (by omega)]; omega
  have he : esc (UInt8.ofNat (97 + m)) = [UInt8.ofNat (97 + m)] := by
    have := List.all_eq_true.1 esc_abc m (List.mem_range.2 (by omega))
    simpa using this
  have w1 : IntKind.wrap .i64 (3985 + (n : Int)) = ((3985 + n : Nat) : Int) := by rw [w64 (by omega)]; omega
  refine loop_rule rlg_specs (by kernel_rfl) 1000 (fun j st => ∃ k : Nat, st = rlg_h0 n m ([47, 34] ++ List.replicate k (UInt8.ofNat (97 + m))) ∧ k + 2 ≤ 3985 + n ∧ j = 3983 + n - k) ?_ (n := 3983 + n) ⟨0, rfl, by omega, by omega⟩
  rintro j st ⟨k, rfl, hk, rfl⟩
  have hl : ([47, 34] ++ List.replicate k (UInt8.ofNat (97 + m))).length = k + 2 := by simp
  refine ex_w (rlg_l0 _ _ _ _ _ _ _) ⟨fun c1 => ?_, fun c1 => ?_⟩
  · rw [w1, hl] at c1
    simp only [decide_eq_true_eq] at c1
    rw [hl, hc, Int.toNat_natCast]
    refine ⟨by omega, 3983 + n - (k + 1), by omega, k + 1, ?_, by omega, rfl⟩
    rw [List.replicate_succ', ← List.append_assoc]; rfl
  · rw [w1, hl] at c1
    simp only [decide_eq_false_iff_not] at c1
    have hk2 : k = 3983 + n := by omega
    have hp := path_rep _ he k
    have hlp : (pathF [List.replicate k (UInt8.ofNat (97 + m))]).length = k + 3 := by rw [← hp]; simp
    have hn47 : pathF [List.replicate k (UInt8.ofNat (97 + m))] ≠ [47] := fun e => by rw [e] at hlp; simp at hlp
    refine ex_w (rlg_x1 _ _ _ _ _ _ _ _ _ _) ?_
    rw [hp, hlp, hl]
    generalize hq : List.replicate k (UInt8.ofNat (97 + m)) = q at *
    have hql : q.length = k := by rw [← hq]; simp
    refine ⟨by omega, orAll_two, fun g => ⟨fun d1 => ⟨fun _ => rfl, fun d2 => ?_⟩, fun d1 => ?_⟩, fun g => ⟨fun d1 => ?_, fun d1 => ⟨fun d2 => ?_, fun d2 => ?_⟩⟩, trivial⟩
    · simp only [gt_iff_lt, decide_eq_true_eq] at d1
      rw [parseE, if_pos (by omega)] at d2; exact absurd d2 (by decide)
    · simp only [gt_iff_lt, decide_eq_false_iff_not] at d1
      exact (g ⟨by omega, hn47, _, rfl⟩).elim
    · simp only [gt_iff_lt, decide_eq_true_eq] at d1
      have := g.1; omega
    · simp only [gt_iff_lt, decide_eq_false_iff_not] at d1
      have er : rowsP (pathF [q]) = [strRow q] := by rw [rowsP, parseP_path (by omega)]; rfl
      rw [er]
      refine ⟨⟨by decide, by simp⟩, strRow q, rfl, by simp [strRow], q, rfl, ?_⟩
      rw [hql, w64 (by omega)]
      have : ((k : Int) == ((k + 3 : Nat) : Int) - 3) = true := beq_iff_eq.2 (by omega)
      rw [this]; rfl
    · simp only [gt_iff_lt, decide_eq_false_iff_not] at d1
      have er : rowsP (pathF [q]) = [strRow q] := by rw [rowsP, parseP_path (by omega)]; rfl
      rw [er] at d2; exact absurd d2 (by simp)

theorem ReportLong_calls (a : Int) (ha : (Lit.int .i64 a).wf = true) (b : Int) (hb : (Lit.int .i64 b).wf = true) {w : World} {args : List Value} (hr : RepA w noCells [.int .i64 a, .int .i64 b] args) : Calls Try.prog 12 args.toArray w fun e w' => e = .returned (.bool true) ∧ Below w.heap.size w w' := by
  obtain ⟨k, h⟩ := (rlg_ev a b).get
  exact law_calls (C := C) progOKp Try.func12 (by kernel_rfl) (sound h) hr

end Go.Proofs.Ytpcjlhhhmjgffaa.Vm
