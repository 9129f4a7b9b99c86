/-
  LensErrs, in the machine.
-/
import Derived.Test.YtbnjbianobdleaaVmCommon
namespace Go.Proofs.Ytbnjbianobdleaa.Vm
open Go Go.RowKit
set_option linter.unusedVariables false
set_option maxRecDepth 100000

theorem within_w (a n : Int) (Q : List TV × List TV → Prop) : (wFun C noSpec 6 [.pv (.int .i64 a), .pv (.int .i64 n)] Q) (H.s (H.b H.auto H.auto)) = (¬n = (0 : Int) ∧ (decide (Int.tmod a n < (0 : Int)) = true → Q ([TV.pv (PV.int IntKind.i64 (IntKind.wrap IntKind.i64 (Int.tmod a n + n)))], [])) ∧ (decide (Int.tmod a n < (0 : Int)) = false → Q ([TV.pv (PV.int IntKind.i64 (Int.tmod a n))], []))) := by kernel_rfl

theorem within_ev (a n : Int) (hn : ¬ n = 0) : Ev C 6 [.pv (.int .i64 a), .pv (.int .i64 n)] ([.pv (.int .i64 (wi a n))], []) := by
  refine ev_of noSpec_ok ((within_w a n _).mpr ⟨hn, fun h => ?_, fun h => ?_⟩)
  · simp only [decide_eq_true_eq] at h; simp [wi, h]
  · simp only [decide_eq_false_iff_not] at h; simp [wi, h]

theorem LensErrs_w (n : Int) : wFun C (finSpec 6) 4 [.pv (.int .i64 n)] (fun r => r = good) .auto =
  (orAll (finAlts (wi n 3) 3) ∧ ((wi n 3 = 0 → (orAll (finAlts (wi (IntKind.wrap .i64 (Int.tdiv n 3)) 5) 5) ∧ ((wi (IntKind.wrap .i64 (Int.tdiv n 3)) 5 = 0 → good = good) ∧ (wi (IntKind.wrap .i64 (Int.tdiv n 3)) 5 = 1 → good = good) ∧ (wi (IntKind.wrap .i64 (Int.tdiv n 3)) 5 = 2 → good = good) ∧ (wi (IntKind.wrap .i64 (Int.tdiv n 3)) 5 = 3 → good = good) ∧ (wi (IntKind.wrap .i64 (Int.tdiv n 3)) 5 = 4 → good = good) ∧ True))) ∧ (wi n 3 = 1 → (orAll (finAlts (wi (IntKind.wrap .i64 (Int.tdiv n 3)) 5) 5) ∧ ((wi (IntKind.wrap .i64 (Int.tdiv n 3)) 5 = 0 → good = good) ∧ (wi (IntKind.wrap .i64 (Int.tdiv n 3)) 5 = 1 → good = good) ∧ (wi (IntKind.wrap .i64 (Int.tdiv n 3)) 5 = 2 → good = good) ∧ (wi (IntKind.wrap .i64 (Int.tdiv n 3)) 5 = 3 → good = good) ∧ (wi (IntKind.wrap .i64 (Int.tdiv n 3)) 5 = 4 → good = good) ∧ True))) ∧ (wi n 3 = 2 → (orAll (finAlts (wi (IntKind.wrap .i64 (Int.tdiv n 3)) 5) 5) ∧ ((wi (IntKind.wrap .i64 (Int.tdiv n 3)) 5 = 0 → good = good) ∧ (wi (IntKind.wrap .i64 (Int.tdiv n 3)) 5 = 1 → good = good) ∧ (wi (IntKind.wrap .i64 (Int.tdiv n 3)) 5 = 2 → good = good) ∧ (wi (IntKind.wrap .i64 (Int.tdiv n 3)) 5 = 3 → good = good) ∧ (wi (IntKind.wrap .i64 (Int.tdiv n 3)) 5 = 4 → good = good) ∧ True))) ∧ True)) := by kernel_rfl

theorem LensErrs_calls (n : Int) (hn : (Lit.int .i64 n).wf = true) {w : World} {args : List Value} (hr : RepA w noCells [.int .i64 n] args) : Calls Try.prog 4 args.toArray w fun e w' => e = .returned (.bool true) ∧ Below w.heap.size w w' := by
  have h3 := finAlts_or (wi_range (a := n) (n := 3) (by omega) (by omega))
  have h5 := finAlts_or (wi_range (a := IntKind.wrap .i64 (Int.tdiv n 3)) (n := 5) (by omega) (by omega))
  have h := ev_of (finSpec_ok within_ev) ((LensErrs_w n).mpr ⟨h3, fun _ => ⟨h5, by simp⟩, fun _ => ⟨h5, by simp⟩, fun _ => ⟨h5, by simp⟩, trivial⟩)
  obtain ⟨k, h⟩ := h.get
  exact law_calls (C := C) progOKp Try.func4 (by kernel_rfl) (sound h) hr

end Go.Proofs.Ytbnjbianobdleaa.Vm
