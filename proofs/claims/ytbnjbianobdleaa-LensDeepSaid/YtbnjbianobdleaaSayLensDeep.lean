/-
  LensDeep, in the machine.
-/
import Derived.Test.YtbnjbianobdleaaVmCommon
namespace Go.Proofs.Ytbnjbianobdleaa.Vm
open Go Go.RowKit
set_option linter.unusedVariables false
set_option maxRecDepth 100000

theorem within_w (a n : Int) (Q : List TV × List TV → Prop) : (wFun C noSpec 6 [.pv (.int .i64 a), .pv (.int .i64 n)] Q) (H.s (H.b H.auto H.auto)) = (¬n = (0 : Int) ∧ (decide (Int.tmod a n < (0 : Int)) = true → Q ([TV.pv (PV.int IntKind.i64 (IntKind.wrap IntKind.i64 (Int.tmod a n + n)))], [])) ∧ (decide (Int.tmod a n < (0 : Int)) = false → Q ([TV.pv (PV.int IntKind.i64 (Int.tmod a n))], []))) := by kernel_rfl

theorem within_ev (a n : Int) (hn : ¬ n = 0) : Ev C 6 [.pv (.int .i64 a), .pv (.int .i64 n)] ([.pv (.int .i64 (wi a n))], []) := by
  refine ev_of noSpec_ok ((within_w a n _).mpr ⟨hn, fun h => ?_, fun h => ?_⟩)
  · simp only [decide_eq_true_eq] at h; simp [wi, h]
  · simp only [decide_eq_false_iff_not] at h; simp [wi, h]

theorem LensDeep_w_true (n : Int) : wFun C (finSpec 6) 3 [.pv (.int .i64 n), .pv (.bool true)] (fun r => r = good) (.n 1 (.b (.n 1 (.r 100000 (.r 100000 .auto))) (.b (.n 1 (.r 100000 (.r 100000 .auto))) (.b (.n 1 (.r 100000 (.r 100000 .auto))) (.b (.n 1 (.r 100000 (.r 100000 .auto))) (.b (.n 1 (.r 100000 (.r 100000 .auto))) .auto)))))) =
  (orAll (finAlts (wi n 5) 5) ∧ ((wi n 5 = 0 → good = good) ∧ (wi n 5 = 1 → good = good) ∧ (wi n 5 = 2 → good = good) ∧ (wi n 5 = 3 → good = good) ∧ (wi n 5 = 4 → good = good) ∧ True)) := by kernel_rfl

theorem LensDeep_w_false (n : Int) : wFun C (finSpec 6) 3 [.pv (.int .i64 n), .pv (.bool false)] (fun r => r = good) (.n 1 (.b (.n 1 (.r 100000 .auto)) (.b (.n 1 (.r 100000 .auto)) (.b (.n 1 (.r 100000 .auto)) (.b (.n 1 (.r 100000 .auto)) (.b (.n 1 (.r 100000 .auto)) .auto)))))) =
  (orAll (finAlts (wi n 5) 5) ∧ ((wi n 5 = 0 → good = good) ∧ (wi n 5 = 1 → good = good) ∧ (wi n 5 = 2 → good = good) ∧ (wi n 5 = 3 → good = good) ∧ (wi n 5 = 4 → good = good) ∧ True)) := by kernel_rfl

theorem LensDeep_calls (n : Int) (hn : (Lit.int .i64 n).wf = true) (b : Bool) {w : World} {args : List Value} (hr : RepA w noCells [.int .i64 n, .bool b] args) : Calls Try.prog 3 args.toArray w fun e w' => e = .returned (.bool true) ∧ Below w.heap.size w w' := by
  have h5 := finAlts_or (wi_range (a := n) (n := 5) (by omega) (by omega))
  have h : Ev C 3 [.pv (.int .i64 n), .pv (.bool b)] good := by
    cases b
    · exact ev_of (finSpec_ok within_ev) ((LensDeep_w_false n).mpr ⟨h5, by simp⟩)
    · exact ev_of (finSpec_ok within_ev) ((LensDeep_w_true n).mpr ⟨h5, by simp⟩)
  obtain ⟨k, h⟩ := h.get
  exact law_calls (C := C) progOKp Try.func3 (by kernel_rfl) (sound h) hr

end Go.Proofs.Ytbnjbianobdleaa.Vm
