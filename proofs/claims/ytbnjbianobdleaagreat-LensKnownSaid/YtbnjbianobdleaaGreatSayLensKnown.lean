/-
  LensKnown, in the machine.
-/
import Derived.Test.YtbnjbianobdleaaGreatVmCommon
namespace Go.Proofs.YtbnjbianobdleaaGreat.Vm
open Go Go.RowKit
set_option linter.unusedVariables false
set_option maxRecDepth 100000

theorem within_w (a n : Int) (Q : List TV × List TV → Prop) : (wFun C noSpec 13 [.pv (.int .i64 a), .pv (.int .i64 n)] Q) (H.s (H.b H.auto H.auto)) = (¬n = (0 : Int) ∧ (decide (Int.tmod a n < (0 : Int)) = true → Q ([TV.pv (PV.int IntKind.i64 (IntKind.wrap IntKind.i64 (Int.tmod a n + n)))], [])) ∧ (decide (Int.tmod a n < (0 : Int)) = false → Q ([TV.pv (PV.int IntKind.i64 (Int.tmod a n))], []))) := by kernel_rfl

theorem within_ev (a n : Int) (hn : ¬ n = 0) : Ev C 13 [.pv (.int .i64 a), .pv (.int .i64 n)] ([.pv (.int .i64 (wi a n))], []) := by
  refine ev_of noSpec_ok ((within_w a n _).mpr ⟨hn, fun h => ?_, fun h => ?_⟩)
  · simp only [decide_eq_true_eq] at h; simp [wi, h]
  · simp only [decide_eq_false_iff_not] at h; simp [wi, h]

theorem LensKnown_w (n : Int) : wFun C (finSpec 13) 6 [.pv (.int .i64 n)] (fun r => r = good) .auto =
  (orAll (finAlts (wi n 6) 6) ∧ ((wi n 6 = 0 → good = good) ∧ (wi n 6 = 1 → good = good) ∧ (wi n 6 = 2 → good = good) ∧ (wi n 6 = 3 → good = good) ∧ (wi n 6 = 4 → good = good) ∧ (wi n 6 = 5 → good = good) ∧ True)) := by kernel_rfl

theorem LensKnown_calls (n : Int) (hn : (Lit.int .i64 n).wf = true) {w : World} {args : List Value} (hr : RepA w noCells [.int .i64 n] args) : Calls Tryz.prog 6 args.toArray w fun e w' => e = .returned (.bool true) ∧ Below w.heap.size w w' := by
  have h6 := finAlts_or (wi_range (a := n) (n := 6) (by omega) (by omega))
  have h := ev_of (finSpec_ok within_ev) ((LensKnown_w n).mpr ⟨h6, fun _ => rfl, fun _ => rfl, fun _ => rfl, fun _ => rfl, fun _ => rfl, fun _ => rfl, trivial⟩)
  obtain ⟨k, h⟩ := h.get
  exact law_calls (C := C) progOKp Tryz.func6 (by kernel_rfl) (sound h) hr

end Go.Proofs.YtbnjbianobdleaaGreat.Vm
