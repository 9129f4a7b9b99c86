/-
  Numbers below another one, in the report's laws.
-/
import Derived.Test.YtpcjlhhhmjgffaaSayReportRead
namespace Go.Proofs.Ytpcjlhhhmjgffaa.Vm
open Go Go.RowKit
set_option linter.unusedVariables false
set_option linter.unusedSimpArgs false
set_option maxRecDepth 100000

theorem wt_w (a n : Int) (Q : List TV × List TV → Prop) : (wFun C noSpec 33 [.pv (.int .i64 a), .pv (.int .i64 n)] Q) (H.s (H.b H.auto H.auto)) = (¬n = (0 : Int) ∧ (decide (Int.tmod a n < (0 : Int)) = true → Q ([TV.pv (PV.int IntKind.i64 (IntKind.wrap IntKind.i64 (Int.tmod a n + n)))], [])) ∧ (decide (Int.tmod a n < (0 : Int)) = false → Q ([TV.pv (PV.int IntKind.i64 (Int.tmod a n))], []))) := by kernel_rfl

theorem within_ev (a n : Int) (hn : ¬ n = 0) : Ev C 33 [.pv (.int .i64 a), .pv (.int .i64 n)] ([.pv (.int .i64 (wi a n))], []) := by
  refine ev_w noSpec_ok (wt_w a n _) ⟨hn, fun h => ?_, fun h => ?_⟩
  · rw [wi, if_pos (by simpa using h)]
  · rw [wi, if_neg (by simpa using h)]

end Go.Proofs.Ytpcjlhhhmjgffaa.Vm
