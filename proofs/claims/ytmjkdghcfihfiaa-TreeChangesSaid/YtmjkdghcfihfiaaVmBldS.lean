/-
  What is known of strings.Builder's methods.
-/
import Derived.Test.YtmjkdghcfihfiaaVmRows
import Derived.Test.YtmjkdghcfihfiaaVmBld
namespace Go.Proofs.Ytmjkdghcfihfiaa.Vm
open Go Go.RowKit
set_option linter.unusedVariables false
set_option linter.unusedSimpArgs false

def g_ws : List TV → Option Alts
  | [.bld bs, .pv (.str s)] => one (bs.length + s.length ≤ room) ([.pv (.int .i64 s.length), .pv .nilIface], [.bld (bs ++ s)])
  | _ => none
def g_bs : List TV → Option Alts
  | [.bld bs] => one (bs.length ≤ room) ([.pv (.str bs)], [.bld bs])
  | _ => none
theorem ws_ok {C : Cx} {f : FuncId} (h : C.ext f = some xWriteString) : ∀ ag al, g_ws ag = some al → ∀ a ∈ al, a.1 → Ev C f ag a.2 := by
  intro ag al hl a ha hp
  unfold g_ws at hl
  split at hl
  · have e := one_mem hl ha; subst e
    exact ev_ext h (by simp only [xWriteString]; rw [if_pos hp])
  · exact absurd hl (by simp)
theorem bs_ok {C : Cx} {f : FuncId} (h : C.ext f = some xString) : ∀ ag al, g_bs ag = some al → ∀ a ∈ al, a.1 → Ev C f ag a.2 := by
  intro ag al hl a ha hp
  unfold g_bs at hl
  split at hl
  · have e := one_mem hl ha; subst e
    exact ev_ext h (by simp only [xString]; rw [if_pos hp])
  · exact absurd hl (by simp)
def g_wb : List TV → Option Alts
  | [.bld bs, .pv (.int .u8 n)] => one (bs.length + 1 ≤ room ∧ 0 ≤ n ∧ n < 256) ([.pv .nilIface], [.bld (bs ++ [UInt8.ofNat n.toNat])])
  | _ => none
theorem wb_ok {C : Cx} {f : FuncId} (h : C.ext f = some xWriteByte) : ∀ ag al, g_wb ag = some al → ∀ a ∈ al, a.1 → Ev C f ag a.2 := by
  intro ag al hl a ha hp
  unfold g_wb at hl
  split at hl
  · have e := one_mem hl ha; subst e
    exact ev_ext h (by simp only [xWriteByte]; rw [if_pos hp])
  · exact absurd hl (by simp)

end Go.Proofs.Ytmjkdghcfihfiaa.Vm
