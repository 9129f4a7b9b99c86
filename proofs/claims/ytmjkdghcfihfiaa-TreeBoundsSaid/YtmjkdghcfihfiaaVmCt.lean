/-
  Contracts, generally.
-/
import Derived.Test.YtmjkdghcfihfiaaVmSound
import Derived.Test.YtmjkdghcfihfiaaChecked
import Derived.Lib.Builder
import Derived.Lib.UnsafeStr
import Derived.Lib.Hide
import Derived.Laws.Externs
namespace Go.Proofs.Ytmjkdghcfihfiaa.Vm
open Go Go.RowKit
set_option linter.unusedVariables false
set_option linter.unusedSimpArgs false
theorem wpList_app {P : Program} {w : World} {ops : Array Oper} {rest : List Oper} {o : Oper} {a : Act} {Q : Exit → Act → World → Prop} (hgd : o.guard = none) (s x : Operand) (t u : TypeId)
    (ho : o.op = .call { callee := .builtin .append, args := #[s, x], argTypes := #[t, u] }) {v : Value} {W' : World} (hrun : ∀ ty, (Builtin.append_ #[t, u] ty #[a.eval s, a.eval x]).run P w = .ok v W')
    (h : wpList P ops Q rest (a.put o.dst v) W') : wpList P ops Q (o :: rest) a w := by
  refine wpList_plain hgd fun K hK => ?_
  unfold Oper.wp
  simp [execOp, ho, resolve, invoke, builtin, hrun, Result.andThen]
  exact hK _ _ h

/-! ### Contracts -/
/-- Plain values, as they stand. -/
def RepA (w : World) (M : Cells) : List PV → List Value → Prop
  | [], cs => cs = []
  | x :: xs, cs => ∃ c r, cs = c :: r ∧ Rep w M x c ∧ RepA w M xs r
theorem tvall_pv {w : World} {M : Cells} : ∀ {xs : List PV} {ts : List LT} {cs : List Value}, TVAll w M (xs.map .pv) ts cs → RepA w M xs cs ∧ LT.locsL ts = []
  | [], ts, cs, h => by
    simp only [List.map_nil, TVAll] at h
    obtain ⟨rfl, rfl⟩ := h
    exact ⟨rfl, rfl⟩
  | x :: xs, ts, cs, h => by
    simp only [List.map_cons, TVAll, TVL] at h
    obtain ⟨t, r, c, d, rfl, rfl, ⟨rfl, hx⟩, hr⟩ := h
    obtain ⟨k1, k2⟩ := tvall_pv hr
    exact ⟨by simp only [RepA]; exact ⟨c, d, rfl, hx, k1⟩, by simp [LT.locsL, LT.locs, k2]⟩
theorem tvall_of {w : World} {M : Cells} : ∀ {xs : List PV} {cs : List Value}, RepA w M xs cs → TVAll w M (xs.map .pv) (xs.map fun _ => .none) cs
  | [], cs, h => by simp only [RepA] at h; subst h; simp [TVAll]
  | x :: xs, cs, h => by
    simp only [RepA] at h
    obtain ⟨c, r, rfl, h1, h2⟩ := h
    simp only [List.map_cons, TVAll, TVL]
    exact ⟨.none, _, c, r, rfl, rfl, ⟨rfl, h1⟩, tvall_of h2⟩
theorem locs_none : ∀ xs : List PV, LT.locsL (xs.map fun _ => LT.none) = []
  | [] => rfl
  | _ :: xs => by simp [LT.locsL, LT.locs, locs_none xs]
theorem finR_pv {w : World} {M : Cells} : ∀ {ms : List Mode} {xs : List PV} {ts : List LT} {cs : List Value}, ts.length = xs.length → cs.length = xs.length → FinR w M ms (xs.map .pv) ts cs [] []
  | ms, [], ts, cs, _, _ => by simp [FinR]
  | ms, x :: xs, [], cs, h, _ => by simp at h
  | ms, x :: xs, t :: ts, [], _, h => by simp at h
  | ms, x :: xs, t :: ts, c :: cs, h, k => by
    simp only [List.map_cons, FinR]
    exact ⟨t, ts, c, cs, rfl, rfl, finR_pv (by simpa using h) (by simpa using k)⟩
theorem tvall_len {w : World} {M : Cells} : ∀ {vs : List TV} {ts : List LT} {cs : List Value}, TVAll w M vs ts cs → ts.length = vs.length
  | [], ts, cs, h => by simp only [TVAll] at h; obtain ⟨rfl, rfl⟩ := h; rfl
  | v :: vs, ts, cs, h => by
    simp only [TVAll] at h
    obtain ⟨t, r, c, d, rfl, rfl, _, hr⟩ := h
    simp [tvall_len hr]

theorem enters {f : FuncId} {fn : Func} {c : Code} (hf : Try.prog.funcs[f]? = some fn) (hn : (fn.name == "runtime.NumGoroutine") = false) (hb : fn.body = some c) (args : Array Value) (w : World) : (callFunc f args).run Try.prog w = .ok (.enter f args) w := by
  have h2 : ¬ fn.name = "runtime.NumGoroutine" := by simpa using hn
  unfold callFunc
  simp [program, Sem.run, hf, h2, hb]


end Go.Proofs.Ytmjkdghcfihfiaa.Vm
