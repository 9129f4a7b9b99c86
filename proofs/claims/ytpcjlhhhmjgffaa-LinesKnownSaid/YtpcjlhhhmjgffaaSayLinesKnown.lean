/-
  LinesKnown, in the machine.
-/
import Derived.Test.YtpcjlhhhmjgffaaVmCx
import Derived.Test.YtpcjlhhhmjgffaaVmLaw
import Derived.IntWalk
namespace Go.Proofs.Ytpcjlhhhmjgffaa.Vm
open Go Go.RowKit
set_option linter.unusedVariables false

def wi (a n : Int) : Int := if Int.tmod a n < 0 then IntKind.wrap .i64 (Int.tmod a n + n) else Int.tmod a n
def noSpec : Specs := fun _ => none
theorem noSpec_ok : SpecOK C noSpec := by intro f g h; simp [noSpec] at h
theorem within_w (a n : Int) (Q : List TV × List TV → Prop) : wFun C noSpec 21 [.pv (.int .i64 a), .pv (.int .i64 n)] Q (.s (.b .auto .auto)) =
  (¬ n = 0 ∧ ((decide (Int.tmod a n < 0) = true → Q ([.pv (.int .i64 (IntKind.wrap .i64 (Int.tmod a n + n)))], [])) ∧ (decide (Int.tmod a n < 0) = false → Q ([.pv (.int .i64 (Int.tmod a n))], [])))) := by kernel_rfl
theorem within_ev (a n : Int) (hn : ¬ n = 0) : Ev C 21 [.pv (.int .i64 a), .pv (.int .i64 n)] ([.pv (.int .i64 (wi a n))], []) := by
  obtain ⟨r, h, rfl⟩ := fun_rule noSpec_ok (C := C) (f := 21) (ag := [.pv (.int .i64 a), .pv (.int .i64 n)]) (Q := fun r => r = ([.pv (.int .i64 (wi a n))], [])) (h := .s (.b .auto .auto)) (by
    rw [within_w]
    refine ⟨hn, fun h => ?_, fun h => ?_⟩
    · simp only [decide_eq_true_eq] at h; simp [wi, h]
    · simp only [decide_eq_false_iff_not] at h; simp [wi, h])
  exact h

theorem wi_range {a : Int} {n : Nat} (hn : 0 < n) (hm : n < 2 ^ 62) : 0 ≤ wi a n ∧ wi a n < n := by
  have h1 := Int.tmod_lt_of_pos a (show (0 : Int) < n by omega)
  have h2 : -(n : Int) < Int.tmod a n := by
    have := Int.lt_tmod_of_pos a (show (0 : Int) < n by omega)
    omega
  unfold wi
  split
  · have hb : (2 : Nat) ^ 62 = 4611686018427387904 := by decide
    rw [IntWalk.i64_in _ (by omega)]
    omega
  · omega

def finAlts (v : Int) (n : Nat) : Alts := (List.range n).map fun (i : Nat) => (v = (i : Int), [.pv (.int .i64 (i : Int))], [])
theorem orAll_of : ∀ {l : Alts}, (∃ a ∈ l, a.1) → orAll l
  | [], h => by simp at h
  | [a], h => by simpa [orAll] using h
  | a :: b :: r, h => by
    obtain ⟨c, h1, h2⟩ := h
    simp only [orAll]
    rcases List.mem_cons.1 h1 with rfl | h1
    · exact .inl h2
    · exact .inr (orAll_of ⟨c, h1, h2⟩)
theorem finAlts_or {v : Int} {n : Nat} (h : 0 ≤ v ∧ v < n) : orAll (finAlts v n) := by
  refine orAll_of ⟨_, List.mem_map.2 ⟨v.toNat, by simp; omega, rfl⟩, ?_⟩
  simp; omega
/-- A number below n, by each number. -/
def finSpec (f : FuncId) : Specs := fun g => if g = f then some (fun ag => match ag with
  | [.pv (.int .i64 a), .pv (.int .i64 m)] => if m = 0 then none else some (finAlts (wi a m) m.toNat)
  | _ => none) else none
theorem finSpec_ok : SpecOK C (finSpec 21) := by
  intro f g h ag l hl x hx hp
  unfold finSpec at h
  split at h
  · rename_i e; subst e
    simp only [Option.some.injEq] at h; subst h
    simp only at hl
    split at hl
    · rename_i a m
      split at hl
      · exact absurd hl (by simp)
      · rename_i hm
        simp only [Option.some.injEq] at hl; subst hl
        obtain ⟨i, hi, rfl⟩ := List.mem_map.1 hx
        simp only at hp
        have := within_ev a m hm
        rw [hp] at this; exact this
    · exact absurd hl (by simp)
  · exact absurd h (by simp)

theorem LinesKnown_w (n : Int) : wFun C (finSpec 21) 5 [.pv (.int .i64 n)] (fun r => r = good) .auto =
  (orAll (finAlts (wi n 8) 8) ∧ ((wi n 8 = 0 → good = good) ∧ (wi n 8 = 1 → good = good) ∧ (wi n 8 = 2 → good = good) ∧ (wi n 8 = 3 → good = good) ∧ (wi n 8 = 4 → good = good) ∧ (wi n 8 = 5 → good = good) ∧ (wi n 8 = 6 → good = good) ∧ (wi n 8 = 7 → good = good) ∧ True)) := by kernel_rfl

theorem LinesKnown_calls (n : Int) (hn : (Lit.int .i64 n).wf = true) {w : World} {args : List Value} (hr : RepA w noCells [.int .i64 n] args) : Calls Try.prog 5 args.toArray w fun e w' => e = .returned (.bool true) ∧ Below w.heap.size w w' := by
  obtain ⟨r, h, rfl⟩ := fun_rule finSpec_ok (C := C) (f := 5) (ag := [.pv (.int .i64 n)]) (Q := fun r => r = good) (h := .auto) (by
    rw [LinesKnown_w]
    have h8 : 0 ≤ wi n 8 ∧ wi n 8 < 8 := wi_range (a := n) (n := 8) (by omega) (by omega)
    exact ⟨finAlts_or h8, by simp⟩)
  obtain ⟨k, h⟩ := h.get
  exact law_calls (C := C) progOKp Try.func5 (by kernel_rfl) (sound h) hr

end Go.Proofs.Ytpcjlhhhmjgffaa.Vm
