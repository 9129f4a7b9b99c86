/-
  What laws have in common: numbers below another one; bounds.
-/
import Derived.Test.YtbnjbianobdleaaGreatVmCx
import Derived.Test.YtbnjbianobdleaaGreatVmRows
import Derived.Test.YtbnjbianobdleaaGreatVmRead
import Derived.IntWalk
namespace Go.Proofs.YtbnjbianobdleaaGreat.Vm
open Go Go.RowKit
set_option linter.unusedVariables false
set_option linter.unusedSimpArgs false

def noSpec : Specs := fun _ => none
theorem noSpec_ok : SpecOK C noSpec := by intro f g h; simp [noSpec] at h
theorem room_val : room = 140737488355328 := rfl
theorem maxInt_val : maxInt = 9223372036854775807 := rfl
theorem maxLen_val : maxLen = 9223372036854775807 := rfl
/-- A number that fits stays. -/
theorem w64 {n : Int} (h : -9223372036854775808 ≤ n ∧ n ≤ 9223372036854775807) : IntKind.wrap .i64 n = n := IntWalk.i64_in _ (by omega)
theorem w64s {i : Nat} (h : i < 9223372036854775807) : IntKind.wrap .i64 ((i : Int) + 1) = ((i + 1 : Nat) : Int) := by rw [w64 (by omega)]; omega

/-- A call's answer, by what must be shown. -/
theorem ev_w {C : Cx} {S : Specs} {f : FuncId} {ag : List TV} {R : List TV × List TV} {h : H} {P : Prop} (hS : SpecOK C S) (e : wFun C S f ag (fun r => r = R) h = P) (k : P) : Ev C f ag R := ev_of hS (e.mpr k)
theorem ev_wx {C : Cx} {S : Specs} {f : FuncId} {ag : List TV} {Q : List TV × List TV → Prop} {h : H} {P : Prop} (hS : SpecOK C S) (e : wFun C S f ag Q h = P) (k : P) : ∃ r, Ev C f ag r ∧ Q r := fun_rule hS (e.mpr k)
theorem ex_w {X : H → Prop} {h : H} {P : Prop} (e : X h = P) (k : P) : ∃ h, X h := ⟨h, e.mpr k⟩

/-- A number from 0 to n - 1. -/
def wi (a n : Int) : Int := if Int.tmod a n < 0 then IntKind.wrap .i64 (Int.tmod a n + n) else Int.tmod a n
theorem wi_range {a : Int} {n : Nat} (hn : 0 < n) (hm : n < 2 ^ 62) : 0 ≤ wi a n ∧ wi a n < n := by
  have h1 := Int.tmod_lt_of_pos a (show (0 : Int) < n by omega)
  have h2 : -(n : Int) < Int.tmod a n := by
    have := Int.lt_tmod_of_pos a (show (0 : Int) < n by omega)
    omega
  unfold wi
  split
  · have hb : (2 : Nat) ^ 62 = 4611686018427387904 := by decide
    rw [IntWalk.i64_in _ (by omega)]
    omega
  · omega
def finAlts (v : Int) (n : Nat) : Alts := (List.range n).map fun (i : Nat) => (v = (i : Int), [.pv (.int .i64 (i : Int))], [])
theorem orAll_of : ∀ {l : Alts}, (∃ a ∈ l, a.1) → orAll l
  | [], h => by simp at h
  | [a], h => by simpa [orAll] using h
  | a :: b :: r, h => by
    obtain ⟨c, h1, h2⟩ := h
    simp only [orAll]
    rcases List.mem_cons.1 h1 with rfl | h1
    · exact .inl h2
    · exact .inr (orAll_of ⟨c, h1, h2⟩)
theorem finAlts_or {v : Int} {n : Nat} (h : 0 ≤ v ∧ v < n) : orAll (finAlts v n) := by
  refine orAll_of ⟨_, List.mem_map.2 ⟨v.toNat, by simp; omega, rfl⟩, ?_⟩
  simp; omega
/-- A number below n, by each number. -/
def finSpec (f : FuncId) : Specs := fun g => if g = f then some (fun ag => match ag with
  | [.pv (.int .i64 a), .pv (.int .i64 m)] => if m = 0 then none else some (finAlts (wi a m) m.toNat)
  | _ => none) else none
theorem finSpec_ok {f : FuncId} (hf : ∀ a n : Int, ¬ n = 0 → Ev C f [.pv (.int .i64 a), .pv (.int .i64 n)] ([.pv (.int .i64 (wi a n))], [])) : SpecOK C (finSpec f) := by
  intro f' g h ag l hl x hx hp
  unfold finSpec at h
  split at h
  · rename_i e; subst e
    simp only [Option.some.injEq] at h; subst h
    simp only at hl
    split at hl
    · rename_i a m
      split at hl
      · exact absurd hl (by simp)
      · rename_i hm
        simp only [Option.some.injEq] at hl; subst hl
        obtain ⟨i, hi, rfl⟩ := List.mem_map.1 hx
        simp only at hp
        have := hf a m hm
        rw [hp] at this; exact this
    · exact absurd hl (by simp)
  · exact absurd h (by simp)
/-- .. or as it is reckoned. -/
def g_within : List TV → Option Alts
  | [.pv (.int .i64 a), .pv (.int .i64 m)] => one (¬ m = 0) ([.pv (.int .i64 (wi a m))], [])
  | _ => none
theorem g_within_ok {f : FuncId} (hf : ∀ a n : Int, ¬ n = 0 → Ev C f [.pv (.int .i64 a), .pv (.int .i64 n)] ([.pv (.int .i64 (wi a n))], [])) : ∀ ag al, g_within ag = some al → ∀ a ∈ al, a.1 → Ev C f ag a.2 := by
  intro ag al hl x hx hp
  unfold g_within at hl
  split at hl
  · have e := one_mem hl hx; subst e
    exact hf _ _ hp
  · exact absurd hl (by simp)
/-- A specification of one case, by what is known of a call. -/
theorem one_ok {f : FuncId} {g : List TV → Option Alts} (h : ∀ ag al, g ag = some al → ∃ p r, al = [(p, r)] ∧ (p → Ev C f ag r)) : ∀ ag al, g ag = some al → ∀ a ∈ al, a.1 → Ev C f ag a.2 := by
  intro ag al hl x hx hp
  obtain ⟨p, r, rfl, h2⟩ := h ag al hl
  simp only [List.mem_singleton] at hx; subst hx
  exact h2 hp

end Go.Proofs.YtbnjbianobdleaaGreat.Vm
