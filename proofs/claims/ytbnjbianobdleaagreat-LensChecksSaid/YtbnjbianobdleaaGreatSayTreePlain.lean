/-
  Trees' texts and bytes: plain laws.
-/
import Derived.Test.YtbnjbianobdleaaGreatSayTreeMake
import Derived.Test.YtbnjbianobdleaaGreatSayTreeSame
namespace Go.Proofs.YtbnjbianobdleaaGreat.Vm
open Go Go.RowKit
set_option linter.unusedVariables false
set_option linter.unusedSimpArgs false
set_option maxRecDepth 100000


/-! ### Trees made of raw edges -/
theorem lim_of {B : Nat} : ∀ {l : List Edge}, (∀ e ∈ l, e.1.length ≤ B ∧ e.2.list.length ≤ B ∧ e.2.lim B) → (Tr.of l).lim B
  | [], _ => trivial
  | (n, k) :: l, h => by
    obtain ⟨h1, h2, h3⟩ := h (n, k) (by simp)
    exact ⟨h1, h2, h3, lim_of fun e he => h e (by simp [he])⟩
theorem withE_mem {l : List Edge} {n : List UInt8} {x : Tr} {e : Edge} (h : e ∈ withE l n x) : e ∈ l ∨ e = (n, x) := by
  simp only [withE, List.mem_append, List.mem_singleton] at h
  rcases h with (h | h) | h
  · exact .inl (List.mem_of_mem_take h)
  · exact .inr h
  · exact .inl (List.mem_of_mem_drop h)

def sumN (l : List Edge) : Nat := (l.map fun e => e.2.nodes + 1).sum
theorem nodes_sum (l : List Edge) : (Tr.of l).nodes = sumN l := by
  induction l with
  | nil => rfl
  | cons e l ih => simp only [Tr.of, Tr.nodes, sumN, List.map_cons, List.sum_cons] at ih ⊢; omega
theorem sumN_app (a b : List Edge) : sumN (a ++ b) = sumN a + sumN b := by simp [sumN]
theorem sumN_drop (l : List Edge) (i j : Nat) (h : i ≤ j) : sumN (l.take i) + sumN (l.drop j) ≤ sumN l := by
  have h1 : sumN l = sumN (l.take i) + sumN (l.drop i) := by rw [← sumN_app, List.take_append_drop]
  have h2 : sumN (l.drop i) = sumN ((l.drop i).take (j - i)) + sumN ((l.drop i).drop (j - i)) := by rw [← sumN_app, List.take_append_drop]
  rw [List.drop_drop, show i + (j - i) = j by omega] at h2
  omega
theorem withE_sum (l : List Edge) (n : List UInt8) (x : Tr) : sumN (withE l n x) ≤ sumN l + x.nodes + 1 := by
  unfold withE
  rw [sumN_app, sumN_app]
  have h1 : sumN [(n, x)] = x.nodes + 1 := by simp [sumN]
  rw [h1]
  have := sumN_drop l (atK l n) (if atB l n = true then atK l n + 1 else atK l n) (by split <;> omega)
  omega

end Go.Proofs.YtbnjbianobdleaaGreat.Vm
