/-
  Slices of whole numbers that are handed in, read as plain values.
-/
import Derived.Test.YtmjkdghcfihfiaaVmLaw
import Derived.WideShapes
import Derived.ChangeSlices
import Derived.OpenShut
namespace Go.Proofs.Ytmjkdghcfihfiaa.Vm
open Go Go.RowKit
set_option linter.unusedVariables false
set_option linter.unusedSimpArgs false

theorem rep_ints {w : World} {k : IntKind} {b off : Nat} : ∀ (l : List Int) (i : Nat), (∀ j, j < l.length → w.cell? ⟨b, off + (i + j), none⟩ = some (.int k (l.getD j 0))) → RepRow w noCells (some ⟨b, off, none⟩) 1 i (l.map fun n => [.int k n])
  | [], i, h => by simp [RepRow]
  | n :: l, i, h => by
    simp only [List.map_cons, RepRow]
    refine ⟨⟨⟨b, off, none⟩, [.int k n], rfl, rfl, by simp only [RepS, Rep]; exact ⟨_, _, rfl, rfl, rfl, rfl⟩, fun j c hj => ?_⟩, rep_ints l (i + 1) fun j hj => ?_⟩
    · cases j with
      | zero =>
        simp only [List.getElem?_cons_zero, Option.some.injEq] at hj; subst hj
        have := h 0 (by simp)
        simp only [List.getD_cons_zero, Nat.add_zero] at this
        exact ⟨by simpa [at_] using this, fun h => h⟩
      | succ j => simp at hj
    · have := h (j + 1) (by simpa using hj)
      simp only [List.getD_cons_succ] at this
      rw [show i + 1 + j = i + (j + 1) by omega]; exact this

theorem spot_none {P : Program} {w : World} {r : Reach} {b0 : Nat} {t e : TypeId} {a : Addr} {len cap : Nat} (ht : P.underlying t = some (.slice e)) (hv : Value.okWide P w r b0 t (.slice (some a) len cap)) : a.spot = none := by
  simp only [Value.okWide, ht, Cell.okWide, Cell.ok] at hv
  exact hv.2.2.2.1

theorem row_ints {H : Type} {enc : TypeId × Value → H} {P : Program} {W : World} {t e : TypeId} {k : IntKind} {a : Option Addr} {len cap : Nat} {r : Reach} {b0 : Nat} {spare : Nat → Bool} {held : Bool} {d : DataW H} {ps : List MemPlace}
    (ht : P.underlying t = some (.slice e)) (he : P.underlying e = some (.int k)) (hc : P.cellsOf e = 1) (hv : Value.okWide P W r b0 t (.slice a len cap)) (h : DataW.Trod enc P W 0 spare held t (.slice a len cap) d ps) :
    ∃ l : List Int, Rep W noCells (.sl (l.map fun n => [.int k n])) (.slice a len cap) ∧ (l.length = len ∧ ∀ n ∈ l, (Lit.int k n).wf = true) := by
  obtain ⟨fuel, hf⟩ := h
  rcases Go.ChangeShapes.open_ints ht he hc hf with ⟨hcs, _⟩ | ⟨x, l, c, zs, hcs, _, hl, hm, hz, _, hcell, hwz⟩
  · simp [Value.cells] at hcs
    obtain ⟨rfl, rfl, rfl⟩ := hcs
    exact ⟨[], by simp only [Rep]; exact ⟨none, 0, rfl, by simp, fun _ => rfl, by simp, 1, by simp [RepRow]⟩, rfl, by simp⟩
  · simp [Value.cells] at hcs
    obtain ⟨rfl, rfl, rfl⟩ := hcs
    have hs := spot_none ht hv
    obtain ⟨b, off, sp⟩ := x
    simp only at hs; subst hs
    have hlen : len ≤ zs.length := by rw [hz]; split <;> omega
    refine ⟨zs.take len, ?_, by simp; omega, fun n hn => hwz n (List.mem_of_mem_take hn)⟩
    simp only [Rep]
    refine ⟨some ⟨b, off, none⟩, cap, by simp; omega, by simp; omega, by simp, fun a h _ => by simp only [Option.some.injEq] at h; rw [← h], 1, rep_ints _ _ fun j hj => ?_⟩
    simp only [List.length_take] at hj
    have := hcell j (by omega)
    rw [Go.WideShapes.add_plain] at this
    rw [Nat.zero_add, this]
    simp only [List.getD_eq_getElem?_getD, List.getElem?_take]
    rw [if_pos (by omega)]

end Go.Proofs.Ytmjkdghcfihfiaa.Vm
