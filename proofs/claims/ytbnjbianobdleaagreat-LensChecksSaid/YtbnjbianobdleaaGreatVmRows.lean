/-
  The machine: VmLaw, VmRows.
-/
import Derived.Test.YtbnjbianobdleaaGreatVmWpC
import Derived.Test.YtbnjbianobdleaaGreatVmGrow
import Derived.Below
import Derived.WideShapes
import Derived.ChangeSlices
import Derived.OpenShut

/-
  A law: where the machine says 'true' of plain arguments, the model's call returns true, and what was there stays.
-/
namespace Go.Proofs.YtbnjbianobdleaaGreat.Vm
open Go Go.RowKit
set_option linter.unusedVariables false
set_option linter.unusedSimpArgs false

def good : List TV × List TV := ([.pv (.bool true)], [])
def noCells : Cells := fun _ _ => False

theorem tvall_handed {w : World} : ∀ {xs : List PV} {cs : List Value}, RepA w noCells xs cs → TVAll w noCells (xs.map .pv) (xs.map fun _ => .none) cs
  | [], cs, h => by
    simp only [RepA] at h; subst h; simp [TVAll]
  | x :: xs, cs, h => by
    simp only [RepA] at h
    obtain ⟨c, r, rfl, h1, h2⟩ := h
    simp only [List.map_cons, TVAll]
    exact ⟨_, _, _, _, rfl, rfl, by rw [TVL]; exact ⟨rfl, h1⟩, tvall_handed h2⟩

theorem law_calls {C : Cx} {f : FuncId} {fn : Func} {xs : List PV} {ms : List Mode} {fs : List TV} {w : World} {args : List Value} (hprog : progOK C.P = true) (hf : C.P.funcs[f]? = some fn) (hb : fn.body.isSome = true)
    (hc : Contract C.P ms f (xs.map .pv) [.pv (.bool true)] fs) (hr : RepA w noCells xs args) : Calls C.P f args.toArray w fun e w' => e = .returned (.bool true) ∧ Below w.heap.size w w' := by
  obtain ⟨c, hb⟩ := Option.isSome_iff_exists.1 hb
  have hl : LT.locsL (xs.map fun _ => LT.none) = [] := locs_none xs
  have hH : Handed noCells w (xs.map .pv) (xs.map fun _ => .none) args := by
    refine ⟨?_, by rw [hl]; exact List.Pairwise.nil, fun l h => by rw [hl] at h; simp at h, fun b j h => h.elim⟩
    have : cellsOf noCells (LT.locsL (xs.map fun _ => LT.none)) = noCells := by
      funext b j; simp [cellsOf, hl]
    rw [this]; exact tvall_handed hr
  have h := hc noCells w _ args hH
  unfold Invokes at h
  rw [run_callFunc hprog hf hb] at h
  refine Calls.mono h ?_
  rintro e w' ⟨v, rfl, vs, lrs, lfs, rfl, h1, h2, h3, h4, h5, h6⟩
  simp only [TVAll, TVL, Rep] at h1
  obtain ⟨t, r, c', d, rfl, rfl, ⟨rfl, rfl⟩, h7⟩ := h1
  obtain ⟨rfl, rfl⟩ := h7
  refine ⟨rfl, h6.os, h6.tape, h6.output, h6.size, fun b hb => h6.block b hb fun j v hv hx => ?_⟩
  obtain ⟨l, hl', _⟩ := hx
  rw [hl] at hl'; simp at hl'

/-! ### What is known of functions, as a list -/
def specL (l : List (FuncId × (List TV → Option Alts))) : Specs := fun f => lkp f l
def SpecsOK (C : Cx) (l : List (FuncId × (List TV → Option Alts))) : Prop := ∀ p ∈ l, ∀ ag al, p.2 ag = some al → ∀ a ∈ al, a.1 → Ev C p.1 ag a.2
theorem specL_ok {C : Cx} {l : List (FuncId × (List TV → Option Alts))} (h : SpecsOK C l) : SpecOK C (specL l) := fun f g hf ag al hl a ha hp => h (f, g) (lkp_mem hf) ag al hl a ha hp
theorem specs_nil {C : Cx} : SpecsOK C [] := by intro p hp; simp at hp
theorem specs_cons {C : Cx} {f : FuncId} {g : List TV → Option Alts} {l : List (FuncId × (List TV → Option Alts))} (h1 : ∀ ag al, g ag = some al → ∀ a ∈ al, a.1 → Ev C f ag a.2) (h2 : SpecsOK C l) : SpecsOK C ((f, g) :: l) := by
  intro p hp
  rcases List.mem_cons.1 hp with rfl | hp
  · exact h1
  · exact h2 p hp
/-- One case. -/
def one (p : Prop) (r : List TV × List TV) : Option Alts := some [(p, r)]
theorem one_mem {p : Prop} {r : List TV × List TV} {al : Alts} (h : one p r = some al) {a : Prop × List TV × List TV} (ha : a ∈ al) : a = (p, r) := by
  simp only [one, Option.some.injEq] at h; subst h; simpa using ha
theorem ev_ext {C : Cx} {f : FuncId} {g : List TV → Option (List TV × List TV)} {ag : List TV} {r : List TV × List TV} (h : C.ext f = some g) (k : g ag = some r) : Ev C f ag r := Ev.of (k := 1) (by simp only [callN, h]; exact k)
theorem ev_of {C : Cx} {S : Specs} {f : FuncId} {ag : List TV} {R : List TV × List TV} {h : H} (hS : SpecOK C S) (k : wFun C S f ag (fun r => r = R) h) : Ev C f ag R := by
  obtain ⟨r, h, rfl⟩ := fun_rule hS k; exact h

end Go.Proofs.YtbnjbianobdleaaGreat.Vm

/-
  Slices of whole numbers that are handed in, read as plain values.
-/
namespace Go.Proofs.YtbnjbianobdleaaGreat.Vm
open Go Go.RowKit
set_option linter.unusedVariables false
set_option linter.unusedSimpArgs false

theorem rep_ints {w : World} {k : IntKind} {b off : Nat} : ∀ (l : List Int) (i : Nat), (∀ j, j < l.length → w.cell? ⟨b, off + (i + j), none⟩ = some (.int k (l.getD j 0))) → RepRow w noCells (some ⟨b, off, none⟩) 1 i (l.map fun n => [.int k n])
  | [], i, h => by simp [RepRow]
  | n :: l, i, h => by
    simp only [List.map_cons, RepRow]
    refine ⟨⟨⟨b, off, none⟩, [.int k n], rfl, rfl, by simp only [RepS, Rep]; exact ⟨_, _, rfl, rfl, rfl, rfl⟩, fun j c hj => ?_⟩, rep_ints l (i + 1) fun j hj => ?_⟩
    · cases j with
      | zero =>
        simp only [List.getElem?_cons_zero, Option.some.injEq] at hj; subst hj
        have := h 0 (by simp)
        simp only [List.getD_cons_zero, Nat.add_zero] at this
        exact ⟨by simpa [at_] using this, fun h => h⟩
      | succ j => simp at hj
    · have := h (j + 1) (by simpa using hj)
      simp only [List.getD_cons_succ] at this
      rw [show i + 1 + j = i + (j + 1) by omega]; exact this

theorem spot_none {P : Program} {w : World} {r : Reach} {b0 : Nat} {t e : TypeId} {a : Addr} {len cap : Nat} (ht : P.underlying t = some (.slice e)) (hv : Value.okWide P w r b0 t (.slice (some a) len cap)) : a.spot = none := by
  simp only [Value.okWide, ht, Cell.okWide, Cell.ok] at hv
  exact hv.2.2.2.1

theorem row_ints {H : Type} {enc : TypeId × Value → H} {P : Program} {W : World} {t e : TypeId} {k : IntKind} {a : Option Addr} {len cap : Nat} {r : Reach} {b0 : Nat} {spare : Nat → Bool} {held : Bool} {d : DataW H} {ps : List MemPlace}
    (ht : P.underlying t = some (.slice e)) (he : P.underlying e = some (.int k)) (hc : P.cellsOf e = 1) (hv : Value.okWide P W r b0 t (.slice a len cap)) (h : DataW.Trod enc P W 0 spare held t (.slice a len cap) d ps) :
    ∃ l : List Int, Rep W noCells (.sl (l.map fun n => [.int k n])) (.slice a len cap) ∧ (l.length = len ∧ ∀ n ∈ l, (Lit.int k n).wf = true) := by
  obtain ⟨fuel, hf⟩ := h
  rcases Go.ChangeShapes.open_ints ht he hc hf with ⟨hcs, _⟩ | ⟨x, l, c, zs, hcs, _, hl, hm, hz, _, hcell, hwz⟩
  · simp [Value.cells] at hcs
    obtain ⟨rfl, rfl, rfl⟩ := hcs
    exact ⟨[], by simp only [Rep]; exact ⟨none, 0, rfl, by simp, fun _ => rfl, by simp, 1, by simp [RepRow]⟩, rfl, by simp⟩
  · simp [Value.cells] at hcs
    obtain ⟨rfl, rfl, rfl⟩ := hcs
    have hs := spot_none ht hv
    obtain ⟨b, off, sp⟩ := x
    simp only at hs; subst hs
    have hlen : len ≤ zs.length := by rw [hz]; split <;> omega
    refine ⟨zs.take len, ?_, by simp; omega, fun n hn => hwz n (List.mem_of_mem_take hn)⟩
    simp only [Rep]
    refine ⟨some ⟨b, off, none⟩, cap, by simp; omega, by simp; omega, by simp, fun a h _ => by simp only [Option.some.injEq] at h; rw [← h], 1, rep_ints _ _ fun j hj => ?_⟩
    simp only [List.length_take] at hj
    have := hcell j (by omega)
    rw [Go.WideShapes.add_plain] at this
    rw [Nat.zero_add, this]
    simp only [List.getD_eq_getElem?_getD, List.getElem?_take]
    rw [if_pos (by omega)]

end Go.Proofs.YtbnjbianobdleaaGreat.Vm
