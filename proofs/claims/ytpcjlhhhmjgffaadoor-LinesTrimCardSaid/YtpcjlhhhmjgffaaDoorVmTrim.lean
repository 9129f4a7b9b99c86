/-
  strings.TrimLeft, strings.TrimRight, by contract.
-/
import Derived.Test.YtpcjlhhhmjgffaaDoorVmPlain
import Derived.Lib.SlTrimSet
namespace Go.Proofs.YtpcjlhhhmjgffaaDoor.Vm
open Go Go.RowKit
set_option linter.unusedVariables false
set_option linter.unusedSimpArgs false

def trimOK (cs : List UInt8) : Bool := decide (cs.length ≤ 100) && cs.all fun b => decide (b.toNat < 128)
def xTrimLeft : List TV → Option (List TV × List TV)
  | [.pv (.str s), .pv (.str cs)] => if trimOK cs = true then some ([.pv (.str (Lib.trimLeftS s cs))], []) else none
  | _ => none
def xTrimRight : List TV → Option (List TV × List TV)
  | [.pv (.str s), .pv (.str cs)] => if trimOK cs = true ∧ s.length ≤ room then some ([.pv (.str (Lib.trimRightS s cs))], []) else none
  | _ => none

theorem trim_cut {cs : List UInt8} (h : trimOK cs = true) : cs.length < 4294967281 ∧ ∀ (j : Nat) b, cs[j]? = some b → b.toNat < 128 := by
  simp only [trimOK, Bool.and_eq_true, decide_eq_true_eq, List.all_eq_true] at h
  exact ⟨by omega, fun j b hj => h.2 b (List.mem_of_getElem? hj)⟩

theorem c_trimLeft {P : Program} {f : FuncId} (hrun : ∀ args w, (callFunc f args).run P w = .ok (.enter f args) w)
    (hc : ∀ (s cutset : ByteArray) (w : World), cutset.size < 4294967281 → (∀ (j : Nat) b, cutset.data.toList[j]? = some b → b.toNat < 128) → Calls P f #[.string s, .string cutset] w fun e w' => e = .returned (.string ⟨(Lib.trimLeftS s.data.toList cutset.data.toList).toArray⟩) ∧ Below w.heap.size w w')
    (ms : List Mode) (ag rs fs : List TV) (h : xTrimLeft ag = some (rs, fs)) : Contract P ms f ag rs fs := by
  unfold xTrimLeft at h
  split at h
  · rename_i s cs
    split at h
    · rename_i hok
      simp only [Option.some.injEq, Prod.mk.injEq] at h; obtain ⟨rfl, rfl⟩ := h
      refine contract_plain (xs := [.str s, .str cs]) (rs := [.str (Lib.trimLeftS s cs)]) ?_
      intro w M0 vs hx
      simp only [RepA, Rep] at hx
      obtain ⟨c, r, rfl, rfl, d, r', rfl, rfl, rfl⟩ := hx
      unfold Invokes
      rw [hrun]
      obtain ⟨h1, h2⟩ := trim_cut hok
      refine (hc ⟨s.toArray⟩ ⟨cs.toArray⟩ w (by simpa [ByteArray.size] using h1) (by simpa using h2)).mono ?_
      rintro e w' ⟨rfl, hB⟩
      exact ⟨_, rfl, [.string ⟨(Lib.trimLeftS s cs).toArray⟩], by simp [wrapV], fun M' => by simp [RepA, Rep], hB⟩
    · exact absurd h (by simp)
  · exact absurd h (by simp)

theorem c_trimRight {P : Program} {f : FuncId} (hrun : ∀ args w, (callFunc f args).run P w = .ok (.enter f args) w)
    (hc : ∀ (s cutset : ByteArray) (w : World), s.size ≤ 9223372036854775807 → cutset.size < 4294967281 → (∀ (j : Nat) b, cutset.data.toList[j]? = some b → b.toNat < 128) → Calls P f #[.string s, .string cutset] w fun e w' => e = .returned (.string ⟨(Lib.trimRightS s.data.toList cutset.data.toList).toArray⟩) ∧ Below w.heap.size w w')
    (ms : List Mode) (ag rs fs : List TV) (h : xTrimRight ag = some (rs, fs)) : Contract P ms f ag rs fs := by
  unfold xTrimRight at h
  split at h
  · rename_i s cs
    split at h
    · rename_i hok
      simp only [Option.some.injEq, Prod.mk.injEq] at h; obtain ⟨rfl, rfl⟩ := h
      refine contract_plain (xs := [.str s, .str cs]) (rs := [.str (Lib.trimRightS s cs)]) ?_
      intro w M0 vs hx
      simp only [RepA, Rep] at hx
      obtain ⟨c, r, rfl, rfl, d, r', rfl, rfl, rfl⟩ := hx
      unfold Invokes
      rw [hrun]
      obtain ⟨h1, h2⟩ := trim_cut hok.1
      refine (hc ⟨s.toArray⟩ ⟨cs.toArray⟩ w (by have := hok.2; simp only [ByteArray.size, List.size_toArray]; unfold room at this; omega) (by simpa [ByteArray.size] using h1) (by simpa using h2)).mono ?_
      rintro e w' ⟨rfl, hB⟩
      exact ⟨_, rfl, [.string ⟨(Lib.trimRightS s cs).toArray⟩], by simp [wrapV], fun M' => by simp [RepA, Rep], hB⟩
    · exact absurd h (by simp)
  · exact absurd h (by simp)

end Go.Proofs.YtpcjlhhhmjgffaaDoor.Vm
