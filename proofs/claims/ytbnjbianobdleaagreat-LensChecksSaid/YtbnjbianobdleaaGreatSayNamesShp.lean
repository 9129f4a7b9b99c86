/-
  Sets of names that are handed in.
-/
import Derived.Test.YtbnjbianobdleaaGreatSayStrs
namespace Go.Proofs.YtbnjbianobdleaaGreat.Vm
open Go Go.RowKit
set_option linter.unusedVariables false
set_option linter.unusedSimpArgs false
set_option maxRecDepth 100000

/-- Is T a set of names: a bool, and a slice of texts? -/
def namesOK (P : Program) (T : TypeId) : Bool := match P.underlying T with
  | some (.struct fs) => (match fs.toList with
    | [f0, f1] => (match P.underlying f0.type with | some .bool => strsOK P f1.type | _ => false)
    | _ => false)
  | _ => false
theorem shp_bool {P : Program} {t : TypeId} {xs : List PV} (h : Shp P t xs) (ht : P.underlying t = some .bool) : ∃ b, xs = [.bool b] := by
  cases h with
  | int h => rw [h] at ht; simp at ht
  | bool h => exact ⟨_, rfl⟩
  | str h hb => rw [h] at ht; simp at ht
  | sl h => rw [h] at ht; simp at ht
  | struct xs h => rw [h] at ht; simp at ht
theorem names_of {P : Program} {T : TypeId} (hok : namesOK P T = true) {xs : List PV} (h : Shp P T xs) : ∃ (b : Bool) (l : List (List UInt8)), xs = [.bool b, .sl (l.map strRow)] ∧ l.length ≤ 140737488351232 := by
  unfold namesOK at hok
  split at hok
  · rename_i fs hT
    split at hok
    · rename_i f0 f1 hfs
      split at hok
      · rename_i h0
        cases h with
        | int h => rw [h] at hT; simp at hT
        | bool h => rw [h] at hT; simp at hT
        | str h hb => rw [h] at hT; simp at hT
        | sl h => rw [h] at hT; simp at hT
        | struct xs h hall =>
          rw [hT] at h
          simp only [Option.some.injEq, TypeDesc.struct.injEq] at h
          subst h
          rw [hfs] at hall ⊢
          obtain ⟨b, hb⟩ := shp_bool (hall 0 f0 rfl) h0
          obtain ⟨l, hl, h2, _⟩ := shp_strs hok (hall 1 f1 rfl)
          refine ⟨b, l, ?_, h2⟩
          have e : (List.range [f0, f1].length).flatMap xs = xs 0 ++ xs 1 := by simp [List.range_succ]
          rw [e, hb, hl]; rfl
      · exact absurd hok (by simp)
    · exact absurd hok (by simp)
  · exact absurd hok (by simp)

end Go.Proofs.YtbnjbianobdleaaGreat.Vm
