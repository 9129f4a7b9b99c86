/-
  Texts that are handed in, a slice of them, or of such slices.
-/
import Derived.Test.YtbnjbianobdleaaGreatVmCommon
namespace Go.Proofs.YtbnjbianobdleaaGreat.Vm
open Go Go.RowKit
set_option linter.unusedVariables false
set_option linter.unusedSimpArgs false
set_option maxRecDepth 100000

theorem shp_sl {P : Program} {t e : TypeId} {xs : List PV} (h : Shp P t xs) (ht : P.underlying t = some (.slice e)) : ∃ es, xs = [.sl es] ∧ es.length * P.bytesOf e ≤ reachBytes ∧ ∀ x, x ∈ es → Shp P e x := by
  cases h with
  | int h => rw [h] at ht; simp at ht
  | bool h => rw [h] at ht; simp at ht
  | str h hb => rw [h] at ht; simp at ht
  | sl h h1 h2 =>
    rw [ht] at h
    simp only [Option.some.injEq, TypeDesc.slice.injEq] at h
    subst h
    exact ⟨_, rfl, h1, h2⟩
  | struct xs h => rw [h] at ht; simp at ht

theorem shp_text {P : Program} {t : TypeId} {xs : List PV} (h : Shp P t xs) (ht : P.underlying t = some .string) : ∃ s, xs = [.str s] ∧ s.length ≤ reachBytes := by
  cases h with
  | int h => rw [h] at ht; simp at ht
  | bool h => rw [h] at ht; simp at ht
  | str h hb => exact ⟨_, rfl, hb⟩
  | sl h => rw [h] at ht; simp at ht
  | struct xs h => rw [h] at ht; simp at ht

theorem strs_list : ∀ {es : List (List PV)}, (∀ x ∈ es, ∃ s : List UInt8, x = [.str s] ∧ s.length ≤ reachBytes) → ∃ l : List (List UInt8), es = l.map strRow ∧ ∀ s ∈ l, s.length ≤ reachBytes
  | [], _ => ⟨[], rfl, by simp⟩
  | x :: es, h => by
    obtain ⟨s, rfl, hs⟩ := h x (by simp)
    obtain ⟨l, rfl, hl⟩ := strs_list (es := es) fun y hy => h y (by simp [hy])
    exact ⟨s :: l, rfl, by
      intro t ht
      rcases List.mem_cons.1 ht with rfl | ht
      · exact hs
      · exact hl t ht⟩

/-- Is T a slice of texts? -/
def strsOK (P : Program) (T : TypeId) : Bool := match P.underlying T with
  | some (.slice e) => (match P.underlying e with | some .string => decide (1 ≤ P.bytesOf e) | _ => false)
  | _ => false

theorem shp_strs {P : Program} {T : TypeId} (hok : strsOK P T = true) {xs : List PV} (h : Shp P T xs) : ∃ l : List (List UInt8), xs = [.sl (l.map strRow)] ∧ l.length ≤ 140737488351232 ∧ ∀ s ∈ l, s.length ≤ 140737488351232 := by
  unfold strsOK at hok
  split at hok
  · rename_i e hT
    split at hok
    · rename_i he
      simp only [decide_eq_true_eq] at hok
      obtain ⟨es, rfl, h1, h2⟩ := shp_sl h hT
      obtain ⟨l, rfl, hl⟩ := strs_list fun x hx => shp_text (h2 x hx) he
      refine ⟨l, rfl, ?_, hl⟩
      rw [List.length_map] at h1
      have : l.length * 1 ≤ l.length * P.bytesOf e := Nat.mul_le_mul_left _ hok
      have hr : reachBytes = 140737488351232 := rfl
      omega
    · exact absurd hok (by simp)
  · exact absurd hok (by simp)

theorem strs_of {P : Program} {T : TypeId} (hok : strsOK P T = true) {es : List (List PV)} (h : Shp P T [.sl es]) : ∃ l : List (List UInt8), es = l.map strRow ∧ l.length ≤ 140737488351232 := by
  obtain ⟨l, h1, h2, _⟩ := shp_strs hok h
  simp only [List.cons.injEq, PV.sl.injEq, and_true] at h1
  exact ⟨l, h1, h2⟩

/-- A slice of such, as a row. -/
def pathRow (p : List (List UInt8)) : List PV := [.sl (p.map strRow)]

theorem paths_list : ∀ {es : List (List PV)}, (∀ x ∈ es, ∃ l : List (List UInt8), x = [.sl (l.map strRow)] ∧ l.length ≤ 140737488351232) → ∃ l : List (List (List UInt8)), es = l.map pathRow ∧ ∀ p ∈ l, p.length ≤ 140737488351232
  | [], _ => ⟨[], rfl, by simp⟩
  | x :: es, h => by
    obtain ⟨s, rfl, hs⟩ := h x (by simp)
    obtain ⟨l, rfl, hl⟩ := paths_list (es := es) fun y hy => h y (by simp [hy])
    exact ⟨s :: l, rfl, by
      intro t ht
      rcases List.mem_cons.1 ht with rfl | ht
      · exact hs
      · exact hl t ht⟩

/-- Is T a slice of slices of texts? -/
def pathsOK (P : Program) (T : TypeId) : Bool := match P.underlying T with
  | some (.slice e) => strsOK P e && decide (1 ≤ P.bytesOf e)
  | _ => false

theorem paths_of {P : Program} {T : TypeId} (hok : pathsOK P T = true) {es : List (List PV)} (h : Shp P T [.sl es]) : ∃ l : List (List (List UInt8)), es = l.map pathRow ∧ l.length ≤ 140737488351232 ∧ ∀ p ∈ l, p.length ≤ 140737488351232 := by
  unfold pathsOK at hok
  split at hok
  · rename_i e hT
    simp only [Bool.and_eq_true, decide_eq_true_eq] at hok
    obtain ⟨es', h0, h1, h2⟩ := shp_sl h hT
    simp only [List.cons.injEq, PV.sl.injEq, and_true] at h0
    subst h0
    obtain ⟨l, rfl, hl⟩ := paths_list fun x hx => by
      obtain ⟨p, h3, h4, _⟩ := shp_strs hok.1 (h2 x hx)
      exact ⟨p, h3, h4⟩
    refine ⟨l, rfl, ?_, hl⟩
    rw [List.length_map] at h1
    have : l.length * 1 ≤ l.length * P.bytesOf e := Nat.mul_le_mul_left _ hok.2
    have hr : reachBytes = 140737488351232 := rfl
    omega
  · exact absurd hok (by simp)

end Go.Proofs.YtbnjbianobdleaaGreat.Vm
