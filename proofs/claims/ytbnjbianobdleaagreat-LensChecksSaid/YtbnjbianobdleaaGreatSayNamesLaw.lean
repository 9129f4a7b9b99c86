/-
  Names in order, each once: plain laws.
-/
import Derived.Test.YtbnjbianobdleaaGreatSayParse
namespace Go.Proofs.YtbnjbianobdleaaGreat.Vm
open Go Go.RowKit
set_option linter.unusedVariables false
set_option linter.unusedSimpArgs false
set_option maxRecDepth 100000

theorem bl_eq : ∀ (x y : List UInt8), Op.bytesLess x y = decide (x < y)
  | [], [] => by simp [Op.bytesLess]
  | _ :: _, [] => by simp [Op.bytesLess]
  | [], _ :: _ => by simp [Op.bytesLess]
  | a :: x, b :: y => by
    rw [Op.bytesLess, bl_eq x y]
    simp only [List.cons_lt_cons_iff]
    by_cases h1 : a < b <;> by_cases h2 : a = b <;> by_cases h3 : x < y <;> simp [h1, h2, h3]
theorem str_le_trans (a b c : List UInt8) (h : a ≤ b) (k : b ≤ c) : a ≤ c := List.le_trans h k
theorem str_le_total (a b : List UInt8) : a ≤ b ∨ b ≤ a := List.le_total a b
theorem str_le_anti {a b : List UInt8} (h : a ≤ b) (k : b ≤ a) : a = b := List.le_antisymm h k
theorem str_lt_trans {a b c : List UInt8} (h : a < b) (k : b < c) : a < c := List.lt_trans h k
theorem str_lt_irrefl (a : List UInt8) : ¬ a < a := List.lt_irrefl a
theorem str_lt_of {a b : List UInt8} (h : a ≤ b) (k : a ≠ b) : a < b := by
  rcases Classical.em (a < b) with h1 | h1
  · exact h1
  · exact absurd (str_le_anti h (List.not_lt.1 h1)) k
theorem str_le_of {a b : List UInt8} (h : a < b) : a ≤ b := by
  rcases str_le_total a b with h1 | h1
  · exact h1
  · exact absurd h (List.not_lt.2 h1)

def namesF (l : List (List UInt8)) : List (List UInt8) := Lib.compact (sortS l)

theorem arr_at {L : List (List UInt8)} {j : Nat} (h : j < L.length) : L.toArray[j]! = L[j] := by
  rw [getElem!_pos _ j (by simpa using h)]; simp

theorem comp_inv (L : List (List UInt8)) (hs : L.Pairwise (· ≤ ·)) : ∀ m, m ≤ L.length → (Lib.compactUpTo L.toArray m).Pairwise (· < ·) ∧ ∀ x, x ∈ Lib.compactUpTo L.toArray m ↔ ∃ j, j < m ∧ L[j]? = some x
  | 0, _ => ⟨by simp [Lib.compactUpTo], by simp [Lib.compactUpTo]⟩
  | m + 1, h => by
    obtain ⟨h1, h2⟩ := comp_inv L hs m (by omega)
    have hm : m < L.length := by omega
    rw [Lib.compactUpTo_succ, arr_at hm]
    by_cases hk : Lib.keeps L.toArray m = true
    · rw [if_pos hk]
      simp only [Lib.keeps, decide_eq_true_eq] at hk
      refine ⟨List.pairwise_append.2 ⟨h1, by simp, fun x hx y hy => ?_⟩, fun x => ?_⟩
      · simp only [List.mem_singleton] at hy
        subst hy
        obtain ⟨j, hj, hjx⟩ := (h2 x).1 hx
        have hjl : j < L.length := by omega
        rw [List.getElem?_eq_getElem hjl] at hjx
        simp only [Option.some.injEq] at hjx
        subst hjx
        have hp := List.pairwise_iff_getElem.1 hs
        have hle : L[j] ≤ L[m] := hp j m hjl hm hj
        refine str_lt_of hle fun e => ?_
        rcases hk with h0 | h0
        · omega
        · rw [arr_at hm, arr_at (by omega : m - 1 < L.length)] at h0
          have h3 : L[m - 1] ≤ L[m] := hp (m - 1) m (by omega) hm (by omega)
          have h4 : L[j] ≤ L[m - 1] := by
            rcases Nat.lt_or_ge j (m - 1) with h5 | h5
            · exact hp j (m - 1) hjl (by omega) h5
            · have : j = m - 1 := by omega
              subst this; exact List.le_refl _
          exact h0 (str_le_anti (e ▸ h4) h3)
      · rw [List.mem_append, h2 x, List.mem_singleton]
        constructor
        · rintro (⟨j, hj, hx⟩ | rfl)
          · exact ⟨j, by omega, hx⟩
          · exact ⟨m, by omega, List.getElem?_eq_getElem hm⟩
        · rintro ⟨j, hj, hx⟩
          rcases Nat.lt_or_ge j m with h5 | h5
          · exact .inl ⟨j, h5, hx⟩
          · have : j = m := by omega
            subst this
            rw [List.getElem?_eq_getElem hm] at hx
            exact .inr (by simpa using hx.symm)
    · rw [if_neg hk]
      simp only [Lib.keeps, decide_eq_true_eq, not_or, Decidable.not_not] at hk
      rw [List.append_nil]
      refine ⟨h1, fun x => ?_⟩
      rw [h2 x]
      constructor
      · rintro ⟨j, hj, hx⟩
        exact ⟨j, by omega, hx⟩
      · rintro ⟨j, hj, hx⟩
        rcases Nat.lt_or_ge j m with h5 | h5
        · exact ⟨j, h5, hx⟩
        · have : j = m := by omega
          subst this
          have h6 := hk.2
          rw [arr_at hm, arr_at (by omega : j - 1 < L.length)] at h6
          refine ⟨j - 1, by omega, ?_⟩
          rw [List.getElem?_eq_getElem (by omega), ← h6, ← List.getElem?_eq_getElem hm]
          exact hx

theorem sortS_le (l : List (List UInt8)) : (sortS l).Pairwise (· ≤ ·) := by
  have := List.pairwise_mergeSort (le := fun x y : List UInt8 => decide (x ≤ y)) (fun a b c h k => by
    simp only [decide_eq_true_eq] at *
    exact str_le_trans a b c h k) (fun a b => by
    simp only [Bool.or_eq_true, decide_eq_true_eq]
    exact str_le_total a b) l
  exact this.imp fun h => by simpa using h

theorem namesF_lt (l : List (List UInt8)) : (namesF l).Pairwise (· < ·) := (comp_inv (sortS l) (sortS_le l) _ (Nat.le_refl _)).1

theorem namesF_mem (l : List (List UInt8)) (x : List UInt8) : x ∈ namesF l ↔ x ∈ l := by
  unfold namesF Lib.compact
  rw [(comp_inv (sortS l) (sortS_le l) _ (Nat.le_refl _)).2 x, ← (List.mergeSort_perm l fun x y => decide (x ≤ y)).mem_iff]
  constructor
  · rintro ⟨j, _, hx⟩
    exact List.mem_of_getElem? hx
  · intro hx
    obtain ⟨j, hj, rfl⟩ := List.getElem_of_mem hx
    exact ⟨j, hj, List.getElem?_eq_getElem hj⟩

theorem namesF_len (l : List (List UInt8)) : (namesF l).length ≤ l.length := by
  unfold namesF Lib.compact Lib.compactUpTo
  rw [List.length_map]
  refine Nat.le_trans (List.length_filter_le _ _) ?_
  simp [sortS]

theorem namesF_id {l : List (List UInt8)} (h : l.Pairwise (· < ·)) : namesF l = l := by
  have e : sortS l = l := List.mergeSort_of_pairwise (h.imp fun h => by simpa using str_le_of h)
  unfold namesF
  rw [e]
  refine Lib.compact_all l fun j hj => ?_
  simp only [Lib.keeps, decide_eq_true_eq]
  rcases Nat.eq_zero_or_pos j with h0 | h0
  · exact .inl h0
  · right
    rw [arr_at hj, arr_at (by omega : j - 1 < l.length)]
    intro e2
    have := List.pairwise_iff_getElem.1 h (j - 1) j (by omega) hj (by omega)
    rw [e2] at this
    exact str_lt_irrefl _ this

theorem nodup_lt {l : List (List UInt8)} (h : l.Pairwise (· < ·)) : l.Nodup :=
  List.nodup_iff_pairwise_ne.2 (h.imp fun h e => by subst e; exact str_lt_irrefl _ h)

/-! ### Trees in order -/
def namesT (t : Tr) : List (List UInt8) := t.list.map Prod.fst

theorem badP_lt {x y : List UInt8} (h : badP (some y) x = false) : y < x := by
  have h : (Op.bytesLess x y || x == y) = false := h
  rw [Bool.or_eq_false_iff] at h
  have h1 := less_total (x := x) (y := y) h.1 (by simpa using h.2)
  rw [bl_eq] at h1
  simpa using h1

theorem sortE_pair : ∀ {l : List Edge} {p : Option (List UInt8)}, sortE p l → (l.map Prod.fst).Pairwise (· < ·) ∧ ∀ y, p = some y → ∀ x ∈ l.map Prod.fst, y < x
  | [], p, _ => ⟨by simp, by simp⟩
  | e :: l, p, h => by
    obtain ⟨h1, h2⟩ := h
    obtain ⟨h3, h4⟩ := sortE_pair h2
    refine ⟨by rw [List.map_cons]; exact List.pairwise_cons.2 ⟨fun x hx => h4 e.1 rfl x hx, h3⟩, fun y hy x hx => ?_⟩
    subst hy
    have hb := badP_lt h1
    rw [List.map_cons, List.mem_cons] at hx
    rcases hx with rfl | hx
    · exact hb
    · exact str_lt_trans hb (h4 e.1 rfl x hx)


theorem atB_mem : ∀ {l : List Edge} {p : Option (List UInt8)} {n : List UInt8}, sortE p l → n ∈ l.map Prod.fst → atB l n = true
  | [], p, n, _, h => by simp at h
  | e :: l, p, n, hs, h => by
    obtain ⟨h1, h2⟩ := hs
    rw [List.map_cons, List.mem_cons] at h
    by_cases hl : Op.bytesLess e.1 n = true
    · have hne : n ≠ e.1 := by
        rintro rfl
        rw [bl_eq] at hl
        simp only [decide_eq_true_eq] at hl
        exact str_lt_irrefl _ hl
      have ih := atB_mem h2 (h.resolve_left hne)
      have ek : atK (e :: l) n = atK l n + 1 := by simp [atK, hl]
      simpa [atB, ek] using ih
    · have hl : Op.bytesLess e.1 n = false := by simpa using hl
      have ek : atK (e :: l) n = 0 := by simp [atK, hl]
      rcases h with rfl | h
      · simp [atB, ek]
      · have := (sortE_pair h2).2 e.1 rfl n h
        rw [bl_eq] at hl
        simp only [decide_eq_false_iff_not] at hl
        exact absurd this hl

end Go.Proofs.YtbnjbianobdleaaGreat.Vm
