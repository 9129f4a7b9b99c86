/-
  Names in quotes, read: plain laws.
-/
import Derived.Test.YtpcjlhhhmjgffaaSayQuoteLaw
namespace Go.Proofs.Ytpcjlhhhmjgffaa.Vm
open Go Go.RowKit
set_option linter.unusedVariables false
set_option linter.unusedSimpArgs false
set_option maxRecDepth 100000

/-- A digit's number; -1: it is none. -/
def hexV (c : UInt8) : Int := if 48 ≤ c.toNat ∧ c.toNat ≤ 57 then (c.toNat : Int) - 48 else if 97 ≤ c.toNat ∧ c.toNat ≤ 102 then (c.toNat : Int) - 87 else -1

theorem hexV_all : (List.range 16).all (fun a => hexV (hexd a) == (a : Int)) = true := by decide +kernel

theorem hexV_hexd {a : Nat} (h : a < 16) : hexV (hexd a) = a := by
  have h1 := List.all_eq_true.1 hexV_all a (List.mem_range.2 h)
  simpa using h1

theorem hexV_le (c : UInt8) : -1 ≤ hexV c ∧ hexV c ≤ 15 := by
  unfold hexV; split <;> (try split) <;> omega

/-- What is read up to i, where a name in quotes begins at a. -/
def RdAt (s : List UInt8) (a i : Nat) (o : List UInt8) : Prop := ∀ x y, s.drop a = x.flatMap esc ++ 34 :: y → ∃ x', x = o ++ x' ∧ s.drop i = x'.flatMap esc ++ 34 :: y

/-- No name begins there. -/
def NoRd (s : List UInt8) (a : Nat) : Prop := ∀ x y : List UInt8, s.drop a = x.flatMap esc ++ 34 :: y → False

theorem rd_0 (s : List UInt8) (a : Nat) : RdAt s a a [] := fun x y h => ⟨x, rfl, h⟩

theorem rd_q {s o : List UInt8} {a i : Nat} (h : RdAt s a i o) (hi : i < s.length) (hc : s[i] = 34) : ∀ x y, s.drop a = x.flatMap esc ++ 34 :: y → o = x ∧ i + 1 = a + (x.flatMap esc).length + 1 := by
  intro x y e
  obtain ⟨x', e1, e2⟩ := h x y e
  have l1 := congrArg List.length e
  have l2 := congrArg List.length e2
  rw [List.drop_eq_getElem_cons hi, hc] at e2
  cases x' with
  | nil =>
    simp only [List.append_nil] at e1
    simp only [List.length_drop, List.length_append, List.length_cons, List.flatMap_nil, List.length_nil] at l1 l2
    exact ⟨e1.symm, by omega⟩
  | cons d x' =>
    simp only [List.flatMap_cons, List.append_assoc] at e2
    exact (esc_no_quote e2.symm).elim

theorem rd_step {s o : List UInt8} {a i : Nat} (h : RdAt s a i o) (hi : i < s.length) (hc : s[i] ≠ 34) : ∀ x y, s.drop a = x.flatMap esc ++ 34 :: y → ∃ d x'', x = o ++ d :: x'' ∧ s.drop i = esc d ++ (x''.flatMap esc ++ 34 :: y) := by
  intro x y e
  obtain ⟨x', e1, e2⟩ := h x y e
  cases x' with
  | nil =>
    rw [List.drop_eq_getElem_cons hi] at e2
    simp only [List.flatMap_nil, List.nil_append, List.cons.injEq] at e2
    exact (hc e2.1).elim
  | cons d x' =>
    simp only [List.flatMap_cons, List.append_assoc] at e2
    exact ⟨d, x', e1, e2⟩

theorem rd_o {s o : List UInt8} {a i : Nat} (h : RdAt s a i o) (hi : i < s.length) (h1 : s[i] ≠ 34) (h2 : s[i] ≠ 92) : RdAt s a (i + 1) (o ++ [s[i]]) := by
  intro x y e
  obtain ⟨d, x', e1, e2⟩ := rd_step h hi h1 x y e
  have hd := esc_is d
  rw [List.drop_eq_getElem_cons hi] at e2
  generalize esc d = z at *
  cases hd with
  | q _ => simp only [List.cons_append, List.cons.injEq] at e2; exact (h2 e2.1).elim
  | h => simp only [List.cons_append, List.cons.injEq] at e2; exact (h2 e2.1).elim
  | o _ _ =>
    simp only [List.cons_append, List.nil_append, List.cons.injEq] at e2
    exact ⟨x', by rw [e1, e2.1, List.append_assoc]; rfl, e2.2⟩

/-- What stands behind a stroke. -/
theorem rd_c {s o : List UInt8} {a i : Nat} (h : RdAt s a i o) (hi : i < s.length) (hc : s[i] = 92) : ∀ x y, s.drop a = x.flatMap esc ++ 34 :: y → ∃ d x'', x = o ++ d :: x'' ∧ (((d = 34 ∨ d = 92) ∧ s.drop (i + 1) = d :: (x''.flatMap esc ++ 34 :: y)) ∨ s.drop (i + 1) = 120 :: hexd (d.toNat / 16) :: hexd (d.toNat % 16) :: (x''.flatMap esc ++ 34 :: y)) := by
  intro x y e
  obtain ⟨d, x', e1, e2⟩ := rd_step h hi (by rw [hc]; decide) x y e
  have hd := esc_is d
  rw [List.drop_eq_getElem_cons hi] at e2
  generalize esc d = z at *
  refine ⟨d, x', e1, ?_⟩
  cases hd with
  | q hq =>
    simp only [List.cons_append, List.nil_append, List.cons.injEq] at e2
    exact .inl ⟨hq, e2.2⟩
  | h =>
    simp only [List.cons_append, List.nil_append, List.cons.injEq] at e2
    exact .inr e2.2
  | o _ ho =>
    simp only [List.cons_append, List.nil_append, List.cons.injEq] at e2
    exact (ho (e2.1.symm.trans hc)).elim

theorem rd_x {s o : List UInt8} {a i : Nat} (h : RdAt s a i o) (hi : i + 3 < s.length) (hc : s[i] = 92) (hx : s[i + 1] = 120) : RdAt s a (i + 4) (o ++ [UInt8.ofNat (16 * hexV s[i + 2] + hexV s[i + 3]).toNat]) := by
  intro x y e
  obtain ⟨d, x', e1, e2⟩ := rd_c h (by omega) hc x y e
  rw [List.drop_eq_getElem_cons (by omega : i + 1 < s.length), List.drop_eq_getElem_cons (by omega : i + 1 + 1 < s.length), List.drop_eq_getElem_cons (by omega : i + 1 + 1 + 1 < s.length)] at e2
  simp only [List.cons.injEq] at e2
  rcases e2 with ⟨hd, h1, _⟩ | ⟨_, h2, h3, h4⟩
  · rw [hx] at h1; subst h1; exact absurd hd (by decide)
  · have l1 := d.toNat_lt
    refine ⟨x', ?_, h4⟩
    have e2 : s[i + 2] = hexd (d.toNat / 16) := h2
    have e3 : s[i + 3] = hexd (d.toNat % 16) := h3
    rw [e2, e3, hexV_hexd (by omega), hexV_hexd (by omega)]
    have e5 : (16 * ((d.toNat / 16 : Nat) : Int) + ((d.toNat % 16 : Nat) : Int)).toNat = d.toNat := by omega
    rw [e5, e1, List.append_assoc]
    simp

theorem rd_b {s o : List UInt8} {a i : Nat} (h : RdAt s a i o) (hi : i + 1 < s.length) (hc : s[i] = 92) (hx : ∀ h3 : i + 3 < s.length, s[i + 1] = 120 → 0 ≤ hexV s[i + 2] → 0 ≤ hexV s[i + 3] → False) : RdAt s a (i + 2) (o ++ [s[i + 1]]) := by
  intro x y e
  obtain ⟨d, x', e1, e2⟩ := rd_c h (by omega) hc x y e
  rcases e2 with ⟨hd, h1⟩ | h2
  · rw [List.drop_eq_getElem_cons hi] at h1
    simp only [List.cons.injEq] at h1
    exact ⟨x', by rw [e1, h1.1, List.append_assoc]; rfl, h1.2⟩
  · have l := congrArg List.length h2
    simp only [List.length_drop, List.length_cons, List.length_append] at l
    have l1 := d.toNat_lt
    rw [List.drop_eq_getElem_cons hi, List.drop_eq_getElem_cons (by omega : i + 1 + 1 < s.length), List.drop_eq_getElem_cons (by omega : i + 1 + 1 + 1 < s.length)] at h2
    simp only [List.cons.injEq] at h2
    obtain ⟨k1, k2, k3, _⟩ := h2
    have e2 : s[i + 2]'(by omega) = hexd (d.toNat / 16) := k2
    have e3 : s[i + 3]'(by omega) = hexd (d.toNat % 16) := k3
    exact (hx (by omega) k1 (by rw [e2, hexV_hexd (by omega)]; omega) (by rw [e3, hexV_hexd (by omega)]; omega)).elim

theorem rd_e {s o : List UInt8} {a i : Nat} (h : RdAt s a i o) (hi : i < s.length) (hc : s[i] = 92) (hx : s.length ≤ i + 1) : NoRd s a := by
  intro x y e
  obtain ⟨d, x', e1, e2⟩ := rd_c h hi hc x y e
  rw [List.drop_eq_nil_of_le (by omega)] at e2
  rcases e2 with ⟨_, h⟩ | h <;> simp at h

theorem rd_bad {s o : List UInt8} {a i : Nat} (h : RdAt s a i o) (hi : i + 1 < s.length) (hc : s[i] = 92) (h1 : s[i + 1] = 120) (hx : ∀ h3 : i + 3 < s.length, 0 ≤ hexV s[i + 2] → 0 ≤ hexV s[i + 3] → False) : NoRd s a := by
  intro x y e
  obtain ⟨d, x', e1, e2⟩ := rd_c h (by omega) hc x y e
  rcases e2 with ⟨hd, h2⟩ | h2
  · rw [List.drop_eq_getElem_cons hi] at h2
    simp only [List.cons.injEq] at h2
    rw [h1] at h2; obtain ⟨rfl, _⟩ := h2
    exact absurd hd (by decide)
  · have l := congrArg List.length h2
    simp only [List.length_drop, List.length_cons, List.length_append] at l
    have l1 := d.toNat_lt
    rw [List.drop_eq_getElem_cons hi, List.drop_eq_getElem_cons (by omega : i + 1 + 1 < s.length), List.drop_eq_getElem_cons (by omega : i + 1 + 1 + 1 < s.length)] at h2
    simp only [List.cons.injEq] at h2
    obtain ⟨k1, k2, k3, _⟩ := h2
    have e2 : s[i + 2]'(by omega) = hexd (d.toNat / 16) := k2
    have e3 : s[i + 3]'(by omega) = hexd (d.toNat % 16) := k3
    exact hx (by omega) (by rw [e2, hexV_hexd (by omega)]; omega) (by rw [e3, hexV_hexd (by omega)]; omega)

theorem rd_end {s o : List UInt8} {a i : Nat} (h : RdAt s a i o) (hi : s.length ≤ i) : NoRd s a := by
  intro x y e
  obtain ⟨x', e1, e2⟩ := h x y e
  rw [List.drop_eq_nil_of_le hi] at e2
  simp at e2

end Go.Proofs.Ytpcjlhhhmjgffaa.Vm
