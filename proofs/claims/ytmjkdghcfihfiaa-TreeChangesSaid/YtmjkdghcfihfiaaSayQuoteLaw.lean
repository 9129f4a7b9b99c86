/-
  Names in quotes: plain laws.
-/
import Derived.Test.YtmjkdghcfihfiaaSayQuoted
namespace Go.Proofs.Ytmjkdghcfihfiaa.Vm
open Go Go.RowKit
set_option linter.unusedVariables false
set_option linter.unusedSimpArgs false
set_option maxRecDepth 100000

/-! ### Names in quotes -/
theorem hexd_all : (List.range 16).all (fun a => (List.range 16).all fun b => (hexd a == hexd b) == (a == b)) = true := by decide +kernel
theorem hexd_inj {a b : Nat} (ha : a < 16) (hb : b < 16) (h : hexd a = hexd b) : a = b := by
  have h1 := List.all_eq_true.1 (List.all_eq_true.1 hexd_all a (List.mem_range.2 ha)) b (List.mem_range.2 hb)
  simp only [h, beq_self_eq_true, beq_iff_eq] at h1
  simpa using h1.symm
inductive EscIs (c : UInt8) : List UInt8 → Prop
  | q : (c = 34 ∨ c = 92) → EscIs c [92, c]
  | h : EscIs c [92, 120, hexd (c.toNat / 16), hexd (c.toNat % 16)]
  | o : c ≠ 34 → c ≠ 92 → EscIs c [c]
theorem u8_eq {c : UInt8} {n : Nat} (hn : n < 256) : c.toNat = n ↔ c = UInt8.ofNat n := by
  constructor
  · rintro rfl; simp
  · rintro rfl; simp; omega
theorem esc_is (c : UInt8) : EscIs c (esc c) := by
  unfold esc
  split
  · rename_i h
    exact .q (h.imp (fun h => (u8_eq (by omega)).1 h) (fun h => (u8_eq (by omega)).1 h))
  · rename_i h
    split
    · exact .h
    · exact .o (fun e => h (.inl (by rw [e]; rfl))) (fun e => h (.inr (by rw [e]; rfl)))
theorem esc_inj {c d : UInt8} {u v : List UInt8} (h : esc c ++ u = esc d ++ v) : c = d ∧ u = v := by
  have hc := esc_is c
  have hd := esc_is d
  generalize esc c = x at *
  generalize esc d = y at *
  cases hc with
  | q h1 => cases hd with
    | q h2 => simp at h; exact h
    | h =>
      simp at h
      rcases h1 with rfl | rfl <;> simp at h
    | o h2 h3 => simp at h; exact absurd h.1.symm h3
  | h => cases hd with
    | q h2 =>
      simp at h
      rcases h2 with rfl | rfl <;> simp at h
    | h =>
      simp only [List.cons_append, List.nil_append, List.cons.injEq, true_and] at h
      obtain ⟨h1, h2, h3⟩ := h
      have l1 := c.toNat_lt
      have l2 := d.toNat_lt
      have e1 := hexd_inj (by omega) (by omega) h1
      have e2 := hexd_inj (by omega) (by omega) h2
      exact ⟨UInt8.toNat_inj.1 (by omega), h3⟩
    | o h2 h3 => simp at h; exact absurd h.1.symm h3
  | o h1 h1' => cases hd with
    | q h2 => simp at h; exact absurd h.1 h1'
    | h => simp at h; exact absurd h.1 h1'
    | o h2 h3 => simp at h; exact h
theorem esc_no_quote {c : UInt8} {u v : List UInt8} (h : esc c ++ u = 34 :: v) : False := by
  have hc := esc_is c
  generalize esc c = x at *
  cases hc with
  | q h1 => simp at h
  | h => simp at h
  | o h1 h2 => simp at h; exact h1 h.1
theorem escs_inj : ∀ (a b x y : List UInt8), a.flatMap esc ++ 34 :: x = b.flatMap esc ++ 34 :: y → a = b ∧ x = y
  | [], [], x, y, h => by simp at h; exact ⟨rfl, h⟩
  | [], d :: b, x, y, h => by
    simp only [List.flatMap_nil, List.nil_append, List.flatMap_cons, List.append_assoc] at h
    exact (esc_no_quote h.symm).elim
  | c :: a, [], x, y, h => by
    simp only [List.flatMap_nil, List.nil_append, List.flatMap_cons, List.append_assoc] at h
    exact (esc_no_quote h).elim
  | c :: a, d :: b, x, y, h => by
    simp only [List.flatMap_cons, List.append_assoc] at h
    obtain ⟨rfl, h2⟩ := esc_inj h
    obtain ⟨rfl, h3⟩ := escs_inj a b x y h2
    exact ⟨rfl, h3⟩
theorem quoF_inj {a b x y : List UInt8} (h : quoF a ++ x = quoF b ++ y) : a = b ∧ x = y := by
  simp only [quoF, List.append_assoc, List.cons_append, List.nil_append, List.cons.injEq, true_and] at h
  exact escs_inj a b x y h

end Go.Proofs.Ytmjkdghcfihfiaa.Vm
