/-
  Bytes read as trees: plain laws.
-/
import Derived.Test.YtbnjbianobdleaaGreatSayTreeCheck
namespace Go.Proofs.YtbnjbianobdleaaGreat.Vm
open Go Go.RowKit
set_option linter.unusedVariables false
set_option linter.unusedSimpArgs false
set_option maxRecDepth 100000


theorem less_asym : ∀ {x y : List UInt8}, Op.bytesLess x y = true → (Op.bytesLess y x || y == x) = false
  | _, [], h => by simp [Op.bytesLess] at h
  | [], b :: y, _ => by simp [Op.bytesLess]
  | a :: x, b :: y, h => by
    simp only [Op.bytesLess, Bool.or_eq_true, decide_eq_true_eq, Bool.and_eq_true, beq_iff_eq] at h
    rcases h with h | ⟨rfl, h⟩
    · have h1 : ¬ b < a := fun h2 => by have := UInt8.lt_iff_toNat_lt.1 h; have := UInt8.lt_iff_toNat_lt.1 h2; omega
      have h2 : ¬ b = a := fun e => by subst e; have := UInt8.lt_iff_toNat_lt.1 h; omega
      simp [Op.bytesLess, h1, h2]
    · have ih := less_asym h
      simp only [Bool.or_eq_false_iff, beq_eq_false_iff_ne] at ih
      have h1 : ¬ a < a := fun h2 => by have := UInt8.lt_iff_toNat_lt.1 h2; omega
      simp [Op.bytesLess, h1, ih.1, ih.2]

/-- In order, behind a name. -/
def sortE : Option (List UInt8) → List Edge → Prop
  | _, [] => True
  | p, e :: l => badP p e.1 = false ∧ sortE (some e.1) l

theorem less_total : ∀ {x y : List UInt8}, Op.bytesLess x y = false → x ≠ y → Op.bytesLess y x = true
  | [], [], _, h => absurd rfl h
  | a :: x, [], _, _ => by simp [Op.bytesLess]
  | [], b :: y, h, _ => by simp [Op.bytesLess] at h
  | a :: x, b :: y, h, hn => by
    simp only [Op.bytesLess, Bool.or_eq_false_iff, decide_eq_false_iff_not, Bool.and_eq_false_iff, beq_eq_false_iff_ne] at h
    simp only [Op.bytesLess, Bool.or_eq_true, decide_eq_true_eq, Bool.and_eq_true, beq_iff_eq]
    by_cases e : a = b
    · subst e
      right
      refine ⟨rfl, less_total ?_ fun e => hn (by rw [e])⟩
      rcases h.2 with h | h
      · exact absurd rfl h
      · exact h
    · left
      have h1 := h.1
      have h2 : a.toNat ≠ b.toNat := fun q => e (UInt8.toNat_inj.1 q)
      rw [UInt8.lt_iff_toNat_lt] at h1 ⊢
      omega

theorem sortE_drop : ∀ {l : List Edge} {p : Option (List UInt8)} (n : List UInt8) (x : Tr), sortE p l → badP p n = false → sortE p (withE l n x)
  | [], p, n, x, _, h => by simp [withE, atK, atB, sortE, h]
  | e :: l, p, n, x, hs, h => by
    obtain ⟨h1, h2⟩ := hs
    by_cases hl : Op.bytesLess e.1 n = true
    · have ih := sortE_drop (l := l) (p := some e.1) n x h2 (less_asym hl)
      have ek : atK (e :: l) n = atK l n + 1 := by simp [atK, hl]
      have eb : atB (e :: l) n = atB l n := by simp [atB, ek]
      have : withE (e :: l) n x = e :: withE l n x := by
        simp only [withE, ek, eb, List.take_succ_cons, List.cons_append]
        split <;> simp
      rw [this]
      exact ⟨h1, ih⟩
    · have hl : Op.bytesLess e.1 n = false := by simpa using hl
      have ek : atK (e :: l) n = 0 := by simp [atK, hl]
      by_cases he : e.1 = n
      · have eb : atB (e :: l) n = true := by simp [atB, ek, he]
        have : withE (e :: l) n x = (n, x) :: l := by simp [withE, ek, eb]
        rw [this]
        exact ⟨h, by rw [← he]; exact h2⟩
      · have eb : atB (e :: l) n = false := by simp [atB, ek, he]
        have : withE (e :: l) n x = (n, x) :: e :: l := by simp [withE, ek, eb]
        rw [this]
        exact ⟨h, less_asym (less_total hl he), h2⟩


/-- Sound: in order everywhere, names and levels within bounds. -/
def Tr.sound : Tr → Option (List UInt8) → Int → Prop
  | .nil, _, _ => True
  | .cons x k r, p, d => d ≤ 12 ∧ x.length ≤ 80 ∧ badP p x = false ∧ k.sound none (d + 1) ∧ r.sound (some x) d

theorem sound_of {d : Int} (hd : d ≤ 12) : ∀ {l : List Edge} {p : Option (List UInt8)}, sortE p l → (∀ e ∈ l, e.1.length ≤ 80 ∧ e.2.sound none (d + 1)) → (Tr.of l).sound p d
  | [], p, _, _ => trivial
  | (x, k) :: l, p, hs, h => ⟨hd, (h (x, k) (by simp)).1, hs.1, (h (x, k) (by simp)).2, sound_of hd hs.2 fun e he => h e (by simp [he])⟩

theorem chk_sound : ∀ (t : Tr) (p : Option (List UInt8)) (d n : Int), t.sound p d → n + t.nodes ≤ 400 → chkF t p d n = (n + t.nodes, 0)
  | .nil, p, d, n, _, _ => by simp [chkF, Tr.nodes]
  | .cons x k r, p, d, n, hs, h => by
    obtain ⟨h1, h2, h3, h4, h5⟩ := hs
    simp only [Tr.nodes] at h
    have hz : fitV (n + 1) d p x = 0 := by
      rw [fitV, if_neg (by omega), if_neg (by omega), if_neg (by omega), h3]; rfl
    have hk := chk_sound k none (d + 1) (n + 1) h4 (by omega)
    have hr := chk_sound r (some x) d (n + 1 + k.nodes) h5 (by omega)
    rw [chkF, if_neg (by rw [hz]; simp), hk, if_neg (by simp), hr]
    simp only [Tr.nodes, Prod.mk.injEq, and_true]
    omega


end Go.Proofs.YtbnjbianobdleaaGreat.Vm
