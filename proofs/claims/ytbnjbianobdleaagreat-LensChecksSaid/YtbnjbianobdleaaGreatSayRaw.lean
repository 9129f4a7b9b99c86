/-
  Raw edges that are handed in, read as a tree.
-/
import Derived.Test.YtbnjbianobdleaaGreatSayTreeMake
namespace Go.Proofs.YtbnjbianobdleaaGreat.Vm
open Go Go.RowKit
set_option linter.unusedVariables false
set_option linter.unusedSimpArgs false
set_option maxRecDepth 100000

/-- Is E a name, and a slice T of such? -/
def rawOK (P : Program) (T E : TypeId) : Bool := match P.underlying T, P.underlying E with
  | some (.slice e), some (.struct fs) => (match fs.toList with
    | [f0, f1] => (match P.underlying f0.type with | some .string => e == E && f1.type == T && decide (1 ≤ P.bytesOf E) | _ => false)
    | _ => false)
  | _, _ => false

theorem shp_str {P : Program} {t : TypeId} {xs : List PV} (h : Shp P t xs) (ht : P.underlying t = some .string) : ∃ s, xs = [.str s] ∧ s.length ≤ reachBytes := by
  cases h with
  | int h => rw [h] at ht; simp at ht
  | bool h => rw [h] at ht; simp at ht
  | str h hb => exact ⟨_, rfl, hb⟩
  | sl h => rw [h] at ht; simp at ht
  | struct xs h => rw [h] at ht; simp at ht

theorem edges_of {B : Nat} : ∀ {es : List (List PV)}, (∀ x ∈ es, ∃ (n : List UInt8) (k : Tr), x = [.str n, .sl k.rows] ∧ n.length ≤ B ∧ k.list.length ≤ B ∧ k.lim B) → ∃ u : Tr, es = u.rows ∧ u.lim B
  | [], _ => ⟨.nil, rfl, trivial⟩
  | x :: es, h => by
    obtain ⟨n, k, rfl, h1, h2, h3⟩ := h x (by simp)
    obtain ⟨u, rfl, h4⟩ := edges_of (B := B) (es := es) fun y hy => h y (by simp [hy])
    exact ⟨.cons n k u, rfl, h1, h2, h3, h4⟩

theorem shp_tr {P : Program} {T E : TypeId} (hok : rawOK P T E = true) : ∀ {t : TypeId} {xs : List PV}, Shp P t xs → (t = T → ∃ u : Tr, xs = [.sl u.rows] ∧ u.list.length ≤ reachBytes ∧ u.lim reachBytes) ∧ (t = E → ∃ (n : List UInt8) (k : Tr), xs = [.str n, .sl k.rows] ∧ n.length ≤ reachBytes ∧ k.list.length ≤ reachBytes ∧ k.lim reachBytes) := by
  unfold rawOK at hok
  split at hok
  · rename_i e fs hT hE
    split at hok
    · rename_i f0 f1 hfs
      split at hok
      · rename_i h0
        simp only [Bool.and_eq_true, beq_iff_eq, decide_eq_true_eq] at hok
        obtain ⟨⟨rfl, h1⟩, hb⟩ := hok
        intro t xs h
        induction h with
        | int h => exact ⟨fun e => by subst e; rw [h] at hT; simp at hT, fun e => by subst e; rw [h] at hE; simp at hE⟩
        | bool h => exact ⟨fun e => by subst e; rw [h] at hT; simp at hT, fun e => by subst e; rw [h] at hE; simp at hE⟩
        | str h _ => exact ⟨fun e => by subst e; rw [h] at hT; simp at hT, fun e => by subst e; rw [h] at hE; simp at hE⟩
        | sl h hl hall ih =>
          refine ⟨fun ht => ?_, fun ht => by subst ht; rw [h] at hE; simp at hE⟩
          subst ht
          rw [hT] at h
          simp only [Option.some.injEq, TypeDesc.slice.injEq] at h
          subst h
          obtain ⟨u, rfl, h2⟩ := edges_of fun x hx => (ih x hx).2 rfl
          refine ⟨u, rfl, ?_, h2⟩
          rw [rows_len] at hl
          have : u.list.length * 1 ≤ u.list.length * P.bytesOf e := Nat.mul_le_mul_left _ hb
          omega
        | struct xs h hall ih =>
          refine ⟨fun ht => by subst ht; rw [h] at hT; simp at hT, fun ht => ?_⟩
          subst ht
          rw [hE] at h
          simp only [Option.some.injEq, TypeDesc.struct.injEq] at h
          subst h
          rw [hfs] at hall ih ⊢
          obtain ⟨s, hs, hs2⟩ := shp_str (hall 0 f0 rfl) h0
          obtain ⟨u, hu, h2, h3⟩ := (ih 1 f1 rfl).1 h1
          refine ⟨s, u, ?_, hs2, h2, h3⟩
          have e : (List.range [f0, f1].length).flatMap xs = xs 0 ++ xs 1 := by simp [List.range_succ]
          rw [e, hs, hu]; rfl
      · exact absurd hok (by simp)
    · exact absurd hok (by simp)
  · exact absurd hok (by simp)

theorem raw_of {P : Program} {T E : TypeId} (hok : rawOK P T E = true) {es : List (List PV)} (h : Shp P T [.sl es]) : ∃ u : Tr, es = u.rows ∧ u.list.length ≤ 140737488351232 ∧ u.lim 140737488351232 := by
  obtain ⟨u, h1, h2, h3⟩ := (shp_tr hok h).1 rfl
  simp only [List.cons.injEq, PV.sl.injEq, and_true] at h1
  exact ⟨u, h1, h2, h3⟩

end Go.Proofs.YtbnjbianobdleaaGreat.Vm
