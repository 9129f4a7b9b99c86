/-
  Edges of two trees, put together and parted again: plain laws.
-/
import Derived.Test.YtbnjbianobdleaaGreatSayNamesLaw
import Derived.Test.YtbnjbianobdleaaGreatSayTreePlain
namespace Go.Proofs.YtbnjbianobdleaaGreat.Vm
open Go Go.RowKit
set_option linter.unusedVariables false
set_option linter.unusedSimpArgs false
set_option maxRecDepth 100000

theorem sortE_mk : ∀ {l : List Edge} {p : Option (List UInt8)}, (l.Pairwise fun x y => x.1 < y.1) → (∀ y, p = some y → ∀ e ∈ l, y < e.1) → sortE p l
  | [], p, _, _ => trivial
  | e :: l, p, h, hp => by
    rw [List.pairwise_cons] at h
    refine ⟨?_, sortE_mk h.2 fun y hy x hx => by
      simp only [Option.some.injEq] at hy
      subst hy; exact h.1 x hx⟩
    cases p with
    | none => rfl
    | some y =>
      have hlt := hp y rfl e (by simp)
      show (Op.bytesLess e.1 y || e.1 == y) = false
      rw [bl_eq, Bool.or_eq_false_iff]
      refine ⟨?_, ?_⟩
      · simp only [decide_eq_false_iff_not]
        exact fun h => str_lt_irrefl _ (str_lt_trans h hlt)
      · simp only [beq_eq_false_iff_ne]
        intro e1; rw [e1] at hlt; exact str_lt_irrefl _ hlt
theorem sortE_pw {l : List Edge} {p : Option (List UInt8)} (h : sortE p l) : l.Pairwise fun x y => x.1 < y.1 := List.pairwise_map.1 (sortE_pair h).1
theorem sound_mem : ∀ {t : Tr} {p : Option (List UInt8)} {d : Int}, t.sound p d → ∀ e ∈ t.list, e.1.length ≤ 80 ∧ e.2.sound none (d + 1)
  | .nil, _, _, _, e, he => by simp [Tr.list] at he
  | .cons n k r, p, d, h, e, he => by
    obtain ⟨_, h2, _, h4, h5⟩ := h
    simp only [Tr.list, List.mem_cons] at he
    rcases he with rfl | he
    · exact ⟨h2, h4⟩
    · exact sound_mem h5 e he
theorem sound_sort : ∀ {t : Tr} {p : Option (List UInt8)} {d : Int}, t.sound p d → sortE p t.list
  | .nil, _, _, _ => trivial
  | .cons n k r, p, d, h => ⟨h.2.2.1, sound_sort h.2.2.2.2⟩
theorem sound_mk {l : List Edge} (hs : l.Pairwise fun x y => x.1 < y.1) (h : ∀ e ∈ l, e.1.length ≤ 80 ∧ e.2.sound none 2) : (Tr.of l).sound none 1 := sound_of (by decide) (sortE_mk hs (by simp)) h
theorem chk_zero {l : List Edge} (hs : (Tr.of l).sound none 1) (hn : sumN l ≤ 400) : chkE (Tr.of l).rows 1 0 = 0 := by
  rw [chkE_rows, chk_sound _ _ _ _ hs (by rw [nodes_sum]; omega)]

theorem ext_edges : ∀ {l m : List Edge}, (l.Pairwise fun x y => x.1 < y.1) → (m.Pairwise fun x y => x.1 < y.1) → (∀ x, x ∈ l ↔ x ∈ m) → l = m
  | [], [], _, _, _ => rfl
  | [], b :: m, _, _, h => by have := (h b).2 (by simp); simp at this
  | a :: l, [], _, _, h => by have := (h a).1 (by simp); simp at this
  | a :: l, b :: m, hl, hm, h => by
    rw [List.pairwise_cons] at hl hm
    have hab : a = b := by
      have h1 := (h a).1 (by simp)
      have h2 := (h b).2 (by simp)
      rw [List.mem_cons] at h1 h2
      rcases h1 with h1 | h1
      · exact h1
      · rcases h2 with h2 | h2
        · exact h2.symm
        · exact absurd (str_lt_trans (hl.1 b h2) (hm.1 a h1)) (str_lt_irrefl _)
    subst hab
    congr 1
    refine ext_edges hl.2 hm.2 fun x => ?_
    have hx := h x
    rw [List.mem_cons, List.mem_cons] at hx
    constructor
    · intro hm1
      rcases hx.1 (.inr hm1) with e | e
      · subst e; exact absurd (hl.1 _ hm1) (str_lt_irrefl _)
      · exact e
    · intro hm1
      rcases hx.2 (.inr hm1) with e | e
      · subst e; exact absurd (hm.1 _ hm1) (str_lt_irrefl _)
      · exact e
theorem sumN_perm {l m : List Edge} (h : l.Perm m) : sumN l = sumN m := by
  induction h with
  | nil => rfl
  | cons x _ ih => simp only [sumN, List.map_cons, List.sum_cons] at ih ⊢; omega
  | swap x y l => simp only [sumN, List.map_cons, List.sum_cons]; omega
  | trans _ _ h1 h2 => rw [h1, h2]
theorem sumN_filter (f : Edge → Bool) : ∀ l : List Edge, sumN (l.filter f) ≤ sumN l
  | [] => by simp [sumN]
  | e :: l => by
    have ih := sumN_filter f l
    have h1 : sumN (e :: l) = e.2.nodes + 1 + sumN l := by simp [sumN]
    rw [List.filter_cons]
    split
    · have h2 : sumN (e :: l.filter f) = e.2.nodes + 1 + sumN (l.filter f) := by simp [sumN]
      omega
    · omega

theorem merge_law {c d : Tr} (hc : c.sound none 1) (hd : d.sound none 1) (f : List UInt8 → Bool) {pm : List Edge} (hp : pm.Perm (d.list.filter (fun e => f e.1) ++ c.list.filter fun e => !f e.1)) (hle : pm.Pairwise fun x y => x.1 ≤ y.1) :
    pm.filter (fun e => f e.1) = d.list.filter (fun e => f e.1) ∧ (pm.filter fun e => !f e.1) = (c.list.filter fun e => !f e.1) ∧ (Tr.of pm).sound none 1 ∧ sumN pm ≤ d.nodes + c.nodes := by
  have sc := sortE_pw (sound_sort hc)
  have sd := sortE_pw (sound_sort hd)
  have sc' := sc.filter fun e => !f e.1
  have sd' := sd.filter fun e => f e.1
  have nd : (pm.map Prod.fst).Nodup := by
    rw [(hp.map Prod.fst).nodup_iff, List.map_append, List.nodup_append]
    refine ⟨nodup_lt (List.pairwise_map.2 sd'), nodup_lt (List.pairwise_map.2 sc'), ?_⟩
    intro x hx y hy e
    subst e
    obtain ⟨a, ha, rfl⟩ := List.mem_map.1 hx
    obtain ⟨b, hb, e⟩ := List.mem_map.1 hy
    have h1 := (List.mem_filter.1 ha).2
    have h2 := (List.mem_filter.1 hb).2
    rw [e] at h2
    simp [h1] at h2
  have ne : pm.Pairwise fun x y => x.1 ≠ y.1 := List.pairwise_map.1 nd
  have sp : pm.Pairwise fun x y => x.1 < y.1 := (hle.and ne).imp fun h => str_lt_of h.1 h.2
  have hm : ∀ e, e ∈ pm ↔ (e ∈ d.list ∧ f e.1 = true) ∨ (e ∈ c.list ∧ (!f e.1) = true) := fun e => by
    rw [hp.mem_iff, List.mem_append, List.mem_filter, List.mem_filter]
  refine ⟨ext_edges (sp.filter _) sd' fun e => ?_, ext_edges (sp.filter _) sc' fun e => ?_, sound_mk sp fun e he => ?_, ?_⟩
  · rw [List.mem_filter, List.mem_filter, hm]
    constructor
    · rintro ⟨h | h, h2⟩
      · exact h
      · simp [h2] at h
    · intro h; exact ⟨.inl h, h.2⟩
  · rw [List.mem_filter, List.mem_filter, hm]
    constructor
    · rintro ⟨h | h, h2⟩
      · simp [h.2] at h2
      · exact h
    · intro h; exact ⟨.inr h, h.2⟩
  · rcases (hm e).1 he with h | h
    · exact sound_mem hd e h.1
    · exact sound_mem hc e h.1
  · rw [sumN_perm hp, sumN_app]
    have h1 := sumN_filter (fun e => f e.1) d.list
    have h2 := sumN_filter (fun e => !f e.1) c.list
    have h3 : sumN d.list = d.nodes := by rw [← nodes_sum, of_list]
    have h4 : sumN c.list = c.nodes := by rw [← nodes_sum, of_list]
    exact Nat.le_trans (Nat.add_le_add h1 h2) (by rw [h3, h4]; exact Nat.le_refl _)
theorem part_law {c : Tr} (hc : c.sound none 1) (f : Edge → Bool) : (Tr.of (c.list.filter f)).sound none 1 ∧ sumN (c.list.filter f) ≤ c.nodes := by
  refine ⟨sound_mk ((sortE_pw (sound_sort hc)).filter f) fun e he => sound_mem hc e (List.mem_filter.1 he).1, ?_⟩
  have h1 := sumN_filter f c.list
  have h3 : sumN c.list = c.nodes := by rw [← nodes_sum, of_list]
  exact Nat.le_trans h1 (by rw [h3]; exact Nat.le_refl _)

end Go.Proofs.YtbnjbianobdleaaGreat.Vm
