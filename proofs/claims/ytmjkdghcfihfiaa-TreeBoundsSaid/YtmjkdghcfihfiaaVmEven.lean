/-
  New numbers are even: what parameters lead to keeps its numbers.
-/
import Derived.Test.YtmjkdghcfihfiaaVmLay
namespace Go.Proofs.Ytmjkdghcfihfiaa.Vm
open Go
set_option linter.unusedVariables false
set_option linter.unusedSimpArgs false

def Evens (os : List (Nat × Obj)) : Prop := ∀ p ∈ os, p.1 % 2 = 0
theorem Evens.append {a b : List (Nat × Obj)} (h : Evens a) (k : Evens b) : Evens (a ++ b) := fun p hp => (List.mem_append.1 hp).elim (h p) (k p)
theorem dstId_even (d : Nat) : dstId d % 2 = 0 := by unfold dstId; omega
theorem cellId_even (i j : Nat) : cellId i j % 2 = 0 := by unfold cellId; omega

mutual
theorem place_even : ∀ (v : TV) (id : Nat), id % 2 = 0 → Evens (place cellId id v).2
  | .pv x, id, _ => by simp [place, Evens]
  | .own sz es, id, h => by simpa [place, Evens] using h
  | .bld bs, id, h => by simpa [place, Evens] using h
  | .ptr cells, id, h => by
    intro p hp
    simp only [place, List.mem_cons] at hp
    rcases hp with rfl | hp
    · exact h
    · exact places_even cells id 0 p hp
theorem places_even : ∀ (vs : List TV) (id j : Nat), Evens (places cellId id j vs).2
  | [], id, j => by simp [places, Evens]
  | v :: vs, id, j => by
    simp only [places]
    exact (place_even v (cellId id j) (cellId_even _ _)).append (places_even vs id (j + 1))
end
theorem resTV_even (d : Nat) (rs : List TV) : Evens (resTV d rs).2 := by
  cases rs with
  | nil => exact places_even [] (dstId d) 0
  | cons v r =>
    cases r with
    | nil => exact place_even v _ (dstId_even d)
    | cons v' r => exact places_even (v :: v' :: r) (dstId d) 0

mutual
theorem backLeaf_even : ∀ (ob : Option Back) (id j : Nat) (f : TV) (a : AV) (ps : List Patch) (os : List (Nat × Obj)), backLeaf id j ob f = some (a, ps, os) → Evens os
  | some (.box i off bs), id, j, f, a, ps, os, h => by
    cases f <;> simp only [backLeaf] at h <;> try (cases h; done)
    rename_i cells
    split at h
    · rename_i l ps' os' hl
      injection h with h; injection h with h1 h; injection h with h2 h3; subst h3
      exact backLeaves_even bs i off cells l ps' os' hl
    · exact absurd h (by simp)
  | some (.own i), id, j, f, a, ps, os, h => by cases f <;> simp only [backLeaf] at h <;> cases h
  | some .nilSl, id, j, f, a, ps, os, h => by cases f <;> simp only [backLeaf] at h <;> cases h
  | some (.bld i), id, j, f, a, ps, os, h => by
    cases f <;> simp only [backLeaf] at h <;> try (cases h; done)
    injection h with h; injection h with h1 h; injection h with h2 h3; subst h3
    simp [Evens]
  | none, id, j, f, a, ps, os, h => by
    cases f <;> simp only [backLeaf] at h <;> try (cases h; done)
    · injection h with h; injection h with h1 h; injection h with h2 h3; subst h3; simp [Evens]
    · injection h with h; injection h with h1 h; injection h with h2 h3; subst h3
      simpa [Evens] using cellId_even id j
theorem backLeaves_even : ∀ (bs : List (Option Back)) (id j : Nat) (fs : List TV) (l : List AV) (ps : List Patch) (os : List (Nat × Obj)), backLeaves id j bs fs = some (l, ps, os) → Evens os
  | [], id, j, fs, l, ps, os, h => by
    cases fs <;> simp only [backLeaves] at h <;> try (cases h; done)
    injection h with h; injection h with h1 h; injection h with h2 h3; subst h3
    simp [Evens]
  | ob :: bs, id, j, fs, l, ps, os, h => by
    cases fs <;> simp only [backLeaves] at h <;> try (cases h; done)
    rename_i f fs
    split at h
    · rename_i a p os1 l' ps' os' h1 h2
      injection h with h; injection h with e1 h; injection h with e2 e3; subst e3
      exact (backLeaf_even ob id j f a p os1 h1).append (backLeaves_even bs id (j + 1) fs l' ps' os' h2)
    · exact absurd h (by simp)
end

theorem backTV_even : ∀ (bs : List Back) (fs : List TV) (ws : List Patch) (os : List (Nat × Obj)), backTV bs fs = some (ws, os) → Evens os
  | [], fs, ws, os, h => by
    cases fs <;> simp only [backTV] at h <;> try (cases h; done)
    injection h with h; injection h with h1 h2; subst h2
    simp [Evens]
  | b :: bs, [], ws, os, h => by cases b <;> simp only [backTV] at h <;> cases h
  | b :: bs, f :: fs, ws, os, h => by
    have two : ((∃ i, b = .bld i) ∨ ∃ i off l, b = .box i off l) → Evens os := by
      intro hb
      obtain ⟨a, p, o, q, r, h1, h2, rfl, rfl⟩ := backTV_cons hb h
      exact (backLeaf_even _ _ _ _ _ _ _ h1).append (backTV_even bs fs q r h2)
    cases b with
    | box i off l => exact two (.inr ⟨i, off, l, rfl⟩)
    | bld i => exact two (.inl ⟨i, rfl⟩)
    | nilSl =>
      cases f <;> (try simp only [backTV] at h) <;> try (cases h; done)
      rename_i sz es
      cases es with
      | cons e es => (try simp only [backTV] at h); cases h
      | nil =>
        (try simp only [backTV] at h)
        exact backTV_even bs fs ws os h
    | own i =>
      cases f <;> simp only [backTV] at h <;> try (cases h; done)
      split at h
      · rename_i q r hr
        injection h with h; injection h with h1 h2; subst h2
        exact backTV_even bs fs q _ hr
      · exact absurd h (by simp)

theorem callM_even {C : Cx} {call : FuncId → List TV → Option (List TV × List TV)} {d : Nat} {c : Call} {V : View} {m : Made} (h : callM C call d c V = some m) : Evens m.os := by
  unfold callM at h
  split at h
  · split at h
    · split at h
      · split at h
        · split at h
          · rename_i rs fs hc
            split at h
            · rename_i ws os hb
              injection h with h; subst h
              exact (resTV_even d rs).append (backTV_even _ _ _ _ hb)
            · exact absurd h (by simp)
          · exact absurd h (by simp)
        · exact absurd h (by simp)
      · exact absurd h (by simp)
    · exact absurd h (by simp)
  · exact absurd h (by simp)

theorem evens_nil : Evens [] := by simp [Evens]
theorem evens_dst (d : Nat) (o : Obj) : Evens [(dstId d, o)] := by intro p hp; simp at hp; subst hp; exact dstId_even d
theorem vconv_even {P : Program} {d : Nat} {s t : TypeId} {x : AV} {V : View} {v : AV} {os : List (Nat × Obj)} (h : vconv P d s t x V = some (v, os)) : Evens os := by
  unfold vconv at h
  repeat' split at h
  all_goals first
    | (cases h; done)
    | (injection h with h; injection h with h1 h2; subst h2; exact evens_nil)
    | (injection h with h; injection h with h1 h2; subst h2; exact evens_dst d _)

theorem alloc_even {P : Program} {d : Nat} {vs : List Value} {ts : List TypeId} {l : List AV} {os : List (Nat × Obj)} (hb : zeroBox P (dstId d) 0 vs ts = some (l, os)) : Evens ((dstId d, .box l) :: os) := by
  obtain ⟨_, k2, _⟩ := zeroBox_ok (P := P) (dstId d) _ _ _ _ _ hb
  intro p hp
  rcases List.mem_cons.1 hp with rfl | hp
  · exact dstId_even d
  · obtain ⟨k, sz, _, e, _⟩ := k2 p hp
    rw [e]; exact cellId_even _ _

theorem opQ_even {P : Program} {bt : TypeId} {d : Nat} {o : Op} {V : View} {v : AV} {os : List (Nat × Obj)} (h : opQ P bt d o V = some (v, os)) : Evens os := by
  unfold opQ at h
  repeat' split at h
  all_goals first
    | (cases h; done)
    | exact vconv_even h
    | (injection h with h; injection h with h1 h2; subst h2; exact evens_nil)
    | (injection h with h; injection h with h1 h2; subst h2; exact evens_dst d _)
    | (injection h with h; injection h with h1 h2; subst h2; exact alloc_even (by assumption))

theorem opA_even {P : Program} {d : Nat} {o : Op} {V : View} {v : AV} {os : List (Nat × Obj)} {id : Option Nat} (h : opA P d o V = some (v, os, id)) : Evens os := by
  unfold opA at h
  repeat' split at h
  all_goals first
    | (cases h; done)
    | (injection h with h; injection h with h1 h2; injection h2 with h2 h3; subst h2; exact evens_dst d _)

theorem opL_os {P : Program} {o : Op} {V : View} {m : Made} (h : opL P o V = some m) : m.os = [] := by
  unfold opL at h
  repeat' split at h
  all_goals first
    | (cases h; done)
    | (injection h with h; subst h; rfl)

theorem made_even {C : Cx} {call : FuncId → List TV → Option (List TV × List TV)} {o : Oper} {V : View} {m : Made} (h : made C call o V = some m) : Evens m.os := by
  unfold made at h
  simp only at h
  split at h
  · exact callM_even h
  · split at h
    · rename_i v os hq
      injection h with h; subst h
      exact opQ_even hq
    · split at h
      · rename_i v os id ha
        injection h with h; subst h
        exact opA_even ha
      · rw [opL_os h]; exact evens_nil

end Go.Proofs.Ytmjkdghcfihfiaa.Vm
