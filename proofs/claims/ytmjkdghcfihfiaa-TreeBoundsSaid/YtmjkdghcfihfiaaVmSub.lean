/-
  Numbers of objects are changed; what is dead is forgotten; a loop's head.
-/
import Derived.Test.YtmjkdghcfihfiaaVmRun
namespace Go.Proofs.Ytmjkdghcfihfiaa.Vm
open Go
set_option linter.unusedVariables false
set_option linter.unusedSimpArgs false

mutual
theorem ids_refs : ∀ v : AV, v.ids = v.refs
  | .own i => by simp only [AV.ids, AV.refs]
  | .part i _ _ => by simp only [AV.ids, AV.refs]
  | .addr i _ _ => by simp only [AV.ids, AV.refs]
  | .tup vs => by simp only [AV.ids, AV.refs]; exact idsL_refsL vs
  | .agg vs => by simp only [AV.ids, AV.refs]; exact idsL_refsL vs
  | .clo f a b => by simp only [AV.ids, AV.refs, idsL_refsL a, idsL_refsL b]
  | .undef => by simp only [AV.ids, AV.refs]
  | .pv _ => by simp only [AV.ids, AV.refs]
  | .nilSl => by simp only [AV.ids, AV.refs]
theorem idsL_refsL : ∀ vs : List AV, AV.idsL vs = AV.refsL vs
  | [] => by simp only [AV.idsL, AV.refsL]
  | v :: vs => by simp only [AV.idsL, AV.refsL, ids_refs v, idsL_refsL vs]
end

section
variable {M : Cells} {β β' : Nat → Loc} {w : World} {g : Nat → Option Nat}

mutual
theorem subg_ok : ∀ (v : AV) (c : Value), (∀ i ∈ v.refs, ∀ j, g i = some j → (β i).same (β' j)) → AVR β w M v c → AVR β' w M (AV.sub g v) c
  | .own i, c, hg, h => by
    simp only [AV.sub]
    split
    · rename_i j hj
      simp only [AVR] at h ⊢
      rw [(hg i (by simp [AV.refs]) j hj).hdr]; exact h
    · simp only [AVR]
  | .part i lo n, c, hg, h => by
    simp only [AV.sub]
    split
    · rename_i j hj
      obtain ⟨h1, h2, h3, h4⟩ := hg i (by simp [AV.refs]) j hj
      simp only [AVR] at h ⊢
      rw [h1, h2, h4]; exact h
    · simp only [AVR]
  | .addr i a b, c, hg, h => by
    simp only [AV.sub]
    split
    · rename_i j hj
      obtain ⟨h1, h2, h3, h4⟩ := hg i (by simp [AV.refs]) j hj
      simp only [AVR] at h ⊢
      rw [h1, h4]; exact h
    · simp only [AVR]
  | .nilSl, c, _, h => by simp only [AV.sub, AVR] at h ⊢; exact h
  | .undef, c, _, h => by simp only [AV.sub, AVR]
  | .pv x, c, _, h => by simp only [AV.sub, AVR] at h ⊢; exact h
  | .tup vs, c, hg, h => by
    simp only [AV.sub, AVR] at h ⊢
    obtain ⟨cs, h1, h2⟩ := h
    exact ⟨cs, h1, subgL_ok vs _ (fun i hi => hg i (by simpa only [AV.refs] using hi)) h2⟩
  | .agg vs, c, hg, h => by
    simp only [AV.sub, AVR] at h ⊢
    obtain ⟨cs, h1, h2, h3⟩ := h
    exact ⟨cs, h1, subgL_ok vs _ (fun i hi => hg i (by simpa only [AV.refs] using hi)) h2, h3⟩
  | .clo f a b, c, hg, h => by
    simp only [AV.sub, AVR] at h ⊢
    obtain ⟨x, y, h1, h2, h3⟩ := h
    exact ⟨x, y, h1, subgL_ok a _ (fun i hi => hg i (by simp only [AV.refs, List.mem_append]; exact .inl hi)) h2, subgL_ok b _ (fun i hi => hg i (by simp only [AV.refs, List.mem_append]; exact .inr hi)) h3⟩
theorem subgL_ok : ∀ (vs : List AV) (cs : List Value), (∀ i ∈ AV.refsL vs, ∀ j, g i = some j → (β i).same (β' j)) → AVRs β w M vs cs → AVRs β' w M (AV.subL g vs) cs
  | [], cs, _, h => by simp only [AV.subL, AVRs] at h ⊢; exact h
  | v :: vs, cs, hg, h => by
    simp only [AV.subL, AVRs] at h ⊢
    obtain ⟨c, r, h1, h2, h3⟩ := h
    exact ⟨c, r, h1, subg_ok v c (fun i hi => hg i (by simp only [AV.refsL, List.mem_append]; exact .inl hi)) h2, subgL_ok vs r (fun i hi => hg i (by simp only [AV.refsL, List.mem_append]; exact .inr hi)) h3⟩
end
mutual
theorem subg_refs : ∀ (v : AV), ∀ j ∈ (AV.sub g v).refs, ∃ i ∈ v.refs, g i = some j
  | .own i, j, h => by
    simp only [AV.sub] at h
    split at h
    · rename_i k hk
      simp only [AV.refs, List.mem_singleton] at h ⊢; subst h; exact ⟨i, rfl, hk⟩
    · simp [AV.refs] at h
  | .part i lo n, j, h => by
    simp only [AV.sub] at h
    split at h
    · rename_i k hk
      simp only [AV.refs, List.mem_singleton] at h ⊢; subst h; exact ⟨i, rfl, hk⟩
    · simp [AV.refs] at h
  | .addr i a b, j, h => by
    simp only [AV.sub] at h
    split at h
    · rename_i k hk
      simp only [AV.refs, List.mem_singleton] at h ⊢; subst h; exact ⟨i, rfl, hk⟩
    · simp [AV.refs] at h
  | .nilSl, j, h => by simp [AV.sub, AV.refs] at h
  | .undef, j, h => by simp [AV.sub, AV.refs] at h
  | .pv x, j, h => by simp [AV.sub, AV.refs] at h
  | .tup vs, j, h => by simp only [AV.sub, AV.refs] at h ⊢; exact subgL_refs vs j h
  | .agg vs, j, h => by simp only [AV.sub, AV.refs] at h ⊢; exact subgL_refs vs j h
  | .clo f a b, j, h => by
    simp only [AV.sub, AV.refs, List.mem_append] at h ⊢
    rcases h with h | h
    · obtain ⟨i, h1, h2⟩ := subgL_refs a j h; exact ⟨i, .inl h1, h2⟩
    · obtain ⟨i, h1, h2⟩ := subgL_refs b j h; exact ⟨i, .inr h1, h2⟩
theorem subgL_refs : ∀ (vs : List AV), ∀ j ∈ AV.refsL (AV.subL g vs), ∃ i ∈ AV.refsL vs, g i = some j
  | [], j, h => by simp [AV.subL, AV.refsL] at h
  | v :: vs, j, h => by
    simp only [AV.subL, AV.refsL, List.mem_append] at h ⊢
    rcases h with h | h
    · obtain ⟨i, h1, h2⟩ := subg_refs v j h; exact ⟨i, .inl h1, h2⟩
    · obtain ⟨i, h1, h2⟩ := subgL_refs vs j h; exact ⟨i, .inr h1, h2⟩
end
end

section
variable {M0 M : Cells} {β : Nat → Loc} {st : St} {tm : Array Value} {w : World}

theorem Loc.same_refl (l : Loc) : l.same l := ⟨rfl, rfl, rfl, rfl⟩

theorem objmap_sub {g : Nat → Option Nat} {β' : Nat → Loc} {l : Loc} : ∀ {o : Obj}, (∀ i ∈ o.refs, ∀ j, g i = some j → (β i).same (β' j)) → ObjR β w M l o → ObjR β' w M l (o.map (AV.sub g))
  | .box cs, hg, h => by
    obtain ⟨b, o, q1, q2, q3, q4⟩ := h
    refine ⟨b, o, q1, by simpa using q2, q3, fun j v hj => ?_⟩
    rw [List.getElem?_map] at hj
    simp only [Option.map_eq_some_iff] at hj
    obtain ⟨u, hu, rfl⟩ := hj
    obtain ⟨c, k1, k2, k3, k4⟩ := q4 j u hu
    exact ⟨c, k1, k2, k3, subg_ok _ _ (fun i hi => hg i (by simp only [Obj.refs]; exact refsL_mem.2 ⟨u, List.mem_of_getElem? hu, hi⟩)) k4⟩
  | .buf s es, hg, h => ObjR.mono (o := .buf s es) (fun b o v h1 h2 => ⟨h1, h2⟩) (fun _ _ _ _ h => ⟨h, rfl⟩) (fun _ _ h => h) (fun _ _ _ => rfl) (by simp [Obj.refs]) h
  | .bld bs, hg, h => ObjR.mono (o := .bld bs) (fun b o v h1 h2 => ⟨h1, h2⟩) (fun _ _ _ _ h => ⟨h, rfl⟩) (fun _ _ h => h) (fun _ _ _ => rfl) (by simp [Obj.refs]) h

theorem objmap_refs {g : Nat → Option Nat} {o : Obj} : ∀ j ∈ (o.map (AV.sub g)).refs, ∃ i ∈ o.refs, g i = some j := by
  intro j hj
  cases o with
  | box cs =>
    simp only [Obj.map, Obj.refs] at hj ⊢
    obtain ⟨v, hv, hj⟩ := refsL_mem.1 hj
    obtain ⟨u, hu, rfl⟩ := List.mem_map.1 hv
    obtain ⟨i, h1, h2⟩ := subg_refs u j hj
    exact ⟨i, refsL_mem.2 ⟨u, hu, h1⟩, h2⟩
  | buf s es => simp [Obj.map, Obj.refs] at hj
  | bld bs => simp [Obj.map, Obj.refs] at hj

def renG (a b : Nat) : Nat → Option Nat := fun i => if i = a then some b else some i

theorem lkp_renKey {α : Type} (a b n : Nat) : ∀ (l : List (Nat × α)), (lkp b l = none) → lkp n (l.map fun p => if p.1 = a then (b, p.2) else p) = if n = b then lkp a l else if n = a then (if a = b then lkp a l else none) else lkp n l
  | [], _ => by simp [lkp]
  | (m, x) :: r, hb => by
    simp only [lkp] at hb
    split at hb
    · exact absurd hb (by simp)
    · rename_i hbm
      have ih := lkp_renKey a b n r hb
      simp only [List.map_cons]
      by_cases hma : m = a
      · subst hma
        simp only [if_true, lkp]
        by_cases hnb : n = b
        · simp [hnb]
        · simp only [hnb, if_false] at ih ⊢
          by_cases hnm : n = m
          · subst hnm
            simp only [if_true] at ih ⊢
            rw [ih]
            have : ¬ n = b := hnb
            simp [this]
          · simp only [hnm, if_false] at ih ⊢
            exact ih
      · simp only [hma, if_false, lkp]
        by_cases hnm : n = m
        · subst hnm
          have : ¬ n = b := fun e => hbm e.symm
          simp [this, hma]
        · simp only [hnm, if_false]
          rw [ih]
          have : ¬ a = m := fun e => hma e.symm
          simp [this]

theorem ren_ok {a b : Nat} {s : St} (h : SR M0 M β st tm w) (hr : st.ren a b = some s) : SR M0 M (fun i => if i = b then β a else β i) s tm w ∧ ∀ i, (∃ o, s.obj i = some o) → (i = b ∧ ∃ o, st.obj a = some o) ∨ (i ≠ a ∧ i ≠ b ∧ ∃ o, st.obj i = some o) := by
  unfold St.ren at hr
  split at hr
  · exact absurd hr (by simp)
  · rename_i hb
    simp only [Option.some.injEq] at hr
    obtain ⟨hV, hC⟩ := h
    have hnb : ∀ i, (∃ o, st.obj i = some o) → i ≠ b := by
      rintro i ⟨o, ho⟩ rfl
      rw [St.obj, hb] at ho; simp at ho
    have hg : ∀ i, (∃ o, st.obj i = some o) → ∀ j, renG a b i = some j → (β i).same ((fun i => if i = b then β a else β i) j) := by
      intro i hi j hj
      simp only [renG] at hj
      split at hj
      · rename_i e
        simp only [Option.some.injEq] at hj; subst hj; subst e
        simp [Loc.same_refl]
      · simp only [Option.some.injEq] at hj; subst hj
        simp [hnb i hi, Loc.same_refl]
    have hget : ∀ t, s.get t = AV.sub (renG a b) (st.get t) := by
      intro t
      subst hr
      simp only [St.get, St.map, lkp_map]
      cases lkp t st.tmps with
      | none => simp [AV.sub]
      | some v => rfl
    have hobj : ∀ i, s.obj i = if i = b then (st.obj a).map (Obj.map (AV.sub (renG a b))) else if i = a then none else (st.obj i).map (Obj.map (AV.sub (renG a b))) := by
      intro i
      subst hr
      simp only [St.obj, St.map]
      have hb' : lkp b (st.objs.map fun p => (p.1, p.2.map (AV.sub (renG a b)))) = none := by rw [lkp_map, hb]; rfl
      have := lkp_renKey a b i _ hb'
      rw [show (fun p : Nat × Obj => (p.1, Obj.map (AV.sub fun i => if i = a then some b else some i) p.2)) = (fun p => (p.1, p.2.map (AV.sub (renG a b)))) from rfl]
      rw [this]
      by_cases e : i = b
      · subst e; simp only [if_true, lkp_map]
      · simp only [e, if_false]
        by_cases e2 : i = a
        · subst e2; simp [e]
        · simp only [e2, if_false, lkp_map]
    -- an object of the new state
    have hcase : ∀ i o, s.obj i = some o → ∃ k o0, st.obj k = some o0 ∧ o = o0.map (AV.sub (renG a b)) ∧ ((i = b ∧ k = a) ∨ (i ≠ a ∧ i ≠ b ∧ k = i)) := by
      intro i o ho
      rw [hobj] at ho
      split at ho
      · rename_i e
        simp only [Option.map_eq_some_iff] at ho
        obtain ⟨o0, h1, rfl⟩ := ho
        exact ⟨a, o0, h1, rfl, .inl ⟨e, rfl⟩⟩
      · rename_i e
        split at ho
        · exact absurd ho (by simp)
        · rename_i e2
          simp only [Option.map_eq_some_iff] at ho
          obtain ⟨o0, h1, rfl⟩ := ho
          exact ⟨i, o0, h1, rfl, .inr ⟨e2, e, rfl⟩⟩
    have hloc : ∀ i k, ((i = b ∧ k = a) ∨ (i ≠ a ∧ i ≠ b ∧ k = i)) → (if i = b then β a else β i) = β k := by
      rintro i k (⟨rfl, rfl⟩ | ⟨h1, h2, rfl⟩)
      · simp
      · simp [h2]
    have hdom : ∀ k, (∃ o, st.obj k = some o) → ∀ j, renG a b k = some j → ∃ o, s.obj j = some o := by
      rintro k ⟨o, ho⟩ j hj
      simp only [renG] at hj
      split at hj
      · rename_i e
        simp only [Option.some.injEq] at hj; subst hj; subst e
        exact ⟨_, by rw [hobj, if_pos rfl, ho]; rfl⟩
      · rename_i e
        simp only [Option.some.injEq] at hj; subst hj
        exact ⟨_, by rw [hobj, if_neg (hnb k ⟨o, ho⟩), if_neg e, ho]; rfl⟩
    refine ⟨⟨⟨hV.sup, hV.old, fun t => ?_, fun i o ho => ?_, fun i o ho => ?_, fun i i' o o' ho ho' hne => ?_⟩, fun t j hj => ?_, fun i o ho => ⟨⟨o, ho⟩, fun j hj => ?_⟩⟩, fun i hi => ?_⟩
    · show AVR _ w M (s.get t) _
      rw [hget]
      exact subg_ok _ _ (fun i hi => hg i (hC.1 t i hi)) (hV.slots t)
    · obtain ⟨k, o0, h1, rfl, h3⟩ := hcase i o ho
      show ObjR _ w M (if i = b then β a else β i) _
      rw [hloc i k h3]
      exact objmap_sub (fun i hi => hg i ((hC.2 k o0 h1).2 i hi)) (hV.objs k o0 h1)
    · obtain ⟨k, o0, h1, rfl, h3⟩ := hcase i o ho
      show ∀ x j, (if i = b then β a else β i).F x j → _
      rw [hloc i k h3]
      exact hV.own k o0 h1
    · obtain ⟨k, o0, h1, rfl, h3⟩ := hcase i o ho
      obtain ⟨k', o1, h1', rfl, h3'⟩ := hcase i' o' ho'
      show ∀ x j, (if i = b then β a else β i).F x j → ¬ (if i' = b then β a else β i').F x j
      rw [hloc i k h3, hloc i' k' h3']
      refine hV.disj k k' o0 o1 h1 h1' ?_
      rintro rfl
      rcases h3 with ⟨rfl, rfl⟩ | ⟨e1, e2, rfl⟩
      · rcases h3' with ⟨rfl, _⟩ | ⟨e1, e2, rfl⟩
        · exact hne rfl
        · exact e1 rfl
      · rcases h3' with ⟨rfl, rfl⟩ | ⟨f1, f2, rfl⟩
        · exact e1 rfl
        · exact hne rfl
    · have hj' : j ∈ (s.get t).refs := hj
      rw [hget] at hj'
      obtain ⟨i, h1, h2⟩ := subg_refs _ j hj'
      exact hdom i (hC.1 t i h1) j h2
    · obtain ⟨k, o0, h1, rfl, h3⟩ := hcase i o ho
      obtain ⟨i', h4, h5⟩ := objmap_refs j hj
      exact hdom i' ((hC.2 k o0 h1).2 i' h4) j h5
    · obtain ⟨o, ho⟩ := hi
      obtain ⟨k, o0, h1, _, h3⟩ := hcase i o ho
      rcases h3 with ⟨rfl, rfl⟩ | ⟨e1, e2, rfl⟩
      · exact .inl ⟨rfl, o0, h1⟩
      · exact .inr ⟨e1, e2, o0, h1⟩


/-- The same world, another state. -/
def Pass (M0 : Cells) (tm : Array Value) (w : World) (st st' : St) : Prop :=
  ∀ M β, SR M0 M β st tm w → ∃ M' β', SR M0 M' β' st' tm w ∧ (∀ b j, M' b j → M b j) ∧ ∀ id o, id % 2 = 1 → st'.obj id = some o → (∃ o', st.obj id = some o') ∧ (β id).same (β' id)

theorem Pass.refl (st : St) : Pass M0 tm w st st := fun M β h => ⟨M, β, h, fun _ _ h => h, fun id o _ ho => ⟨⟨o, ho⟩, Loc.same_refl _⟩⟩
theorem Pass.trans {s1 s2 s3 : St} (h : Pass M0 tm w s1 s2) (k : Pass M0 tm w s2 s3) : Pass M0 tm w s1 s3 := by
  intro M β hS
  obtain ⟨M', β', a1, a2, a3⟩ := h M β hS
  obtain ⟨M'', β'', b1, b2, b3⟩ := k M' β' a1
  refine ⟨M'', β'', b1, fun b j hb => a2 b j (b2 b j hb), fun id o hid ho => ?_⟩
  obtain ⟨⟨o', ho'⟩, hs⟩ := b3 id o hid ho
  obtain ⟨ho'', hs'⟩ := a3 id o' hid ho'
  exact ⟨ho'', hs'.trans hs⟩

theorem pass_freezeAll {ids : List Nat} {s : St} (h : freezeAll ids st = some s) : Pass M0 tm w st s := by
  intro M β hS
  obtain ⟨Mf, k1, k2, k3⟩ := freezeAll_ok ids hS h
  exact ⟨Mf, β, k1, fun b j hb => ((k2 b j).1 hb).1, fun id o _ ho => ⟨((k3 id).1 ⟨o, ho⟩).2, Loc.same_refl _⟩⟩

theorem pass_killAll (ids : List Nat) : Pass M0 tm w st (killAll ids st) := by
  intro M β hS
  obtain ⟨k1, k2⟩ := killAll_ok ids hS
  exact ⟨M, β, k1, fun _ _ h => h, fun id o _ ho => ⟨((k2 id).1 ⟨o, ho⟩).2, Loc.same_refl _⟩⟩

theorem pass_ren {a b : Nat} {s : St} (hb : b % 2 = 0) (h : st.ren a b = some s) : Pass M0 tm w st s := by
  intro M β hS
  obtain ⟨k1, k2⟩ := ren_ok hS h
  refine ⟨M, _, k1, fun _ _ h => h, fun id o hid ho => ?_⟩
  rcases k2 id ⟨o, ho⟩ with ⟨rfl, _⟩ | ⟨e1, e2, e3⟩
  · omega
  · exact ⟨e3, by simp [e2, Loc.same_refl]⟩

/-- Less is known. -/
theorem pass_sub {s : St} (h1 : ∀ t, s.get t = st.get t ∨ s.get t = .undef) (h2 : ∀ i o, s.obj i = some o → st.obj i = some o) (hc : ClosedIn (fun id => ∃ o, s.obj id = some o) s.view) : Pass M0 tm w st s := by
  rintro M β ⟨hV, hC⟩
  refine ⟨M, β, ⟨⟨hV.sup, hV.old, fun t => ?_, fun i o ho => hV.objs i o (h2 i o ho), fun i o ho => hV.own i o (h2 i o ho), fun i i' o o' ho ho' => hV.disj i i' o o' (h2 i o ho) (h2 i' o' ho')⟩, hc⟩, fun _ _ h => h, fun id o _ ho => ⟨⟨o, h2 id o ho⟩, Loc.same_refl _⟩⟩
  show AVR β w M (s.get t) _
  rcases h1 t with h | h
  · rw [h]; exact hV.slots t
  · rw [h]; simp only [AVR]

theorem lkp_filter {α : Type} (f : Nat → Bool) (n : Nat) : ∀ (l : List (Nat × α)), lkp n (l.filter fun p => f p.1) = if f n then lkp n l else none
  | [] => by simp [lkp]
  | (m, x) :: r => by
    have ih := lkp_filter f n r
    by_cases hm : f m
    · rw [List.filter_cons_of_pos (by simpa using hm)]
      simp only [lkp]
      by_cases e : n = m
      · subst e; simp [hm]
      · simp only [e, if_false]; exact ih
    · rw [List.filter_cons_of_neg (by simpa using hm), ih]
      simp only [lkp]
      by_cases e : n = m
      · subst e; simp [hm]
      · simp [e]

theorem lkp_mem' {α : Type} {n : Nat} {a : α} {l : List (Nat × α)} (h : lkp n l = some a) : (n, a) ∈ l := lkp_mem h

theorem closedB_ok {s : St} (h : closedB s = true) : ClosedIn (fun id => ∃ o, s.obj id = some o) s.view := by
  simp only [closedB, Bool.and_eq_true, List.all_eq_true, Option.isSome_iff_exists] at h
  obtain ⟨h1, h2⟩ := h
  refine ⟨fun t i hi => ?_, fun id o ho => ⟨⟨o, ho⟩, fun i hi => ?_⟩⟩
  · have hi' : i ∈ (s.get t).refs := hi
    simp only [St.get] at hi'
    cases hl : lkp t s.tmps with
    | none => rw [hl] at hi'; simp [AV.refs] at hi'
    | some v =>
      rw [hl] at hi'
      exact h1 (t, v) (lkp_mem hl) i (by rw [ids_refs]; exact hi')
  · have hm := lkp_mem (show lkp id s.objs = some o from ho)
    have := h2 (id, o) hm
    cases o with
    | box cs =>
      simp only [List.all_eq_true, Option.isSome_iff_exists] at this
      exact this i (by rw [idsL_refsL]; exact hi)
    | buf _ _ => simp [Obj.refs] at hi
    | bld _ => simp [Obj.refs] at hi

theorem lkp_canon {α : Type} (n : Nat) (l : List (Nat × α)) : ∀ ts : List Nat, lkp n (ts.filterMap fun t => (lkp t l).map fun v => (t, v)) = if n ∈ ts then lkp n l else none
  | [] => by simp [lkp]
  | t :: ts => by
    have ih := lkp_canon n l ts
    rw [List.filterMap_cons]
    cases ht : lkp t l with
    | none =>
      simp only [Option.map_none, ih, List.mem_cons]
      by_cases e : n = t
      · subst e; simp [ht]
      · simp [e]
    | some v =>
      simp only [Option.map_some, lkp, ih, List.mem_cons]
      by_cases e : n = t
      · subst e; simp [ht]
      · simp [e]

theorem pass_trim {ts : List Nat} {s : St} (h : trim ts st = some s) : Pass M0 tm w st s := by
  unfold trim at h
  simp only at h
  split at h
  · rename_i hc
    simp only [Option.some.injEq] at h
    refine pass_sub (fun t => ?_) (fun i o ho => ?_) (by rw [← h]; exact closedB_ok hc)
    · rw [← h]
      simp only [St.get]
      rw [lkp_canon]
      by_cases e : t ∈ ts
      · rw [if_pos e]; exact .inl rfl
      · rw [if_neg e]; exact .inr rfl
    · rw [← h] at ho
      generalize reach st.objs 4 (AV.idsL (List.map (fun x => x.2) (ts.filterMap fun t => (lkp t st.tmps).map fun v => (t, v))) ++ oddIds st.objs) = ids at ho
      have ho' := (lkp_filter (fun n => ids.contains n || n % 2 == 1) i st.objs).symm.trans ho
      split at ho'
      · exact ho'
      · exact absurd ho' (by simp)
  · exact absurd h (by simp)

theorem lkp_ins (k n : Nat) (o : Obj) : ∀ l : List (Nat × Obj), lkp n (insObj k o l) = if n = k then some o else lkp n l
  | [] => by simp [insObj, lkp]
  | (j, p) :: r => by
    simp only [insObj]
    split
    · rename_i hlt
      simp only [lkp]
      rw [lkp_ins k n o r]
      by_cases e : n = j
      · subst e
        have : ¬ n = k := by omega
        simp [this]
      · simp [e]
    · simp only [lkp]
theorem lkp_sort (n : Nat) : ∀ l : List (Nat × Obj), lkp n (sortObjs l) = lkp n l
  | [] => rfl
  | (k, o) :: r => by simp only [sortObjs, lkp_ins, lkp, lkp_sort n r]

theorem pass_canon (ts : List Nat) : Pass M0 tm w st (canon ts st) := by
  intro M β hS
  have hg : ∀ t, (canon ts st).get t = st.get t ∨ (canon ts st).get t = .undef := by
    intro t
    simp only [St.get, canon, lkp_canon]
    by_cases e : t ∈ ts
    · simp [e]
    · simp [e]
  have ho : ∀ i, (canon ts st).obj i = st.obj i := fun i => by simp only [St.obj, canon, lkp_sort]
  refine pass_sub hg (fun i o h => by rw [← ho]; exact h) ⟨fun t i hi => ?_, fun id o h => ⟨⟨o, h⟩, fun i hi => ?_⟩⟩ M β hS
  · have hi' : i ∈ ((canon ts st).get t).refs := hi
    rcases hg t with h | h
    · rw [h] at hi'; simp only [ho]; exact hS.2.1 t i hi'
    · rw [h] at hi'; simp [AV.refs] at hi'
  · have h' : (canon ts st).obj id = some o := h
    rw [ho] at h'
    simp only [ho]
    exact (hS.2.2 id o h').2 i hi

theorem pass_renSlots : ∀ (ts : List Nat) {st s : St}, renSlots ts st = some s → Pass M0 tm w st s
  | [], st, s, h => by simp only [renSlots, Option.some.injEq] at h; subst h; exact Pass.refl _
  | t :: r, st, s, h => by
    simp only [renSlots] at h
    split at h
    · split at h
      · exact pass_renSlots r h
      · split at h
        · rename_i s1 h1
          exact (pass_ren (dstId_even t) h1).trans (pass_renSlots r h)
        · exact absurd h (by simp)
    · exact pass_renSlots r h
theorem pass_renCells (id : Nat) : ∀ (j : Nat) (cs : List AV) {st s : St}, renCells id j cs st = some s → Pass M0 tm w st s
  | j, [], st, s, h => by simp only [renCells, Option.some.injEq] at h; subst h; exact Pass.refl _
  | j, v :: r, st, s, h => by
    cases v <;> simp only [renCells] at h <;> try (exact pass_renCells id (j + 1) r h)
    split at h
    · exact pass_renCells id (j + 1) r h
    · split at h
      · rename_i s1 h1
        exact (pass_ren (cellId_even id j) h1).trans (pass_renCells id (j + 1) r h)
      · exact absurd h (by simp)
theorem pass_renBoxes : ∀ (ts : List Nat) {st s : St}, renBoxes ts st = some s → Pass M0 tm w st s
  | [], st, s, h => by simp only [renBoxes, Option.some.injEq] at h; subst h; exact Pass.refl _
  | t :: r, st, s, h => by
    simp only [renBoxes] at h
    split at h
    · split at h
      · split at h
        · rename_i s1 h1
          exact (pass_renCells _ _ _ h1).trans (pass_renBoxes r h)
        · exact absurd h (by simp)
      · exact pass_renBoxes r h
    · exact pass_renBoxes r h


theorem nil_row (β : Nat → Loc) (w : World) (M : Cells) {sz : Nat} (h : sz ≠ 0) : ObjR β w M ⟨none, 0, 0, sz, 0, none⟩ (.buf sz []) :=
  ⟨rfl, by omega, rfl, Nat.le_refl _, by simp, rfl, fun _ => rfl, by simp, by simp⟩

theorem add_one {id : Nat} {ob : Obj} {s : St} (h : st.add [(id, ob)] = some s) : s.tmps = st.tmps ∧ st.obj id = none ∧ ∀ i, s.obj i = if i = id then some ob else st.obj i := by
  obtain ⟨k1, k2, k3, k4⟩ := add_spec _ h
  refine ⟨k1, k3 id (by simp), fun i => ?_⟩
  rw [k4]
  simp only [lkp]
  by_cases e : i = id <;> simp [e]

/-- A nil slice is a row of the call's own that has no room. -/
theorem pass_row {id sz : Nat} {s : St} (h0 : sz ≠ 0) (hid : id % 2 = 0) (h : st.add [(id, .buf sz [])] = some s) : ∀ M β, SR M0 M β st tm w → ∃ β', SR M0 M β' s tm w ∧ β' id = ⟨none, 0, 0, sz, 0, none⟩ ∧ ∀ i, i ≠ id → β' i = β i := by
  rintro M β ⟨hV, hC⟩
  obtain ⟨h1, h2, h3⟩ := add_one h
  have hn : ∀ i, (∃ o, st.obj i = some o) → i ≠ id := by rintro i ⟨o, ho⟩ rfl; rw [h2] at ho; simp at ho
  have hk : ∀ b o v, at_ w b o = some v → ¬ M b o → at_ w b o = some v ∧ ¬ M b o := fun b o v h1 h2 => ⟨h1, h2⟩
  refine ⟨fun i => if i = id then ⟨none, 0, 0, sz, 0, none⟩ else β i, ⟨⟨hV.sup, hV.old, fun t => ?_, fun i o ho => ?_, fun i o ho b j hF => ?_, fun i i' o o' ho ho' hne b j hF => ?_⟩, fun t i hi => ?_, fun i o ho => ⟨⟨o, ho⟩, fun i' hi => ?_⟩⟩, by simp, fun i hi => by simp [hi]⟩
  · show AVR _ w M (s.get t) _
    have : s.get t = st.get t := by simp only [St.get, h1]
    rw [this]
    refine AVR.mono hk _ _ (fun i hi => ?_) (hV.slots t)
    simp [hn i (hC.1 t i hi), Loc.same_refl]
  · have ho' : s.obj i = some o := ho
    rw [h3] at ho'
    split at ho'
    · rename_i e
      simp only [Option.some.injEq] at ho'; subst ho'; subst e
      simp only [if_true]
      exact nil_row _ w M h0
    · rename_i e
      simp only [e, if_false]
      exact ObjR.mono hk (fun _ _ _ _ h => ⟨h, rfl⟩) (fun _ _ h => h) (fun _ _ _ => rfl) (fun i' hi' => by simp [hn i' ((hC.2 i o ho').2 i' hi'), Loc.same_refl]) (hV.objs i o ho')
  · have ho' : s.obj i = some o := ho
    rw [h3] at ho'
    by_cases e : i = id
    · simp only [e, if_true, Loc.F] at hF
      rcases hF with ⟨_, h, _⟩ | ⟨_, h, _⟩ <;> simp at h
    · simp only [e, if_false] at hF ho'
      exact hV.own i o ho' b j hF
  · have ho1 : s.obj i = some o := ho
    have ho2 : s.obj i' = some o' := ho'
    rw [h3] at ho1 ho2
    by_cases e : i = id
    · simp only [e, if_true, Loc.F] at hF
      rcases hF with ⟨_, h, _⟩ | ⟨_, h, _⟩ <;> simp at h
    · simp only [e, if_false] at hF ho1
      by_cases e' : i' = id
      · simp only [e', if_true, Loc.F]
        rintro (⟨_, h, _⟩ | ⟨_, h, _⟩) <;> simp at h
      · simp only [e', if_false] at ho2 ⊢
        exact hV.disj i i' o o' ho1 ho2 hne b j hF
  · have hi' : i ∈ (st.get t).refs := by have : s.get t = st.get t := by simp only [St.get, h1]
                                         rw [← this]; exact hi
    obtain ⟨o, ho⟩ := hC.1 t i hi'
    exact ⟨o, by rw [h3, if_neg (hn i ⟨o, ho⟩)]; exact ho⟩
  · have ho' : s.obj i = some o := ho
    rw [h3] at ho'
    split at ho'
    · simp only [Option.some.injEq] at ho'; subst ho'; simp [Obj.refs] at hi
    · obtain ⟨o1, ho1⟩ := (hC.2 i o ho').2 i' hi
      exact ⟨o1, by rw [h3, if_neg (hn i' ⟨o1, ho1⟩)]; exact ho1⟩

theorem pass_promote : ∀ (l : List (Nat × Option Nat × Nat)) {st s : St}, promote l st = some s → Pass M0 tm w st s
  | [], st, s, h => by simp only [promote, Option.some.injEq] at h; subst h; exact Pass.refl _
  | (t, none, sz) :: r, st, s, h => by
    simp only [promote] at h
    split at h
    · exact absurd h (by simp)
    · rename_i h0
      split at h
      · rename_i hget
        split at h
        · rename_i s1 h1
          refine Pass.trans ?_ (pass_promote r h)
          intro M β hS
          obtain ⟨β', k1, k2, k3⟩ := pass_row h0 (dstId_even t) h1 M β hS
          obtain ⟨a1, a2, a3⟩ := add_one h1
          refine ⟨M, β', ⟨⟨k1.1.sup, k1.1.old, fun t' => ?_, k1.1.objs, k1.1.own, k1.1.disj⟩, fun t' i hi => ?_, k1.2.2⟩, fun _ _ h => h, fun id o hid ho => ?_⟩
          · show AVR β' w M ((s1.put t (.own (dstId t))).get t') _
            rw [put_get]
            split
            · rename_i e
              subst e
              simp only [AVR, k2]
              have := hS.1.slots t'
              have hg : st.view.get t' = .nilSl := hget
              rw [hg] at this
              simp only [AVR] at this
              exact this
            · exact k1.1.slots t'
          · have hi' : i ∈ ((s1.put t (.own (dstId t))).get t').refs := hi
            rw [put_get] at hi'
            split at hi'
            · simp only [AV.refs, List.mem_singleton] at hi'; subst hi'
              exact ⟨_, by show s1.obj _ = _; rw [a3, if_pos rfl]⟩
            · exact k1.2.1 t' i hi'
          · have ho' : s1.obj id = some o := ho
            have hne : id ≠ dstId t := fun e => by have := dstId_even t; omega
            rw [a3, if_neg hne] at ho'
            exact ⟨⟨o, ho'⟩, by rw [k3 id hne]; exact Loc.same_refl _⟩
        · exact absurd h (by simp)
      · exact pass_promote r h
  | (t, some j, sz) :: r, st, s, h => by
    simp only [promote] at h
    split at h
    · exact absurd h (by simp)
    · rename_i h0
      split at h
      · rename_i id hget
        split at h
        · rename_i cs hob
          split at h
          · rename_i hcell
            split at h
            · rename_i s1 h1
              refine Pass.trans ?_ (pass_promote r h)
              intro M β hS
              obtain ⟨β', k1, k2, k3⟩ := pass_row h0 (cellId_even id j) h1 M β hS
              obtain ⟨a1, a2, a3⟩ := add_one h1
              have hne : id ≠ cellId id j := fun e => by rw [← e, hob] at a2; simp at a2
              have hob1 : s1.obj id = some (.box cs) := by rw [a3, if_neg hne]; exact hob
              have hold : ∀ i o, (s1.upd id (.box (cs.set j (.own (cellId id j))))).obj i = some o → (i = id ∧ o = .box (cs.set j (.own (cellId id j)))) ∨ (i ≠ id ∧ s1.obj i = some o) := by
                intro i o ho
                rw [upd_obj] at ho
                split at ho
                · rename_i e; simp only [Option.some.injEq] at ho; exact .inl ⟨e, ho.symm⟩
                · rename_i e; exact .inr ⟨e, ho⟩
              have hex : ∀ i, (∃ o, (s1.upd id (.box (cs.set j (.own (cellId id j))))).obj i = some o) ↔ ∃ o, s1.obj i = some o := by
                intro i
                rw [upd_obj]
                by_cases e : i = id
                · subst e; simp [hob1]
                · simp [e]
              have hown : ∀ i o, (s1.upd id (.box (cs.set j (.own (cellId id j))))).obj i = some o → ∃ o', s1.obj i = some o' := fun i o ho => (hex i).1 ⟨o, ho⟩
              refine ⟨M, β', ⟨⟨k1.1.sup, k1.1.old, fun t' => k1.1.slots t', fun i o ho => ?_, fun i o ho => ?_, fun i i' o o' ho ho' => ?_⟩, fun t' i hi => (hex i).2 (k1.2.1 t' i hi), fun i o ho => ⟨⟨o, ho⟩, fun i' hi => ?_⟩⟩, fun _ _ h => h, fun i o hid ho => ?_⟩
              · rcases hold i o ho with ⟨rfl, rfl⟩ | ⟨hi, ho1⟩
                · obtain ⟨b, p, q1, q2, q3, q4⟩ := k1.1.objs i _ hob1
                  refine ⟨b, p, q1, by simpa using q2, q3, fun x v hx => ?_⟩
                  rw [List.getElem?_set] at hx
                  split at hx
                  · rename_i e
                    subst e
                    split at hx
                    · simp only [Option.some.injEq] at hx; subst hx
                      obtain ⟨c, c1, c2, c3, c4⟩ := q4 j _ hcell
                      refine ⟨c, c1, c2, c3, ?_⟩
                      simp only [AVR] at c4 ⊢
                      rw [k2]; exact c4
                    · exact absurd hx (by simp)
                  · exact q4 x v hx
                · exact k1.1.objs i o ho1
              · obtain ⟨o', ho'⟩ := hown i o ho
                exact k1.1.own i o' ho'
              · obtain ⟨o1, ho1⟩ := hown i o ho
                obtain ⟨o2, ho2⟩ := hown i' o' ho'
                exact k1.1.disj i i' o1 o2 ho1 ho2
              · show ∃ o, (s1.upd id (.box (cs.set j (.own (cellId id j))))).obj i' = some o
                rw [hex]
                rcases hold i o ho with ⟨rfl, rfl⟩ | ⟨hi1, ho1⟩
                · simp only [Obj.refs] at hi
                  obtain ⟨v, hv, hi⟩ := refsL_mem.1 hi
                  rcases List.mem_or_eq_of_mem_set hv with hv | rfl
                  · exact (k1.2.2 i _ hob1).2 i' (by simp only [Obj.refs]; exact refsL_mem.2 ⟨v, hv, hi⟩)
                  · simp only [AV.refs, List.mem_singleton] at hi; subst hi
                    exact ⟨_, by rw [a3, if_pos rfl]⟩
                · exact (k1.2.2 i o ho1).2 i' hi
              · obtain ⟨o', ho'⟩ := hown i o ho
                have hne' : i ≠ cellId id j := fun e => by have := cellId_even id j; omega
                rw [a3, if_neg hne'] at ho'
                exact ⟨⟨o', ho'⟩, by rw [k3 i hne']; exact Loc.same_refl _⟩
            · exact absurd h (by simp)
          · exact pass_promote r h
        · exact pass_promote r h
      · exact pass_promote r h

theorem pass_norm {x : List Nat × List Nat × List (Nat × Option Nat × Nat)} {s : St} (h : norm x st = some s) : Pass M0 tm w st s := by
  unfold norm at h
  split at h
  · rename_i s1 h1
    split at h
    · rename_i s2 h2
      split at h
      · rename_i s3 h3
        split at h
        · rename_i s4 h4
          split at h
          · rename_i s5 h5
            simp only [Option.some.injEq] at h; subst h
            exact ((((pass_trim h1).trans (pass_freezeAll h2)).trans (pass_renSlots _ h3)).trans (pass_renBoxes _ h4)).trans ((pass_promote _ h5).trans (pass_canon _))
          · exact absurd h (by simp)
        · exact absurd h (by simp)
      · exact absurd h (by simp)
    · exact absurd h (by simp)
  · exact absurd h (by simp)

theorem pass_freezeSlots : ∀ (ts : List Nat) {st s : St}, freezeSlots ts st = some s → Pass M0 tm w st s
  | [], st, s, h => by simp only [freezeSlots, Option.some.injEq] at h; subst h; exact Pass.refl _
  | t :: r, st, s, h => by
    have one : ∀ {i : Nat} {s1 : St}, st.freeze i = some s1 → Pass M0 tm w st s1 := fun {i s1} hf M β hS =>
      ⟨_, β, freeze_ok hS hf, fun b j h => h.1, fun id o _ ho => ⟨((freeze_dom hf id).1 ⟨o, ho⟩).2, Loc.same_refl _⟩⟩
    simp only [freezeSlots] at h
    split at h
    · split at h
      · rename_i s1 h1
        exact (one h1).trans (pass_freezeSlots r h)
      · exact absurd h (by simp)
    · split at h
      · rename_i s1 h1
        exact (one h1).trans (pass_freezeSlots r h)
      · exact absurd h (by simp)
    · exact pass_freezeSlots r h

end
end Go.Proofs.Ytmjkdghcfihfiaa.Vm
