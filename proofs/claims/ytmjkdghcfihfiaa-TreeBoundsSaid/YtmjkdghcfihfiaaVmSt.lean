/-
  What is done to a state alone: an object is forgotten, frozen, given another number.
-/
import Derived.Test.YtmjkdghcfihfiaaVmCallM
namespace Go.Proofs.Ytmjkdghcfihfiaa.Vm
open Go
set_option linter.unusedVariables false
set_option linter.unusedSimpArgs false

theorem lkp_map {α γ : Type} (f : α → γ) (n : Nat) : ∀ (l : List (Nat × α)), lkp n (l.map fun p => (p.1, f p.2)) = (lkp n l).map f
  | [] => rfl
  | (m, a) :: r => by
    simp only [List.map_cons, lkp]
    split
    · rfl
    · exact lkp_map f n r
theorem lkp_del {α : Type} (n k : Nat) : ∀ (l : List (Nat × α)), lkp n (del k l) = if n = k then none else lkp n l
  | [] => by simp [del, lkp]
  | (m, a) :: r => by
    simp only [del]
    split
    · rename_i h
      subst h
      rw [lkp_del]
      split
      · rfl
      · rename_i h; simp only [lkp]; rw [if_neg h]
    · rename_i h
      simp only [lkp]
      split
      · rename_i h'; subst h'
        rw [if_neg (fun e => h e.symm)]
      · rw [lkp_del]

/-- A state stands to the world. -/
def SR (M0 M : Cells) (β : Nat → Loc) (st : St) (tm : Array Value) (w : World) : Prop :=
  VR M0 M β st.view tm w ∧ ClosedIn (fun id => ∃ o, st.obj id = some o) st.view

theorem map_get {f : AV → AV} (h : f .undef = .undef) (st : St) (t : Nat) (os : List (Nat × Obj)) : (St.mk (st.map f).tmps os).get t = f (st.get t) := by
  simp only [St.get, St.map, lkp_map]
  cases lkp t st.tmps <;> simp [h]
theorem map_obj (f : AV → AV) (st : St) (id k : Nat) (tms : List (Nat × AV)) : (St.mk tms (del k (st.map f).objs)).obj id = if id = k then none else (st.obj id).map (Obj.map f) := by
  simp only [St.obj, St.map, lkp_del, lkp_map]

section
variable {M0 M Ml : Cells} {β : Nat → Loc} {st : St} {tm : Array Value} {w : World}

/-- All values are turned to others that say less, and an object is forgotten. -/
theorem map_ok {f : AV → AV} {id : Nat} (hf0 : f .undef = .undef) (hf : ∀ v c, AVR β w M v c → AVR β w Ml (f v) c) (hr : ∀ v, ∀ i ∈ (f v).refs, i ∈ v.refs ∧ i ≠ id) (hMl : ∀ b j, Ml b j → M b j)
    (hMk : ∀ b j, M b j → Ml b j ∨ ∃ o, st.obj id = some o ∧ (β id).F b j) (h : SR M0 M β st tm w) : SR M0 Ml β ⟨(st.map f).tmps, del id (st.map f).objs⟩ tm w := by
  obtain ⟨hV, hC⟩ := h
  have hk : ∀ b o v, at_ w b o = some v → ¬ M b o → at_ w b o = some v ∧ ¬ Ml b o := fun b o v h1 h2 => ⟨h1, fun h => h2 (hMl _ _ h)⟩
  have hobj : ∀ i o, (St.mk (st.map f).tmps (del id (st.map f).objs)).obj i = some o → i ≠ id ∧ ∃ o0, st.obj i = some o0 ∧ o = o0.map f := by
    intro i o ho
    rw [map_obj] at ho
    split at ho
    · exact absurd ho (by simp)
    · rename_i hne
      simp only [Option.map_eq_some_iff] at ho
      obtain ⟨o0, h1, rfl⟩ := ho
      exact ⟨hne, o0, h1, rfl⟩
  have hsub : ∀ {o0 : Obj}, ∀ i ∈ (o0.map f).refs, i ∈ o0.refs ∧ i ≠ id := by
    intro o0 i hi
    cases o0 with
    | box cs =>
      simp only [Obj.map, Obj.refs] at hi ⊢
      obtain ⟨v, hv, hi⟩ := refsL_mem.1 hi
      obtain ⟨u, hu, rfl⟩ := List.mem_map.1 hv
      exact ⟨refsL_mem.2 ⟨u, hu, (hr u i hi).1⟩, (hr u i hi).2⟩
    | buf s es => simp [Obj.map, Obj.refs] at hi
    | bld bs => simp [Obj.map, Obj.refs] at hi
  refine ⟨⟨fun b j h0 => ?_, fun b j h => hV.old b j (hMl b j h), fun t => ?_, fun i o ho => ?_, fun i o ho b j hF => ?_, fun i i' o o' ho ho' hne => ?_⟩, ⟨fun t i hi => ?_, fun i o ho => ⟨⟨o, ho⟩, fun i' hi' => ?_⟩⟩⟩
  · rcases hMk b j (hV.sup b j h0) with h | ⟨o, ho, hF⟩
    · exact h
    · exact absurd h0 (hV.own id o ho b j hF).2
  · show AVR β w Ml ((St.mk (st.map f).tmps (del id (st.map f).objs)).get t) _
    rw [map_get hf0]
    exact hf _ _ (hV.slots t)
  · obtain ⟨hne, o0, h1, rfl⟩ := hobj i o ho
    have hO := hV.objs i o0 h1
    cases o0 with
    | box cs =>
      obtain ⟨b, o, q1, q2, q3, q4⟩ := hO
      refine ⟨b, o, q1, by simpa using q2, q3, fun j v hj => ?_⟩
      rw [List.getElem?_map] at hj
      simp only [Option.map_eq_some_iff] at hj
      obtain ⟨u, hu, rfl⟩ := hj
      obtain ⟨c, k1, k2, k3, k4⟩ := q4 j u hu
      exact ⟨c, k1, k2, k3, hf _ _ k4⟩
    | buf s es => exact ObjR.mono (o := .buf s es) hk (fun _ _ _ _ h => ⟨h, rfl⟩) (fun _ _ h => h) (fun _ _ _ => rfl) (fun _ _ => Loc.same_of rfl) hO
    | bld bs => exact ObjR.mono (o := .bld bs) hk (fun _ _ _ _ h => ⟨h, rfl⟩) (fun _ _ h => h) (fun _ _ _ => rfl) (fun _ _ => Loc.same_of rfl) hO
  · obtain ⟨hne, o0, h1, rfl⟩ := hobj i o ho
    have k := hV.own i o0 h1 b j hF
    refine ⟨?_, k.2⟩
    rcases hMk b j k.1 with h | ⟨o', ho', hF'⟩
    · exact h
    · exact absurd hF' (hV.disj i id o0 o' h1 ho' hne b j hF)
  · obtain ⟨_, o0, h1, rfl⟩ := hobj i o ho
    obtain ⟨_, o1, h2, rfl⟩ := hobj i' o' ho'
    exact hV.disj i i' o0 o1 h1 h2 hne
  · have hi' : i ∈ (f (st.get t)).refs := by
      have := map_get hf0 st t (del id (st.map f).objs)
      show i ∈ (f (st.get t)).refs
      rw [← this]; exact hi
    obtain ⟨k1, k2⟩ := hr _ i hi'
    obtain ⟨o, ho⟩ := hC.1 t i k1
    exact ⟨o.map f, by rw [map_obj, if_neg k2, ho]; rfl⟩
  · obtain ⟨hne, o0, h1, rfl⟩ := hobj i o ho
    obtain ⟨k1, k2⟩ := hsub i' hi'
    obtain ⟨o, ho⟩ := (hC.2 i o0 h1).2 i' k1
    exact ⟨o.map f, by rw [map_obj, if_neg k2, ho]; rfl⟩

/-! Forgetting. -/
def forget (id : Nat) : Nat → Option Nat := fun i => if i = id then none else some i
mutual
theorem sub_ok (id : Nat) : ∀ (v : AV) (c : Value), AVR β w M v c → AVR β w M (AV.sub (forget id) v) c
  | .undef, c, h => by simp only [AV.sub, AVR]
  | .pv x, c, h => by simpa only [AV.sub] using h
  | .nilSl, c, h => by simpa only [AV.sub] using h
  | .own i, c, h => by
    simp only [AV.sub, forget]
    by_cases e : i = id
    · simp [e, AVR]
    · simp only [e, if_false]; exact h
  | .part i lo n, c, h => by
    simp only [AV.sub, forget]
    by_cases e : i = id
    · simp [e, AVR]
    · simp only [e, if_false]; exact h
  | .addr i k o, c, h => by
    simp only [AV.sub, forget]
    by_cases e : i = id
    · simp [e, AVR]
    · simp only [e, if_false]; exact h
  | .tup vs, c, h => by
    simp only [AVR] at h
    obtain ⟨cs, h1, h2⟩ := h
    simp only [AV.sub, AVR]; exact ⟨cs, h1, subL_ok id vs _ h2⟩
  | .agg vs, c, h => by
    simp only [AVR] at h
    obtain ⟨cs, h1, h2, h3⟩ := h
    simp only [AV.sub, AVR]; exact ⟨cs, h1, subL_ok id vs _ h2, h3⟩
  | .clo f a b, c, h => by
    simp only [AVR] at h
    obtain ⟨x, y, h1, h2, h3⟩ := h
    simp only [AV.sub, AVR]; exact ⟨x, y, h1, subL_ok id a _ h2, subL_ok id b _ h3⟩
theorem subL_ok (id : Nat) : ∀ (vs : List AV) (cs : List Value), AVRs β w M vs cs → AVRs β w M (AV.subL (forget id) vs) cs
  | [], cs, h => by simpa only [AV.subL] using h
  | v :: vs, cs, h => by
    simp only [AVRs] at h
    obtain ⟨c, r, h1, h2, h3⟩ := h
    simp only [AV.subL, AVRs]; exact ⟨c, r, h1, sub_ok id v c h2, subL_ok id vs r h3⟩
end
mutual
theorem sub_refs (id : Nat) : ∀ (v : AV), ∀ i ∈ (AV.sub (forget id) v).refs, i ∈ v.refs ∧ i ≠ id
  | .undef, i, h => by simp [AV.sub, AV.refs] at h
  | .pv x, i, h => by simp [AV.sub, AV.refs] at h
  | .nilSl, i, h => by simp [AV.sub, AV.refs] at h
  | .own k, i, h => by
    simp only [AV.sub, forget] at h
    by_cases e : k = id
    · simp [e, AV.refs] at h
    · simp only [e, if_false, AV.refs, List.mem_singleton] at h; subst h; exact ⟨by simp [AV.refs], e⟩
  | .part k lo n, i, h => by
    simp only [AV.sub, forget] at h
    by_cases e : k = id
    · simp [e, AV.refs] at h
    · simp only [e, if_false, AV.refs, List.mem_singleton] at h; subst h; exact ⟨by simp [AV.refs], e⟩
  | .addr k x y, i, h => by
    simp only [AV.sub, forget] at h
    by_cases e : k = id
    · simp [e, AV.refs] at h
    · simp only [e, if_false, AV.refs, List.mem_singleton] at h; subst h; exact ⟨by simp [AV.refs], e⟩
  | .tup vs, i, h => by
    simp only [AV.sub, AV.refs] at h ⊢; exact subL_refs id vs i h
  | .agg vs, i, h => by
    simp only [AV.sub, AV.refs] at h ⊢; exact subL_refs id vs i h
  | .clo f a b, i, h => by
    simp only [AV.sub, AV.refs, List.mem_append] at h ⊢
    rcases h with h | h
    · exact ⟨.inl (subL_refs id a i h).1, (subL_refs id a i h).2⟩
    · exact ⟨.inr (subL_refs id b i h).1, (subL_refs id b i h).2⟩
theorem subL_refs (id : Nat) : ∀ (vs : List AV), ∀ i ∈ AV.refsL (AV.subL (forget id) vs), i ∈ AV.refsL vs ∧ i ≠ id
  | [], i, h => by simp [AV.subL, AV.refsL] at h
  | v :: vs, i, h => by
    simp only [AV.subL, AV.refsL, List.mem_append] at h ⊢
    rcases h with h | h
    · exact ⟨.inl (sub_refs id v i h).1, (sub_refs id v i h).2⟩
    · exact ⟨.inr (subL_refs id vs i h).1, (subL_refs id vs i h).2⟩
end

theorem kill_ok (id : Nat) (h : SR M0 M β st tm w) : SR M0 M β (st.kill id) tm w :=
  map_ok (f := AV.sub (forget id)) rfl (sub_ok id) (sub_refs id) (fun _ _ h => h) (fun _ _ h => .inl h) h
theorem kill_obj (id i : Nat) (st : St) : (st.kill id).obj i = if i = id then none else (st.obj i).map (Obj.map (AV.sub (forget id))) := map_obj _ _ _ _ _

/-! Freezing. -/
/-- What may be written still, when an object is frozen. -/
def lessF (M : Cells) (l : Loc) : Cells := fun b j => M b j ∧ ¬ l.F b j

theorem mono_less {l : Loc} : ∀ b o v, at_ w b o = some v → ¬ M b o → at_ w b o = some v ∧ ¬ lessF M l b o := fun b o v h1 h2 => ⟨h1, fun h => h2 h.1⟩

section frz
variable {id sz : Nat} {es : List (List PV)}
mutual
theorem frz_ok (hV : VR M0 M β st.view tm w) (ho : st.obj id = some (.buf sz es)) : ∀ (v : AV) (c : Value), AVR β w M v c → AVR β w (lessF M (β id)) (AV.frz id es v) c
  | .undef, c, h => by simp only [AV.frz, AVR]
  | .pv x, c, h => by simp only [AVR] at h; simp only [AV.frz, AVR]; exact Rep.mono mono_less x c h
  | .nilSl, c, h => by simpa only [AV.frz, AVR] using h
  | .own i, c, h => by
    simp only [AV.frz]
    by_cases e : i = id
    · subst e
      simp only [if_true, AVR] at h ⊢
      exact (own_rep hV (fun b j h => h.1) (V := st.view) ho (fun b j hF hM => hM.2 hF)).1 c h
    · simp only [e, if_false, AVR] at h ⊢; exact h
  | .part i lo n, c, h => by
    simp only [AV.frz]
    by_cases e : i = id
    · subst e
      simp only [if_true]
      have := (own_rep hV (fun b j h => h.1) (V := st.view) ho (fun b j hF hM => hM.2 hF) (Ml := lessF M (β i))).2 lo n c h
      simpa only [AVR] using this
    · simp only [e, if_false, AVR] at h ⊢; exact h
  | .addr i k o, c, h => by
    simp only [AV.frz]
    by_cases e : i = id
    · simp [e, AVR]
    · simp only [e, if_false, AVR] at h ⊢; exact h
  | .tup vs, c, h => by
    simp only [AVR] at h
    obtain ⟨cs, h1, h2⟩ := h
    simp only [AV.frz, AVR]; exact ⟨cs, h1, frzL_ok hV ho vs _ h2⟩
  | .agg vs, c, h => by
    simp only [AVR] at h
    obtain ⟨cs, h1, h2, h3⟩ := h
    simp only [AV.frz, AVR]; exact ⟨cs, h1, frzL_ok hV ho vs _ h2, h3⟩
  | .clo f a b, c, h => by
    simp only [AVR] at h
    obtain ⟨x, y, h1, h2, h3⟩ := h
    simp only [AV.frz, AVR]; exact ⟨x, y, h1, frzL_ok hV ho a _ h2, frzL_ok hV ho b _ h3⟩
theorem frzL_ok (hV : VR M0 M β st.view tm w) (ho : st.obj id = some (.buf sz es)) : ∀ (vs : List AV) (cs : List Value), AVRs β w M vs cs → AVRs β w (lessF M (β id)) (AV.frzL id es vs) cs
  | [], cs, h => by simpa only [AV.frzL, AVRs] using h
  | v :: vs, cs, h => by
    simp only [AVRs] at h
    obtain ⟨c, r, h1, h2, h3⟩ := h
    simp only [AV.frzL, AVRs]; exact ⟨c, r, h1, frz_ok hV ho v c h2, frzL_ok hV ho vs r h3⟩
end
mutual
theorem frz_refs : ∀ (v : AV), ∀ i ∈ (AV.frz id es v).refs, i ∈ v.refs ∧ i ≠ id
  | .undef, i, h => by simp [AV.frz, AV.refs] at h
  | .pv x, i, h => by simp [AV.frz, AV.refs] at h
  | .nilSl, i, h => by simp [AV.frz, AV.refs] at h
  | .own k, i, h => by
    simp only [AV.frz] at h
    by_cases e : k = id
    · simp [e, AV.refs] at h
    · simp only [e, if_false, AV.refs, List.mem_singleton] at h; subst h; exact ⟨by simp [AV.refs], e⟩
  | .part k lo n, i, h => by
    simp only [AV.frz] at h
    by_cases e : k = id
    · simp [e, AV.refs] at h
    · simp only [e, if_false, AV.refs, List.mem_singleton] at h; subst h; exact ⟨by simp [AV.refs], e⟩
  | .addr k x y, i, h => by
    simp only [AV.frz] at h
    by_cases e : k = id
    · simp [e, AV.refs] at h
    · simp only [e, if_false, AV.refs, List.mem_singleton] at h; subst h; exact ⟨by simp [AV.refs], e⟩
  | .tup vs, i, h => by
    simp only [AV.frz, AV.refs] at h ⊢; exact frzL_refs vs i h
  | .agg vs, i, h => by
    simp only [AV.frz, AV.refs] at h ⊢; exact frzL_refs vs i h
  | .clo f a b, i, h => by
    simp only [AV.frz, AV.refs, List.mem_append] at h ⊢
    rcases h with h | h
    · exact ⟨.inl (frzL_refs a i h).1, (frzL_refs a i h).2⟩
    · exact ⟨.inr (frzL_refs b i h).1, (frzL_refs b i h).2⟩
theorem frzL_refs : ∀ (vs : List AV), ∀ i ∈ AV.refsL (AV.frzL id es vs), i ∈ AV.refsL vs ∧ i ≠ id
  | [], i, h => by simp [AV.frzL, AV.refsL] at h
  | v :: vs, i, h => by
    simp only [AV.frzL, AV.refsL, List.mem_append] at h ⊢
    rcases h with h | h
    · exact ⟨.inl (frz_refs v i h).1, (frz_refs v i h).2⟩
    · exact ⟨.inr (frzL_refs vs i h).1, (frzL_refs vs i h).2⟩
end
end frz

theorem freeze_ok {id : Nat} {st' : St} (h : SR M0 M β st tm w) (hf : st.freeze id = some st') : SR M0 (lessF M (β id)) β st' tm w := by
  unfold St.freeze at hf
  split at hf
  · rename_i sz es ho
    injection hf with hf; subst hf
    refine map_ok (f := AV.frz id es) rfl (frz_ok h.1 ho) frz_refs (fun b j h => h.1) (fun b j hM => ?_) h
    by_cases hF : (β id).F b j
    · exact .inr ⟨_, ho, hF⟩
    · exact .inl ⟨hM, hF⟩
  · exact absurd hf (by simp)
theorem freeze_dom {id : Nat} {st' : St} (hf : st.freeze id = some st') (i : Nat) : (∃ o, st'.obj i = some o) ↔ i ≠ id ∧ ∃ o, st.obj i = some o := by
  unfold St.freeze at hf
  split at hf
  · injection hf with hf; subst hf
    rw [map_obj]
    by_cases e : i = id
    · simp [e]
    · simp only [e, if_false, Option.map_eq_some_iff, ne_eq, not_false_eq_true, true_and]
      exact ⟨fun ⟨o, a, h1, _⟩ => ⟨a, h1⟩, fun ⟨a, h1⟩ => ⟨_, a, h1, rfl⟩⟩
  · exact absurd hf (by simp)

/-- A box of plain leaves, as what a pointer of others sees. -/
theorem box_rep (hV : VR M0 M β st.view tm w) {id : Nat} {cs : List AV} {l : List PV} (ho : st.obj id = some (.box cs)) (hp : pvs cs = some l) {o : Nat} {c : Value} (hc : AVR β w M (.addr id 0 o) c) : Rep w (lessF M (β id)) (.iptr (l.drop o)) c := by
  simp only [AVR] at hc
  obtain ⟨b, p, hb, hc⟩ := hc
  rw [Nat.zero_mul, Nat.add_zero] at hc
  have hO := hV.objs id _ ho
  obtain ⟨b', p', vs, h1, h2, h3, h4⟩ := box_cells hO
  rw [hb] at h1; injection h1 with h1; injection h1 with e1 e2; subst e1; subst e2
  obtain ⟨_, _, _, _, hext, _⟩ := hO
  simp only [Rep]
  refine ⟨b, p + o, vs.drop o, hc, RepS.mono mono_less _ _ (RepS.drop o (pvs_ok h3 hp)), fun j d hj => ?_⟩
  rw [List.getElem?_drop] at hj
  have := (h4 _ _ hj).1
  rw [← Nat.add_assoc] at this
  refine ⟨this, fun hM => hM.2 (.inl ⟨p, hb, by omega, ?_⟩)⟩
  have hlt := (List.getElem?_eq_some_iff.1 hj).1
  rw [h2, h3.1]; omega

section frzBox
variable {id : Nat} {cs : List AV} {l : List PV}
mutual
theorem frzBox_ok (hV : VR M0 M β st.view tm w) (ho : st.obj id = some (.box cs)) (hp : pvs cs = some l) : ∀ (v : AV) (c : Value), AVR β w M v c → AVR β w (lessF M (β id)) (AV.frzBox id l v) c
  | .undef, c, h => by simp only [AV.frzBox, AVR]
  | .pv x, c, h => by simp only [AVR] at h; simp only [AV.frzBox, AVR]; exact Rep.mono mono_less x c h
  | .nilSl, c, h => by simpa only [AV.frzBox, AVR] using h
  | .own i, c, h => by
    simp only [AV.frzBox]
    by_cases e : i = id
    · simp [e, AVR]
    · simp only [e, if_false, AVR] at h ⊢; exact h
  | .part i lo n, c, h => by
    simp only [AV.frzBox]
    by_cases e : i = id
    · simp [e, AVR]
    · simp only [e, if_false, AVR] at h ⊢; exact h
  | .addr i k o, c, h => by
    simp only [AV.frzBox]
    by_cases e : i = id
    · subst e
      simp only [if_true]
      by_cases e0 : k = 0
      · subst e0
        simp only [if_true]
        have := box_rep hV ho hp h
        simpa only [AVR] using this
      · simp [e0, AVR]
    · simp only [e, if_false, AVR] at h ⊢; exact h
  | .tup vs, c, h => by
    simp only [AVR] at h
    obtain ⟨cs, h1, h2⟩ := h
    simp only [AV.frzBox, AVR]; exact ⟨cs, h1, frzBoxL_ok hV ho hp vs _ h2⟩
  | .agg vs, c, h => by
    simp only [AVR] at h
    obtain ⟨cs, h1, h2, h3⟩ := h
    simp only [AV.frzBox, AVR]; exact ⟨cs, h1, frzBoxL_ok hV ho hp vs _ h2, h3⟩
  | .clo f a b, c, h => by
    simp only [AVR] at h
    obtain ⟨x, y, h1, h2, h3⟩ := h
    simp only [AV.frzBox, AVR]; exact ⟨x, y, h1, frzBoxL_ok hV ho hp a _ h2, frzBoxL_ok hV ho hp b _ h3⟩
theorem frzBoxL_ok (hV : VR M0 M β st.view tm w) (ho : st.obj id = some (.box cs)) (hp : pvs cs = some l) : ∀ (vs : List AV) (ds : List Value), AVRs β w M vs ds → AVRs β w (lessF M (β id)) (AV.frzBoxL id l vs) ds
  | [], ds, h => by simpa only [AV.frzBoxL, AVRs] using h
  | v :: vs, ds, h => by
    simp only [AVRs] at h
    obtain ⟨c, r, h1, h2, h3⟩ := h
    simp only [AV.frzBoxL, AVRs]; exact ⟨c, r, h1, frzBox_ok hV ho hp v c h2, frzBoxL_ok hV ho hp vs r h3⟩
end
mutual
theorem frzBox_refs : ∀ (v : AV), ∀ i ∈ (AV.frzBox id l v).refs, i ∈ v.refs ∧ i ≠ id
  | .undef, i, h => by simp [AV.frzBox, AV.refs] at h
  | .pv x, i, h => by simp [AV.frzBox, AV.refs] at h
  | .nilSl, i, h => by simp [AV.frzBox, AV.refs] at h
  | .own k, i, h => by
    simp only [AV.frzBox] at h
    by_cases e : k = id
    · simp [e, AV.refs] at h
    · simp only [e, if_false, AV.refs, List.mem_singleton] at h; subst h; exact ⟨by simp [AV.refs], e⟩
  | .part k lo n, i, h => by
    simp only [AV.frzBox] at h
    by_cases e : k = id
    · simp [e, AV.refs] at h
    · simp only [e, if_false, AV.refs, List.mem_singleton] at h; subst h; exact ⟨by simp [AV.refs], e⟩
  | .addr k x y, i, h => by
    simp only [AV.frzBox] at h
    by_cases e : k = id
    · simp only [e, if_true] at h
      split at h <;> simp [AV.refs] at h
    · simp only [e, if_false, AV.refs, List.mem_singleton] at h; subst h; exact ⟨by simp [AV.refs], e⟩
  | .tup vs, i, h => by
    simp only [AV.frzBox, AV.refs] at h ⊢; exact frzBoxL_refs vs i h
  | .agg vs, i, h => by
    simp only [AV.frzBox, AV.refs] at h ⊢; exact frzBoxL_refs vs i h
  | .clo f a b, i, h => by
    simp only [AV.frzBox, AV.refs, List.mem_append] at h ⊢
    rcases h with h | h
    · exact ⟨.inl (frzBoxL_refs a i h).1, (frzBoxL_refs a i h).2⟩
    · exact ⟨.inr (frzBoxL_refs b i h).1, (frzBoxL_refs b i h).2⟩
theorem frzBoxL_refs : ∀ (vs : List AV), ∀ i ∈ AV.refsL (AV.frzBoxL id l vs), i ∈ AV.refsL vs ∧ i ≠ id
  | [], i, h => by simp [AV.frzBoxL, AV.refsL] at h
  | v :: vs, i, h => by
    simp only [AV.frzBoxL, AV.refsL, List.mem_append] at h ⊢
    rcases h with h | h
    · exact ⟨.inl (frzBox_refs v i h).1, (frzBox_refs v i h).2⟩
    · exact ⟨.inr (frzBoxL_refs vs i h).1, (frzBoxL_refs vs i h).2⟩
end
end frzBox

theorem freezeBox_ok {id : Nat} {cs : List AV} {l : List PV} (h : SR M0 M β st tm w) (ho : st.obj id = some (.box cs)) (hp : pvs cs = some l) : SR M0 (lessF M (β id)) β (st.freezeBox id l) tm w := by
  refine map_ok (f := AV.frzBox id l) rfl (frzBox_ok h.1 ho hp) frzBox_refs (fun b j h => h.1) (fun b j hM => ?_) h
  by_cases hF : (β id).F b j
  · exact .inr ⟨_, ho, hF⟩
  · exact .inl ⟨hM, hF⟩
theorem freezeBox_obj (id i : Nat) (l : List PV) (st : St) : (st.freezeBox id l).obj i = if i = id then none else (st.obj i).map (Obj.map (AV.frzBox id l)) := map_obj _ _ _ _ _

end
end Go.Proofs.Ytmjkdghcfihfiaa.Vm
