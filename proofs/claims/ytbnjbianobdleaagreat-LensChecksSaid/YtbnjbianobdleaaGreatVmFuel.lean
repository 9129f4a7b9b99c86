/-
  The machine: VmLay, VmEven, VmStep, VmRun, VmSub, VmMono, VmDraw, VmCode, VmFun, VmFin, VmSound, VmFuel.
-/
import Derived.Test.YtbnjbianobdleaaGreatVmSt
import Derived.Orders
import Derived.ScopeJumps

/-
  What an operation makes is laid into the state.
-/
namespace Go.Proofs.YtbnjbianobdleaaGreat.Vm
open Go
set_option linter.unusedVariables false
set_option linter.unusedSimpArgs false

section
variable {M0 M : Cells} {β : Nat → Loc} {st : St} {tm : Array Value} {w : World}

theorem freezeAll_ok : ∀ (ids : List Nat) {M : Cells} {st s : St}, SR M0 M β st tm w → freezeAll ids st = some s →
    ∃ Mf, SR M0 Mf β s tm w ∧ (∀ b j, Mf b j ↔ M b j ∧ ¬ ∃ i ∈ ids, (∃ o, st.obj i = some o) ∧ (β i).F b j) ∧ ∀ i, (∃ o, s.obj i = some o) ↔ i ∉ ids ∧ ∃ o, st.obj i = some o
  | [], M, st, s, h, hf => by
    simp only [freezeAll, Option.some.injEq] at hf; subst hf
    exact ⟨M, h, by simp, by simp⟩
  | k :: ids, M, st, s, h, hf => by
    -- one is frozen, then the others
    have step : ∀ (s1 : St), SR M0 (lessF M (β k)) β s1 tm w → (∀ i, (∃ o, s1.obj i = some o) ↔ i ≠ k ∧ ∃ o, st.obj i = some o) → (∃ o, st.obj k = some o) → freezeAll ids s1 = some s →
        ∃ Mf, SR M0 Mf β s tm w ∧ (∀ b j, Mf b j ↔ M b j ∧ ¬ ∃ i ∈ k :: ids, (∃ o, st.obj i = some o) ∧ (β i).F b j) ∧ ∀ i, (∃ o, s.obj i = some o) ↔ i ∉ k :: ids ∧ ∃ o, st.obj i = some o := by
      intro s1 h1 hd hk hf
      obtain ⟨Mf, k1, k2, k3⟩ := freezeAll_ok ids h1 hf
      refine ⟨Mf, k1, fun b j => ?_, fun i => ?_⟩
      · rw [k2]
        constructor
        · rintro ⟨⟨a1, a2⟩, a3⟩
          refine ⟨a1, ?_⟩
          rintro ⟨i, hi, ho, hF⟩
          by_cases e : i = k
          · subst e; exact a2 hF
          · rcases List.mem_cons.1 hi with e' | hi
            · exact e e'
            · exact a3 ⟨i, hi, (hd i).2 ⟨e, ho⟩, hF⟩
        · rintro ⟨a1, a2⟩
          refine ⟨⟨a1, fun hF => a2 ⟨k, by simp, hk, hF⟩⟩, ?_⟩
          rintro ⟨i, hi, ho, hF⟩
          exact a2 ⟨i, by simp [hi], ((hd i).1 ho).2, hF⟩
      · rw [k3, hd]
        simp only [List.mem_cons, not_or]
        constructor
        · rintro ⟨a1, a2, a3⟩; exact ⟨⟨a2, a1⟩, a3⟩
        · rintro ⟨⟨a1, a2⟩, a3⟩; exact ⟨a2, a1, a3⟩
    simp only [freezeAll] at hf
    split at hf
    · rename_i sz es ho
      split at hf
      · rename_i s1 h1
        exact step s1 (freeze_ok h h1) (freeze_dom h1) ⟨_, ho⟩ hf
      · exact absurd hf (by simp)
    · rename_i cs ho
      split at hf
      · rename_i l hl
        refine step _ (freezeBox_ok h ho hl) (fun i => ?_) ⟨_, ho⟩ hf
        rw [freezeBox_obj]
        by_cases e : i = k
        · simp [e]
        · simp only [e, if_false, Option.map_eq_some_iff, ne_eq, not_false_eq_true, true_and]
          exact ⟨fun ⟨o, a, h1, _⟩ => ⟨a, h1⟩, fun ⟨a, h1⟩ => ⟨_, a, h1, rfl⟩⟩
      · exact absurd hf (by simp)
    · exact absurd hf (by simp)
    · rename_i ho
      obtain ⟨Mf, k1, k2, k3⟩ := freezeAll_ok ids h hf
      refine ⟨Mf, k1, fun b j => ?_, fun i => ?_⟩
      · rw [k2]
        constructor
        · rintro ⟨a1, a2⟩
          refine ⟨a1, ?_⟩
          rintro ⟨i, hi, ⟨o, hio⟩, hF⟩
          rcases List.mem_cons.1 hi with rfl | hi
          · rw [ho] at hio; simp at hio
          · exact a2 ⟨i, hi, ⟨o, hio⟩, hF⟩
        · rintro ⟨a1, a2⟩
          exact ⟨a1, fun ⟨i, hi, hio, hF⟩ => a2 ⟨i, by simp [hi], hio, hF⟩⟩
      · rw [k3]
        simp only [List.mem_cons, not_or]
        constructor
        · rintro ⟨a1, o, a2⟩
          exact ⟨⟨fun e => by subst e; rw [ho] at a2; simp at a2, a1⟩, o, a2⟩
        · rintro ⟨⟨a1, a2⟩, a3⟩; exact ⟨a2, a3⟩

theorem killAll_ok : ∀ (ids : List Nat) {st : St}, SR M0 M β st tm w → SR M0 M β (killAll ids st) tm w ∧ ∀ i, (∃ o, (killAll ids st).obj i = some o) ↔ i ∉ ids ∧ ∃ o, st.obj i = some o
  | [], st, h => ⟨h, by simp [killAll]⟩
  | k :: ids, st, h => by
    obtain ⟨k1, k2⟩ := killAll_ok ids (kill_ok k h)
    refine ⟨k1, fun i => ?_⟩
    simp only [killAll]
    rw [k2, kill_obj]
    simp only [List.mem_cons, not_or]
    by_cases e : i = k
    · simp [e]
    · simp only [e, if_false, Option.map_eq_some_iff, not_false_eq_true, true_and]
      exact ⟨fun ⟨a1, o, a, h1, _⟩ => ⟨a1, a, h1⟩, fun ⟨a1, a, h1⟩ => ⟨a1, _, a, h1, rfl⟩⟩

theorem upd_obj (id i : Nat) (o : Obj) (st : St) : (st.upd id o).obj i = if i = id then some o else st.obj i := by
  simp only [St.obj, St.upd, lkp]
  split
  · rfl
  · rename_i h; rw [lkp_del, if_neg h]

theorem patchAll_spec : ∀ (ws : List Patch) {st s : St}, patchAll ws st = some s → s.tmps = st.tmps ∧ (∀ i, s.obj i = patched ws i (st.obj i)) ∧ ((ws.map Patch.id).Nodup → ∀ p ∈ ws, ∃ o o', st.obj p.id = some o ∧ p.on (some o) = some o')
  | [], st, s, h => by
    simp only [patchAll, Option.some.injEq] at h; subst h
    exact ⟨rfl, fun _ => rfl, by simp⟩
  | q :: ws, st, s, h => by
    simp only [patchAll] at h
    split at h
    · rename_i o ho
      obtain ⟨k1, k2, k3⟩ := patchAll_spec ws h
      refine ⟨k1, fun i => ?_, fun hn p hp => ?_⟩
      · rw [k2, upd_obj]
        simp only [patched, List.foldl_cons]
        by_cases e : i = q.id
        · subst e; simp [ho]
        · rw [if_neg e, if_neg (fun h => e h.symm)]
      · simp only [List.map_cons, List.nodup_cons] at hn
        rcases List.mem_cons.1 hp with rfl | hp
        · cases hq : st.obj p.id with
          | none => rw [hq] at ho; cases p <;> simp [Patch.on] at ho
          | some o0 => rw [hq] at ho; exact ⟨o0, o, rfl, ho⟩
        · obtain ⟨o1, o2, h1, h2⟩ := k3 hn.2 p hp
          have hne : ¬ p.id = q.id := fun e => hn.1 (by rw [← e]; exact List.mem_map_of_mem (f := Patch.id) hp)
          rw [upd_obj, if_neg hne] at h1
          exact ⟨o1, o2, h1, h2⟩
    · exact absurd h (by simp)

theorem add_spec : ∀ (os : List (Nat × Obj)) {st s : St}, st.add os = some s → s.tmps = st.tmps ∧ (os.map (·.1)).Nodup ∧ (∀ i ∈ os.map (·.1), st.obj i = none) ∧ ∀ i, s.obj i = match lkp i os with | some o => some o | none => st.obj i
  | [], st, s, h => by
    simp only [St.add, Option.some.injEq] at h; subst h
    exact ⟨rfl, by simp, by simp, fun i => by simp [lkp]⟩
  | (id, o) :: r, st, s, h => by
    simp only [St.add] at h
    split at h
    · exact absurd h (by simp)
    · rename_i hn
      obtain ⟨k1, k2, k3, k4⟩ := add_spec r h
      have hid : id ∉ r.map (·.1) := fun hi => by
        have := k3 id hi
        simp [St.obj, lkp] at this
      refine ⟨k1, List.nodup_cons.2 ⟨hid, k2⟩, fun i hi => ?_, fun i => ?_⟩
      · simp only [List.map_cons, List.mem_cons] at hi
        rcases hi with rfl | hi
        · exact hn
        · have := k3 i hi
          simp only [St.obj, lkp] at this
          split at this
          · exact absurd this (by simp)
          · exact this
      · rw [k4]
        simp only [lkp, St.obj]
        by_cases e : i = id
        · subst e
          rw [if_pos rfl]
          cases hl : lkp i r with
          | none => simp
          | some x => exact absurd (List.mem_map_of_mem (f := (·.1)) (lkp_mem hl)) hid
        · rw [if_neg e]
          cases hl : lkp i r with
          | none => simp [e]
          | some x => simp [e]

theorem put_get (t t' : Nat) (v : AV) (st : St) : (st.put t v).get t' = if t' = t then v else st.get t' := by
  simp only [St.get, St.put, lkp]
  by_cases e : t' = t
  · simp [e]
  · simp only [e, if_false]

theorem lay_ok {a : Act} {o : Oper} {m : Made} {st st' : St} {M1 M' : Cells} {β' : Nat → Loc} {w' : World} {c : Value} (hS : SR M0 M β st a.tmps w) (hP : Post M1 β w (fun id => ∃ o, st.obj id = some o) m M' β' w' c)
    (hM1 : ∀ b j, M1 b j ↔ M b j ∧ ¬ ∃ i ∈ m.frz, (∃ o, st.obj i = some o) ∧ (β i).F b j) (hfd : ∀ g ∈ m.dels ++ m.use, g ∉ m.frz)
    (hRefs : MRefs (fun id => (∃ o, st.obj id = some o) ∧ id ∉ m.dels ++ m.use ∧ id ∉ m.frz) m) (h : lay o m st = some st') (hdst : ∀ t, o.dst = some t → t < a.tmps.size) : SR M0 M' β' st' (a.put o.dst c).tmps w' := by
  unfold lay at h
  split at h
  · rename_i s1 h1
    split at h
    · rename_i s3 h3
      split at h
      · rename_i s4 h4
        injection h with h; subst h
        obtain ⟨Mf, k1, k2, k3⟩ := freezeAll_ok m.frz hS h1
        have hMf : Mf = M1 := by
          funext b j
          exact propext ((k2 b j).trans (hM1 b j).symm)
        subst hMf
        obtain ⟨l1, l2⟩ := killAll_ok (m.dels ++ m.use) k1
        obtain ⟨p1, p2, p3⟩ := patchAll_spec m.ws h3
        obtain ⟨q1, q2, q3, q4⟩ := add_spec m.os h4
        have hw := p3 hP.nd
        have dom2 : ∀ i, (∃ o, (killAll (m.dels ++ m.use) s1).obj i = some o) ↔ i ∉ m.dels ++ m.use ∧ i ∉ m.frz ∧ ∃ o, st.obj i = some o := fun i => by rw [l2, k3]
        have pat : ∀ i o0, (killAll (m.dels ++ m.use) s1).obj i = some o0 → ∃ o1, s3.obj i = some o1 := by
          intro i o0 ho
          rw [p2]
          by_cases hi : i ∈ m.ws.map Patch.id
          · obtain ⟨p, hp, rfl⟩ := List.mem_map.1 hi
            rw [patched_at hP.nd hp]
            obtain ⟨o1, o2, e1, e2⟩ := hw p hp
            rw [e1]; exact ⟨o2, e2⟩
          · rw [patched_other hi]; exact ⟨o0, ho⟩
        have hos : ∀ id ∈ m.os.map (·.1), ¬ ∃ o, (killAll (m.dels ++ m.use) s1).obj id = some o := by
          rintro id hid ⟨o0, ho⟩
          obtain ⟨o1, h1⟩ := pat id o0 ho
          rw [q3 id hid] at h1; simp at h1
        have hpo : ∀ i, (putD o m.v s4).obj i = s4.obj i := fun i => by unfold putD; cases o.dst <;> rfl
        have hputD : putD o m.v s4 = (match o.dst with | some t => s4.put t m.v | none => s4) := rfl
        have hV1 : VR M0 M' β' (putD o m.v s4).view (a.put o.dst c).tmps w' := by
          refine Post.view (V0 := (killAll (m.dels ++ m.use) s1).view) (d := o.dst) l1.1 hP l1.2 hos q2 (fun g hg hd => ⟨fun b j hF => ?_, fun id o' ho' b j hF => ?_⟩) (fun p hp => hw p hp) (fun t => ?_) (fun id => ?_) (fun t => ?_)
          · obtain ⟨o0, ho0⟩ := hd
            have hown := hS.1.own g o0 ho0 b j hF
            refine ⟨(hM1 b j).2 ⟨hown.1, ?_⟩, hown.2⟩
            rintro ⟨i, hi, ⟨o1, ho1⟩, hF'⟩
            exact hS.1.disj g i o0 o1 ho0 ho1 (fun e => hfd g hg (e ▸ hi)) b j hF hF'
          · obtain ⟨o0, ho0⟩ := hd
            obtain ⟨d1, d2, o1, ho1⟩ := (dom2 id).1 ⟨o', ho'⟩
            exact hS.1.disj g id o0 o1 ho0 ho1 (fun e => d1 (e ▸ hg)) b j hF
          · show (putD o m.v s4).get t = _
            rw [hputD]
            have hg4 : s4.get t = (killAll (m.dels ++ m.use) s1).get t := by simp only [St.get, q1, p1]
            cases hd : o.dst with
            | none => simp only [reduceCtorEq, if_false]; exact hg4
            | some d =>
              simp only [put_get, hg4]
              by_cases e : t = d
              · subst e; simp; 
              · have : ¬ d = t := fun h => e h.symm
                simp [e, this]; rfl
          · show (putD o m.v s4).obj id = _
            rw [hpo, q4]
            cases lkp id m.os with
            | some x => rfl
            | none => exact p2 id
          · cases hd : o.dst with
            | none => simp [Act.put]
            | some d =>
              have hlt := hdst d hd
              simp only [Act.put, Option.some.injEq]
              by_cases e : d = t
              · subst e; simp [hlt]
              · simp [e, Array.getElem?_setIfInBounds]
        refine ⟨hV1, ?_⟩
        have dom4 : ∀ i, ((∃ o, st.obj i = some o) ∧ i ∉ m.dels ++ m.use ∧ i ∉ m.frz) ∨ i ∈ m.os.map (·.1) → ∃ o', (putD o m.v s4).view.obj i = some o' := by
          intro i hi
          show ∃ o', (putD o m.v s4).obj i = some o'
          rw [hpo, q4]
          rcases hi with ⟨h1, h2, h3⟩ | hi
          · cases hl : lkp i m.os with
            | some x => exact ⟨x, rfl⟩
            | none =>
              obtain ⟨o0, ho0⟩ := (dom2 i).2 ⟨h2, h3, h1⟩
              exact pat i o0 ho0
          · obtain ⟨p, hp, rfl⟩ := List.mem_map.1 hi
            rw [lkp_of_mem (n := p.1) (a := p.2) q2 hp]
            exact ⟨_, rfl⟩
        have ref2 : ∀ i, (∃ o, (killAll (m.dels ++ m.use) s1).obj i = some o) → ∃ o', (putD o m.v s4).view.obj i = some o' := fun i hi => by
          obtain ⟨d1, d2, d3⟩ := (dom2 i).1 hi
          exact dom4 i (.inl ⟨d3, d1, d2⟩)
        refine ⟨fun t i hi => ?_, fun id ob hob => ⟨⟨ob, hob⟩, fun i hi => ?_⟩⟩
        · have hg : (putD o m.v s4).view.get t = m.v ∨ (putD o m.v s4).view.get t = (killAll (m.dels ++ m.use) s1).get t := by
            have hg4 : s4.get t = (killAll (m.dels ++ m.use) s1).get t := by simp only [St.get, q1, p1]
            show (putD o m.v s4).get t = m.v ∨ (putD o m.v s4).get t = _
            rw [hputD]
            cases hd : o.dst with
            | none => exact .inr hg4
            | some d =>
              simp only [put_get]
              by_cases e : t = d
              · exact .inl (by simp [e])
              · exact .inr (by simp only [e, if_false]; exact hg4)
          rcases hg with hg | hg
          · rw [hg] at hi; exact dom4 i (hRefs.1 i hi)
          · rw [hg] at hi; exact ref2 i (l1.2.1 t i hi)
        · have hob' : s4.obj id = some ob := by rw [← hpo]; exact hob
          rw [q4] at hob'
          split at hob'
          · rename_i x hl
            injection hob' with hob'; subst hob'
            exact dom4 i (hRefs.2.1 _ (lkp_mem hl) i hi)
          · rename_i hl
            rw [p2] at hob'
            by_cases hid : id ∈ m.ws.map Patch.id
            · obtain ⟨p, hp, rfl⟩ := List.mem_map.1 hid
              rw [patched_at hP.nd hp] at hob'
              obtain ⟨o0, o1, e1, e2⟩ := hw p hp
              rw [e1] at hob'
              cases p with
              | box k off cells =>
                cases o0 <;> simp only [Patch.on] at hob' <;> try (cases hob'; done)
                rename_i cs0
                split at hob'
                · rename_i hle
                  injection hob' with hob'; subst hob'
                  simp only [Obj.refs] at hi
                  obtain ⟨v, hv, hvi⟩ := refsL_mem.1 hi
                  obtain ⟨j, hj⟩ := List.mem_iff_getElem?.1 hv
                  rw [setFrom_get _ _ _ hle] at hj
                  split at hj
                  · exact dom4 i (hRefs.2.2 k off cells hp i (refsL_mem.2 ⟨v, List.mem_of_getElem? hj, hvi⟩))
                  · exact ref2 i ((l1.2.2 _ _ e1).2 i (by simp only [Obj.refs]; exact refsL_mem.2 ⟨v, List.mem_of_getElem? hj, hvi⟩))
                · exact absurd hob' (by simp)
              | buf k sz es =>
                cases o0 <;> simp only [Patch.on] at hob' <;> try (cases hob'; done)
                split at hob'
                · injection hob' with hob'; subst hob'; simp [Obj.refs] at hi
                · exact absurd hob' (by simp)
              | bld k bs =>
                cases o0 <;> simp only [Patch.on] at hob' <;> try (cases hob'; done)
                injection hob' with hob'; subst hob'; simp [Obj.refs] at hi
            · rw [patched_other hid] at hob'
              exact ref2 i ((l1.2.2 id ob hob').2 i hi)
      · exact absurd h (by simp)
    · exact absurd h (by simp)
  · exact absurd h (by simp)

end
end Go.Proofs.YtbnjbianobdleaaGreat.Vm

/-
  New numbers are even: what parameters lead to keeps its numbers.
-/
namespace Go.Proofs.YtbnjbianobdleaaGreat.Vm
open Go
set_option linter.unusedVariables false
set_option linter.unusedSimpArgs false

def Evens (os : List (Nat × Obj)) : Prop := ∀ p ∈ os, p.1 % 2 = 0
theorem Evens.append {a b : List (Nat × Obj)} (h : Evens a) (k : Evens b) : Evens (a ++ b) := fun p hp => (List.mem_append.1 hp).elim (h p) (k p)
theorem dstId_even (d : Nat) : dstId d % 2 = 0 := by unfold dstId; omega
theorem cellId_even (i j : Nat) : cellId i j % 2 = 0 := by unfold cellId; omega

mutual
theorem place_even : ∀ (v : TV) (id : Nat), id % 2 = 0 → Evens (place cellId id v).2
  | .pv x, id, _ => by simp [place, Evens]
  | .own sz es, id, h => by simpa [place, Evens] using h
  | .bld bs, id, h => by simpa [place, Evens] using h
  | .ptr cells, id, h => by
    intro p hp
    simp only [place, List.mem_cons] at hp
    rcases hp with rfl | hp
    · exact h
    · exact places_even cells id 0 p hp
theorem places_even : ∀ (vs : List TV) (id j : Nat), Evens (places cellId id j vs).2
  | [], id, j => by simp [places, Evens]
  | v :: vs, id, j => by
    simp only [places]
    exact (place_even v (cellId id j) (cellId_even _ _)).append (places_even vs id (j + 1))
end
theorem resTV_even (d : Nat) (rs : List TV) : Evens (resTV d rs).2 := by
  cases rs with
  | nil => exact places_even [] (dstId d) 0
  | cons v r =>
    cases r with
    | nil => exact place_even v _ (dstId_even d)
    | cons v' r => exact places_even (v :: v' :: r) (dstId d) 0

mutual
theorem backLeaf_even : ∀ (ob : Option Back) (id j : Nat) (f : TV) (a : AV) (ps : List Patch) (os : List (Nat × Obj)), backLeaf id j ob f = some (a, ps, os) → Evens os
  | some (.box i off bs), id, j, f, a, ps, os, h => by
    cases f <;> simp only [backLeaf] at h <;> try (cases h; done)
    rename_i cells
    split at h
    · rename_i l ps' os' hl
      injection h with h; injection h with h1 h; injection h with h2 h3; subst h3
      exact backLeaves_even bs i off cells l ps' os' hl
    · exact absurd h (by simp)
  | some (.own i), id, j, f, a, ps, os, h => by cases f <;> simp only [backLeaf] at h <;> cases h
  | some .nilSl, id, j, f, a, ps, os, h => by cases f <;> simp only [backLeaf] at h <;> cases h
  | some (.bld i), id, j, f, a, ps, os, h => by
    cases f <;> simp only [backLeaf] at h <;> try (cases h; done)
    injection h with h; injection h with h1 h; injection h with h2 h3; subst h3
    simp [Evens]
  | none, id, j, f, a, ps, os, h => by
    cases f <;> simp only [backLeaf] at h <;> try (cases h; done)
    · injection h with h; injection h with h1 h; injection h with h2 h3; subst h3; simp [Evens]
    · injection h with h; injection h with h1 h; injection h with h2 h3; subst h3
      simpa [Evens] using cellId_even id j
theorem backLeaves_even : ∀ (bs : List (Option Back)) (id j : Nat) (fs : List TV) (l : List AV) (ps : List Patch) (os : List (Nat × Obj)), backLeaves id j bs fs = some (l, ps, os) → Evens os
  | [], id, j, fs, l, ps, os, h => by
    cases fs <;> simp only [backLeaves] at h <;> try (cases h; done)
    injection h with h; injection h with h1 h; injection h with h2 h3; subst h3
    simp [Evens]
  | ob :: bs, id, j, fs, l, ps, os, h => by
    cases fs <;> simp only [backLeaves] at h <;> try (cases h; done)
    rename_i f fs
    split at h
    · rename_i a p os1 l' ps' os' h1 h2
      injection h with h; injection h with e1 h; injection h with e2 e3; subst e3
      exact (backLeaf_even ob id j f a p os1 h1).append (backLeaves_even bs id (j + 1) fs l' ps' os' h2)
    · exact absurd h (by simp)
end

theorem backTV_even : ∀ (bs : List Back) (fs : List TV) (ws : List Patch) (os : List (Nat × Obj)), backTV bs fs = some (ws, os) → Evens os
  | [], fs, ws, os, h => by
    cases fs <;> simp only [backTV] at h <;> try (cases h; done)
    injection h with h; injection h with h1 h2; subst h2
    simp [Evens]
  | b :: bs, [], ws, os, h => by cases b <;> simp only [backTV] at h <;> cases h
  | b :: bs, f :: fs, ws, os, h => by
    have two : ((∃ i, b = .bld i) ∨ ∃ i off l, b = .box i off l) → Evens os := by
      intro hb
      obtain ⟨a, p, o, q, r, h1, h2, rfl, rfl⟩ := backTV_cons hb h
      exact (backLeaf_even _ _ _ _ _ _ _ h1).append (backTV_even bs fs q r h2)
    cases b with
    | box i off l => exact two (.inr ⟨i, off, l, rfl⟩)
    | bld i => exact two (.inl ⟨i, rfl⟩)
    | nilSl =>
      cases f <;> (try simp only [backTV] at h) <;> try (cases h; done)
      rename_i sz es
      cases es with
      | cons e es => (try simp only [backTV] at h); cases h
      | nil =>
        (try simp only [backTV] at h)
        exact backTV_even bs fs ws os h
    | own i =>
      cases f <;> simp only [backTV] at h <;> try (cases h; done)
      split at h
      · rename_i q r hr
        injection h with h; injection h with h1 h2; subst h2
        exact backTV_even bs fs q _ hr
      · exact absurd h (by simp)

theorem callM_even {C : Cx} {call : FuncId → List TV → Option (List TV × List TV)} {d : Nat} {c : Call} {V : View} {m : Made} (h : callM C call d c V = some m) : Evens m.os := by
  unfold callM at h
  split at h
  · split at h
    · split at h
      · split at h
        · split at h
          · rename_i rs fs hc
            split at h
            · rename_i ws os hb
              injection h with h; subst h
              exact (resTV_even d rs).append (backTV_even _ _ _ _ hb)
            · exact absurd h (by simp)
          · exact absurd h (by simp)
        · exact absurd h (by simp)
      · exact absurd h (by simp)
    · exact absurd h (by simp)
  · exact absurd h (by simp)

theorem evens_nil : Evens [] := by simp [Evens]
theorem evens_dst (d : Nat) (o : Obj) : Evens [(dstId d, o)] := by intro p hp; simp at hp; subst hp; exact dstId_even d
theorem vconv_even {P : Program} {d : Nat} {s t : TypeId} {x : AV} {V : View} {v : AV} {os : List (Nat × Obj)} (h : vconv P d s t x V = some (v, os)) : Evens os := by
  unfold vconv at h
  repeat' split at h
  all_goals first
    | (cases h; done)
    | (injection h with h; injection h with h1 h2; subst h2; exact evens_nil)
    | (injection h with h; injection h with h1 h2; subst h2; exact evens_dst d _)

theorem alloc_even {P : Program} {d : Nat} {vs : List Value} {ts : List TypeId} {l : List AV} {os : List (Nat × Obj)} (hb : zeroBox P (dstId d) 0 vs ts = some (l, os)) : Evens ((dstId d, .box l) :: os) := by
  obtain ⟨_, k2, _⟩ := zeroBox_ok (P := P) (dstId d) _ _ _ _ _ hb
  intro p hp
  rcases List.mem_cons.1 hp with rfl | hp
  · exact dstId_even d
  · obtain ⟨k, sz, _, e, _⟩ := k2 p hp
    rw [e]; exact cellId_even _ _

theorem opQ_even {P : Program} {bt : TypeId} {d : Nat} {o : Op} {V : View} {v : AV} {os : List (Nat × Obj)} (h : opQ P bt d o V = some (v, os)) : Evens os := by
  unfold opQ at h
  repeat' split at h
  all_goals first
    | (cases h; done)
    | exact vconv_even h
    | (injection h with h; injection h with h1 h2; subst h2; exact evens_nil)
    | (injection h with h; injection h with h1 h2; subst h2; exact evens_dst d _)
    | (injection h with h; injection h with h1 h2; subst h2; exact alloc_even (by assumption))

theorem opA_even {P : Program} {d : Nat} {o : Op} {V : View} {v : AV} {os : List (Nat × Obj)} {id : Option Nat} (h : opA P d o V = some (v, os, id)) : Evens os := by
  unfold opA at h
  repeat' split at h
  all_goals first
    | (cases h; done)
    | (injection h with h; injection h with h1 h2; injection h2 with h2 h3; subst h2; exact evens_dst d _)

theorem opL_os {P : Program} {o : Op} {V : View} {m : Made} (h : opL P o V = some m) : m.os = [] := by
  unfold opL at h
  repeat' split at h
  all_goals first
    | (cases h; done)
    | (injection h with h; subst h; rfl)

theorem made_even {C : Cx} {call : FuncId → List TV → Option (List TV × List TV)} {o : Oper} {V : View} {m : Made} (h : made C call o V = some m) : Evens m.os := by
  unfold made at h
  simp only at h
  split at h
  · exact callM_even h
  · split at h
    · rename_i v os hq
      injection h with h; subst h
      exact opQ_even hq
    · split at h
      · rename_i v os id ha
        injection h with h; subst h
        exact opA_even ha
      · rw [opL_os h]; exact evens_nil

end Go.Proofs.YtbnjbianobdleaaGreat.Vm

/-
  One operation, in the model.
-/
namespace Go.Proofs.YtbnjbianobdleaaGreat.Vm
open Go
set_option linter.unusedVariables false
set_option linter.unusedSimpArgs false

theorem opA_refs {P : Program} {d : Nat} {o : Op} {V : View} {v : AV} {os : List (Nat × Obj)} {id : Option Nat} {R : Nat → Prop} (h : opA P d o V = some (v, os, id)) : MRefs R ⟨v, os, [], id.toList, [], []⟩ := by
  unfold opA at h
  repeat' split at h
  all_goals first
    | (cases h; done)
    | (injection h with h; injection h with h1 h2; injection h2 with h2 h3; subst h1; subst h2
       exact ⟨fun i hi => by simp [AV.refs] at hi; subst hi; exact .inr (by simp), fun p hp i hi => by simp at hp; subst hp; simp [Obj.refs] at hi, by simp⟩)

theorem MRefs.imp {R R' : Nat → Prop} {m : Made} (h : MRefs R m) (hi : ∀ i, R i → R' i) : MRefs R' m :=
  ⟨fun i hi' => (h.1 i hi').imp (hi i) (fun h => h), fun p hp i hi' => (h.2.1 p hp i hi').imp (hi i) (fun h => h), fun id off cs hm i hi' => (h.2.2 id off cs hm i hi').imp (hi i) (fun h => h)⟩

section
variable {C : Cx} {call : FuncId → List TV → Option (List TV × List TV)} {M0 M : Cells} {β : Nat → Loc} {V : View} {a : Act} {w : World}

/-- What the operation does, from what it makes. -/
theorem made_okR {R : Nat → Prop} (hcall : ∀ f as rs fs, call f as = some (rs, fs) → Contract C.P (C.modes f) f as rs fs) (hV : VR M0 M β V a.tmps w) (hR : ClosedIn R V) {o : Oper} {m : Made} (h : made C call o V = some m)
    (hos : (m.os.map (·.1)).Nodup) (hfresh : ∀ id ∈ m.os.map (·.1), R id → id ∈ m.dels ++ m.use ∨ id ∈ m.frz) {K : Act → World → Prop} {Q : Exit → Act → World → Prop}
    (hK : ∀ M' β' w' c, Post (fun b j => M b j ∧ ¬ ∃ i ∈ m.frz, (∃ o, V.obj i = some o) ∧ (β i).F b j) β w (fun id => ∃ o, V.obj id = some o) m M' β' w' c →
      MRefs (fun id => R id ∧ id ∉ m.dels ++ m.use ∧ id ∉ m.frz) m → K (a.put o.dst c) w') : o.wp C.P a w K Q := by
  have plain : m.frz = [] → WOk C.P a.eval o.op w M β (fun id => ∃ o, V.obj id = some o) (fun id => R id ∧ id ∉ m.dels ++ m.use ∧ id ∉ m.frz) m → o.wp C.P a w K Q := by
    rintro hz ⟨c, w', M', β', h1, h2, h3⟩
    have e : (fun b j => M b j ∧ ¬ ∃ i ∈ m.frz, (∃ o, V.obj i = some o) ∧ (β i).F b j) = M := by
      funext b j; simp [hz]
    rw [e] at hK
    have := hK M' β' w' c h2 h3
    unfold Oper.wp
    rcases h1 o rfl with h5 | ⟨e5, h5⟩
    · rw [h5]; exact this
    · rw [h5]; rw [e5] at this; exact this
  unfold made at h
  simp only at h
  split at h
  · rename_i c hc
    have hop : o.op = .call c := by
      unfold isCall at hc
      split at hc
      · rename_i c' heq
        split at hc
        · exact absurd hc (by simp)
        · injection hc with hc; subst hc; exact heq
      · exact absurd hc (by simp)
    have huse : m.use = [] := by
      unfold callM at h
      repeat' split at h
      all_goals first
        | (cases h; done)
        | (injection h with h; subst h; rfl)
    obtain ⟨f, cs, hex, hinv⟩ := callM_ok hcall hV h hos (fun id hid ob hob => by simpa [huse] using hfresh id hid ((hR.2 id ob hob).1))
    have fin : ∀ v w', (∃ M' β', Post (fun b j => M b j ∧ ¬ ∃ i ∈ m.frz, (∃ o, V.obj i = some o) ∧ (β i).F b j) β w (fun id => ∃ o, V.obj id = some o) m M' β' w' v ∧ ∀ R : Nat → Prop, (∀ id o, V.obj id = some o → id ∉ m.dels → id ∉ m.frz → R id) → MRefs R m) → K (a.put o.dst v) w' := by
      rintro v w' ⟨M', β', k1, k2⟩
      exact hK M' β' w' v k1 (k2 _ (fun id ob hob h1 h2 => ⟨(hR.2 id ob hob).1, by simpa [huse] using h1, h2⟩))
    unfold Oper.wp
    rw [hex o hop]
    unfold Invokes at hinv
    split at hinv
    · rename_i v w' hr
      rw [hr]; exact fin v w' hinv
    · rename_i g as w' hr
      rw [hr]
      simp only [Oper.upon]
      refine hinv.mono ?_
      rintro e w'' ⟨v, rfl, hh⟩
      exact fin v w'' hh
    · exact hinv.elim
  · split at h
    · rename_i v os hq
      injection h with h; subst h
      refine plain rfl ?_
      have hd : ∀ p ∈ os, ¬ R p.1 := by
        intro p hp hob
        have := hfresh p.1 (List.mem_map_of_mem (f := (·.1)) hp) hob
        simp [Made.only] at this
      obtain ⟨c, w', M', β', k1, k2, k3⟩ := (opQ_ok hV hR hd hq).wok (dom := fun id => ∃ o, V.obj id = some o)
      exact ⟨c, w', M', β', k1, k2, k3.imp (fun i hi => ⟨hi, by simp [Made.only], by simp [Made.only]⟩)⟩
    · split at h
      · rename_i v os id ha
        injection h with h; subst h
        refine plain rfl ?_
        obtain ⟨c, w', M', β', k1, k2, _⟩ := opA_ok hV hR (dom := fun id => ∃ o, V.obj id = some o) (fun id ob h => ⟨ob, h⟩) ha
        exact ⟨c, w', M', β', k1, k2, opA_refs ha⟩
      · obtain ⟨c, w', M', β', k1, k2, k3⟩ := opL_ok hV hR (dom := fun id => ∃ o, V.obj id = some o) (fun id ob h => ⟨ob, h⟩) h
        have hgone : m.dels = [] ∧ m.use = [] ∧ m.frz = [] := by
          unfold opL at h
          repeat' split at h
          all_goals first
            | (cases h; done)
            | (injection h with h; subst h; exact ⟨rfl, rfl, rfl⟩)
        exact plain hgone.2.2 ⟨c, w', M', β', k1, k2, k3.imp (fun i hi => ⟨hi, by simp [hgone.1, hgone.2.1], by simp [hgone.2.2]⟩)⟩

theorem made_ok (hcall : ∀ f as rs fs, call f as = some (rs, fs) → Contract C.P (C.modes f) f as rs fs) (hV : VR M0 M β V a.tmps w) (hR : ClosedIn (fun id => ∃ o, V.obj id = some o) V) {o : Oper} {m : Made} (h : made C call o V = some m)
    (hos : (m.os.map (·.1)).Nodup) (hfresh : ∀ id ∈ m.os.map (·.1), ∀ ob, V.obj id = some ob → id ∈ m.dels ++ m.use ∨ id ∈ m.frz) {K : Act → World → Prop} {Q : Exit → Act → World → Prop}
    (hK : ∀ M' β' w' c, Post (fun b j => M b j ∧ ¬ ∃ i ∈ m.frz, (∃ o, V.obj i = some o) ∧ (β i).F b j) β w (fun id => ∃ o, V.obj id = some o) m M' β' w' c →
      MRefs (fun id => (∃ o, V.obj id = some o) ∧ id ∉ m.dels ++ m.use ∧ id ∉ m.frz) m → K (a.put o.dst c) w') : o.wp C.P a w K Q :=
  made_okR hcall hV hR h hos (fun id hid ⟨ob, hob⟩ => hfresh id hid ob hob) hK

/-- A row's elements, as a plain value's. -/
theorem row_rep {β : Nat → Loc} {w : World} {M Ml : Cells} {l : Loc} {sz : Nat} {es : List (List PV)} (hMl : ∀ b j, Ml b j → M b j) (hO : ObjR β w M l (.buf sz es)) (hF : ∀ b j, l.F b j → ¬ Ml b j) : Rep w Ml (.sl es) l.hdr := by
  have hk : ∀ b o v, at_ w b o = some v → ¬ M b o → at_ w b o = some v ∧ ¬ Ml b o := fun b o v h1 h2 => ⟨h1, fun h => h2 (hMl _ _ h)⟩
  obtain ⟨q1, q2, q3, q4, q5, q6, q7, q8, q9⟩ := hO
  simp only [Rep, Loc.hdr]
  cases hb : l.base with
  | none =>
    have hcap := q7 hb
    have he : es = [] := List.length_eq_zero_iff.1 (by omega)
    subst he
    exact ⟨none, 0, rfl, Nat.le_refl _, fun _ => rfl, fun p hp => by simp at hp, sz, by simp only [RepRow]⟩
  | some bo =>
    obtain ⟨b, o⟩ := bo
    refine ⟨_, l.cap, by rw [q3], by omega, fun h => by simp at h, fun p hp _ => by injection hp with hp; subst hp; rfl, sz, RepRow.of fun i e he => ?_⟩
    obtain ⟨vs, k1, k2⟩ := (q9 b o hb).2 i e he
    refine ⟨_, vs, rfl, q8 e (List.mem_of_getElem? he), RepS.mono hk _ _ k1, fun j c hj => ?_⟩
    show at_ w b (o + (0 + i) * sz + j) = some c ∧ ¬ Ml b (o + (0 + i) * sz + j)
    rw [Nat.zero_add]
    refine ⟨k2 j c hj, hF _ _ (.inl ⟨o, hb, by omega, ?_⟩)⟩
    have hj' : j < sz := by
      have := (List.getElem?_eq_some_iff.1 hj).1
      rw [k1.length, q8 e (List.mem_of_getElem? he)] at this; exact this
    have hi := (List.getElem?_eq_some_iff.1 he).1
    have : (i + 1) * sz ≤ l.cap * sz := Nat.mul_le_mul_right _ (by omega)
    rw [Nat.add_mul] at this
    omega

/-- A new row, taken for a plain value. -/
theorem arrive_ok {pl : List Nat} {o : Oper} {ob : Nat → Option Obj} {m : Made} {dom : Nat → Prop} {M1 M' : Cells} {β' : Nat → Loc} {w' : World} {c : Value} (hold : ∀ b j, M1 b j → b < w.heap.size) (h : Post M1 β w dom m M' β' w' c) :
    ∃ M'' β'', Post M1 β w dom (arrive pl o ob m) M'' β'' w' c := by
  unfold arrive
  split
  · rename_i d i sz es hd hos hws
    split
    · split
      · rename_i j hv
        split
        · rename_i hij
          subst hij
          have hn := h.new (i, .buf sz es) (by rw [hos]; simp)
          have hval := h.val
          rw [hv] at hval
          simp only [AVR] at hval
          have hid : ∀ k, k ≠ i → k ∉ m.os.map (·.1) := fun k hk => by rw [hos]; simpa using hk
          refine ⟨lessF M' (β' i), fun k => if k = i then β i else β' k, ⟨fun k _ => ?_, fun k _ hk => ?_, fun b j hM => ?_, fun b j hM => h.only b j hM.1, fun b j hM => h.old b j hM.1, by simp, by simp [hws], h.nd, fun k k' hk => ?_, h.fr, ?_⟩⟩
          · by_cases e : k = i
            · exact Loc.same_of (by simp [e])
            · simp only [e, if_false]; exact h.same k (hid k e)
          · by_cases e : k = i
            · simp [e]
            · simp only [e, if_false]; exact h.keep k (hid k e) hk
          · rcases h.kept b j hM with hM' | hG
            · by_cases hF : (β' i).F b j
              · rcases (hn.2 b j hF).2 with hf | hG
                · have := hold b j hM; omega
                · exact .inr hG
              · exact .inl ⟨hM', hF⟩
            · exact .inr hG
          · rcases hk with hk | ⟨_, hk⟩
            · simp at hk
            · simp [hws] at hk
          · simp only [AVR]
            rw [hval]
            exact row_rep (fun b j hM => hM.1) hn.1 (fun b j hF hM => hM.2 hF)
        · exact ⟨M', β', h⟩
      · exact ⟨M', β', h⟩
    · exact ⟨M', β', h⟩
  · exact ⟨M', β', h⟩

end
end Go.Proofs.YtbnjbianobdleaaGreat.Vm

/-
  Operations one after another.
-/
namespace Go.Proofs.YtbnjbianobdleaaGreat.Vm
open Go
set_option linter.unusedVariables false
set_option linter.unusedSimpArgs false

/-- What is carried along a function's walk. -/
def Inv (M0 D0 : Cells) (β0 : Nat → Loc) (w0 : World) (n : Nat) (st : St) (a : Act) (w : World) : Prop :=
  ∃ M β, SR M0 M β st a.tmps w ∧ Fr D0 w0 w ∧ (∀ b j, M b j → M0 b j ∨ D0 b j ∨ w0.heap.size ≤ b) ∧ a.tmps.size = n ∧ a.defers = [] ∧ ∀ id o, id % 2 = 1 → st.obj id = some o → (β0 id).same (β id)


theorem arrive_os (pl : List Nat) (o : Oper) (ob : Nat → Option Obj) (m : Made) : (arrive pl o ob m = m) ∨ (∃ i sz es, m.os = [(i, .buf sz es)] ∧ m.ws = [] ∧ m.v = .own i ∧ ob i = none ∧ arrive pl o ob m = { m with v := .pv (.sl es), os := [] }) := by
  unfold arrive
  split
  · rename_i d i sz es hd hos hws
    split
    · rename_i hc
      split
      · rename_i j hv
        split
        · rename_i hij
          subst hij
          simp only [Bool.and_eq_true, Option.isNone_iff_eq_none] at hc
          exact .inr ⟨i, sz, es, hos, hws, hv, hc.2, rfl⟩
        · exact .inl rfl
      · exact .inl rfl
    · exact .inl rfl
  · exact .inl rfl

theorem patchAll_dom : ∀ (ws : List Patch) {st s : St}, patchAll ws st = some s → ∀ i, (∃ o, st.obj i = some o) ↔ ∃ o, s.obj i = some o
  | [], st, s, h, i => by simp only [patchAll, Option.some.injEq] at h; subst h; exact Iff.rfl
  | q :: ws, st, s, h, i => by
    simp only [patchAll] at h
    split at h
    · rename_i o ho
      rw [← patchAll_dom ws h i, upd_obj]
      by_cases e : i = q.id
      · subst e
        simp only [if_true]
        constructor
        · intro _; exact ⟨o, rfl⟩
        · intro _
          cases hq : st.obj q.id with
          | none => rw [hq] at ho; cases q <;> simp [Patch.on] at ho
          | some o0 => exact ⟨o0, rfl⟩
      · simp [e]
    · exact absurd h (by simp)

theorem made_frz {C : Cx} {call : FuncId → List TV → Option (List TV × List TV)} {o : Oper} {V : View} {m : Made} (h : made C call o V = some m) : ∀ g ∈ m.dels ++ m.use, g ∉ m.frz := by
  unfold made at h
  simp only at h
  split at h
  · unfold callM at h
    split at h
    · split at h
      · split at h
        · split at h
          · rename_i hchk
            simp only [Bool.and_eq_true] at hchk
            split at h
            · split at h
              · injection h with h; subst h
                intro g hg hz
                simp only [List.append_nil] at hg
                split at hz
                · simp at hz
                · rename_i l _
                  split at hz
                  · simp at hz
                  · exact freeOf_ok hchk.2 g hz (List.mem_append.2 (.inl hg))
              · exact absurd h (by simp)
            · exact absurd h (by simp)
          · exact absurd h (by simp)
        · exact absurd h (by simp)
      · exact absurd h (by simp)
    · exact absurd h (by simp)
  · split at h
    · injection h with h; subst h; simp [Made.only]
    · split at h
      · injection h with h; subst h; simp
      · unfold opL at h
        repeat' split at h
        all_goals first
          | (cases h; done)
          | (injection h with h; subst h; simp)

section
variable {M0 M : Cells} {β : Nat → Loc} {st : St} {tm : Array Value} {w : World}

/-- What an operation may change is owned here. -/
theorem lay_own {o : Oper} {m : Made} {st' : St} (hS : SR M0 M β st tm w) (h : lay o m st = some st') (hnd : (m.ws.map Patch.id).Nodup) : ∀ x j, Dm β (fun id => ∃ o, st.obj id = some o) m x j → M x j ∧ ¬ M0 x j := by
  rintro x j (⟨g, hg, ⟨ob, hob⟩, hF⟩ | ⟨p, hp, hd, ht⟩)
  · exact hS.1.own g ob hob x j hF
  · unfold lay at h
    split at h
    · rename_i s1 h1
      split at h
      · rename_i s3 h3
        obtain ⟨Mf, k1, k2, k3⟩ := freezeAll_ok m.frz hS h1
        obtain ⟨l1, l2⟩ := killAll_ok (m.dels ++ m.use) k1
        obtain ⟨p1, p2, p3⟩ := patchAll_spec m.ws h3
        obtain ⟨o0, o1, e1, e2⟩ := p3 hnd p hp
        have hF : (β p.id).F x j := by
          refine Patch.touch_F ht ?_
          rintro id off cells rfl
          cases o0 <;> simp only [Patch.on] at e2 <;> try (cases e2; done)
          rename_i cs
          obtain ⟨b0, o0, q1, q2, q3, q4⟩ := l1.1.objs _ _ e1
          split at e2
          · rw [q2]; assumption
          · exact absurd e2 (by simp)
        have := l1.1.own p.id o0 e1 x j hF
        exact ⟨((k2 x j).1 this.1).1, this.2⟩
      · exact absurd h (by simp)
    · exact absurd h (by simp)

theorem put_size (a : Act) (d : Option Tmp) (v : Value) : (a.put d v).tmps.size = a.tmps.size := by cases d <;> simp [Act.put]
theorem put_defers (a : Act) (d : Option Tmp) (v : Value) : (a.put d v).defers = a.defers := by cases d <;> rfl
end

theorem lay_old {M0 M : Cells} {β : Nat → Loc} {tm : Array Value} {w : World} {o : Oper} {m : Made} {st st' : St} (hS : SR M0 M β st tm w) (h : lay o m st = some st') {id : Nat} (hn : id ∉ m.os.map (·.1)) (ho : ∃ ob, st'.obj id = some ob) : ∃ ob, st.obj id = some ob := by
  obtain ⟨ob, hob⟩ := ho
  unfold lay at h
  split at h
  · rename_i s1 h1
    split at h
    · rename_i s3 h3
      split at h
      · rename_i s4 h4
        injection h with h; subst h
        have hpo : (putD o m.v s4).obj id = s4.obj id := by unfold putD; cases o.dst <;> rfl
        rw [hpo] at hob
        obtain ⟨q1, q2, q3, q4⟩ := add_spec m.os h4
        rw [q4] at hob
        have hl : lkp id m.os = none := by
          cases hl : lkp id m.os with
          | none => rfl
          | some x => exact absurd (List.mem_map_of_mem (f := (·.1)) (lkp_mem hl)) hn
        rw [hl] at hob
        obtain ⟨o1, ho1⟩ := (patchAll_dom m.ws h3 id).2 ⟨ob, hob⟩
        obtain ⟨Mf, k1, k2, k3⟩ := freezeAll_ok m.frz hS h1
        exact ((k3 id).1 (((killAll_ok (m.dels ++ m.use) k1).2 id).1 ⟨o1, ho1⟩).2).2
      · exact absurd h (by simp)
    · exact absurd h (by simp)
  · exact absurd h (by simp)

section
variable {C : Cx} {call : FuncId → List TV → Option (List TV × List TV)} {M0 D0 : Cells} {β0 : Nat → Loc} {w0 : World} {n : Nat}

/-- ONE OPERATION. -/
theorem oper_ok (hcall : ∀ f as rs fs, call f as = some (rs, fs) → Contract C.P (C.modes f) f as rs fs) {pl : List Nat} {o : Oper} {st st' : St} {a : Act} {w : World} (hI : Inv M0 D0 β0 w0 n st a w) (h : oper C call pl o st = some st')
    (hd : ∀ t, o.dst = some t → t < n) {K : Act → World → Prop} {Q : Exit → Act → World → Prop} (hK : ∀ a' w', Inv M0 D0 β0 w0 n st' a' w' → K a' w') : o.wp C.P a w K Q := by
  obtain ⟨M, β, hS, hFr, hM, hn, hdef, hpin⟩ := hI
  unfold oper at h
  split at h
  · rename_i s hs
    split at h
    · rename_i m hm
      obtain ⟨Mf, hSf, hMf, hdf⟩ := freezeAll_ok _ hS hs
      have heven := made_even hm
      have hfz := made_frz hm
      have harr := arrive_os pl o s.obj m
      -- the numbers are free
      have hnum : (m.os.map (·.1)).Nodup ∧ ∀ id ∈ m.os.map (·.1), ∀ ob, s.view.obj id = some ob → id ∈ m.dels ++ m.use ∨ id ∈ m.frz := by
        rcases harr with e | ⟨i, sz, es, e1, e2, e3, e4, e5⟩
        · rw [e] at h
          unfold lay at h
          split at h
          · rename_i s1 h1
            split at h
            · rename_i s3 h3
              split at h
              · rename_i s4 h4
                obtain ⟨q1, q2, q3, q4⟩ := add_spec m.os h4
                obtain ⟨_, k1, _, k3⟩ := freezeAll_ok m.frz hSf h1
                obtain ⟨_, l2⟩ := killAll_ok (m.dels ++ m.use) k1
                refine ⟨q2, fun id hid ob hob => ?_⟩
                by_cases hg : id ∈ m.dels ++ m.use
                · exact .inl hg
                · by_cases hz : id ∈ m.frz
                  · exact .inr hz
                  · obtain ⟨x, hx⟩ := (patchAll_dom m.ws h3 id).1 ((l2 id).2 ⟨hg, (k3 id).2 ⟨hz, ob, hob⟩⟩)
                    rw [q3 id hid] at hx; simp at hx
              · exact absurd h (by simp)
            · exact absurd h (by simp)
          · exact absurd h (by simp)
        · rw [e1]
          refine ⟨by simp, fun id hid ob hob => ?_⟩
          simp at hid; subst hid
          have hob' : s.obj id = some ob := hob
          rw [e4] at hob'; simp at hob'
      refine made_ok hcall hSf.1 hSf.2 hm hnum.1 hnum.2 (fun M' β' w' c hP hR => hK _ _ ?_)
      obtain ⟨M2, β2, hP2⟩ := arrive_ok (pl := pl) (o := o) (ob := s.obj) (fun b j h => hSf.1.old b j h.1) hP
      -- the same but for what arrives
      have harr2 : (arrive pl o s.obj m).dels = m.dels ∧ (arrive pl o s.obj m).use = m.use ∧ (arrive pl o s.obj m).frz = m.frz ∧ Evens (arrive pl o s.obj m).os ∧ MRefs (fun id => (∃ o, s.view.obj id = some o) ∧ id ∉ m.dels ++ m.use ∧ id ∉ m.frz) (arrive pl o s.obj m) := by
        rcases harr with e | ⟨i, sz, es, e1, e2, e3, e4, e5⟩
        · rw [e]; exact ⟨rfl, rfl, rfl, heven, hR⟩
        · rw [e5]; exact ⟨rfl, rfl, rfl, evens_nil, by simp [AV.refs], by simp, by simp [e2]⟩
      obtain ⟨a1, a2, a3, a4, a5⟩ := harr2
      generalize hma : arrive pl o s.obj m = ma at hP2 h a1 a2 a3 a4 a5
      rw [← a1, ← a2, ← a3] at a5
      have hS' := lay_ok hSf hP2 (fun b j => by rw [a3]; exact Iff.rfl) (fun g hg => by rw [a1, a2] at hg; rw [a3]; exact hfz g hg) a5 h (fun t ht => by rw [hn]; exact hd t ht)
      have hown := lay_own hSf h hP2.nd
      refine ⟨M2, β2, hS', hFr.trans hP2.fr (fun _ _ h => h) (fun x j hx => ?_), fun b j hx => ?_, (put_size _ _ _).trans hn, (put_defers _ _ _).trans hdef, fun id ob hid hob => ?_⟩
      · have := hown x j hx
        rcases hM x j ((hMf x j).1 this.1).1 with h | h | h
        · exact absurd h this.2
        · exact .inl h
        · exact .inr h
      · rcases hP2.only b j hx with h | h
        · exact hM b j ((hMf b j).1 h.1).1
        · exact .inr (.inr (Nat.le_trans hFr.size h))
      · have hni : id ∉ ma.os.map (·.1) := by
          intro h
          obtain ⟨p, hp, rfl⟩ := List.mem_map.1 h
          have := a4 p hp
          omega
        obtain ⟨ob1, hob1⟩ := lay_old hSf h hni ⟨ob, hob⟩
        obtain ⟨ob2, hob2⟩ := ((hdf id).1 ⟨ob1, hob1⟩).2
        exact (hpin id ob2 hid hob2).trans (hP2.same id hni)
    · exact absurd h (by simp)
  · exact absurd h (by simp)


/-- The same world, another state. -/
theorem Inv.step {st st' : St} {a : Act} {w : World} (hI : Inv M0 D0 β0 w0 n st a w)
    (h : ∀ M β, SR M0 M β st a.tmps w → ∃ M' β', SR M0 M' β' st' a.tmps w ∧ (∀ b j, M' b j → M b j) ∧ ∀ id o, id % 2 = 1 → st'.obj id = some o → (∃ o', st.obj id = some o') ∧ (β id).same (β' id)) : Inv M0 D0 β0 w0 n st' a w := by
  obtain ⟨M, β, hS, hFr, hM, hn, hdef, hpin⟩ := hI
  obtain ⟨M', β', k1, k2, k3⟩ := h M β hS
  refine ⟨M', β', k1, hFr, fun b j hb => hM b j (k2 b j hb), hn, hdef, fun id o hid ho => ?_⟩
  obtain ⟨⟨o', ho'⟩, hs⟩ := k3 id o hid ho
  exact (hpin id o' hid ho').trans hs

def putO (d : Option Nat) (v : AV) (st : St) : St := match d with | some t => st.put t v | none => st
theorem put_ok {M : Cells} {β : Nat → Loc} {st : St} {a : Act} {w : World} (hS : SR M0 M β st a.tmps w) (d : Option Nat) {v : AV} {c : Value} (hv : AVR β w M v c) (hr : ∀ i ∈ v.refs, ∃ o, st.obj i = some o) (hd : ∀ t, d = some t → t < a.tmps.size) :
    SR M0 M β (putO d v st) (a.put d c).tmps w := by
  cases d with
  | none => exact hS
  | some d =>
    have hlt := hd d rfl
    refine ⟨⟨hS.1.sup, hS.1.old, fun t => ?_, hS.1.objs, hS.1.own, hS.1.disj⟩, fun t i hi => ?_, hS.2.2⟩
    · show AVR β w M ((st.put d v).get t) _
      rw [put_get]
      simp only [Act.put]
      by_cases e : t = d
      · subst e; simp [hlt]; exact hv
      · rw [if_neg e]
        have : ¬ d = t := fun h => e h.symm
        simp only [Array.getD_eq_getD_getElem?, Array.getElem?_setIfInBounds, this, if_false]
        have hs : AVR β w M (st.get t) (a.tmps.getD t undef) := hS.1.slots t
        simpa only [Array.getD_eq_getD_getElem?] using hs
    · have hi' : i ∈ ((st.put d v).get t).refs := hi
      rw [put_get] at hi'
      split at hi'
      · exact hr i hi'
      · exact hS.2.1 t i hi'

theorem put_inv {st : St} {a : Act} {w : World} (hI : Inv M0 D0 β0 w0 n st a w) (o : Oper) (hd : ∀ t, o.dst = some t → t < n) : Inv M0 D0 β0 w0 n (putD o (.tup []) st) (a.put o.dst undef) w := by
  obtain ⟨M, β, hS, hFr, hM, hn, hdef, hpin⟩ := hI
  refine ⟨M, β, put_ok hS o.dst (v := .tup []) (c := undef) (by simp only [AVR]; exact ⟨#[], rfl, by simp [AVRs]⟩) (by simp [AV.refs, AV.refsL]) (fun t ht => by rw [hn]; exact hd t ht), hFr, hM, (put_size _ _ _).trans hn, (put_defers _ _ _).trans hdef, fun id ob hid hob => hpin id ob hid ?_⟩
  unfold putD at hob
  cases h : o.dst with
  | none => rw [h] at hob; exact hob
  | some t => rw [h] at hob; exact hob

/-- Is an operation wanted? -/
theorem wanted_ok {M : Cells} {β : Nat → Loc} {V : View} {tm : Array Value} {w : World} (hV : VR M0 M β V tm w) {ops : Array Oper} {o : Oper} {b : Bool} (h : wanted ops.toList V o = some b) : Region.wanted o (yielded ops tm) = b := by
  unfold wanted at h
  unfold Region.wanted
  cases hg : o.guard with
  | none => rw [hg] at h; simp at h; simp [h]
  | some jw =>
    obtain ⟨j, want⟩ := jw
    rw [hg] at h
    simp only [Array.getElem?_toList] at h ⊢
    unfold yielded
    cases ht : (ops[j]?).bind (·.dst) with
    | none => rw [ht] at h; simp at h
    | some t =>
      rw [ht] at h
      have hs := hV.slots t
      simp only [Option.bind_some]
      simp only at h
      split at h
      · rename_i b' hb
        rw [hb] at hs
        simp only [AVR, Rep] at hs
        simp only [Option.some.injEq] at h
        have : tm[t]? = some (.bool b') := by
          simp only [Array.getD_eq_getD_getElem?] at hs
          cases hq : tm[t]? with
          | none => rw [hq] at hs; simp [undef] at hs
          | some x => rw [hq] at hs; simp at hs; rw [hs]
        rw [this]; simp only; rw [← h]; cases b' <;> cases want <;> rfl
      · rename_i hb
        rw [hb] at hs
        simp only [AVR, AVRs] at hs
        obtain ⟨cs, hs, _⟩ := hs
        simp only [Option.some.injEq] at h
        rw [← h]
        cases hq : tm[t]? with
        | none => rfl
        | some x =>
          simp only [Array.getD_eq_getD_getElem?, hq, Option.getD_some] at hs
          rw [hs]; rfl
      · exact absurd h (by simp)

/-- One after another. -/
theorem opers_ok (hcall : ∀ f as rs fs, call f as = some (rs, fs) → Contract C.P (C.modes f) f as rs fs) {pl : List Nat} {ops : Array Oper} (hd : ∀ o ∈ ops.toList, ∀ t, o.dst = some t → t < n) {st' : St} {Q : Exit → Act → World → Prop} (hQ : ∀ a' w', Inv M0 D0 β0 w0 n st' a' w' → Q .normal a' w') :
    ∀ (l : List Oper) (k : Nat) (st : St) (a : Act) (w : World), ops.toList.drop k = l → k ≤ ops.size → Inv M0 D0 β0 w0 n st a w → opers C call ops.toList pl l st = some st' → wpOps C.P ops Q (List.range' k (ops.size - k)) a w
  | [], k, st, a, w, hl, hk, hI, h => by
    simp only [opers, Option.some.injEq] at h; subst h
    have : ops.size - k = 0 := by
      have := congrArg List.length hl
      simp at this; omega
    rw [this]
    exact hQ _ _ hI
  | o :: r, k, st, a, w, hl, hk, hI, h => by
    have hlt : k < ops.size := by
      have := congrArg List.length hl
      simp at this; omega
    have ho : ops[k]? = some o := by
      have := congrArg (·[0]?) hl
      simpa using this
    have hr : ops.toList.drop (k + 1) = r := by
      have := congrArg List.tail hl
      simpa using this
    have hm : o ∈ ops.toList := by
      have : ops.toList[k]? = some o := by simpa using ho
      exact List.mem_of_getElem? this
    rw [show ops.size - k = (ops.size - (k + 1)) + 1 by omega, List.range'_succ]
    simp only [wpOps, ho]
    simp only [opers] at h
    split at h
    · rename_i hw
      obtain ⟨M, β, hS, _⟩ := id hI
      rw [wanted_ok hS.1 hw]
      simp only [if_true]
      split at h
      · rename_i s hs
        exact .inl (oper_ok hcall hI hs (hd o hm) fun a' w' hI' => opers_ok hcall hd hQ r (k + 1) s a' w' hr (by omega) hI' h)
      · exact absurd h (by simp)
    · rename_i hw
      obtain ⟨M, β, hS, _⟩ := id hI
      rw [wanted_ok hS.1 hw]
      simp only [Bool.false_eq_true, if_false]
      exact opers_ok hcall hd hQ r (k + 1) _ _ w hr (by omega) (put_inv hI o (hd o hm)) h
    · exact absurd h (by simp)

end
end Go.Proofs.YtbnjbianobdleaaGreat.Vm

/-
  Numbers of objects are changed; what is dead is forgotten; a loop's head.
-/
namespace Go.Proofs.YtbnjbianobdleaaGreat.Vm
open Go
set_option linter.unusedVariables false
set_option linter.unusedSimpArgs false

mutual
theorem ids_refs : ∀ v : AV, v.ids = v.refs
  | .own i => by simp only [AV.ids, AV.refs]
  | .part i _ _ => by simp only [AV.ids, AV.refs]
  | .addr i _ _ => by simp only [AV.ids, AV.refs]
  | .tup vs => by simp only [AV.ids, AV.refs]; exact idsL_refsL vs
  | .agg vs => by simp only [AV.ids, AV.refs]; exact idsL_refsL vs
  | .clo f a b => by simp only [AV.ids, AV.refs, idsL_refsL a, idsL_refsL b]
  | .undef => by simp only [AV.ids, AV.refs]
  | .pv _ => by simp only [AV.ids, AV.refs]
  | .nilSl => by simp only [AV.ids, AV.refs]
theorem idsL_refsL : ∀ vs : List AV, AV.idsL vs = AV.refsL vs
  | [] => by simp only [AV.idsL, AV.refsL]
  | v :: vs => by simp only [AV.idsL, AV.refsL, ids_refs v, idsL_refsL vs]
end

section
variable {M : Cells} {β β' : Nat → Loc} {w : World} {g : Nat → Option Nat}

mutual
theorem subg_ok : ∀ (v : AV) (c : Value), (∀ i ∈ v.refs, ∀ j, g i = some j → (β i).same (β' j)) → AVR β w M v c → AVR β' w M (AV.sub g v) c
  | .own i, c, hg, h => by
    simp only [AV.sub]
    split
    · rename_i j hj
      simp only [AVR] at h ⊢
      rw [(hg i (by simp [AV.refs]) j hj).hdr]; exact h
    · simp only [AVR]
  | .part i lo n, c, hg, h => by
    simp only [AV.sub]
    split
    · rename_i j hj
      obtain ⟨h1, h2, h3, h4⟩ := hg i (by simp [AV.refs]) j hj
      simp only [AVR] at h ⊢
      rw [h1, h2, h4]; exact h
    · simp only [AVR]
  | .addr i a b, c, hg, h => by
    simp only [AV.sub]
    split
    · rename_i j hj
      obtain ⟨h1, h2, h3, h4⟩ := hg i (by simp [AV.refs]) j hj
      simp only [AVR] at h ⊢
      rw [h1, h4]; exact h
    · simp only [AVR]
  | .nilSl, c, _, h => by simp only [AV.sub, AVR] at h ⊢; exact h
  | .undef, c, _, h => by simp only [AV.sub, AVR]
  | .pv x, c, _, h => by simp only [AV.sub, AVR] at h ⊢; exact h
  | .tup vs, c, hg, h => by
    simp only [AV.sub, AVR] at h ⊢
    obtain ⟨cs, h1, h2⟩ := h
    exact ⟨cs, h1, subgL_ok vs _ (fun i hi => hg i (by simpa only [AV.refs] using hi)) h2⟩
  | .agg vs, c, hg, h => by
    simp only [AV.sub, AVR] at h ⊢
    obtain ⟨cs, h1, h2, h3⟩ := h
    exact ⟨cs, h1, subgL_ok vs _ (fun i hi => hg i (by simpa only [AV.refs] using hi)) h2, h3⟩
  | .clo f a b, c, hg, h => by
    simp only [AV.sub, AVR] at h ⊢
    obtain ⟨x, y, h1, h2, h3⟩ := h
    exact ⟨x, y, h1, subgL_ok a _ (fun i hi => hg i (by simp only [AV.refs, List.mem_append]; exact .inl hi)) h2, subgL_ok b _ (fun i hi => hg i (by simp only [AV.refs, List.mem_append]; exact .inr hi)) h3⟩
theorem subgL_ok : ∀ (vs : List AV) (cs : List Value), (∀ i ∈ AV.refsL vs, ∀ j, g i = some j → (β i).same (β' j)) → AVRs β w M vs cs → AVRs β' w M (AV.subL g vs) cs
  | [], cs, _, h => by simp only [AV.subL, AVRs] at h ⊢; exact h
  | v :: vs, cs, hg, h => by
    simp only [AV.subL, AVRs] at h ⊢
    obtain ⟨c, r, h1, h2, h3⟩ := h
    exact ⟨c, r, h1, subg_ok v c (fun i hi => hg i (by simp only [AV.refsL, List.mem_append]; exact .inl hi)) h2, subgL_ok vs r (fun i hi => hg i (by simp only [AV.refsL, List.mem_append]; exact .inr hi)) h3⟩
end
mutual
theorem subg_refs : ∀ (v : AV), ∀ j ∈ (AV.sub g v).refs, ∃ i ∈ v.refs, g i = some j
  | .own i, j, h => by
    simp only [AV.sub] at h
    split at h
    · rename_i k hk
      simp only [AV.refs, List.mem_singleton] at h ⊢; subst h; exact ⟨i, rfl, hk⟩
    · simp [AV.refs] at h
  | .part i lo n, j, h => by
    simp only [AV.sub] at h
    split at h
    · rename_i k hk
      simp only [AV.refs, List.mem_singleton] at h ⊢; subst h; exact ⟨i, rfl, hk⟩
    · simp [AV.refs] at h
  | .addr i a b, j, h => by
    simp only [AV.sub] at h
    split at h
    · rename_i k hk
      simp only [AV.refs, List.mem_singleton] at h ⊢; subst h; exact ⟨i, rfl, hk⟩
    · simp [AV.refs] at h
  | .nilSl, j, h => by simp [AV.sub, AV.refs] at h
  | .undef, j, h => by simp [AV.sub, AV.refs] at h
  | .pv x, j, h => by simp [AV.sub, AV.refs] at h
  | .tup vs, j, h => by simp only [AV.sub, AV.refs] at h ⊢; exact subgL_refs vs j h
  | .agg vs, j, h => by simp only [AV.sub, AV.refs] at h ⊢; exact subgL_refs vs j h
  | .clo f a b, j, h => by
    simp only [AV.sub, AV.refs, List.mem_append] at h ⊢
    rcases h with h | h
    · obtain ⟨i, h1, h2⟩ := subgL_refs a j h; exact ⟨i, .inl h1, h2⟩
    · obtain ⟨i, h1, h2⟩ := subgL_refs b j h; exact ⟨i, .inr h1, h2⟩
theorem subgL_refs : ∀ (vs : List AV), ∀ j ∈ AV.refsL (AV.subL g vs), ∃ i ∈ AV.refsL vs, g i = some j
  | [], j, h => by simp [AV.subL, AV.refsL] at h
  | v :: vs, j, h => by
    simp only [AV.subL, AV.refsL, List.mem_append] at h ⊢
    rcases h with h | h
    · obtain ⟨i, h1, h2⟩ := subg_refs v j h; exact ⟨i, .inl h1, h2⟩
    · obtain ⟨i, h1, h2⟩ := subgL_refs vs j h; exact ⟨i, .inr h1, h2⟩
end
end

section
variable {M0 M : Cells} {β : Nat → Loc} {st : St} {tm : Array Value} {w : World}

theorem Loc.same_refl (l : Loc) : l.same l := ⟨rfl, rfl, rfl, rfl⟩

theorem objmap_sub {g : Nat → Option Nat} {β' : Nat → Loc} {l : Loc} : ∀ {o : Obj}, (∀ i ∈ o.refs, ∀ j, g i = some j → (β i).same (β' j)) → ObjR β w M l o → ObjR β' w M l (o.map (AV.sub g))
  | .box cs, hg, h => by
    obtain ⟨b, o, q1, q2, q3, q4⟩ := h
    refine ⟨b, o, q1, by simpa using q2, q3, fun j v hj => ?_⟩
    rw [List.getElem?_map] at hj
    simp only [Option.map_eq_some_iff] at hj
    obtain ⟨u, hu, rfl⟩ := hj
    obtain ⟨c, k1, k2, k3, k4⟩ := q4 j u hu
    exact ⟨c, k1, k2, k3, subg_ok _ _ (fun i hi => hg i (by simp only [Obj.refs]; exact refsL_mem.2 ⟨u, List.mem_of_getElem? hu, hi⟩)) k4⟩
  | .buf s es, hg, h => ObjR.mono (o := .buf s es) (fun b o v h1 h2 => ⟨h1, h2⟩) (fun _ _ _ _ h => ⟨h, rfl⟩) (fun _ _ h => h) (fun _ _ _ => rfl) (fun _ h => h) (by simp [Obj.refs]) h
  | .bld bs, hg, h => ObjR.mono (o := .bld bs) (fun b o v h1 h2 => ⟨h1, h2⟩) (fun _ _ _ _ h => ⟨h, rfl⟩) (fun _ _ h => h) (fun _ _ _ => rfl) (fun _ h => h) (by simp [Obj.refs]) h

theorem objmap_refs {g : Nat → Option Nat} {o : Obj} : ∀ j ∈ (o.map (AV.sub g)).refs, ∃ i ∈ o.refs, g i = some j := by
  intro j hj
  cases o with
  | box cs =>
    simp only [Obj.map, Obj.refs] at hj ⊢
    obtain ⟨v, hv, hj⟩ := refsL_mem.1 hj
    obtain ⟨u, hu, rfl⟩ := List.mem_map.1 hv
    obtain ⟨i, h1, h2⟩ := subg_refs u j hj
    exact ⟨i, refsL_mem.2 ⟨u, hu, h1⟩, h2⟩
  | buf s es => simp [Obj.map, Obj.refs] at hj
  | bld bs => simp [Obj.map, Obj.refs] at hj

def renG (a b : Nat) : Nat → Option Nat := fun i => if i = a then some b else some i

theorem lkp_renKey {α : Type} (a b n : Nat) : ∀ (l : List (Nat × α)), (lkp b l = none) → lkp n (l.map fun p => if p.1 = a then (b, p.2) else p) = if n = b then lkp a l else if n = a then (if a = b then lkp a l else none) else lkp n l
  | [], _ => by simp [lkp]
  | (m, x) :: r, hb => by
    simp only [lkp] at hb
    split at hb
    · exact absurd hb (by simp)
    · rename_i hbm
      have ih := lkp_renKey a b n r hb
      simp only [List.map_cons]
      by_cases hma : m = a
      · subst hma
        simp only [if_true, lkp]
        by_cases hnb : n = b
        · simp [hnb]
        · simp only [hnb, if_false] at ih ⊢
          by_cases hnm : n = m
          · subst hnm
            simp only [if_true] at ih ⊢
            rw [ih]
            have : ¬ n = b := hnb
            simp [this]
          · simp only [hnm, if_false] at ih ⊢
            exact ih
      · simp only [hma, if_false, lkp]
        by_cases hnm : n = m
        · subst hnm
          have : ¬ n = b := fun e => hbm e.symm
          simp [this, hma]
        · simp only [hnm, if_false]
          rw [ih]
          have : ¬ a = m := fun e => hma e.symm
          simp [this]

theorem ren_ok {a b : Nat} {s : St} (h : SR M0 M β st tm w) (hr : st.ren a b = some s) : SR M0 M (fun i => if i = b then β a else β i) s tm w ∧ ∀ i, (∃ o, s.obj i = some o) → (i = b ∧ ∃ o, st.obj a = some o) ∨ (i ≠ a ∧ i ≠ b ∧ ∃ o, st.obj i = some o) := by
  unfold St.ren at hr
  split at hr
  · exact absurd hr (by simp)
  · rename_i hb
    simp only [Option.some.injEq] at hr
    obtain ⟨hV, hC⟩ := h
    have hnb : ∀ i, (∃ o, st.obj i = some o) → i ≠ b := by
      rintro i ⟨o, ho⟩ rfl
      rw [St.obj, hb] at ho; simp at ho
    have hg : ∀ i, (∃ o, st.obj i = some o) → ∀ j, renG a b i = some j → (β i).same ((fun i => if i = b then β a else β i) j) := by
      intro i hi j hj
      simp only [renG] at hj
      split at hj
      · rename_i e
        simp only [Option.some.injEq] at hj; subst hj; subst e
        simp [Loc.same_refl]
      · simp only [Option.some.injEq] at hj; subst hj
        simp [hnb i hi, Loc.same_refl]
    have hget : ∀ t, s.get t = AV.sub (renG a b) (st.get t) := by
      intro t
      subst hr
      simp only [St.get, St.map, lkp_map]
      cases lkp t st.tmps with
      | none => simp [AV.sub]
      | some v => rfl
    have hobj : ∀ i, s.obj i = if i = b then (st.obj a).map (Obj.map (AV.sub (renG a b))) else if i = a then none else (st.obj i).map (Obj.map (AV.sub (renG a b))) := by
      intro i
      subst hr
      simp only [St.obj, St.map]
      have hb' : lkp b (st.objs.map fun p => (p.1, p.2.map (AV.sub (renG a b)))) = none := by rw [lkp_map, hb]; rfl
      have := lkp_renKey a b i _ hb'
      rw [show (fun p : Nat × Obj => (p.1, Obj.map (AV.sub fun i => if i = a then some b else some i) p.2)) = (fun p => (p.1, p.2.map (AV.sub (renG a b)))) from rfl]
      rw [this]
      by_cases e : i = b
      · subst e; simp only [if_true, lkp_map]
      · simp only [e, if_false]
        by_cases e2 : i = a
        · subst e2; simp [e]
        · simp only [e2, if_false, lkp_map]
    -- an object of the new state
    have hcase : ∀ i o, s.obj i = some o → ∃ k o0, st.obj k = some o0 ∧ o = o0.map (AV.sub (renG a b)) ∧ ((i = b ∧ k = a) ∨ (i ≠ a ∧ i ≠ b ∧ k = i)) := by
      intro i o ho
      rw [hobj] at ho
      split at ho
      · rename_i e
        simp only [Option.map_eq_some_iff] at ho
        obtain ⟨o0, h1, rfl⟩ := ho
        exact ⟨a, o0, h1, rfl, .inl ⟨e, rfl⟩⟩
      · rename_i e
        split at ho
        · exact absurd ho (by simp)
        · rename_i e2
          simp only [Option.map_eq_some_iff] at ho
          obtain ⟨o0, h1, rfl⟩ := ho
          exact ⟨i, o0, h1, rfl, .inr ⟨e2, e, rfl⟩⟩
    have hloc : ∀ i k, ((i = b ∧ k = a) ∨ (i ≠ a ∧ i ≠ b ∧ k = i)) → (if i = b then β a else β i) = β k := by
      rintro i k (⟨rfl, rfl⟩ | ⟨h1, h2, rfl⟩)
      · simp
      · simp [h2]
    have hdom : ∀ k, (∃ o, st.obj k = some o) → ∀ j, renG a b k = some j → ∃ o, s.obj j = some o := by
      rintro k ⟨o, ho⟩ j hj
      simp only [renG] at hj
      split at hj
      · rename_i e
        simp only [Option.some.injEq] at hj; subst hj; subst e
        exact ⟨_, by rw [hobj, if_pos rfl, ho]; rfl⟩
      · rename_i e
        simp only [Option.some.injEq] at hj; subst hj
        exact ⟨_, by rw [hobj, if_neg (hnb k ⟨o, ho⟩), if_neg e, ho]; rfl⟩
    refine ⟨⟨⟨hV.sup, hV.old, fun t => ?_, fun i o ho => ?_, fun i o ho => ?_, fun i i' o o' ho ho' hne => ?_⟩, fun t j hj => ?_, fun i o ho => ⟨⟨o, ho⟩, fun j hj => ?_⟩⟩, fun i hi => ?_⟩
    · show AVR _ w M (s.get t) _
      rw [hget]
      exact subg_ok _ _ (fun i hi => hg i (hC.1 t i hi)) (hV.slots t)
    · obtain ⟨k, o0, h1, rfl, h3⟩ := hcase i o ho
      show ObjR _ w M (if i = b then β a else β i) _
      rw [hloc i k h3]
      exact objmap_sub (fun i hi => hg i ((hC.2 k o0 h1).2 i hi)) (hV.objs k o0 h1)
    · obtain ⟨k, o0, h1, rfl, h3⟩ := hcase i o ho
      show ∀ x j, (if i = b then β a else β i).F x j → _
      rw [hloc i k h3]
      exact hV.own k o0 h1
    · obtain ⟨k, o0, h1, rfl, h3⟩ := hcase i o ho
      obtain ⟨k', o1, h1', rfl, h3'⟩ := hcase i' o' ho'
      show ∀ x j, (if i = b then β a else β i).F x j → ¬ (if i' = b then β a else β i').F x j
      rw [hloc i k h3, hloc i' k' h3']
      refine hV.disj k k' o0 o1 h1 h1' ?_
      rintro rfl
      rcases h3 with ⟨rfl, rfl⟩ | ⟨e1, e2, rfl⟩
      · rcases h3' with ⟨rfl, _⟩ | ⟨e1, e2, rfl⟩
        · exact hne rfl
        · exact e1 rfl
      · rcases h3' with ⟨rfl, rfl⟩ | ⟨f1, f2, rfl⟩
        · exact e1 rfl
        · exact hne rfl
    · have hj' : j ∈ (s.get t).refs := hj
      rw [hget] at hj'
      obtain ⟨i, h1, h2⟩ := subg_refs _ j hj'
      exact hdom i (hC.1 t i h1) j h2
    · obtain ⟨k, o0, h1, rfl, h3⟩ := hcase i o ho
      obtain ⟨i', h4, h5⟩ := objmap_refs j hj
      exact hdom i' ((hC.2 k o0 h1).2 i' h4) j h5
    · obtain ⟨o, ho⟩ := hi
      obtain ⟨k, o0, h1, _, h3⟩ := hcase i o ho
      rcases h3 with ⟨rfl, rfl⟩ | ⟨e1, e2, rfl⟩
      · exact .inl ⟨rfl, o0, h1⟩
      · exact .inr ⟨e1, e2, o0, h1⟩


/-- The same world, another state. -/
def Pass (M0 : Cells) (tm : Array Value) (w : World) (st st' : St) : Prop :=
  ∀ M β, SR M0 M β st tm w → ∃ M' β', SR M0 M' β' st' tm w ∧ (∀ b j, M' b j → M b j) ∧ ∀ id o, id % 2 = 1 → st'.obj id = some o → (∃ o', st.obj id = some o') ∧ (β id).same (β' id)

theorem Pass.refl (st : St) : Pass M0 tm w st st := fun M β h => ⟨M, β, h, fun _ _ h => h, fun id o _ ho => ⟨⟨o, ho⟩, Loc.same_refl _⟩⟩
theorem Pass.trans {s1 s2 s3 : St} (h : Pass M0 tm w s1 s2) (k : Pass M0 tm w s2 s3) : Pass M0 tm w s1 s3 := by
  intro M β hS
  obtain ⟨M', β', a1, a2, a3⟩ := h M β hS
  obtain ⟨M'', β'', b1, b2, b3⟩ := k M' β' a1
  refine ⟨M'', β'', b1, fun b j hb => a2 b j (b2 b j hb), fun id o hid ho => ?_⟩
  obtain ⟨⟨o', ho'⟩, hs⟩ := b3 id o hid ho
  obtain ⟨ho'', hs'⟩ := a3 id o' hid ho'
  exact ⟨ho'', hs'.trans hs⟩

theorem pass_freezeAll {ids : List Nat} {s : St} (h : freezeAll ids st = some s) : Pass M0 tm w st s := by
  intro M β hS
  obtain ⟨Mf, k1, k2, k3⟩ := freezeAll_ok ids hS h
  exact ⟨Mf, β, k1, fun b j hb => ((k2 b j).1 hb).1, fun id o _ ho => ⟨((k3 id).1 ⟨o, ho⟩).2, Loc.same_refl _⟩⟩

theorem pass_killAll (ids : List Nat) : Pass M0 tm w st (killAll ids st) := by
  intro M β hS
  obtain ⟨k1, k2⟩ := killAll_ok ids hS
  exact ⟨M, β, k1, fun _ _ h => h, fun id o _ ho => ⟨((k2 id).1 ⟨o, ho⟩).2, Loc.same_refl _⟩⟩

theorem pass_ren {a b : Nat} {s : St} (hb : b % 2 = 0) (h : st.ren a b = some s) : Pass M0 tm w st s := by
  intro M β hS
  obtain ⟨k1, k2⟩ := ren_ok hS h
  refine ⟨M, _, k1, fun _ _ h => h, fun id o hid ho => ?_⟩
  rcases k2 id ⟨o, ho⟩ with ⟨rfl, _⟩ | ⟨e1, e2, e3⟩
  · omega
  · exact ⟨e3, by simp [e2, Loc.same_refl]⟩

/-- Less is known. -/
theorem pass_sub {s : St} (h1 : ∀ t, s.get t = st.get t ∨ s.get t = .undef) (h2 : ∀ i o, s.obj i = some o → st.obj i = some o) (hc : ClosedIn (fun id => ∃ o, s.obj id = some o) s.view) : Pass M0 tm w st s := by
  rintro M β ⟨hV, hC⟩
  refine ⟨M, β, ⟨⟨hV.sup, hV.old, fun t => ?_, fun i o ho => hV.objs i o (h2 i o ho), fun i o ho => hV.own i o (h2 i o ho), fun i i' o o' ho ho' => hV.disj i i' o o' (h2 i o ho) (h2 i' o' ho')⟩, hc⟩, fun _ _ h => h, fun id o _ ho => ⟨⟨o, h2 id o ho⟩, Loc.same_refl _⟩⟩
  show AVR β w M (s.get t) _
  rcases h1 t with h | h
  · rw [h]; exact hV.slots t
  · rw [h]; simp only [AVR]

theorem lkp_filter {α : Type} (f : Nat → Bool) (n : Nat) : ∀ (l : List (Nat × α)), lkp n (l.filter fun p => f p.1) = if f n then lkp n l else none
  | [] => by simp [lkp]
  | (m, x) :: r => by
    have ih := lkp_filter f n r
    by_cases hm : f m
    · rw [List.filter_cons_of_pos (by simpa using hm)]
      simp only [lkp]
      by_cases e : n = m
      · subst e; simp [hm]
      · simp only [e, if_false]; exact ih
    · rw [List.filter_cons_of_neg (by simpa using hm), ih]
      simp only [lkp]
      by_cases e : n = m
      · subst e; simp [hm]
      · simp [e]

theorem lkp_mem' {α : Type} {n : Nat} {a : α} {l : List (Nat × α)} (h : lkp n l = some a) : (n, a) ∈ l := lkp_mem h

theorem closedB_ok {s : St} (h : closedB s = true) : ClosedIn (fun id => ∃ o, s.obj id = some o) s.view := by
  simp only [closedB, Bool.and_eq_true, List.all_eq_true, Option.isSome_iff_exists] at h
  obtain ⟨h1, h2⟩ := h
  refine ⟨fun t i hi => ?_, fun id o ho => ⟨⟨o, ho⟩, fun i hi => ?_⟩⟩
  · have hi' : i ∈ (s.get t).refs := hi
    simp only [St.get] at hi'
    cases hl : lkp t s.tmps with
    | none => rw [hl] at hi'; simp [AV.refs] at hi'
    | some v =>
      rw [hl] at hi'
      exact h1 (t, v) (lkp_mem hl) i (by rw [ids_refs]; exact hi')
  · have hm := lkp_mem (show lkp id s.objs = some o from ho)
    have := h2 (id, o) hm
    cases o with
    | box cs =>
      simp only [List.all_eq_true, Option.isSome_iff_exists] at this
      exact this i (by rw [idsL_refsL]; exact hi)
    | buf _ _ => simp [Obj.refs] at hi
    | bld _ => simp [Obj.refs] at hi

theorem lkp_canon {α : Type} (n : Nat) (l : List (Nat × α)) : ∀ ts : List Nat, lkp n (ts.filterMap fun t => (lkp t l).map fun v => (t, v)) = if n ∈ ts then lkp n l else none
  | [] => by simp [lkp]
  | t :: ts => by
    have ih := lkp_canon n l ts
    rw [List.filterMap_cons]
    cases ht : lkp t l with
    | none =>
      simp only [Option.map_none, ih, List.mem_cons]
      by_cases e : n = t
      · subst e; simp [ht]
      · simp [e]
    | some v =>
      simp only [Option.map_some, lkp, ih, List.mem_cons]
      by_cases e : n = t
      · subst e; simp [ht]
      · simp [e]

theorem pass_trim {ts : List Nat} {s : St} (h : trim ts st = some s) : Pass M0 tm w st s := by
  unfold trim at h
  simp only at h
  split at h
  · rename_i hc
    simp only [Option.some.injEq] at h
    refine pass_sub (fun t => ?_) (fun i o ho => ?_) (by rw [← h]; exact closedB_ok hc)
    · rw [← h]
      simp only [St.get]
      rw [lkp_canon]
      by_cases e : t ∈ ts
      · rw [if_pos e]; exact .inl rfl
      · rw [if_neg e]; exact .inr rfl
    · rw [← h] at ho
      generalize reach st.objs 4 (AV.idsL (List.map (fun x => x.2) (ts.filterMap fun t => (lkp t st.tmps).map fun v => (t, v))) ++ oddIds st.objs) = ids at ho
      have ho' := (lkp_filter (fun n => ids.contains n || n % 2 == 1) i st.objs).symm.trans ho
      split at ho'
      · exact ho'
      · exact absurd ho' (by simp)
  · exact absurd h (by simp)

theorem lkp_ins (k n : Nat) (o : Obj) : ∀ l : List (Nat × Obj), lkp n (insObj k o l) = if n = k then some o else lkp n l
  | [] => by simp [insObj, lkp]
  | (j, p) :: r => by
    simp only [insObj]
    split
    · rename_i hlt
      simp only [lkp]
      rw [lkp_ins k n o r]
      by_cases e : n = j
      · subst e
        have : ¬ n = k := by omega
        simp [this]
      · simp [e]
    · simp only [lkp]
theorem lkp_sort (n : Nat) : ∀ l : List (Nat × Obj), lkp n (sortObjs l) = lkp n l
  | [] => rfl
  | (k, o) :: r => by simp only [sortObjs, lkp_ins, lkp, lkp_sort n r]

theorem pass_canon (ts : List Nat) : Pass M0 tm w st (canon ts st) := by
  intro M β hS
  have hg : ∀ t, (canon ts st).get t = st.get t ∨ (canon ts st).get t = .undef := by
    intro t
    simp only [St.get, canon, lkp_canon]
    by_cases e : t ∈ ts
    · simp [e]
    · simp [e]
  have ho : ∀ i, (canon ts st).obj i = st.obj i := fun i => by simp only [St.obj, canon, lkp_sort]
  refine pass_sub hg (fun i o h => by rw [← ho]; exact h) ⟨fun t i hi => ?_, fun id o h => ⟨⟨o, h⟩, fun i hi => ?_⟩⟩ M β hS
  · have hi' : i ∈ ((canon ts st).get t).refs := hi
    rcases hg t with h | h
    · rw [h] at hi'; simp only [ho]; exact hS.2.1 t i hi'
    · rw [h] at hi'; simp [AV.refs] at hi'
  · have h' : (canon ts st).obj id = some o := h
    rw [ho] at h'
    simp only [ho]
    exact (hS.2.2 id o h').2 i hi

theorem pass_renSlots : ∀ (ts : List Nat) {st s : St}, renSlots ts st = some s → Pass M0 tm w st s
  | [], st, s, h => by simp only [renSlots, Option.some.injEq] at h; subst h; exact Pass.refl _
  | t :: r, st, s, h => by
    simp only [renSlots] at h
    split at h
    · split at h
      · exact pass_renSlots r h
      · split at h
        · rename_i s1 h1
          exact (pass_ren (dstId_even t) h1).trans (pass_renSlots r h)
        · exact absurd h (by simp)
    · exact pass_renSlots r h
theorem pass_renCells (id : Nat) : ∀ (j : Nat) (cs : List AV) {st s : St}, renCells id j cs st = some s → Pass M0 tm w st s
  | j, [], st, s, h => by simp only [renCells, Option.some.injEq] at h; subst h; exact Pass.refl _
  | j, v :: r, st, s, h => by
    cases v <;> simp only [renCells] at h <;> try (exact pass_renCells id (j + 1) r h)
    split at h
    · exact pass_renCells id (j + 1) r h
    · split at h
      · rename_i s1 h1
        exact (pass_ren (cellId_even id j) h1).trans (pass_renCells id (j + 1) r h)
      · exact absurd h (by simp)
theorem pass_renBoxes : ∀ (ts : List Nat) {st s : St}, renBoxes ts st = some s → Pass M0 tm w st s
  | [], st, s, h => by simp only [renBoxes, Option.some.injEq] at h; subst h; exact Pass.refl _
  | t :: r, st, s, h => by
    simp only [renBoxes] at h
    split at h
    · split at h
      · split at h
        · rename_i s1 h1
          exact (pass_renCells _ _ _ h1).trans (pass_renBoxes r h)
        · exact absurd h (by simp)
      · exact pass_renBoxes r h
    · exact pass_renBoxes r h


theorem nil_row (β : Nat → Loc) (w : World) (M : Cells) {sz : Nat} (h : sz ≠ 0) : ObjR β w M ⟨none, 0, 0, sz, 0, none⟩ (.buf sz []) :=
  ⟨rfl, by omega, rfl, Nat.le_refl _, by simp, ⟨rfl, fun b o hb => by simp at hb⟩, fun _ => rfl, by simp, by simp⟩

theorem add_one {id : Nat} {ob : Obj} {s : St} (h : st.add [(id, ob)] = some s) : s.tmps = st.tmps ∧ st.obj id = none ∧ ∀ i, s.obj i = if i = id then some ob else st.obj i := by
  obtain ⟨k1, k2, k3, k4⟩ := add_spec _ h
  refine ⟨k1, k3 id (by simp), fun i => ?_⟩
  rw [k4]
  simp only [lkp]
  by_cases e : i = id <;> simp [e]

/-- A nil slice is a row of the call's own that has no room. -/
theorem pass_row {id sz : Nat} {s : St} (h0 : sz ≠ 0) (hid : id % 2 = 0) (h : st.add [(id, .buf sz [])] = some s) : ∀ M β, SR M0 M β st tm w → ∃ β', SR M0 M β' s tm w ∧ β' id = ⟨none, 0, 0, sz, 0, none⟩ ∧ ∀ i, i ≠ id → β' i = β i := by
  rintro M β ⟨hV, hC⟩
  obtain ⟨h1, h2, h3⟩ := add_one h
  have hn : ∀ i, (∃ o, st.obj i = some o) → i ≠ id := by rintro i ⟨o, ho⟩ rfl; rw [h2] at ho; simp at ho
  have hk : ∀ b o v, at_ w b o = some v → ¬ M b o → at_ w b o = some v ∧ ¬ M b o := fun b o v h1 h2 => ⟨h1, h2⟩
  refine ⟨fun i => if i = id then ⟨none, 0, 0, sz, 0, none⟩ else β i, ⟨⟨hV.sup, hV.old, fun t => ?_, fun i o ho => ?_, fun i o ho b j hF => ?_, fun i i' o o' ho ho' hne b j hF => ?_⟩, fun t i hi => ?_, fun i o ho => ⟨⟨o, ho⟩, fun i' hi => ?_⟩⟩, by simp, fun i hi => by simp [hi]⟩
  · show AVR _ w M (s.get t) _
    have : s.get t = st.get t := by simp only [St.get, h1]
    rw [this]
    refine AVR.mono hk _ _ (fun i hi => ?_) (hV.slots t)
    simp [hn i (hC.1 t i hi), Loc.same_refl]
  · have ho' : s.obj i = some o := ho
    rw [h3] at ho'
    split at ho'
    · rename_i e
      simp only [Option.some.injEq] at ho'; subst ho'; subst e
      simp only [if_true]
      exact nil_row _ w M h0
    · rename_i e
      simp only [e, if_false]
      exact ObjR.mono hk (fun _ _ _ _ h => ⟨h, rfl⟩) (fun _ _ h => h) (fun _ _ _ => rfl) (fun _ h => h) (fun i' hi' => by simp [hn i' ((hC.2 i o ho').2 i' hi'), Loc.same_refl]) (hV.objs i o ho')
  · have ho' : s.obj i = some o := ho
    rw [h3] at ho'
    by_cases e : i = id
    · simp only [e, if_true, Loc.F] at hF
      rcases hF with ⟨_, h, _⟩ | ⟨_, h, _⟩ <;> simp at h
    · simp only [e, if_false] at hF ho'
      exact hV.own i o ho' b j hF
  · have ho1 : s.obj i = some o := ho
    have ho2 : s.obj i' = some o' := ho'
    rw [h3] at ho1 ho2
    by_cases e : i = id
    · simp only [e, if_true, Loc.F] at hF
      rcases hF with ⟨_, h, _⟩ | ⟨_, h, _⟩ <;> simp at h
    · simp only [e, if_false] at hF ho1
      by_cases e' : i' = id
      · simp only [e', if_true, Loc.F]
        rintro (⟨_, h, _⟩ | ⟨_, h, _⟩) <;> simp at h
      · simp only [e', if_false] at ho2 ⊢
        exact hV.disj i i' o o' ho1 ho2 hne b j hF
  · have hi' : i ∈ (st.get t).refs := by have : s.get t = st.get t := by simp only [St.get, h1]
                                         rw [← this]; exact hi
    obtain ⟨o, ho⟩ := hC.1 t i hi'
    exact ⟨o, by rw [h3, if_neg (hn i ⟨o, ho⟩)]; exact ho⟩
  · have ho' : s.obj i = some o := ho
    rw [h3] at ho'
    split at ho'
    · simp only [Option.some.injEq] at ho'; subst ho'; simp [Obj.refs] at hi
    · obtain ⟨o1, ho1⟩ := (hC.2 i o ho').2 i' hi
      exact ⟨o1, by rw [h3, if_neg (hn i' ⟨o1, ho1⟩)]; exact ho1⟩

theorem pass_promote : ∀ (l : List (Nat × Option Nat × Nat)) {st s : St}, promote l st = some s → Pass M0 tm w st s
  | [], st, s, h => by simp only [promote, Option.some.injEq] at h; subst h; exact Pass.refl _
  | (t, none, sz) :: r, st, s, h => by
    simp only [promote] at h
    split at h
    · exact absurd h (by simp)
    · rename_i h0
      split at h
      · rename_i hget
        split at h
        · rename_i s1 h1
          refine Pass.trans ?_ (pass_promote r h)
          intro M β hS
          obtain ⟨β', k1, k2, k3⟩ := pass_row h0 (dstId_even t) h1 M β hS
          obtain ⟨a1, a2, a3⟩ := add_one h1
          refine ⟨M, β', ⟨⟨k1.1.sup, k1.1.old, fun t' => ?_, k1.1.objs, k1.1.own, k1.1.disj⟩, fun t' i hi => ?_, k1.2.2⟩, fun _ _ h => h, fun id o hid ho => ?_⟩
          · show AVR β' w M ((s1.put t (.own (dstId t))).get t') _
            rw [put_get]
            split
            · rename_i e
              subst e
              simp only [AVR, k2]
              have := hS.1.slots t'
              have hg : st.view.get t' = .nilSl := hget
              rw [hg] at this
              simp only [AVR] at this
              exact this
            · exact k1.1.slots t'
          · have hi' : i ∈ ((s1.put t (.own (dstId t))).get t').refs := hi
            rw [put_get] at hi'
            split at hi'
            · simp only [AV.refs, List.mem_singleton] at hi'; subst hi'
              exact ⟨_, by show s1.obj _ = _; rw [a3, if_pos rfl]⟩
            · exact k1.2.1 t' i hi'
          · have ho' : s1.obj id = some o := ho
            have hne : id ≠ dstId t := fun e => by have := dstId_even t; omega
            rw [a3, if_neg hne] at ho'
            exact ⟨⟨o, ho'⟩, by rw [k3 id hne]; exact Loc.same_refl _⟩
        · exact absurd h (by simp)
      · exact pass_promote r h
  | (t, some j, sz) :: r, st, s, h => by
    simp only [promote] at h
    split at h
    · exact absurd h (by simp)
    · rename_i h0
      split at h
      · rename_i id hget
        split at h
        · rename_i cs hob
          split at h
          · rename_i hcell
            split at h
            · rename_i s1 h1
              refine Pass.trans ?_ (pass_promote r h)
              intro M β hS
              obtain ⟨β', k1, k2, k3⟩ := pass_row h0 (cellId_even id j) h1 M β hS
              obtain ⟨a1, a2, a3⟩ := add_one h1
              have hne : id ≠ cellId id j := fun e => by rw [← e, hob] at a2; simp at a2
              have hob1 : s1.obj id = some (.box cs) := by rw [a3, if_neg hne]; exact hob
              have hold : ∀ i o, (s1.upd id (.box (cs.set j (.own (cellId id j))))).obj i = some o → (i = id ∧ o = .box (cs.set j (.own (cellId id j)))) ∨ (i ≠ id ∧ s1.obj i = some o) := by
                intro i o ho
                rw [upd_obj] at ho
                split at ho
                · rename_i e; simp only [Option.some.injEq] at ho; exact .inl ⟨e, ho.symm⟩
                · rename_i e; exact .inr ⟨e, ho⟩
              have hex : ∀ i, (∃ o, (s1.upd id (.box (cs.set j (.own (cellId id j))))).obj i = some o) ↔ ∃ o, s1.obj i = some o := by
                intro i
                rw [upd_obj]
                by_cases e : i = id
                · subst e; simp [hob1]
                · simp [e]
              have hown : ∀ i o, (s1.upd id (.box (cs.set j (.own (cellId id j))))).obj i = some o → ∃ o', s1.obj i = some o' := fun i o ho => (hex i).1 ⟨o, ho⟩
              refine ⟨M, β', ⟨⟨k1.1.sup, k1.1.old, fun t' => k1.1.slots t', fun i o ho => ?_, fun i o ho => ?_, fun i i' o o' ho ho' => ?_⟩, fun t' i hi => (hex i).2 (k1.2.1 t' i hi), fun i o ho => ⟨⟨o, ho⟩, fun i' hi => ?_⟩⟩, fun _ _ h => h, fun i o hid ho => ?_⟩
              · rcases hold i o ho with ⟨rfl, rfl⟩ | ⟨hi, ho1⟩
                · obtain ⟨b, p, q1, q2, q3, q4⟩ := k1.1.objs i _ hob1
                  refine ⟨b, p, q1, by simpa using q2, q3, fun x v hx => ?_⟩
                  rw [List.getElem?_set] at hx
                  split at hx
                  · rename_i e
                    subst e
                    split at hx
                    · simp only [Option.some.injEq] at hx; subst hx
                      obtain ⟨c, c1, c2, c3, c4⟩ := q4 j _ hcell
                      refine ⟨c, c1, c2, c3, ?_⟩
                      simp only [AVR] at c4 ⊢
                      rw [k2]; exact c4
                    · exact absurd hx (by simp)
                  · exact q4 x v hx
                · exact k1.1.objs i o ho1
              · obtain ⟨o', ho'⟩ := hown i o ho
                exact k1.1.own i o' ho'
              · obtain ⟨o1, ho1⟩ := hown i o ho
                obtain ⟨o2, ho2⟩ := hown i' o' ho'
                exact k1.1.disj i i' o1 o2 ho1 ho2
              · show ∃ o, (s1.upd id (.box (cs.set j (.own (cellId id j))))).obj i' = some o
                rw [hex]
                rcases hold i o ho with ⟨rfl, rfl⟩ | ⟨hi1, ho1⟩
                · simp only [Obj.refs] at hi
                  obtain ⟨v, hv, hi⟩ := refsL_mem.1 hi
                  rcases List.mem_or_eq_of_mem_set hv with hv | rfl
                  · exact (k1.2.2 i _ hob1).2 i' (by simp only [Obj.refs]; exact refsL_mem.2 ⟨v, hv, hi⟩)
                  · simp only [AV.refs, List.mem_singleton] at hi; subst hi
                    exact ⟨_, by rw [a3, if_pos rfl]⟩
                · exact (k1.2.2 i o ho1).2 i' hi
              · obtain ⟨o', ho'⟩ := hown i o ho
                have hne' : i ≠ cellId id j := fun e => by have := cellId_even id j; omega
                rw [a3, if_neg hne'] at ho'
                exact ⟨⟨o', ho'⟩, by rw [k3 i hne']; exact Loc.same_refl _⟩
            · exact absurd h (by simp)
          · exact pass_promote r h
        · exact pass_promote r h
      · exact pass_promote r h

theorem pass_norm {x : List Nat × List Nat × List (Nat × Option Nat × Nat)} {s : St} (h : norm x st = some s) : Pass M0 tm w st s := by
  unfold norm at h
  split at h
  · rename_i s1 h1
    split at h
    · rename_i s2 h2
      split at h
      · rename_i s3 h3
        split at h
        · rename_i s4 h4
          split at h
          · rename_i s5 h5
            simp only [Option.some.injEq] at h; subst h
            exact ((((pass_trim h1).trans (pass_freezeAll h2)).trans (pass_renSlots _ h3)).trans (pass_renBoxes _ h4)).trans ((pass_promote _ h5).trans (pass_canon _))
          · exact absurd h (by simp)
        · exact absurd h (by simp)
      · exact absurd h (by simp)
    · exact absurd h (by simp)
  · exact absurd h (by simp)

theorem pass_freezeSlots : ∀ (ts : List Nat) {st s : St}, freezeSlots ts st = some s → Pass M0 tm w st s
  | [], st, s, h => by simp only [freezeSlots, Option.some.injEq] at h; subst h; exact Pass.refl _
  | t :: r, st, s, h => by
    have one : ∀ {i : Nat} {s1 : St}, st.freeze i = some s1 → Pass M0 tm w st s1 := fun {i s1} hf M β hS =>
      ⟨_, β, freeze_ok hS hf, fun b j h => h.1, fun id o _ ho => ⟨((freeze_dom hf id).1 ⟨o, ho⟩).2, Loc.same_refl _⟩⟩
    simp only [freezeSlots] at h
    split at h
    · split at h
      · rename_i s1 h1
        exact (one h1).trans (pass_freezeSlots r h)
      · exact absurd h (by simp)
    · split at h
      · rename_i s1 h1
        exact (one h1).trans (pass_freezeSlots r h)
      · exact absurd h (by simp)
    · exact pass_freezeSlots r h

end
end Go.Proofs.YtbnjbianobdleaaGreat.Vm

/-
  An operation that sees more does the same.
-/
namespace Go.Proofs.YtbnjbianobdleaaGreat.Vm
open Go
set_option linter.unusedVariables false
set_option linter.unusedSimpArgs false

section
variable {V V' : View}

theorem asList_le (L : ∀ id ob, V.obj id = some ob → V'.obj id = some ob) {v : AV} {l : List (List PV)} (h : asList V v = some l) : asList V' v = some l := by
  unfold asList at h ⊢
  split at h
  · exact h
  · exact h
  · split at h
    · rename_i hob; rw [L _ _ hob]; exact h
    · exact absurd h (by simp)
  · split at h
    · rename_i hob; rw [L _ _ hob]; exact h
    · exact absurd h (by simp)
  · exact absurd h (by simp)

theorem evalAll_eq : ∀ {xs : List Operand}, (∀ x ∈ xs, V.eval x = V'.eval x) → evalAll V xs = evalAll V' xs
  | [], _ => rfl
  | x :: xs, h => by
    simp only [evalAll]
    rw [h x (by simp), evalAll_eq (fun y hy => h y (by simp [hy]))]
theorem evalOpt_eq {o : Option Operand} (h : ∀ x, o = some x → V.eval x = V'.eval x) : evalOpt V o = evalOpt V' o := by
  cases o with
  | none => rfl
  | some x => simp only [evalOpt]; rw [h x rfl]
theorem buildParts_eq : ∀ {ps : List (Nat × Operand)}, (∀ p ∈ ps, V.eval p.2 = V'.eval p.2) → buildParts V ps = buildParts V' ps
  | [], _ => rfl
  | (i, x) :: ps, h => by
    simp only [buildParts]
    rw [h (i, x) (by simp), buildParts_eq (fun y hy => h y (by simp [hy]))]

theorem vconv_le (L : ∀ id ob, V.obj id = some ob → V'.obj id = some ob) {P : Program} {d : Nat} {s t : TypeId} {x : AV} {r : AV × List (Nat × Obj)} (h : vconv P d s t x V = some r) : vconv P d s t x V' = some r := by
  unfold vconv at h ⊢
  split at h
  · exact h
  · split at h
    · exact h
    · split at h
      · rename_i es h1 h2
        rw [asList_le L h2, h1]; exact h
      · exact absurd h (by simp)
    · exact absurd h (by simp)
  · exact h
  · exact absurd h (by simp)

theorem opQ_le {P : Program} {bt : TypeId} {d : Nat} {o : Op} {r : AV × List (Nat × Obj)} (E : ∀ x ∈ o.operands.toList, V.eval x = V'.eval x) (L : ∀ id ob, V.obj id = some ob → V'.obj id = some ob) (h : opQ P bt d o V = some r) : opQ P bt d o V' = some r := by
  cases o
  case move x => simp only [opQ] at h ⊢; rw [← E x (by simp [Op.operands])]; exact h
  case assign x => simp only [opQ] at h ⊢; rw [← E x (by simp [Op.operands])]; exact h
  case pick c x y =>
    simp only [opQ] at h ⊢; rw [← E c (by simp [Op.operands])]
    split at h
    · rename_i t hc
      have : V'.eval (if t = true then x else y) = V.eval (if t = true then x else y) := by cases t <;> simp [E x (by simp [Op.operands]), E y (by simp [Op.operands])]
      rw [this]; exact h
    · exact absurd h (by simp)
  case alloc t => simpa only [opQ] using h
  case box t x => simp only [opQ] at h ⊢; rw [← E x (by simp [Op.operands])]; exact h
  case build t ps => simp only [opQ] at h ⊢; rw [← buildParts_eq (fun p hp => E p.2 (by simp only [Op.operands, List.toList_toArray]; exact List.mem_map_of_mem hp))]; exact h
  case buildSlice t n ps => simp only [opQ] at h ⊢; rw [← buildParts_eq (fun p hp => E p.2 (by simp only [Op.operands, List.toList_toArray]; exact List.mem_map_of_mem hp))]; exact h
  case load t x =>
    simp only [opQ] at h ⊢
    split at h
    · exact absurd h (by simp)
    · rename_i ht
      rw [if_neg ht, ← E x (by simp [Op.operands])]
      split at h
      · split at h
        · rename_i hob; rw [L _ _ hob]; exact h
        · rename_i hob; rw [L _ _ hob]; exact h
        · exact absurd h (by simp)
      · exact h
      · exact absurd h (by simp)
  case nilCheck x => simp only [opQ] at h ⊢; rw [← E x (by simp [Op.operands])]; exact h
  case binOp op t x y u => simp only [opQ] at h ⊢; rw [← E x (by simp [Op.operands]), ← E y (by simp [Op.operands])]; exact h
  case unOp op t x => simp only [opQ] at h ⊢; rw [← E x (by simp [Op.operands])]; exact h
  case convert s t x =>
    simp only [opQ] at h ⊢; rw [← E x (by simp [Op.operands])]
    split at h
    · exact vconv_le L h
    · exact absurd h (by simp)
  case makeFunc f a b =>
    cases f <;> simp only [opQ] at h ⊢ <;> try (cases h; done)
    rw [← evalAll_eq (xs := a.toList) (fun x hx => E x (by simp only [Op.operands, Array.toList_append]; exact List.mem_append.2 (.inl hx))), ← evalAll_eq (xs := b.toList) (fun x hx => E x (by simp only [Op.operands, Array.toList_append]; exact List.mem_append.2 (.inr hx)))]
    exact h
  case makeSlice t x y => simp only [opQ] at h ⊢; rw [← E x (by simp [Op.operands]), ← E y (by simp [Op.operands])]; exact h
  case slice t x lo hi mx =>
    cases mx with
    | some m => simp only [opQ] at h; cases h
    | none =>
      simp only [opQ] at h ⊢
      rw [← E x (by simp [Op.operands]), ← evalOpt_eq (o := lo) (fun y hy => E y (by subst hy; simp [Op.operands])), ← evalOpt_eq (o := hi) (fun y hy => E y (by subst hy; simp [Op.operands]))]
      split at h
      · exact h
      · split at h
        · exact absurd h (by simp)
        · rename_i hok
          rw [if_neg hok]
          split at h
          · exact h
          · exact h
          · split at h
            · rename_i hob; simp only [L _ _ hob]; exact h
            · exact absurd h (by simp)
          · split at h
            · rename_i hob; simp only [L _ _ hob]; exact h
            · exact absurd h (by simp)
          · exact absurd h (by simp)
      · exact absurd h (by simp)
  case fieldAddr t x f => simp only [opQ] at h ⊢; rw [← E x (by simp [Op.operands])]; exact h
  case field t x f => simp only [opQ] at h ⊢; rw [← E x (by simp [Op.operands])]; exact h
  case indexAddr t x y =>
    simp only [opQ] at h ⊢; rw [← E x (by simp [Op.operands]), ← E y (by simp [Op.operands])]
    split at h
    · split at h
      · rename_i hob; simp only [L _ _ hob]; exact h
      · exact absurd h (by simp)
    · split at h
      · rename_i hob; simp only [L _ _ hob]; exact h
      · exact absurd h (by simp)
    · exact h
    · exact absurd h (by simp)
  case index t x y => simp only [opQ] at h ⊢; rw [← E x (by simp [Op.operands]), ← E y (by simp [Op.operands])]; exact h
  case extract x i => simp only [opQ] at h ⊢; rw [← E x (by simp [Op.operands])]; exact h
  case call c =>
    obtain ⟨callee, as, ts⟩ := c
    cases callee with
    | value f => simp only [opQ] at h; cases h
    | invoke r m => simp only [opQ] at h; cases h
    | builtin b =>
      have hx : ∀ x ∈ as.toList, V.eval x = V'.eval x := fun x hx => E x (by simp only [Op.operands, Call.operands, Array.toList_append]; exact List.mem_append.2 (.inr hx))
      cases b <;> simp only [opQ] at h ⊢ <;> try (cases h; done)
      · split at h
        · rename_i x t tr h1 h2
          rw [← hx x (by rw [h1]; simp)]
          split at h
          · exact h
          · rename_i v hu hv
            split at h
            · rename_i l hl
              simp only [asList_le L hl]; exact h
            · exact absurd h (by simp)
          · exact absurd h (by simp)
        · exact absurd h (by simp)
      · rw [← evalAll_eq hx]; exact h
      · rw [← evalAll_eq hx]; exact h
  all_goals (simp only [opQ] at h; cases h)


theorem rowOf_le (L : ∀ id ob, V.obj id = some ob → V'.obj id = some ob) {sz : Nat} {x : Operand} (E : V.eval x = V'.eval x) {r : List (List PV) × Option Nat} (h : rowOf sz V x = some r) : rowOf sz V' x = some r := by
  unfold rowOf at h ⊢
  simp only at h ⊢
  rw [← E]
  split at h
  · exact h
  · split at h
    · rename_i hob; simp only [L _ _ hob]; exact h
    · exact absurd h (by simp)
  · exact absurd h (by simp)
theorem behind_le (L : ∀ id ob, V.obj id = some ob → V'.obj id = some ob) {P : Program} {u : TypeId} {x : Operand} (E : V.eval x = V'.eval x) {r : List (List PV)} (h : behind P u V x = some r) : behind P u V' x = some r := by
  unfold behind at h ⊢
  rw [← E]
  split at h
  · exact h
  · exact asList_le L h
  · exact absurd h (by simp)
theorem rowIn_le (L : ∀ id ob, V.obj id = some ob → V'.obj id = some ob) {sz : Nat} {x : AV} {r : Nat × Nat × Nat × List (List PV)} (h : rowIn sz V x = some r) : rowIn sz V' x = some r := by
  unfold rowIn at h ⊢
  split at h
  · split at h
    · rename_i hob; simp only [L _ _ hob]; exact h
    · exact absurd h (by simp)
  · split at h
    · rename_i hob; simp only [L _ _ hob]; exact h
    · exact absurd h (by simp)
  · exact absurd h (by simp)

theorem opA_le {P : Program} {d : Nat} {o : Op} {r : AV × List (Nat × Obj) × Option Nat} (E : ∀ x ∈ o.operands.toList, V.eval x = V'.eval x) (L : ∀ id ob, V.obj id = some ob → V'.obj id = some ob) (h : opA P d o V = some r) : opA P d o V' = some r := by
  unfold opA at h ⊢
  split at h
  · rename_i as ts
    have hx : ∀ x ∈ as.toList, V.eval x = V'.eval x := fun x hx => E x (by simp only [Op.operands, Call.operands, Array.toList_append]; exact List.mem_append.2 (.inr hx))
    split at h
    · rename_i x y t u h1 h2
      split at h
      · split at h
        · rename_i ha hb
          rw [rowOf_le L (hx x (by rw [h1]; simp)) ha, behind_le L (hx y (by rw [h1]; simp)) hb]
          exact h
        · exact absurd h (by simp)
      · exact absurd h (by simp)
    · exact absurd h (by simp)
  · exact absurd h (by simp)

theorem opL_le {P : Program} {o : Op} {r : Made} (E : ∀ x ∈ o.operands.toList, V.eval x = V'.eval x) (L : ∀ id ob, V.obj id = some ob → V'.obj id = some ob) (h : opL P o V = some r) : opL P o V' = some r := by
  unfold opL at h ⊢
  split at h
  · rename_i t a x
    rw [← E a (by simp [Op.operands]), ← E x (by simp [Op.operands])]
    split at h
    · split at h
      · rename_i hc
        rw [if_pos hc]
        split at h
        · rename_i hob; simp only [L _ _ hob]; exact h
        · rename_i hob; simp only [L _ _ hob]; exact h
        · exact absurd h (by simp)
      · exact absurd h (by simp)
    · exact absurd h (by simp)
  · rename_i as ts
    have hx : ∀ x ∈ as.toList, V.eval x = V'.eval x := fun x hx => E x (by simp only [Op.operands, Call.operands, Array.toList_append]; exact List.mem_append.2 (.inr hx))
    split at h
    · rename_i x y t u h1 h2
      rw [← hx x (by rw [h1]; simp)]
      split at h
      · split at h
        · rename_i ha hb
          rw [rowIn_le L ha, behind_le L (hx y (by rw [h1]; simp)) hb]
          exact h
        · exact absurd h (by simp)
      · exact absurd h (by simp)
    · exact absurd h (by simp)
  · exact absurd h (by simp)

theorem leafTVs_le {g g' : AV → Option (TV × List Nat × Option Back)} (hg : ∀ v r, g v = some r → g' v = some r) : ∀ (vs : List AV) (r : List TV × List Nat × List (Option Back)), leafTVs g vs = some r → leafTVs g' vs = some r
  | [], r, h => by simpa only [leafTVs] using h
  | v :: vs, r, h => by
    simp only [leafTVs] at h ⊢
    split at h
    · rename_i h1 h2
      simp only [hg v _ h1, leafTVs_le hg vs _ h2]; exact h
    · exact absurd h (by simp)
theorem leafTV_le (L : ∀ id ob, V.obj id = some ob → V'.obj id = some ob) : ∀ (n : Nat) (v : AV) (r : TV × List Nat × Option Back), leafTV V n v = some r → leafTV V' n v = some r
  | 0, v, r, h => by
    simp only [leafTV] at h ⊢
    split at h
    · exact h
    · exact h
    · split at h
      · rename_i hob; simp only [L _ _ hob]; exact h
      · exact absurd h (by simp)
    · exact absurd h (by simp)
  | n + 1, v, r, h => by
    simp only [leafTV] at h ⊢
    split at h
    · exact h
    · exact h
    · split at h
      · rename_i hob; simp only [L _ _ hob]; exact h
      · exact absurd h (by simp)
    · split at h
      · rename_i cs hob
        simp only [L _ _ hob]
        split at h
        · rename_i l ids bs hl
          simp only [leafTVs_le (leafTV_le L n) cs _ hl]; exact h
        · exact absurd h (by simp)
      · rename_i hob; simp only [L _ _ hob]; exact h
      · exact absurd h (by simp)
    · exact absurd h (by simp)

theorem lentTV_le (L : ∀ id ob, V.obj id = some ob → V'.obj id = some ob) {v : AV} {r : TV × List Nat} (h : lentTV V v = some r) : lentTV V' v = some r := by
  unfold lentTV at h ⊢
  split at h
  · exact h
  · exact h
  · split at h
    · rename_i hob; simp only [L _ _ hob]; exact h
    · exact absurd h (by simp)
  · split at h
    · rename_i hob; simp only [L _ _ hob]; exact h
    · exact absurd h (by simp)
  · exact h
  · exact h
  · exact absurd h (by simp)

theorem argTV_le (L : ∀ id ob, V.obj id = some ob → V'.obj id = some ob) {P : Program} {m : Mode} {t : TypeId} {v : AV} {g : Given} (h : argTV P m t V v = some g) : argTV P m t V' v = some g := by
  cases v
  case addr id i off =>
    simp only [argTV] at h ⊢
    split at h
    · rename_i h0
      rw [if_pos h0]
      split at h
      · rename_i cs hob
        simp only [L _ _ hob]
        split at h
        · split at h
          · rename_i hl
            rw [if_pos hl]
            split at h
            · rename_i hls
              simp only [leafTVs_le (leafTV_le L 4) _ _ hls]; exact h
            · exact absurd h (by simp)
          · exact absurd h (by simp)
        · exact absurd h (by simp)
      · rename_i hob
        simp only [L _ _ hob]; exact h
      · exact absurd h (by simp)
    · exact absurd h (by simp)
  case nilSl => simpa only [argTV] using h
  case own id =>
    simp only [argTV] at h ⊢
    split at h
    · rename_i hob; simp only [L _ _ hob]; exact h
    · rename_i hob; simp only [L _ _ hob]; exact h
    · rename_i hob; simp only [L _ _ hob]; exact h
    · exact absurd h (by simp)
  all_goals
    simp only [argTV] at h ⊢
    split at h
    · rename_i hl
      simp only [lentTV_le L hl]; exact h
    · exact absurd h (by simp)

theorem argsTV_le (L : ∀ id ob, V.obj id = some ob → V'.obj id = some ob) {P : Program} : ∀ (vs : List AV) (ms : List Mode) (ts : List TypeId) (g : Given), argsTV P V ms ts vs = some g → argsTV P V' ms ts vs = some g
  | [], ms, ts, g, h => by simpa only [argsTV] using h
  | v :: vs, ms, ts, g, h => by
    simp only [argsTV] at h ⊢
    split at h
    · rename_i h1 h2
      simp only [argTV_le L h1, argsTV_le L vs _ _ _ h2]; exact h
    · exact absurd h (by simp)

theorem calleeOf_eq {c : Callee} (E : ∀ f, c = .value f → V.eval f = V'.eval f) : calleeOf V c = calleeOf V' c := by
  cases c with
  | value x =>
    have := E x rfl
    cases x <;> simp only [calleeOf] <;> first | rfl | (rw [this])
  | invoke _ _ => rfl
  | builtin _ => rfl

theorem callM_le {C : Cx} {call : FuncId → List TV → Option (List TV × List TV)} {d : Nat} {c : Call} {m : Made} (E : ∀ x ∈ c.operands.toList, V.eval x = V'.eval x) (L : ∀ id ob, V.obj id = some ob → V'.obj id = some ob) (h : callM C call d c V = some m) : callM C call d c V' = some m := by
  obtain ⟨callee, as, ts⟩ := c
  unfold callM at h ⊢
  simp only at h ⊢
  rw [← calleeOf_eq (V := V) (c := callee) (fun f hf => E f (by subst hf; simp [Call.operands])), ← evalAll_eq (V := V) (xs := as.toList) (fun x hx => E x (by simp only [Call.operands, Array.toList_append]; exact List.mem_append.2 (.inr hx)))]
  split at h
  · split at h
    · split at h
      · rename_i hg
        simp only [argsTV_le L _ _ _ _ hg]; exact h
      · exact absurd h (by simp)
    · exact absurd h (by simp)
  · exact absurd h (by simp)

theorem opQ_none_A {P : Program} {bt : TypeId} {d : Nat} {o : Op} {W W' : View} {r : AV × List (Nat × Obj) × Option Nat} (h : opA P d o W = some r) : opQ P bt d o W' = none := by
  unfold opA at h
  split at h
  · simp only [opQ]
  · exact absurd h (by simp)
theorem opQ_none_L {P : Program} {bt : TypeId} {d : Nat} {o : Op} {W W' : View} {r : Made} (h : opL P o W = some r) : opQ P bt d o W' = none ∧ opA P d o W' = none := by
  unfold opL at h
  split at h
  · simp [opQ, opA]
  · simp [opQ, opA]
  · exact absurd h (by simp)

/-- WHO SEES MORE DOES THE SAME. -/
theorem made_le {C : Cx} {call : FuncId → List TV → Option (List TV × List TV)} {o : Oper} {m : Made} (E : ∀ x ∈ o.op.operands.toList, V.eval x = V'.eval x) (L : ∀ id ob, V.obj id = some ob → V'.obj id = some ob) (h : made C call o V = some m) : made C call o V' = some m := by
  unfold made at h ⊢
  simp only at h ⊢
  split at h
  · rename_i c hc
    have hop : o.op = .call c := by
      unfold isCall at hc
      split at hc
      · rename_i c' heq
        split at hc
        · exact absurd hc (by simp)
        · injection hc with hc; subst hc; exact heq
      · exact absurd hc (by simp)
    exact callM_le (fun x hx => E x (by rw [hop]; exact hx)) L h
  · split at h
    · rename_i hq
      simp only [opQ_le E L hq]; exact h
    · split at h
      · rename_i ha
        simp only [opQ_none_A (W' := V') (bt := C.bldT) ha, opA_le E L ha]; exact h
      · have hn := opQ_none_L (W' := V') (bt := C.bldT) (d := o.dst.getD 499) h
        simp only [hn.1, hn.2]
        exact opL_le E L h

end
end Go.Proofs.YtbnjbianobdleaaGreat.Vm

/-
  A region whose operations may be carried out in more than one order.
-/
namespace Go.Proofs.YtbnjbianobdleaaGreat.Vm
open Go
set_option linter.unusedVariables false
set_option linter.unusedSimpArgs false

theorem patched_none (id : Nat) : ∀ ws : List Patch, patched ws id none = none
  | [] => rfl
  | p :: ws => by
    simp only [patched, List.foldl_cons]
    have : (if p.id = id then p.on none else none) = none := by split <;> (try rfl); cases p <;> rfl
    rw [this]; exact patched_none id ws

theorem doneObj_cons {f : Nat → Bool} {id : Nat} {base : Nat → Option Obj} {x : Done} {r : List Done} : doneObj f id base (x :: r) = if f x.i then (match lkp id x.m.os with
       | some o => some o
       | none => if x.m.dead.contains id then none else patched x.m.ws id (doneObj f id base r)) else doneObj f id base r := rfl

theorem doneGet_congr {f g : Nat → Bool} {t : Nat} {base : Nat → AV} : ∀ {done : List Done}, (∀ y ∈ done, y.o.dst = some t → f y.i = g y.i) → doneGet f t base done = doneGet g t base done
  | [], _ => rfl
  | x :: r, h => by
    simp only [doneGet]
    rw [doneGet_congr (done := r) (fun y hy => h y (by simp [hy]))]
    split
    · rename_i hd; rw [h x (by simp) hd]
    · rfl

theorem lkp_none_of {α : Type} {n : Nat} : ∀ {l : List (Nat × α)}, n ∉ l.map (·.1) → lkp n l = none
  | [], _ => rfl
  | (m, a) :: r, h => by
    simp only [List.map_cons, List.mem_cons, not_or] at h
    simp only [lkp, h.1, if_false]
    exact lkp_none_of h.2

theorem doneObj_some {f : Nat → Bool} {id : Nat} {base : Nat → Option Obj} : ∀ {done : List Done} {ob : Obj}, doneObj f id base done = some ob → (∃ o, base id = some o) ∨ ∃ z ∈ done, f z.i = true ∧ id ∈ z.m.os.map (·.1)
  | [], ob, h => .inl ⟨ob, h⟩
  | x :: r, ob, h => by
    have tail : ∀ {ob}, doneObj f id base r = some ob → (∃ o, base id = some o) ∨ ∃ z ∈ x :: r, f z.i = true ∧ id ∈ z.m.os.map (·.1) := fun h => by
      rcases doneObj_some h with h | ⟨z, h1, h2⟩
      · exact .inl h
      · exact .inr ⟨z, by simp [h1], h2⟩
    rw [doneObj_cons] at h
    split at h
    · rename_i hf
      split at h
      · rename_i o hl
        exact .inr ⟨x, by simp, hf, List.mem_map_of_mem (f := (·.1)) (lkp_mem hl)⟩
      · split at h
        · exact absurd h (by simp)
        · cases hd : doneObj f id base r with
          | none => rw [hd, patched_none] at h; exact absurd h (by simp)
          | some o => exact tail hd
    · exact tail h

theorem doneObj_le {f g : Nat → Bool} {id : Nat} {base : Nat → Option Obj} : ∀ {done : List Done} {ob : Obj}, (∀ y ∈ done, f y.i = true → g y.i = true) →
    (∀ y ∈ done, f y.i = false → g y.i = true → id ∉ y.m.writes ∧ id ∉ y.m.os.map (·.1)) → doneObj f id base done = some ob → doneObj g id base done = some ob
  | [], ob, _, _, h => h
  | x :: r, ob, h1, h2, h => by
    have ih : ∀ {ob : Obj}, doneObj f id base r = some ob → doneObj g id base r = some ob := fun {ob} => doneObj_le (done := r) (ob := ob) (fun y hy => h1 y (by simp [hy])) (fun y hy => h2 y (by simp [hy]))
    rw [doneObj_cons] at h ⊢
    cases hf : f x.i with
    | true =>
      rw [hf] at h
      rw [h1 x (by simp) hf]
      simp only [if_true] at h ⊢
      split at h
      · exact h
      · rename_i hl
        split at h
        · exact absurd h (by simp)
        · rename_i hd
          rw [if_neg hd]
          cases hr : doneObj f id base r with
          | none => rw [hr, patched_none] at h; exact absurd h (by simp)
          | some o => rw [ih hr]; rw [hr] at h; exact h
    | false =>
      rw [hf] at h
      simp only [Bool.false_eq_true, if_false] at h
      cases hg : g x.i with
      | false => simp only [Bool.false_eq_true, if_false]; exact ih h
      | true =>
        obtain ⟨k1, k2⟩ := h2 x (by simp) hf hg
        simp only [if_true, lkp_none_of k2]
        have k3 : ¬ x.m.dead.contains id = true := by
          intro hc
          exact k1 (by simp only [Made.writes, List.mem_append]; exact .inl (by simpa using hc))
        have k4 : id ∉ x.m.ws.map Patch.id := fun hc => k1 (by simp only [Made.writes, List.mem_append]; exact .inr hc)
        rw [if_neg k3, patched_other k4]
        exact ih h

/-- A set, and one more. -/
def plus (S : Nat → Bool) (i : Nat) : Nat → Bool := fun j => j == i || S j

theorem plus_other {S : Nat → Bool} {i j : Nat} (h : j ≠ i) : plus S i j = S j := by simp [plus, h]
theorem plus_self {S : Nat → Bool} {i : Nat} : plus S i i = true := by simp [plus]

theorem doneGet_plus {S : Nat → Bool} {x : Done} {t : Nat} {base : Nat → AV} : ∀ {done : List Done}, (done.map (·.i)).Nodup → (done.filterMap (·.o.dst)).Nodup → x ∈ done → S x.i = false →
    doneGet (plus S x.i) t base done = if x.o.dst = some t then x.m.v else doneGet S t base done
  | [], _, _, h, _ => by simp at h
  | y :: r, hn, hd, hx, hS => by
    simp only [List.map_cons, List.nodup_cons] at hn
    have hd' : (r.filterMap (·.o.dst)).Nodup := by
      rw [List.filterMap_cons] at hd
      split at hd
      · exact hd
      · exact (List.nodup_cons.1 hd).2
    have hnot : ∀ d, y.o.dst = some d → ∀ z ∈ r, z.o.dst ≠ some d := by
      intro d hyd z hz hzd
      rw [List.filterMap_cons, hyd] at hd
      exact (List.nodup_cons.1 hd).1 (List.mem_filterMap.2 ⟨z, hz, hzd⟩)
    simp only [doneGet]
    rcases List.mem_cons.1 hx with rfl | hx
    · rw [plus_self]
      split
      · simp
      · refine doneGet_congr fun z hz _ => plus_other fun e => hn.1 (by rw [← e]; exact List.mem_map_of_mem (f := (·.i)) hz)
    · have hne : y.i ≠ x.i := fun e => hn.1 (by rw [e]; exact List.mem_map_of_mem (f := (·.i)) hx)
      rw [plus_other hne, doneGet_plus hn.2 hd' hx hS]
      by_cases hyt : y.o.dst = some t
      · simp only [hyt, if_true]
        have : ¬ x.o.dst = some t := hnot t hyt x hx
        simp [this]
      · simp only [hyt, if_false]

/-- Two operations touch nothing that is the other's. -/
def Away (x y : Done) : Prop := ∀ i, i ∈ x.m.writes ++ x.m.os.map (·.1) → i ∉ y.m.writes ++ y.m.os.map (·.1)

theorem away_id {x : Done} {id : Nat} (h : id ∉ x.m.writes ++ x.m.os.map (·.1)) (z : Option Obj) : (match lkp id x.m.os with | some o => some o | none => if x.m.dead.contains id then none else patched x.m.ws id z) = z := by
  simp only [List.mem_append, not_or, Made.writes] at h
  rw [lkp_none_of h.2]
  simp only
  rw [if_neg (by simpa using h.1.1), patched_other h.1.2]

theorem doneObj_plus {S : Nat → Bool} {x : Done} {id : Nat} {base : Nat → Option Obj} : ∀ {done : List Done}, (done.map (·.i)).Nodup → x ∈ done → S x.i = false → (∀ y ∈ done, S y.i = true → x.i < y.i → Away x y) →
    (done.map (·.i)).Pairwise (· > ·) →
    doneObj (plus S x.i) id base done = match lkp id x.m.os with | some o => some o | none => if x.m.dead.contains id then none else patched x.m.ws id (doneObj S id base done)
  | [], _, h, _, _, _ => by simp at h
  | y :: r, hn, hx, hS, hA, hp => by
    simp only [List.map_cons, List.nodup_cons] at hn
    simp only [List.map_cons, List.pairwise_cons] at hp
    rw [doneObj_cons (f := plus S x.i), doneObj_cons (f := S)]
    rcases List.mem_cons.1 hx with rfl | hx
    · rw [plus_self, hS]
      simp only [if_true, Bool.false_eq_true, if_false]
      have : doneObj (plus S x.i) id base r = doneObj S id base r := by
        clear hA hp hx
        induction r with
        | nil => rfl
        | cons z r ih =>
          simp only [List.map_cons, List.mem_cons, not_or] at hn
          rw [doneObj_cons, doneObj_cons, plus_other (fun e => hn.1.1 e.symm), ih ⟨hn.1.2, (List.nodup_cons.1 hn.2).2⟩]
      rw [this]
    · have hne : y.i ≠ x.i := fun e => hn.1 (by rw [e]; exact List.mem_map_of_mem (f := (·.i)) hx)
      have hgt : x.i < y.i := hp.1 x.i (List.mem_map_of_mem (f := (·.i)) hx)
      have ih := doneObj_plus (id := id) (base := base) hn.2 hx hS (fun z hz => hA z (by simp [hz])) hp.2
      rw [plus_other hne]
      cases hy : S y.i with
      | false => simp only [Bool.false_eq_true, if_false]; exact ih
      | true =>
        simp only [if_true]
        have haw := hA y (by simp) hy hgt
        by_cases hid : id ∈ x.m.writes ++ x.m.os.map (·.1)
        · rw [away_id (haw id hid), away_id (haw id hid)]; exact ih
        · rw [away_id hid] at ih
          rw [away_id hid, ih]

theorem VR.less {M0 M : Cells} {β : Nat → Loc} {V V' : View} {tm : Array Value} {w : World} (h : VR M0 M β V tm w) (h1 : ∀ t, V'.get t = V.get t) (h2 : ∀ id o, V'.obj id = some o → V.obj id = some o) : VR M0 M β V' tm w :=
  ⟨h.sup, h.old, fun t => by rw [h1]; exact h.slots t, fun id o ho => h.objs id o (h2 id o ho), fun id o ho => h.own id o (h2 id o ho), fun id id' o o' ho ho' => h.disj id id' o o' (h2 id o ho) (h2 id' o' ho')⟩

theorem dm_own {M0 M : Cells} {β : Nat → Loc} {V : View} {tm : Array Value} {w : World} (h : VR M0 M β V tm w) {m : Made} (hw : ∀ p ∈ m.ws, ∃ o o', V.obj p.id = some o ∧ p.on (some o) = some o') :
    ∀ x j, Dm β (fun id => ∃ o, V.obj id = some o) m x j → M x j ∧ ¬ M0 x j := by
  rintro x j (⟨g, hg, ⟨ob, hob⟩, hF⟩ | ⟨p, hp, hd, ht⟩)
  · exact h.own g ob hob x j hF
  · obtain ⟨o0, o1, e1, e2⟩ := hw p hp
    refine h.own p.id o0 e1 x j (Patch.touch_F ht ?_)
    rintro id off cells rfl
    cases o0 <;> simp only [Patch.on] at e2 <;> try (cases e2; done)
    obtain ⟨b0, o0, q1, q2, q3, q4⟩ := h.objs _ _ e1
    split at e2
    · rw [q2]; assumption
    · exact absurd e2 (by simp)


theorem befOne_spec (look : Nat → Nat) (o : Oper) : (∀ e ∈ o.after.toList, Region.binds .any e = true → (befOne look o).testBit e.on = true) ∧
    ∀ j, (befOne look o).testBit j = true → ∃ e ∈ o.after.toList, Region.binds .any e = true ∧ (e.on = j ∨ (look e.on).testBit j = true) := by
  unfold befOne
  have key : ∀ (l : List Edge) (s : Nat), (∀ j, s.testBit j = true → (l.foldl (fun s e => if Region.binds .any e then s ||| 2 ^ e.on ||| look e.on else s) s).testBit j = true) ∧
      (∀ e ∈ l, Region.binds .any e = true → (l.foldl (fun s e => if Region.binds .any e then s ||| 2 ^ e.on ||| look e.on else s) s).testBit e.on = true) ∧
      ∀ j, (l.foldl (fun s e => if Region.binds .any e then s ||| 2 ^ e.on ||| look e.on else s) s).testBit j = true → s.testBit j = true ∨ ∃ e ∈ l, Region.binds .any e = true ∧ (e.on = j ∨ (look e.on).testBit j = true) := by
    intro l
    induction l with
    | nil => intro s; exact ⟨fun j h => h, by simp, fun j h => .inl h⟩
    | cons e l ih =>
      intro s
      simp only [List.foldl_cons]
      by_cases hb : Region.binds .any e = true
      · simp only [hb, if_true]
        obtain ⟨a1, a2, a3⟩ := ih (s ||| 2 ^ e.on ||| look e.on)
        refine ⟨fun j h => a1 j (by simp [Nat.testBit_or, h]), fun e' he hb' => ?_, fun j h => ?_⟩
        · rcases List.mem_cons.1 he with rfl | he
          · exact a1 _ (by simp [Nat.testBit_or, Nat.testBit_two_pow_self])
          · exact a2 e' he hb'
        · rcases a3 j h with h | ⟨e', h1, h2⟩
          · simp only [Nat.testBit_or, Bool.or_eq_true] at h
            rcases h with (h | h) | h
            · exact .inl h
            · rw [Nat.testBit_two_pow] at h
              exact .inr ⟨e, by simp, hb, .inl (by simpa using h)⟩
            · exact .inr ⟨e, by simp, hb, .inr h⟩
          · exact .inr ⟨e', by simp [h1], h2⟩
      · simp only [hb]
        obtain ⟨a1, a2, a3⟩ := ih s
        refine ⟨a1, fun e' he hb' => ?_, fun j h => ?_⟩
        · rcases List.mem_cons.1 he with rfl | he
          · exact absurd hb' hb
          · exact a2 e' he hb'
        · rcases a3 j h with h | ⟨e', h1, h2⟩
          · exact .inl h
          · exact .inr ⟨e', by simp [h1], h2⟩
  obtain ⟨_, k2, k3⟩ := key o.after.toList 0
  exact ⟨k2, fun j h => (k3 j h).resolve_left (by simp)⟩

theorem bOf_spec {j k : Nat} : ∀ {done : List Done}, (bOf done j).testBit k = true → ∃ z ∈ done, z.i = j ∧ z.b.testBit k = true
  | [], h => by simp [bOf] at h
  | x :: r, h => by
    simp only [bOf] at h
    split at h
    · rename_i e; exact ⟨x, by simp, e, h⟩
    · obtain ⟨z, h1, h2⟩ := bOf_spec h; exact ⟨z, by simp [h1], h2⟩

section
variable {C : Cx} {call : FuncId → List TV → Option (List TV × List TV)}

/-- What is known of an operation of a region. -/
structure GoodX (C : Cx) (call : FuncId → List TV → Option (List TV × List TV)) (ops : Array Oper) (pl : List Nat) (st : St) (done : List Done) (x : Done) : Prop where
  at_ : ops[x.i]? = some x.o
  lt : x.b < 2 ^ x.i
  aft : ∀ e ∈ x.o.after.toList, Region.binds .any e = true → x.b.testBit e.on = true
  bef : ∀ j, x.b.testBit j = true → ∃ e ∈ x.o.after.toList, Region.binds .any e = true ∧ (e.on = j ∨ ∃ z ∈ done, z.i = e.on ∧ z.b.testBit j = true)
  does : (wanted ops.toList (seen (fun j => decide (j < x.i)) st done) x.o = some true ∧ ∃ m, made C call x.o ((seen (fun j => decide (j < x.i)) st done).only x.rd) = some m ∧ okMade (seen (fun j => decide (j < x.i)) st done) x.m = true ∧ x.m = arrive pl x.o st.obj m ∧ x.raw = m.os.map (·.1)) ∨
    (wanted ops.toList (seen (fun j => decide (j < x.i)) st done) x.o = some false ∧ x.m = .only (.tup []) [] ∧ x.raw = [])

theorem seen_more {f : Nat → Bool} {st : St} {y : Done} {done : List Done} (hf : f y.i = false) : seen f st (y :: done) = seen f st done := by
  unfold seen
  congr 1
  · funext t
    simp only [doneGet, hf]
    split <;> simp
  · funext id
    rw [doneObj_cons, hf]; simp

theorem testBit_lt {b i j : Nat} (h : b < 2 ^ i) (hj : b.testBit j = true) : j < i := by
  rcases Nat.lt_or_ge j i with h1 | h1
  · exact h1
  · have : b < 2 ^ j := Nat.lt_of_lt_of_le h (Nat.pow_le_pow_right (by omega) h1)
    rw [Nat.testBit_lt_two_pow this] at hj; exact absurd hj (by simp)

theorem GoodX.more {ops : Array Oper} {pl : List Nat} {st : St} {done : List Done} {x y : Done} (h : GoodX C call ops pl st done x) (hi : x.i < y.i) : GoodX C call ops pl st (y :: done) x := by
  have hf : (fun j => decide (j < x.i)) y.i = false := by simp; omega
  refine ⟨h.at_, h.lt, h.aft, fun j hj => ?_, ?_⟩
  · obtain ⟨e, h1, h2, h3⟩ := h.bef j hj
    refine ⟨e, h1, h2, h3.imp (fun h => h) ?_⟩
    rintro ⟨z, h4, h5⟩
    exact ⟨z, by simp [h4], h5⟩
  · rw [seen_more hf]; exact h.does

/-! ### The state behind -/
theorem lkp_app {α : Type} (n : Nat) : ∀ (a b : List (Nat × α)), lkp n (a ++ b) = match lkp n a with | some x => some x | none => lkp n b
  | [], b => rfl
  | (m, x) :: a, b => by
    simp only [List.cons_append, lkp]
    split
    · rfl
    · exact lkp_app n a b
theorem lkp_delAll (n : Nat) : ∀ (ids : List Nat) (l : List (Nat × Obj)), lkp n (delAll ids l) = if ids.contains n then none else lkp n l
  | [], l => by simp [delAll]
  | i :: r, l => by
    simp only [delAll]
    rw [lkp_delAll n r, lkp_del]
    by_cases e : n = i
    · subst e; simp
    · by_cases h : r.contains n <;> simp [e]
theorem lkp_patchObjs (n : Nat) : ∀ (ws : List Patch) (l : List (Nat × Obj)), lkp n (patchObjs ws l) = patched ws n (lkp n l)
  | [], l => rfl
  | p :: r, l => by
    simp only [patchObjs, patched, List.foldl_cons]
    split
    · rename_i o ho
      rw [lkp_patchObjs n r]
      simp only [lkp]
      by_cases e : n = p.id
      · subst e; simp [ho, patched]
      · rw [if_neg e, lkp_del, if_neg e, if_neg (fun h => e h.symm)]; rfl
    · rename_i ho
      rw [lkp_patchObjs n r, lkp_del]
      by_cases e : n = p.id
      · subst e; simp [ho, patched]
      · rw [if_neg e, if_neg (fun h => e h.symm)]; rfl

/-- A state holds what a row of operations has left. -/
def Left (s st : St) (done : List Done) : Prop := (∀ t, s.get t = doneGet (fun _ => true) t st.get done) ∧ ∀ id, s.obj id = doneObj (fun _ => true) id st.obj done

theorem stepD_left {s st : St} {done : List Done} {i b : Nat} {o : Oper} {m : Made} {raw rd : List Nat} (h : Left s st done) : Left (stepD o m s) st (⟨i, b, o, m, raw, rd⟩ :: done) := by
  refine ⟨fun t => ?_, fun id => ?_⟩
  · simp only [stepD, doneGet, if_true]
    rw [← h.1 t]
    unfold putD
    cases hd : o.dst with
    | none => simp [St.get]
    | some d =>
      simp only [put_get, Option.some.injEq]
      by_cases e : t = d
      · simp [e]
      · have : ¬ d = t := fun h => e h.symm
        simp [e, this, St.get]
  · rw [doneObj_cons, if_pos rfl, ← h.2 id]
    simp only [stepD]
    have : (putD o m.v ⟨s.tmps, m.os ++ patchObjs m.ws (delAll m.dead s.objs)⟩).obj id = lkp id (m.os ++ patchObjs m.ws (delAll m.dead s.objs)) := by unfold putD; cases o.dst <;> rfl
    rw [this, lkp_app]
    cases lkp id m.os with
    | some o => rfl
    | none =>
      simp only
      rw [lkp_patchObjs, lkp_delAll]
      split
      · rw [patched_none]
      · rfl

theorem doneObj_all {f g : Nat → Bool} {id : Nat} {base : Nat → Option Obj} : ∀ {l : List Done}, (∀ x ∈ l, f x.i = g x.i) → doneObj f id base l = doneObj g id base l
  | [], _ => rfl
  | x :: r, h => by rw [doneObj_cons, doneObj_cons, h x (by simp), doneObj_all (fun y hy => h y (by simp [hy]))]

theorem Left.view {s st : St} {done : List Done} (h : Left s st done) {f : Nat → Bool} (hf : ∀ x ∈ done, f x.i = true) : s.view = seen f st done := by
  unfold seen St.view
  congr 1
  · funext t; rw [h.1 t]; exact doneGet_congr fun y hy _ => (hf y hy).symm
  · funext id; rw [h.2 id]; exact doneObj_all fun y hy => (hf y hy).symm

def Done.key (x : Done) : Nat × Nat × Oper := (x.i, x.b, x.o)

theorem bOf_keys (done : List Done) (j : Nat) : bOf done j = match lkp j (done.map Done.key) with | some p => p.1 | none => 0 := by
  induction done with
  | nil => rfl
  | cons x r ih =>
    simp only [bOf, List.map_cons, Done.key, lkp]
    by_cases e : x.i = j
    · simp [e]
    · have e' : ¬ j = x.i := fun h => e h.symm
      rw [if_neg e, if_neg e']
      exact ih

theorem textR_spec {ops : Array Oper} {pl : List Nat} {st : St} : ∀ (l : List Oper) (i : Nat) (done0 done : List Done) (s0 s : St), ops.toList.drop i = l → textR C call ops.toList pl st.obj l i done0 s0 = some (done, s) →
    (done0.map (·.i) = (List.range i).reverse) → (∀ x ∈ done0, GoodX C call ops pl st done0 x) → i ≤ ops.size → Left s0 st done0 →
    done.map (·.i) = (List.range ops.size).reverse ∧ (∀ x ∈ done, GoodX C call ops pl st done x) ∧ Left s st done ∧ done.map Done.key = befsL l i (done0.map Done.key)
  | [], i, done0, done, s0, s, hl, h, hi, hg, hs, hL => by
    simp only [textR, Option.some.injEq, Prod.mk.injEq] at h; obtain ⟨rfl, rfl⟩ := h
    have : i = ops.size := by
      have := congrArg List.length hl
      simp at this; omega
    subst this
    exact ⟨hi, hg, hL, rfl⟩
  | o :: r, i, done0, done, s0, s, hl, h, hi, hg, hs, hL => by
    have hlt : i < ops.size := by
      have := congrArg List.length hl
      simp at this; omega
    have ho : ops[i]? = some o := by
      have := congrArg (·[0]?) hl
      simpa using this
    have hr : ops.toList.drop (i + 1) = r := by
      have := congrArg List.tail hl
      simpa using this
    simp only [textR] at h
    split at h
    · rename_i hb
      obtain ⟨b1, b2⟩ := befOne_spec (bOf done0) o
      have hlti : ∀ x ∈ done0, x.i < i := by
        intro x hx
        have : x.i ∈ done0.map (·.i) := List.mem_map_of_mem (f := (·.i)) hx
        rw [hi] at this
        simpa using this
      have hself : (fun j => decide (j < i)) i = false := by simp
      have hv : s0.view = seen (fun j => decide (j < i)) st done0 := hL.view fun x hx => by simpa using hlti x hx
      have step : ∀ (m : Made) (raw rd : List Nat), ((wanted ops.toList (seen (fun j => decide (j < i)) st done0) o = some true ∧ ∃ m0, made C call o ((seen (fun j => decide (j < i)) st done0).only rd) = some m0 ∧ okMade (seen (fun j => decide (j < i)) st done0) m = true ∧ m = arrive pl o st.obj m0 ∧ raw = m0.os.map (·.1)) ∨
            (wanted ops.toList (seen (fun j => decide (j < i)) st done0) o = some false ∧ m = .only (.tup []) [] ∧ raw = [])) →
          textR C call ops.toList pl st.obj r (i + 1) (⟨i, befOne (bOf done0) o, o, m, raw, rd⟩ :: done0) (stepD o m s0) = some (done, s) →
          done.map (·.i) = (List.range ops.size).reverse ∧ (∀ x ∈ done, GoodX C call ops pl st done x) ∧ Left s st done ∧ done.map Done.key = befsL (o :: r) i (done0.map Done.key) := by
        intro m raw rd hm hfr
        have := textR_spec r (i + 1) _ done _ s hr hfr (by simp [hi, List.range_succ]) (fun x hx => ?_) hlt (stepD_left hL)
        · refine ⟨this.1, this.2.1, this.2.2.1, ?_⟩
          rw [this.2.2.2]
          simp only [befsL, List.map_cons, Done.key]
          rw [show bOf done0 = fun j => match lkp j (done0.map Done.key) with | some p => p.1 | none => 0 from funext (bOf_keys done0)]
          rfl
        · rcases List.mem_cons.1 hx with rfl | hx
          · refine ⟨ho, hb, b1, fun j hj => ?_, ?_⟩
            · obtain ⟨e, h1, h2, h3⟩ := b2 j hj
              refine ⟨e, h1, h2, h3.imp (fun h => h) fun h => ?_⟩
              obtain ⟨z, k1, k2, k3⟩ := bOf_spec h
              exact ⟨z, by simp [k1], k2, k3⟩
            · rw [seen_more hself]; exact hm
          · exact (hg x hx).more (hlti x hx)
      rw [hv] at h
      split at h
      · rename_i hw
        split at h
        · split at h
          · rename_i m hm
            split at h
            · rename_i hc
              exact step _ _ _ (.inl ⟨hw, m, hm, hc, rfl, rfl⟩) h
            · exact absurd h (by simp)
          · exact absurd h (by simp)
        · exact absurd h (by simp)
      · rename_i hw
        exact step _ _ _ (.inr ⟨hw, rfl, rfl⟩) h
      · exact absurd h (by simp)
    · exact absurd h (by simp)

/-- What is checked of operations that stand beside one another. -/
theorem apart_spec {done : List Done} : ∀ {l : List Done}, apart done l = true → ∀ x ∈ l, ∀ y ∈ done, unord x y = true → ∀ i, i ∈ x.rd ++ (x.m.writes ++ x.raw) → i ∉ y.m.writes ++ y.raw
  | [], _, x, hx => by simp at hx
  | z :: r, h, x, hx => by
    simp only [apart, Bool.and_eq_true] at h
    rcases List.mem_cons.1 hx with rfl | hx
    · intro y hy hu
      have := List.all_eq_true.1 h.1 y hy
      rw [hu] at this
      simp only [Bool.not_true, Bool.false_or] at this
      exact freeOf_ok this
    · exact apart_spec h.2 x hx

theorem slots_spec {all : List Oper} {done : List Done} : ∀ {l : List Done}, slotsX all (done.map Done.key) (l.map Done.key) = true → ∀ x ∈ l, ∀ y ∈ done, unord x y = true → ∀ t, y.o.dst = some t → t ∉ looks all x.o
  | [], _, x, hx => by simp at hx
  | z :: r, h, x, hx => by
    simp only [List.map_cons, Done.key, slotsX, Bool.and_eq_true] at h
    rcases List.mem_cons.1 hx with rfl | hx
    · intro y hy hu t ht
      have := List.all_eq_true.1 h.1 (y.key) (List.mem_map_of_mem hy)
      simp only [Done.key] at this
      unfold unord at hu
      rw [hu] at this
      simp only [Bool.not_true, Bool.false_or] at this
      rw [ht] at this
      simpa using this
    · exact slots_spec h.2 x hx

theorem wanted_looks {all : List Oper} {V V' : View} {o : Oper} (h : ∀ t ∈ looks all o, V.get t = V'.get t) : wanted all V o = wanted all V' o := by
  unfold wanted
  cases hg : o.guard with
  | none => rfl
  | some jw =>
    obtain ⟨j, want⟩ := jw
    simp only
    cases ht : (all[j]?).bind (·.dst) with
    | none => rfl
    | some t =>
      simp only
      rw [h t (by simp [looks, hg, ht])]

theorem eval_looks {all : List Oper} {V V' : View} {o : Oper} (h : ∀ t ∈ looks all o, V.get t = V'.get t) : ∀ x ∈ o.op.operands.toList, V.eval x = V'.eval x := by
  intro x hx
  cases x with
  | tmp t =>
    simp only [View.eval]
    rw [h t (by simp only [looks, opTmps, List.mem_append, List.mem_filterMap]; exact .inl ⟨.tmp t, hx, rfl⟩)]
  | const v => rfl
  | func f => rfl
  | global g => rfl

theorem arrive_sub (pl : List Nat) (o : Oper) (ob : Nat → Option Obj) (m : Made) : (arrive pl o ob m).dels = m.dels ∧ (arrive pl o ob m).use = m.use ∧ (arrive pl o ob m).frz = m.frz ∧ (arrive pl o ob m).ws = m.ws ∧ (∀ i ∈ (arrive pl o ob m).os.map (·.1), i ∈ m.os.map (·.1)) ∧ (∀ R, MRefs R m → MRefs R (arrive pl o ob m)) := by
  rcases arrive_os pl o ob m with e | ⟨i, sz, es, e1, e2, e3, e4, e5⟩
  · rw [e]; exact ⟨rfl, rfl, rfl, rfl, fun i h => h, fun R h => h⟩
  · rw [e5]; exact ⟨rfl, rfl, rfl, rfl, by simp, fun R h => ⟨by simp [AV.refs], by simp, by simp [e2]⟩⟩

end

theorem flat_uniq {α : Type} {f : α → List Nat} {a b : α} {i : Nat} : ∀ {l : List α}, (l.flatMap f).Nodup → a ∈ l → b ∈ l → i ∈ f a → i ∈ f b → a = b
  | [], _, h, _, _, _ => by simp at h
  | x :: r, hn, ha, hb, hia, hib => by
    rw [List.flatMap_cons] at hn
    obtain ⟨h1, h2, h3⟩ := List.nodup_append.1 hn
    rcases List.mem_cons.1 ha with e | ha
    · rcases List.mem_cons.1 hb with e' | hb
      · exact e.trans e'.symm
      · exact absurd rfl (h3 i (e ▸ hia) i (List.mem_flatMap.2 ⟨b, hb, hib⟩))
    · rcases List.mem_cons.1 hb with e' | hb
      · exact absurd rfl (h3 i (e' ▸ hib) i (List.mem_flatMap.2 ⟨a, ha, hia⟩))
      · exact flat_uniq h2 ha hb hia hib
theorem flat_nodup {α : Type} {f : α → List Nat} {a : α} : ∀ {l : List α}, (l.flatMap f).Nodup → a ∈ l → (f a).Nodup
  | [], _, h => by simp at h
  | x :: r, hn, ha => by
    rw [List.flatMap_cons] at hn
    obtain ⟨h1, h2, h3⟩ := List.nodup_append.1 hn
    rcases List.mem_cons.1 ha with rfl | ha
    · exact h1
    · exact flat_nodup h2 ha

section
variable {C : Cx} {call : FuncId → List TV → Option (List TV × List TV)} {M0 D0 : Cells} {β0 : Nat → Loc} {w0 : World} {n : Nat} {ops : Array Oper} {pl : List Nat} {st : St} {done : List Done}

/-- What is checked of a region. -/
structure RegOK (C : Cx) (call : FuncId → List TV → Option (List TV × List TV)) (ops : Array Oper) (pl : List Nat) (st : St) (done : List Done) : Prop where
  idx : done.map (·.i) = (List.range ops.size).reverse
  good : ∀ x ∈ done, GoodX C call ops pl st done x
  ap : apart done done = true
  slots : ∀ x ∈ done, ∀ y ∈ done, unord x y = true → ∀ t, y.o.dst = some t → t ∉ looks ops.toList x.o
  dst : (ops.toList.filterMap (·.dst)).Nodup
  raws : (done.flatMap Done.raw).Nodup
  free : ∀ i ∈ done.flatMap Done.raw, st.obj i = none

theorem RegOK.ops_eq (R : RegOK C call ops pl st done) : done.map (·.o) = ops.toList.reverse := by
  have hlen : done.length = ops.size := by have := congrArg List.length R.idx; simpa using this
  refine List.ext_getElem? fun k => ?_
  rw [List.getElem?_map]
  cases hk : done[k]? with
  | none =>
    have : done.length ≤ k := List.getElem?_eq_none_iff.1 hk
    rw [List.getElem?_eq_none (by simp; omega)]; rfl
  | some x =>
    have hlt := (List.getElem?_eq_some_iff.1 hk).1
    have hi : (done.map (·.i))[k]? = some x.i := by rw [List.getElem?_map, hk]; rfl
    rw [R.idx, List.getElem?_reverse (by simp; omega)] at hi
    simp only [List.length_range] at hi
    rw [List.getElem?_range (by omega)] at hi
    simp only [Option.some.injEq] at hi
    have := (R.good x (List.mem_of_getElem? hk)).at_
    rw [List.getElem?_reverse (by simp; omega)]
    simp only [Array.length_toList, Array.getElem?_toList, Option.map_some]
    rw [hi]; exact this.symm

theorem RegOK.dsts (R : RegOK C call ops pl st done) : (done.filterMap (·.o.dst)).Nodup := by
  have : done.filterMap (·.o.dst) = (done.map (·.o)).filterMap (·.dst) := by rw [List.filterMap_map]; rfl
  rw [this, R.ops_eq, List.filterMap_reverse]
  exact List.pairwise_reverse.2 (R.dst.imp fun h => h.symm)
theorem RegOK.idn (R : RegOK C call ops pl st done) : (done.map (·.i)).Nodup := by rw [R.idx]; exact List.pairwise_reverse.2 (List.nodup_range.imp fun h => h.symm)
theorem RegOK.idp (R : RegOK C call ops pl st done) : (done.map (·.i)).Pairwise (· > ·) := by
  rw [R.idx, List.pairwise_reverse]
  exact List.pairwise_lt_range
theorem RegOK.uniq (R : RegOK C call ops pl st done) {x y : Done} (hx : x ∈ done) (hy : y ∈ done) (h : x.i = y.i) : x = y := by
  have := R.idn
  clear R
  induction done with
  | nil => simp at hx
  | cons z r ih =>
    simp only [List.map_cons, List.nodup_cons] at this
    rcases List.mem_cons.1 hx with e | hx
    · rcases List.mem_cons.1 hy with e' | hy
      · exact e.trans e'.symm
      · exact absurd (show z.i ∈ r.map (·.i) by rw [← e, h]; exact List.mem_map_of_mem (f := (·.i)) hy) this.1
    · rcases List.mem_cons.1 hy with e' | hy
      · exact absurd (show z.i ∈ r.map (·.i) by rw [← e', ← h]; exact List.mem_map_of_mem (f := (·.i)) hx) this.1
      · exact ih hx hy this.2
theorem RegOK.os (R : RegOK C call ops pl st done) {x : Done} (hx : x ∈ done) : ∀ i ∈ x.m.os.map (·.1), i ∈ x.raw := by
  intro i hi
  rcases (R.good x hx).does with ⟨_, m, _, _, h1, h2⟩ | ⟨_, h1, _⟩
  · rw [h2]; rw [h1] at hi; exact (arrive_sub pl x.o st.obj m).2.2.2.2.1 i hi
  · rw [h1] at hi; simp [Made.only] at hi
theorem RegOK.osn (R : RegOK C call ops pl st done) {x : Done} (hx : x ∈ done) : (x.m.os.map (·.1)).Nodup := by
  rcases (R.good x hx).does with ⟨_, m, _, _, h1, h2⟩ | ⟨_, h1, _⟩
  · have := flat_nodup R.raws hx
    rw [h2] at this
    rw [h1]
    rcases arrive_os pl x.o st.obj m with e | ⟨i, sz, es, e1, e2, e3, e4, e5⟩
    · rw [e]; exact this
    · rw [e5]; simp
  · rw [h1]; simp [Made.only]
theorem RegOK.evens (R : RegOK C call ops pl st done) {x : Done} (hx : x ∈ done) : Evens x.m.os := by
  rcases (R.good x hx).does with ⟨_, m, hm, _, h1, h2⟩ | ⟨_, h1, _⟩
  · rw [h1]
    rcases arrive_os pl x.o st.obj m with e | ⟨i, sz, es, e1, e2, e3, e4, e5⟩
    · rw [e]; exact made_even hm
    · rw [e5]; exact evens_nil
  · rw [h1]; exact evens_nil

/-- What may be led to. -/
def RS (S : Nat → Bool) (st : St) (done : List Done) (id : Nat) : Prop := (∃ o, st.obj id = some o) ∨ ∃ z ∈ done, S z.i = true ∧ id ∈ z.m.os.map (·.1)

/-- What is carried along a region. -/
def Jnv (M0 D0 : Cells) (β0 : Nat → Loc) (w0 : World) (n : Nat) (st : St) (done : List Done) (S : Nat → Bool) (a : Act) (w : World) : Prop :=
  ∃ M β, VR M0 M β (seen S st done) a.tmps w ∧ ClosedIn (RS S st done) (seen S st done) ∧ Fr D0 w0 w ∧ (∀ b j, M b j → M0 b j ∨ D0 b j ∨ w0.heap.size ≤ b) ∧ a.tmps.size = n ∧ a.defers = [] ∧
    (∀ id o, id % 2 = 1 → st.obj id = some o → (β0 id).same (β id)) ∧ ∀ id, RS S st done id → (∃ z ∈ done, S z.i = true ∧ id ∈ z.m.dead) ∨ ∃ o, (seen S st done).obj id = some o

theorem seen_obj {f : Nat → Bool} {st : St} {done : List Done} {id : Nat} : (seen f st done).obj id = doneObj f id st.obj done := by simp [seen]

theorem put_slot {β : Nat → Loc} {M : Cells} {w : World} {a : Act} {d : Option Nat} {v : AV} {c : Value} {g g' : Nat → AV} (hd : ∀ t, d = some t → t < a.tmps.size) (hv : AVR β w M v c) (hg : ∀ t, AVR β w M (g t) (a.tmps.getD t undef))
    (h : ∀ t, g' t = if d = some t then v else g t) : ∀ t, AVR β w M (g' t) ((a.put d c).tmps.getD t undef) := by
  intro t
  rw [h]
  cases d with
  | none => simpa [Act.put] using hg t
  | some d =>
    have hlt := hd d rfl
    simp only [Act.put, Option.some.injEq]
    by_cases e : d = t
    · subst e; simp [hlt]; exact hv
    · simp only [e, if_false]
      have := hg t
      simp only [Array.getD_eq_getD_getElem?] at this ⊢
      rw [Array.getElem?_setIfInBounds_ne e]; exact this

theorem put_tm {a : Act} {d : Option Nat} {c : Value} (hd : ∀ t, d = some t → t < a.tmps.size) (t : Nat) : (a.put d c).tmps.getD t undef = if d = some t then c else a.tmps.getD t undef := by
  cases d with
  | none => simp [Act.put]
  | some d =>
    have hlt := hd d rfl
    simp only [Act.put, Option.some.injEq]
    by_cases e : d = t
    · subst e; simp [hlt]
    · simp [e, Array.getElem?_setIfInBounds]

/-- ONE OPERATION OF A REGION, whenever its turn comes. -/
theorem draw_step (hcall : ∀ f as rs fs, call f as = some (rs, fs) → Contract C.P (C.modes f) f as rs fs) (R : RegOK C call ops pl st done) {x : Done} (hx : x ∈ done) {S : Nat → Bool} (hSx : S x.i = false)
    (hdown : ∀ z ∈ done, S z.i = true → ∀ j, z.b.testBit j = true → S j = true) (hready : ∀ e ∈ x.o.after.toList, Region.binds .any e = true → S e.on = true) {a : Act} {w : World} (hJ : Jnv M0 D0 β0 w0 n st done S a w)
    (hd : ∀ t, x.o.dst = some t → t < n) {K : Act → World → Prop} {Q : Exit → Act → World → Prop} (hK : ∀ a' w', Jnv M0 D0 β0 w0 n st done (plus S x.i) a' w' → K a' w') : wpOp C.P ops Q x.i K a w := by
  obtain ⟨M, β, hV, hC, hFr, hM, hn, hdef, hpin, hdom⟩ := hJ
  have hg := R.good x hx
  have hsub : ∀ j, x.b.testBit j = true → S j = true := by
    intro j hj
    obtain ⟨e, h1, h2, h3⟩ := hg.bef j hj
    rcases h3 with rfl | ⟨z, hz, h4, h5⟩
    · exact hready e h1 h2
    · exact hdown z hz (by rw [h4]; exact hready e h1 h2) j h5
  have hun : ∀ y ∈ done, S y.i = true → x.b.testBit y.i = true ∨ unord x y = true := by
    intro y hy hSy
    cases h1 : x.b.testBit y.i with
    | true => exact .inl rfl
    | false =>
      refine .inr ?_
      have h2 : y.b.testBit x.i = false := by
        cases h : y.b.testBit x.i with
        | false => rfl
        | true => have := hdown y hy hSy _ h; rw [hSx] at this; exact absurd this (by simp)
      have h3 : x.i ≠ y.i := fun e => by rw [e, hSy] at hSx; exact absurd hSx (by simp)
      simp [unord, h1, h2, h3]
  have ap2 := apart_spec R.ap x hx
  have hdiff : ∀ y ∈ done, S y.i ≠ decide (y.i < x.i) → unord x y = true := by
    intro y hy hne
    cases hSy : S y.i with
    | true =>
      rcases hun y hy hSy with h | h
      · have := testBit_lt hg.lt h
        rw [hSy] at hne; simp [this] at hne
      · exact h
    | false =>
      have hlt : y.i < x.i := by
        rw [hSy] at hne; simpa using hne
      have h1 : x.b.testBit y.i = false := by
        cases h : x.b.testBit y.i with
        | false => rfl
        | true => rw [hsub _ h] at hSy; exact absurd hSy (by simp)
      have h2 : y.b.testBit x.i = false := by
        cases h : y.b.testBit x.i with
        | false => rfl
        | true => have := testBit_lt (R.good y hy).lt h; omega
      have h3 : x.i ≠ y.i := by omega
      simp [unord, h1, h2, h3]
  have hlooks : ∀ t ∈ looks ops.toList x.o, (seen (fun j => decide (j < x.i)) st done).get t = (seen S st done).get t := by
    intro t ht
    refine doneGet_congr fun y hy hyt => ?_
    by_cases e : S y.i = decide (y.i < x.i)
    · exact e.symm
    · exact absurd ht (R.slots x hx y hy (hdiff y hy e) t hyt)
  have hobjs : ∀ id, id ∈ x.rd ++ (x.m.writes ++ x.raw) → (seen (fun j => decide (j < x.i)) st done).obj id = (seen S st done).obj id := by
    intro id hid
    have key : ∀ l : List Done, (∀ y ∈ l, y ∈ done) → doneObj (fun j => decide (j < x.i)) id st.obj l = doneObj S id st.obj l := by
      intro l
      induction l with
      | nil => intro _; rfl
      | cons y r ih =>
        intro hl
        rw [doneObj_cons, doneObj_cons, ih fun z hz => hl z (by simp [hz])]
        by_cases e : S y.i = decide (y.i < x.i)
        · rw [e]
        · have hy := hl y (by simp)
          have := ap2 y hy (hdiff y hy e) id hid
          have haw : id ∉ y.m.writes ++ y.m.os.map (·.1) := by
            intro h
            rcases List.mem_append.1 h with h | h
            · exact this (List.mem_append.2 (.inl h))
            · exact this (List.mem_append.2 (.inr (R.os hy id h)))
          rw [away_id haw]
          simp
    exact key done fun y hy => hy
  have hosR : ∀ i ∈ x.raw, ¬ RS S st done i := by
    rintro i hi (⟨o, ho⟩ | ⟨z, hz, hSz, hzi⟩)
    · rw [R.free i (List.mem_flatMap.2 ⟨x, hx, hi⟩)] at ho; exact absurd ho (by simp)
    · have := flat_uniq R.raws hx hz hi (R.os hz i hzi)
      rw [this, hSz] at hSx; exact absurd hSx (by simp)
  have hwx : wanted ops.toList (seen (fun j => decide (j < x.i)) st done) x.o = wanted ops.toList (seen S st done) x.o := wanted_looks hlooks
  unfold wpOp
  rw [hg.at_]
  simp only
  -- the new view
  have hget1 : ∀ t, (seen (plus S x.i) st done).get t = if x.o.dst = some t then x.m.v else (seen S st done).get t := fun t => doneGet_plus R.idn R.dsts hx hSx
  have haway : ∀ y ∈ done, S y.i = true → x.i < y.i → Away x y := by
    intro y hy hSy hlt i hi hi'
    have hnb : x.b.testBit y.i ≠ true := fun h => by have := testBit_lt hg.lt h; omega
    have hu := (hun y hy hSy).resolve_left hnb
    have := ap2 y hy hu i
    refine this (List.mem_append.2 (.inr ?_)) ?_
    · rcases List.mem_append.1 hi with h | h
      · exact List.mem_append.2 (.inl h)
      · exact List.mem_append.2 (.inr (R.os hx i h))
    · rcases List.mem_append.1 hi' with h | h
      · exact List.mem_append.2 (.inl h)
      · exact List.mem_append.2 (.inr (R.os hy i h))
  have hobj1 : ∀ id, (seen (plus S x.i) st done).obj id = match lkp id x.m.os with | some o => some o | none => if x.m.dead.contains id then none else patched x.m.ws id ((seen S st done).obj id) := by
    intro id
    rw [seen_obj, seen_obj]
    exact doneObj_plus R.idn hx hSx haway R.idp
  have hRS1 : ∀ id, RS (plus S x.i) st done id ↔ RS S st done id ∨ id ∈ x.m.os.map (·.1) := by
    intro id
    constructor
    · rintro (h | ⟨z, hz, h1, h2⟩)
      · exact .inl (.inl h)
      · by_cases e : z.i = x.i
        · rw [R.uniq hz hx e] at h2; exact .inr h2
        · rw [plus_other e] at h1; exact .inl (.inr ⟨z, hz, h1, h2⟩)
    · rintro ((h | ⟨z, hz, h1, h2⟩) | h)
      · exact .inl h
      · exact .inr ⟨z, hz, by simp [plus, h1], h2⟩
      · exact .inr ⟨x, hx, plus_self, h⟩
  have hdead1 : ∀ id, (∃ z ∈ done, plus S x.i z.i = true ∧ id ∈ z.m.dead) ↔ (∃ z ∈ done, S z.i = true ∧ id ∈ z.m.dead) ∨ id ∈ x.m.dead := by
    intro id
    constructor
    · rintro ⟨z, hz, h1, h2⟩
      by_cases e : z.i = x.i
      · rw [R.uniq hz hx e] at h2; exact .inr h2
      · rw [plus_other e] at h1; exact .inl ⟨z, hz, h1, h2⟩
    · rintro (⟨z, hz, h1, h2⟩ | h)
      · exact ⟨z, hz, by simp [plus, h1], h2⟩
      · exact ⟨x, hx, plus_self, h⟩
  rcases hg.does with ⟨hw, m, hm, hok, harr, hraw⟩ | ⟨hw, hm, hraw⟩
  · rw [wanted_ok hV (hwx ▸ hw)]
    simp only [if_true]
    refine .inl ?_
    -- what it makes there is what it makes
    have hmS : made C call x.o (seen S st done) = some m := made_le (V := (seen (fun j => decide (j < x.i)) st done).only x.rd) (eval_looks (all := ops.toList) (fun t ht => hlooks t ht)) (fun id ob hob => by
      simp only [View.only] at hob
      split at hob
      · rename_i hc
        rw [← hobjs id (List.mem_append.2 (.inl (by simpa using hc)))]; exact hob
      · exact absurd hob (by simp)) hm
    have hfz : m.frz = [] := by
      simp only [okMade, Bool.and_eq_true] at hok
      have h1 : x.m.frz = [] := by simpa using hok.1.1
      rw [harr, (arrive_sub pl x.o st.obj m).2.2.1] at h1; exact h1
    have hws : ∀ p ∈ x.m.ws, p.id ∉ x.m.dead ∧ ∃ o o', (seen S st done).obj p.id = some o ∧ p.on (some o) = some o' := by
      intro p hp
      simp only [okMade, Bool.and_eq_true, List.all_eq_true] at hok
      have h1 := hok.2 p hp
      refine ⟨by simpa using h1.1, ?_⟩
      have h2 := h1.2
      have hid : p.id ∈ x.rd ++ (x.m.writes ++ x.raw) := List.mem_append.2 (.inr (List.mem_append.2 (.inl (List.mem_append.2 (.inr (List.mem_map_of_mem (f := Patch.id) hp))))))
      rw [hobjs p.id hid] at h2
      cases ho : (seen S st done).obj p.id with
      | none => rw [ho] at h2; cases p <;> simp [Patch.on] at h2
      | some o =>
        rw [ho] at h2
        obtain ⟨o', ho'⟩ := Option.isSome_iff_exists.1 h2
        exact ⟨o, o', rfl, ho'⟩
    have hrn : (m.os.map (·.1)).Nodup := by have := flat_nodup R.raws hx; rw [hraw] at this; exact this
    refine made_okR hcall hV hC hmS hrn (fun id hid hr => absurd hr (hosR id (by rw [hraw]; exact hid))) (fun M' β' w' c hP hRef => hK _ _ ?_)
    have eM : (fun b j => M b j ∧ ¬ ∃ i ∈ m.frz, (∃ o, (seen S st done).obj i = some o) ∧ (β i).F b j) = M := by
      funext b j; simp [hfz]
    rw [eM] at hP
    obtain ⟨M2, β2, hP2⟩ := arrive_ok (pl := pl) (o := x.o) (ob := st.obj) hV.old hP
    rw [← harr] at hP2
    have hRef2 : MRefs (RS S st done) x.m := by
      rw [harr]; exact (arrive_sub pl x.o st.obj m).2.2.2.2.2 _ (hRef.imp fun i h => h.1)
    have hdt : ∀ t, x.o.dst = some t → t < a.tmps.size := fun t ht => by rw [hn]; exact hd t ht
    have hV1 : VR M0 M2 β2 (seen (plus S x.i) st done) (a.put x.o.dst c).tmps w' := by
      refine Post.view (V0 := ⟨(seen S st done).get, fun id => if x.m.dead.contains id then none else (seen S st done).obj id⟩) (R := RS S st done) (d := x.o.dst) (hV.less (fun _ => rfl) (fun id o ho => ?_)) hP2 ⟨hC.1, fun id o ho => ?_⟩ (fun id hid => hosR id (R.os hx id hid)) (R.osn hx)
        (fun g hgd hdm => ⟨fun b j hF => ?_, fun id o ho b j hF => ?_⟩) (fun p hp => ?_) hget1 (fun id => ?_) (fun t => put_tm hdt t)
      · simp only at ho
        split at ho
        · exact absurd ho (by simp)
        · exact ho
      · simp only at ho
        split at ho
        · exact absurd ho (by simp)
        · exact hC.2 id o ho
      · obtain ⟨o0, ho0⟩ := hdm
        exact hV.own g o0 ho0 b j hF
      · obtain ⟨o0, ho0⟩ := hdm
        simp only at ho
        split at ho
        · exact absurd ho (by simp)
        · rename_i hnd
          exact hV.disj g id o0 o ho0 ho (fun e => hnd (by rw [← e]; simpa [Made.dead] using hgd)) b j hF
      · obtain ⟨h1, o, o', h2, h3⟩ := hws p hp
        exact ⟨o, o', by simp [h1, h2], h3⟩
      · rw [hobj1]
        cases lkp id x.m.os with
        | some o => rfl
        | none =>
          simp only
          split
          · rw [patched_none]
          · rfl
    refine ⟨M2, β2, hV1, ⟨fun t i hi => ?_, fun id o ho => ?_⟩, hFr.trans hP2.fr (fun _ _ h => h) (fun y j hy => ?_), fun b j hb => ?_, (put_size _ _ _).trans hn, (put_defers _ _ _).trans hdef, fun id o hid ho => (hpin id o hid ho).trans (hP2.same id fun h => ?_), fun id hid => ?_⟩
    · rw [hget1] at hi
      rw [hRS1]
      split at hi
      · exact hRef2.1 i hi
      · exact .inl (hC.1 t i hi)
    · rw [hobj1] at ho
      rw [hRS1]
      split at ho
      · rename_i o' hl
        simp only [Option.some.injEq] at ho; subst ho
        have hm' := lkp_mem hl
        refine ⟨.inr (List.mem_map_of_mem (f := (·.1)) hm'), fun i hi => ?_⟩
        rw [hRS1]
        exact hRef2.2.1 _ hm' i hi
      · split at ho
        · exact absurd ho (by simp)
        · by_cases hpid : id ∈ x.m.ws.map Patch.id
          · obtain ⟨p, hp, rfl⟩ := List.mem_map.1 hpid
            rw [patched_at hP2.nd hp] at ho
            obtain ⟨_, o0, o1, e1, e2⟩ := hws p hp
            rw [e1] at ho
            refine ⟨.inl (hC.2 _ _ e1).1, fun i hi => ?_⟩
            rw [hRS1]
            cases p with
            | box k off cells =>
              cases o0 <;> simp only [Patch.on] at ho <;> try (cases ho; done)
              rename_i cs0
              split at ho
              · rename_i hle'
                injection ho with ho; subst ho
                simp only [Obj.refs] at hi
                obtain ⟨v, hv, hvi⟩ := refsL_mem.1 hi
                obtain ⟨j, hj⟩ := List.mem_iff_getElem?.1 hv
                rw [setFrom_get _ _ _ hle'] at hj
                split at hj
                · exact hRef2.2.2 k off cells hp i (refsL_mem.2 ⟨v, List.mem_of_getElem? hj, hvi⟩)
                · exact .inl ((hC.2 _ _ e1).2 i (by simp only [Obj.refs]; exact refsL_mem.2 ⟨v, List.mem_of_getElem? hj, hvi⟩))
              · exact absurd ho (by simp)
            | buf k sz es =>
              cases o0 <;> simp only [Patch.on] at ho <;> try (cases ho; done)
              split at ho
              · injection ho with ho; subst ho; simp [Obj.refs] at hi
              · exact absurd ho (by simp)
            | bld k bs =>
              cases o0 <;> simp only [Patch.on] at ho <;> try (cases ho; done)
              injection ho with ho; subst ho; simp [Obj.refs] at hi
          · rw [patched_other hpid] at ho
            refine ⟨.inl (hC.2 id o ho).1, fun i hi => ?_⟩
            rw [hRS1]
            exact .inl ((hC.2 id o ho).2 i hi)
    · have := dm_own hV (fun p hp => (hws p hp).2) y j hy
      rcases hM y j this.1 with h | h | h
      · exact absurd h this.2
      · exact .inl h
      · exact .inr h
    · rcases hP2.only b j hb with h | h
      · exact hM b j h
      · exact .inr (.inr (Nat.le_trans hFr.size h))
    · obtain ⟨p, hp, rfl⟩ := List.mem_map.1 h
      have := R.evens hx p hp
      omega
    · rw [hRS1] at hid
      rw [hdead1, hobj1]
      by_cases hos : id ∈ x.m.os.map (·.1)
      · obtain ⟨p, hp, rfl⟩ := List.mem_map.1 hos
        rw [lkp_of_mem (n := p.1) (a := p.2) (R.osn hx) hp]
        exact .inr ⟨_, rfl⟩
      · rw [lkp_none_of hos]
        simp only
        by_cases hdd : id ∈ x.m.dead
        · exact .inl (.inr hdd)
        · rw [if_neg (by simpa using hdd)]
          rcases hdom id (hid.resolve_right hos) with h | ⟨o, ho⟩
          · exact .inl (.inl h)
          · refine .inr ?_
            by_cases hpid : id ∈ x.m.ws.map Patch.id
            · obtain ⟨p, hp, rfl⟩ := List.mem_map.1 hpid
              rw [patched_at hP2.nd hp]
              obtain ⟨_, o0, o1, e1, e2⟩ := hws p hp
              rw [e1]; exact ⟨o1, e2⟩
            · rw [patched_other hpid]; exact ⟨o, ho⟩
  · rw [wanted_ok hV (hwx ▸ hw)]
    simp only [Bool.false_eq_true, if_false]
    have hdt : ∀ t, x.o.dst = some t → t < a.tmps.size := fun t ht => by rw [hn]; exact hd t ht
    have hobj2 : ∀ id, (seen (plus S x.i) st done).obj id = (seen S st done).obj id := by
      intro id; rw [hobj1, hm]; simp [Made.only, lkp, Made.dead, patched]
    have hos0 : x.m.os = [] := by rw [hm]; rfl
    have hdd0 : x.m.dead = [] := by rw [hm]; rfl
    refine hK _ _ ⟨M, β, ⟨hV.sup, hV.old, put_slot hdt (v := .tup []) (c := undef) (by simp only [AVR]; exact ⟨#[], rfl, by simp [AVRs]⟩) hV.slots (fun t => by rw [hget1, hm]; rfl), fun id o ho => hV.objs id o (hobj2 id ▸ ho), fun id o ho => hV.own id o (hobj2 id ▸ ho), fun id id' o o' ho ho' => hV.disj id id' o o' (hobj2 id ▸ ho) (hobj2 id' ▸ ho')⟩,
      ⟨fun t i hi => ?_, fun id o ho => ?_⟩, hFr, hM, (put_size _ _ _).trans hn, (put_defers _ _ _).trans hdef, hpin, fun id hid => ?_⟩
    · rw [hget1] at hi
      rw [hRS1]
      split at hi
      · rw [hm] at hi; simp [Made.only, AV.refs, AV.refsL] at hi
      · exact .inl (hC.1 t i hi)
    · rw [hobj2] at ho
      rw [hRS1]
      refine ⟨.inl (hC.2 id o ho).1, fun i hi => ?_⟩
      rw [hRS1]
      exact .inl ((hC.2 id o ho).2 i hi)
    · rw [hRS1, hos0] at hid
      rw [hdead1, hobj2]
      rcases hdom id (hid.resolve_right (by simp)) with h | h
      · exact .inl (.inl h)
      · exact .inr h


theorem RegOK.ex (R : RegOK C call ops pl st done) {i : Nat} (hi : i < ops.size) : ∃ x ∈ done, x.i = i := by
  have : i ∈ done.map (·.i) := by rw [R.idx]; simpa using hi
  obtain ⟨x, hx, h⟩ := List.mem_map.1 this
  exact ⟨x, hx, h⟩

/-- How many are left. -/
def left (listed : Array Bool) (n : Nat) : Nat := ((List.range n).filter fun i => !listed.getD i true).length

theorem left_lt {listed : Array Bool} {n i : Nat} (hs : listed.size = n) (hi : i < n) (h : listed.getD i false = false) : left (listed.setIfInBounds i true) n < left listed n := by
  unfold left
  have hsub : ∀ (l : List Nat), l.Nodup → i ∈ l → (l.filter fun j => !(listed.setIfInBounds i true).getD j true).length < (l.filter fun j => !listed.getD j true).length := by
    intro l
    induction l with
    | nil => intro _ h; simp at h
    | cons k r ih =>
      intro hn hk
      simp only [List.nodup_cons] at hn
      have hsame : ∀ j, j ≠ i → (listed.setIfInBounds i true).getD j true = listed.getD j true := fun j hj => by
        simp only [Array.getD_eq_getD_getElem?, Array.getElem?_setIfInBounds_ne (fun e => hj e.symm)]
      by_cases e : k = i
      · subst e
        have hr : (r.filter fun j => !(listed.setIfInBounds k true).getD j true) = r.filter fun j => !listed.getD j true := by
          refine List.filter_congr fun j hj => ?_
          rw [hsame j (fun e => hn.1 (e ▸ hj))]
        have h1 : (listed.setIfInBounds k true).getD k true = true := by simp [Array.getD_eq_getD_getElem?, Array.getElem?_setIfInBounds]; split <;> simp
        have h2 : listed.getD k true = false := by
          have hk' : k < listed.size := by omega
          simpa [Array.getD_eq_getD_getElem?, Array.getElem?_eq_getElem hk'] using h
        rw [List.filter_cons_of_neg (by simp [h1]), List.filter_cons_of_pos (by simp [h2]), hr]
        simp
      · have hi' := (List.mem_cons.1 hk).resolve_left (fun h => e h.symm)
        have := ih hn.2 hi'
        cases hv : listed.getD k true with
        | true =>
          rw [List.filter_cons_of_neg (by simp [hsame k e, hv]), List.filter_cons_of_neg (by simp [hv])]; exact this
        | false =>
          rw [List.filter_cons_of_pos (by simp [hsame k e, hv]), List.filter_cons_of_pos (by simp [hv])]; simpa using this
  exact hsub _ List.nodup_range (by simpa using hi)

theorem mem_ready {listed : Array Bool} {i : Nat} (h : i ∈ Region.ready .any ops listed) : i < ops.size ∧ listed.getD i true = false ∧ ∃ o, ops[i]? = some o ∧ ∀ e ∈ o.after.toList, Region.binds .any e = true → listed.getD e.on false = true := by
  simp only [Region.ready, List.mem_filter, List.mem_range, Bool.and_eq_true, Bool.not_eq_true'] at h
  obtain ⟨h1, h2, h3⟩ := h
  refine ⟨h1, h2, ?_⟩
  cases ho : ops[i]? with
  | none => rw [ho] at h3; simp at h3
  | some o =>
    rw [ho] at h3
    simp only [Option.map_some, Option.getD_some] at h3
    refine ⟨o, rfl, fun e he hb => ?_⟩
    have := (Array.all_eq_true_iff_forall_mem.1 h3) e (by simpa using he)
    simpa [hb] using this

/-- IN WHATEVER ORDER. -/
theorem draw_any (hcall : ∀ f as rs fs, call f as = some (rs, fs) → Contract C.P (C.modes f) f as rs fs) (R : RegOK C call ops pl st done) (hd : ∀ x ∈ done, ∀ t, x.o.dst = some t → t < n) {Q : Exit → Act → World → Prop}
    (hQ : ∀ S a w, (∀ x ∈ done, S x.i = true) → Jnv M0 D0 β0 w0 n st done S a w → Q .normal a w) : ∀ (fuel : Nat) (listed : Array Bool) (a : Act) (w : World), listed.size = ops.size → left listed ops.size ≤ fuel →
      (∀ z ∈ done, listed.getD z.i false = true → ∀ j, z.b.testBit j = true → listed.getD j false = true) → Jnv M0 D0 β0 w0 n st done (fun i => listed.getD i false) a w → wpAny C.P .any ops Q fuel listed a w := by
  -- where nothing is ready all is done
  have hall : ∀ (listed : Array Bool), listed.size = ops.size → Region.ready .any ops listed = [] → ∀ x ∈ done, listed.getD x.i false = true := by
    intro listed hs hr
    have key : ∀ i, i < ops.size → listed.getD i false = true := by
      intro i
      induction i using Nat.strongRecOn with
      | _ i ih =>
        intro hi
        cases hv : listed.getD i false with
        | true => rfl
        | false =>
          obtain ⟨x, hx, rfl⟩ := R.ex hi
          have hg := R.good x hx
          have : x.i ∈ Region.ready .any ops listed := by
            simp only [Region.ready, List.mem_filter, List.mem_range, Bool.and_eq_true, Bool.not_eq_true']
            refine ⟨hi, ?_, ?_⟩
            · have hi' : x.i < listed.size := by omega
              simpa [Array.getD_eq_getD_getElem?, Array.getElem?_eq_getElem hi'] using hv
            · rw [hg.at_]
              simp only [Option.map_some, Option.getD_some]
              refine Array.all_eq_true_iff_forall_mem.2 fun e he => ?_
              cases hb : Region.binds .any e with
              | false => simp
              | true =>
                have hlt := testBit_lt hg.lt (hg.aft e (by simpa using he) hb)
                simp [ih e.on hlt (by omega)]
          rw [hr] at this; simp at this
    intro x hx
    have := (Array.getElem?_eq_some_iff.1 (R.good x hx).at_).1
    exact key x.i this
  intro fuel
  induction fuel with
  | zero =>
    intro listed a w hs hl hdn hJ
    have hr : Region.ready .any ops listed = [] := by
      cases hr : Region.ready .any ops listed with
      | nil => rfl
      | cons i r =>
        obtain ⟨h1, h2, _⟩ := mem_ready (by rw [hr]; exact List.mem_cons_self : i ∈ Region.ready .any ops listed)
        have : 0 < left listed ops.size := List.length_pos_of_mem (a := i) (List.mem_filter.2 ⟨by simpa using h1, by simp [h2]⟩)
        omega
    exact ⟨hr, hQ _ a w (hall listed hs hr) hJ⟩
  | succ fuel ih =>
    intro listed a w hs hl hdn hJ
    refine ⟨fun hr => hQ _ a w (hall listed hs hr) hJ, fun i hi => ?_⟩
    obtain ⟨h1, h2, o, ho, h3⟩ := mem_ready hi
    obtain ⟨x, hx, rfl⟩ := R.ex h1
    have hg := R.good x hx
    have hox : o = x.o := by have := ho.symm.trans hg.at_; simpa using this
    subst hox
    have hlx : listed.getD x.i false = false := by
      have hi' : x.i < listed.size := by omega
      simpa [Array.getD_eq_getD_getElem?, Array.getElem?_eq_getElem hi'] using h2
    have hplus : (fun i => (listed.setIfInBounds x.i true).getD i false) = plus (fun i => listed.getD i false) x.i := by
      funext j
      simp only [plus, Array.getD_eq_getD_getElem?]
      by_cases e : j = x.i
      · subst e
        have hi' : x.i < listed.size := by omega
        simp [hi']
      · rw [Array.getElem?_setIfInBounds_ne (fun h => e h.symm)]; simp [e]
    refine draw_step hcall R hx (S := fun i => listed.getD i false) hlx hdn h3 hJ (hd x hx) fun a' w' hJ' => ih _ a' w' (by simpa using hs) (by have := left_lt hs h1 hlx; omega) ?_ (by rw [hplus]; exact hJ')
    intro z hz hzl j hj
    have e1 := congrFun hplus
    rw [e1] at hzl ⊢
    by_cases e : z.i = x.i
    · have := R.uniq hz hx e
      subst this
      obtain ⟨e', k1, k2, k3⟩ := hg.bef j hj
      rcases k3 with rfl | ⟨y, hy, k4, k5⟩
      · simp [plus, h3 e' k1 k2]
      · have := hdn y hy (by rw [k4]; exact h3 e' k1 k2) j k5
        simp only [plus, this, Bool.or_true]
    · rw [plus_other e] at hzl
      have := hdn z hz hzl j hj
      simp only [plus, this, Bool.or_true]

theorem forgetAll_get (ids : List Nat) (st : St) (t : Nat) : (forgetAll ids st).get t = AV.sub (fun i => if ids.contains i then none else some i) (st.get t) ∨ (ids = [] ∧ (forgetAll ids st).get t = st.get t) := by
  cases ids with
  | nil => exact .inr ⟨rfl, rfl⟩
  | cons a r =>
    refine .inl ?_
    simp only [forgetAll, St.get, St.map, lkp_map]
    cases lkp t st.tmps <;> simp [AV.sub]

theorem draw_end {S : Nat → Bool} (R : RegOK C call ops pl st done) {s : St} (hL : Left s st done) (hS : ∀ x ∈ done, S x.i = true) {a : Act} {w : World} (hJ : Jnv M0 D0 β0 w0 n st done S a w) : Inv M0 D0 β0 w0 n (forgetAll (done.flatMap fun x => x.m.dead) s) a w := by
  obtain ⟨M, β, hV, hC, hFr, hM, hn, hdef, hpin, hdom⟩ := hJ
  have hg : ∀ t, s.get t = (seen S st done).get t := by
    intro t
    rw [hL.1 t]
    exact doneGet_congr fun y hy _ => (hS y hy).symm
  have ho : ∀ id, s.obj id = (seen S st done).obj id := by
    intro id
    rw [hL.2 id, seen_obj]
    exact doneObj_all fun y hy => (hS y hy).symm
  have hodd : ∀ id o, id % 2 = 1 → (s).obj id = some o → ∃ o', st.obj id = some o' := by
    intro id o hid hob
    rw [ho] at hob
    rw [seen_obj] at hob
    rcases doneObj_some hob with h | ⟨z, hz, _, h2⟩
    · exact h
    · obtain ⟨p, hp, rfl⟩ := List.mem_map.1 h2
      have := R.evens hz p hp
      omega
  have hV' : VR M0 M β (s).view a.tmps w := hV.less (fun t => hg t) (fun id o h => by rw [← ho]; exact h)
  have hex : ∀ i, RS S st done i → (done.flatMap fun x => x.m.dead).contains i = false → ∃ o, (s).obj i = some o := by
    intro i hi hnd
    rcases hdom i hi with ⟨z, hz, _, h⟩ | ⟨o, h⟩
    · simp only [List.contains_eq_mem, decide_eq_false_iff_not] at hnd
      exact absurd (List.mem_flatMap.2 ⟨z, hz, h⟩) hnd
    · exact ⟨o, by rw [ho]; exact h⟩
  generalize (done.flatMap fun x => x.m.dead) = ids at hex
  have hCg : ∀ t, ∀ i ∈ ((s).get t).refs, RS S st done i := fun t i hi => by rw [hg] at hi; exact hC.1 t i hi
  have hCo : ∀ id o, (s).obj id = some o → RS S st done id ∧ ∀ i ∈ o.refs, RS S st done i := fun id o h => by rw [ho] at h; exact hC.2 id o h
  cases ids with
  | nil =>
    refine ⟨M, β, ⟨hV', fun t i hi => hex i (hCg t i hi) rfl, fun id o h => ⟨⟨o, h⟩, fun i hi => hex i ((hCo id o h).2 i hi) rfl⟩⟩, hFr, hM, hn, hdef, fun id o hid h => ?_⟩
    obtain ⟨o', ho'⟩ := hodd id o hid h
    exact hpin id o' hid ho'
  | cons b r =>
    let g : Nat → Option Nat := fun i => if (b :: r).contains i then none else some i
    have hgs : ∀ i j, g i = some j → j = i ∧ (b :: r).contains i = false := by
      intro i j h
      simp only [g] at h
      split at h
      · exact absurd h (by simp)
      · rename_i hc; exact ⟨by simpa using h.symm, by simpa using hc⟩
    have hget : ∀ t, (forgetAll (b :: r) s).get t = AV.sub g (s.get t) := by
      intro t
      simp only [forgetAll, St.get, St.map, lkp_map]
      cases lkp t s.tmps <;> simp [AV.sub, g]
    have hobj : ∀ id, (forgetAll (b :: r) s).obj id = (s.obj id).map (Obj.map (AV.sub g)) := by
      intro id
      simp only [forgetAll, St.obj, St.map, lkp_map]; rfl
    have hob : ∀ id o, (forgetAll (b :: r) s).obj id = some o → ∃ o0, s.obj id = some o0 ∧ o = o0.map (AV.sub g) := by
      intro id o h
      rw [hobj] at h
      simp only [Option.map_eq_some_iff] at h
      obtain ⟨o0, h1, h2⟩ := h
      exact ⟨o0, h1, h2.symm⟩
    have hsame : ∀ i j, g i = some j → (β i).same (β j) := fun i j h => by rw [(hgs i j h).1]; exact Loc.same_refl _
    refine ⟨M, β, ⟨⟨hV'.sup, hV'.old, fun t => ?_, fun id o h => ?_, fun id o h => ?_, fun id id' o o' h h' => ?_⟩, fun t j hj => ?_, fun id o h => ⟨⟨o, h⟩, fun j hj => ?_⟩⟩, hFr, hM, hn, hdef, fun id o hid h => ?_⟩
    · show AVR β w M ((forgetAll (b :: r) s).get t) _
      rw [hget]
      exact subg_ok _ _ (fun i _ j h => hsame i j h) (hV'.slots t)
    · obtain ⟨o0, h1, rfl⟩ := hob id o h
      exact objmap_sub (fun i _ j h => hsame i j h) (hV'.objs id o0 h1)
    · obtain ⟨o0, h1, rfl⟩ := hob id o h
      exact hV'.own id o0 h1
    · obtain ⟨o0, h1, rfl⟩ := hob id o h
      obtain ⟨o1, h1', rfl⟩ := hob id' o' h'
      exact hV'.disj id id' o0 o1 h1 h1'
    · have hj' : j ∈ ((forgetAll (b :: r) s).get t).refs := hj
      rw [hget] at hj'
      obtain ⟨i, h1, h2⟩ := subg_refs _ j hj'
      obtain ⟨rfl, h3⟩ := hgs i j h2
      obtain ⟨o, h4⟩ := hex j (hCg t j h1) h3
      exact ⟨_, by show (forgetAll (b :: r) s).obj j = _; rw [hobj, h4]; rfl⟩
    · obtain ⟨o0, h1, rfl⟩ := hob id o h
      obtain ⟨i, h5, h2⟩ := objmap_refs j hj
      obtain ⟨rfl, h3⟩ := hgs i j h2
      obtain ⟨o, h4⟩ := hex j ((hCo id o0 h1).2 j h5) h3
      exact ⟨_, by show (forgetAll (b :: r) s).obj j = _; rw [hobj, h4]; rfl⟩
    · obtain ⟨o0, h1, rfl⟩ := hob id o h
      obtain ⟨o', ho'⟩ := hodd id o0 hid h1
      exact hpin id o' hid ho'

/-- ONE REGION. -/
theorem region_ok (hcall : ∀ f as rs fs, call f as = some (rs, fs) → Contract C.P (C.modes f) f as rs fs) (hmix : C.P.follows .mixedOrders = true) {id : Nat} {ops : Array Oper} {pre : List Nat} {draw : Bool} {st st' : St} {a : Act} {w : World}
    (hI : Inv M0 D0 β0 w0 n st a w) (h : region C call ops pre draw st = some st') (hd : ∀ o ∈ ops.toList, ∀ t, o.dst = some t → t < n) {Q : Exit → Act → World → Prop} (hQ : ∀ a' w', Inv M0 D0 β0 w0 n st' a' w' → Q .normal a' w') :
    (Code.region id ops draw).wp C.P Q a w := by
  unfold region at h
  simp only at h
  cases draw with
  | false =>
    simp only [Bool.false_eq_true, if_false] at h
    refine wp_region ?_
    have := opers_ok (pl := pre ++ plainDsts ops.toList) hcall hd hQ ops.toList 0 st a w rfl (by omega) hI h
    rwa [Nat.sub_zero, ← List.range_eq_range'] at this
  | true =>
    simp only [if_true] at h
    split at h
    · rename_i hnd
      split at h
      · rename_i done s hfree
        split at h
        · rename_i hchk
          simp only [Option.some.injEq] at h; subst h
          simp only [Bool.and_eq_true, List.all_eq_true, Option.isNone_iff_eq_none] at hchk
          obtain ⟨⟨h1, h2⟩, h3⟩ := hchk
          obtain ⟨f1, f2, f3, f4⟩ := textR_spec ops.toList 0 [] done st s rfl hfree rfl (by simp) (by omega) ⟨fun _ => rfl, fun _ => rfl⟩
          simp only [slotsT, Bool.and_eq_true] at hnd
          have hk := hnd.2
          rw [show befsL ops.toList 0 [] = done.map Done.key from f4.symm] at hk
          have R : RegOK C call ops (pre ++ plainDsts ops.toList) st done := ⟨f1, f2, h1, slots_spec hk, nodup_ok hnd.1, nodup_ok h2, h3⟩
          refine wp_region_any hmix (draw_any hcall R (fun x hx => ?_) (fun S a' w' hS hJ => hQ a' w' (draw_end R f3 hS hJ)) ops.size _ a _ (by simp) ?_ ?_ ?_)
          · have := (f2 x hx).at_
            exact hd x.o (List.mem_of_getElem? (i := x.i) (by simpa using this))
          · unfold left
            refine Nat.le_trans (List.length_filter_le _ _) (by simp)
          · intro z hz hl
            simp [Array.getD_eq_getD_getElem?, Array.getElem?_replicate] at hl
            split at hl <;> simp at hl
          · obtain ⟨M, β, hS, hFr, hM, hn, hdef, hpin⟩ := hI
            have hf : (fun i => (Array.replicate ops.size false).getD i false) = fun _ => false := by
              funext i
              simp only [Array.getD_eq_getD_getElem?, Array.getElem?_replicate]
              split <;> rfl
            rw [hf]
            have hw : VR M0 M β st.view a.tmps { w with drawn := w.drawn + 1 } := hS.1.world (Fr.drew w _)
            have e1 : ∀ t, (seen (fun _ => false) st done).get t = st.get t := by
              intro t
              show doneGet _ t st.get done = st.get t
              have : ∀ l : List Done, doneGet (fun _ => false) t st.get l = st.get t := by
                intro l
                induction l with
                | nil => rfl
                | cons x r ih => simp only [doneGet, ih]; split <;> simp
              exact this done
            have e2 : ∀ id, (seen (fun _ => false) st done).obj id = st.obj id := by
              intro id
              rw [seen_obj]
              have : ∀ l : List Done, doneObj (fun _ => false) id st.obj l = st.obj id := by
                intro l
                induction l with
                | nil => rfl
                | cons x r ih => rw [doneObj_cons, ih]; simp
              exact this done
            refine ⟨M, β, hw.less e1 (fun id o h => by rw [e2] at h; exact h), ⟨fun t i hi => ?_, fun id o h => ?_⟩, hFr.trans (Fr.drew w (fun _ _ => False)) (fun _ _ h => h) (fun _ _ h => h.elim), hM, hn, hdef, hpin, fun id hid => ?_⟩
            · rw [e1] at hi; exact .inl (hS.2.1 t i hi)
            · rw [e2] at h
              exact ⟨.inl ⟨o, h⟩, fun i hi => .inl ((hS.2.2 id o h).2 i hi)⟩
            · rcases hid with ⟨o, h⟩ | ⟨z, _, h, _⟩
              · exact .inr ⟨o, by rw [e2]; exact h⟩
              · exact absurd h (by simp)
        · exact absurd h (by simp)
      · exact absurd h (by simp)
    · exact absurd h (by simp)

end
end Go.Proofs.YtbnjbianobdleaaGreat.Vm

/-
  A function's code.
-/
namespace Go.Proofs.YtbnjbianobdleaaGreat.Vm
open Go
set_option linter.unusedVariables false
set_option linter.unusedSimpArgs false

def dstsOk (n : Nat) : Code → Bool
  | .region _ ops _ => ops.toList.all fun o => match o.dst with | some t => decide (t < n) | none => true
  | .seq a b => dstsOk n a && dstsOk n b
  | .cond _ a b => dstsOk n a && dstsOk n b
  | .block _ b => dstsOk n b
  | .loop b => dstsOk n b
  | .scope b => dstsOk n b
  | _ => true

theorem findLabel_dsts {n l : Nat} : ∀ {c rest : Code}, findLabel c l = some rest → dstsOk n c = true → dstsOk n rest = true
  | .seq a b, rest, h, hd => by
    simp only [dstsOk, Bool.and_eq_true] at hd
    simp only [findLabel] at h
    split at h
    · rename_i r hr
      simp only [Option.some.injEq] at h; subst h
      simp only [dstsOk, Bool.and_eq_true]
      exact ⟨findLabel_dsts hr hd.1, hd.2⟩
    · exact findLabel_dsts h hd.2
  | .label l', rest, h, hd => by
    simp only [findLabel] at h
    split at h
    · simp only [Option.some.injEq] at h; subst h; rfl
    · exact absurd h (by simp)
  | .skip, _, h, _ | .region _ _ _, _, h, _ | .cond _ _ _, _, h, _ | .block _ _, _, h, _ | .loop _, _, h, _ | .rangeFunc _ _ _ _, _, h, _ | .exit _, _, h, _ | .scope _, _, h, _ | .goto _, _, h, _ | .ret, _, h, _ | .refuse _, _, h, _ => by simp [findLabel] at h

def ExO : Ex → Exit
  | .normal => .normal
  | .exit id => .exit id
  | .goto l => .goto l
  | .ret => .ret

section
variable {C : Cx} {call : FuncId → List TV → Option (List TV × List TV)} {M0 D0 : Cells} {β0 : Nat → Loc} {w0 : World} {n : Nat} {f : FuncId} {kk : Nat}

/-- Behind a jump. -/
def AgainOK (C : Cx) (M0 D0 : Cells) (β0 : Nat → Loc) (w0 : World) (n : Nat) (again : Code → Code → St → Option (Ex × St)) : Prop :=
  ∀ (b rest : Code) (st : St) (r : Ex × St) (a : Act) (w : World), again b rest st = some r → dstsOk n b = true → dstsOk n rest = true → Inv M0 D0 β0 w0 n st a w →
    ∀ (b0 : Frame) (k : List Item) (cs : List Frame), ∃ a' w', Inv M0 D0 β0 w0 n r.2 a' w' ∧ Arrives C.P (lone (b0.at a (.code rest :: .inScope b :: k)) cs w) b0 k cs (ExO r.1) a' w'

def Post1 (M0 D0 : Cells) (β0 : Nat → Loc) (w0 : World) (n : Nat) (r : Ex × St) : Exit → Act → World → Prop := fun e a' w' => e = ExO r.1 ∧ Inv M0 D0 β0 w0 n r.2 a' w'

theorem inv_norm {st s : St} {a : Act} {w : World} {x : List Nat × List Nat × List (Nat × Option Nat × Nat)} (hI : Inv M0 D0 β0 w0 n st a w) (h : norm x st = some s) : Inv M0 D0 β0 w0 n s a w := Inv.step hI (pass_norm h)

/-- Through a scope's end. -/
theorem arrives_scope {b0 : Frame} {k : List Item} {cs : List Frame} {b : Code} {m : Machine} {a : Act} {w : World} : ∀ {e : Ex}, (∀ l, e ≠ .goto l) → Arrives C.P m b0 (.inScope b :: k) cs (ExO e) a w → Arrives C.P m b0 k cs (ExO e) a w
  | .normal, _, h => Steps.trans h (.one step_inScope)
  | .exit id, _, h => fun k' hk => h k' (by simp [exitTo, hk])
  | .goto l, hn, _ => absurd rfl (hn l)
  | .ret, _, h => h

theorem handle_ok {again : Code → Code → St → Option (Ex × St)} (hag : AgainOK C M0 D0 β0 w0 n again) {b : Code} (hb : dstsOk n b = true) {r : Ex × St} {r0 : Option (Ex × St)} (h : handle C f again b r0 = some r) :
    ∃ r1, r0 = some r1 ∧ ∀ (m : Machine) (a1 : Act) (w1 : World) (b0 : Frame) (k : List Item) (cs : List Frame), Inv M0 D0 β0 w0 n r1.2 a1 w1 → Arrives C.P m b0 (.inScope b :: k) cs (ExO r1.1) a1 w1 →
      ∃ a' w', Inv M0 D0 β0 w0 n r.2 a' w' ∧ Arrives C.P m b0 k cs (ExO r.1) a' w' := by
  unfold handle at h
  split at h
  · rename_i l s
    refine ⟨_, rfl, fun m a1 w1 b0 k cs hI harr => ?_⟩
    split at h
    · rename_i rest s' hf hn
      obtain ⟨a', w', h1, h2⟩ := hag b rest s' r a1 w1 h hb (findLabel_dsts hf hb) (inv_norm hI hn) b0 k cs
      exact ⟨a', w', h1, .of_steps (harr _ (by simp [gotoIn, hf])) h2⟩
    · exact absurd h (by simp)
  · rename_i hng
    cases r0 with
    | none => simp at h
    | some r1 =>
      simp only [Option.some.injEq] at h; subst h
      exact ⟨r1, rfl, fun m a1 w1 b0 k cs hI harr => ⟨a1, w1, hI, arrives_scope (fun l e => hng l r1.2 (by rw [← e])) harr⟩⟩

theorem code_ok (hcall : ∀ f as rs fs, call f as = some (rs, fs) → Contract C.P (C.modes f) f as rs fs) (hmix : C.P.follows .mixedOrders = true) {again : Code → Code → St → Option (Ex × St)} (hag : AgainOK C M0 D0 β0 w0 n again) :
    ∀ (c : Code) (st : St) (r : Ex × St) (a : Act) (w : World), code C call f kk again c st = some r → dstsOk n c = true → Inv M0 D0 β0 w0 n st a w → c.wp C.P (Post1 M0 D0 β0 w0 n r) a w
  | .skip, st, r, a, w, h, hd, hI => by
    simp only [code, Option.some.injEq] at h; subst h
    exact wp_skip ⟨rfl, hI⟩
  | .label l, st, r, a, w, h, hd, hI => by
    simp only [code] at h
    split at h
    · rename_i s hs
      simp only [Option.some.injEq] at h; subst h
      exact wp_label ⟨rfl, inv_norm hI hs⟩
    · exact absurd h (by simp)
  | .region id ops draw, st, r, a, w, h, hd, hI => by
    simp only [code] at h
    split at h
    · rename_i s hs
      split at h
      · rename_i s' hs'
        simp only [Option.some.injEq] at h; subst h
        refine region_ok hcall hmix (Inv.step hI (pass_freezeSlots _ hs)) hs' (fun o ho t ht => ?_) fun a' w' hI' => ⟨rfl, hI'⟩
        simp only [dstsOk, List.all_eq_true] at hd
        have := hd o ho
        rw [ht] at this
        simpa using this
      · exact absurd h (by simp)
    · exact absurd h (by simp)
  | .seq x y, st, r, a, w, h, hd, hI => by
    simp only [dstsOk, Bool.and_eq_true] at hd
    simp only [code] at h
    split at h
    · rename_i s hs
      refine wp_seq (wp_mono (code_ok hcall hmix hag x st _ a w hs hd.1 hI) ?_)
      rintro e a' w' ⟨he, hI'⟩
      subst he
      exact code_ok hcall hmix hag y s r a' w' h hd.2 hI'
    · rename_i hne
      refine wp_seq (wp_mono (code_ok hcall hmix hag x st r a w h hd.1 hI) ?_)
      rintro e a' w' ⟨he, hI'⟩
      subst he
      obtain ⟨e, s⟩ := r
      cases e with
      | normal => exact absurd h (hne s)
      | exit id => exact ⟨rfl, hI'⟩
      | goto l => exact ⟨rfl, hI'⟩
      | ret => exact ⟨rfl, hI'⟩
  | .cond c x y, st, r, a, w, h, hd, hI => by
    simp only [dstsOk, Bool.and_eq_true] at hd
    simp only [code] at h
    split at h
    · rename_i t ht
      obtain ⟨M, β, hS, _⟩ := id hI
      have hc := eval_ok (a := a) hS.1 ht
      simp only [AVR, Rep] at hc
      refine wp_cond hc ?_
      cases t with
      | true => exact code_ok hcall hmix hag x st r a w h hd.1 hI
      | false => exact code_ok hcall hmix hag y st r a w h hd.2 hI
    · exact absurd h (by simp)
  | .block id b, st, r, a, w, h, hd, hI => by
    simp only [dstsOk] at hd
    simp only [code] at h
    split at h
    · rename_i i s hs
      refine wp_block (wp_mono (code_ok hcall hmix hag b st _ a w hs hd hI) ?_)
      rintro e a' w' ⟨he, hI'⟩
      subst he
      simp only [ExO, Exit.inBlock]
      split at h
      · rename_i e
        simp only [Option.some.injEq] at h; subst h
        rw [if_pos e]
        exact ⟨rfl, hI'⟩
      · rename_i e
        simp only [Option.some.injEq] at h; subst h
        rw [if_neg e]
        exact ⟨rfl, hI'⟩
    · rename_i hne
      refine wp_block (wp_mono (code_ok hcall hmix hag b st r a w h hd hI) ?_)
      rintro e a' w' ⟨he, hI'⟩
      subst he
      obtain ⟨e, s⟩ := r
      cases e with
      | normal => exact ⟨rfl, hI'⟩
      | exit id => exact absurd h (hne id s)
      | goto l => exact ⟨rfl, hI'⟩
      | ret => exact ⟨rfl, hI'⟩
  | .loop b, st, r, a, w, h, hd, hI => by
    simp only [dstsOk] at hd
    simp only [code] at h
    intro b0 k cs
    have key : ∀ (m : Nat) (st : St) (a : Act) (w : World), loopN (fun s => match norm (C.loops f (tag b)) s with | some s => code C call f kk again b s | none => none) m st = some r → Inv M0 D0 β0 w0 n st a w →
        ∃ e a' w', Post1 M0 D0 β0 w0 n r e a' w' ∧ Arrives C.P (lone (b0.at a (.code b :: .inLoop b :: k)) cs w) b0 k cs e a' w' := by
      intro m
      induction m with
      | zero => intro st a w h; simp [loopN] at h
      | succ m ih =>
        intro st a w h hI
        simp only [loopN] at h
        have one : ∀ r1, (match norm (C.loops f (tag b)) st with | some s => code C call f kk again b s | none => none) = some r1 → ∃ e a' w', Post1 M0 D0 β0 w0 n r1 e a' w' ∧ Arrives C.P (lone (b0.at a (.code b :: .inLoop b :: k)) cs w) b0 (.inLoop b :: k) cs e a' w' := by
          intro r1 h1
          split at h1
          · rename_i s hs
            exact code_ok hcall hmix hag b s r1 a w h1 hd (inv_norm hI hs) b0 (.inLoop b :: k) cs
          · exact absurd h1 (by simp)
        split at h
        · rename_i s hs
          obtain ⟨e, a', w', ⟨he, hI'⟩, harr⟩ := one _ hs
          subst he
          obtain ⟨e2, a2, w2, h2, harr2⟩ := ih s a' w' h hI'
          exact ⟨e2, a2, w2, h2, .of_steps (Steps.trans harr (.one step_inLoop)) harr2⟩
        · rename_i hne
          obtain ⟨e, a', w', ⟨he, hI'⟩, harr⟩ := one r h
          subst he
          obtain ⟨e, s⟩ := r
          cases e with
          | normal => exact absurd h (hne s)
          | exit id => exact ⟨_, a', w', ⟨rfl, hI'⟩, .pass (x := .inLoop b) rfl (fun _ _ => .inl (by simp [ExO])) harr⟩
          | goto l => exact ⟨_, a', w', ⟨rfl, hI'⟩, .pass (x := .inLoop b) rfl (fun _ _ => .inl (by simp [ExO])) harr⟩
          | ret => exact ⟨_, a', w', ⟨rfl, hI'⟩, .pass (x := .inLoop b) rfl (fun _ _ => .inl (by simp [ExO])) harr⟩
    obtain ⟨e, a', w', h1, harr⟩ := key kk st a w h hI
    exact ⟨e, a', w', h1, .of_steps (.one step_loop) harr⟩
  | .scope b, st, r, a, w, h, hd, hI => by
    simp only [dstsOk] at hd
    simp only [code] at h
    intro b0 k cs
    obtain ⟨r1, h1, h2⟩ := handle_ok hag hd h
    obtain ⟨e, a1, w1, ⟨he, hI1⟩, harr⟩ := code_ok hcall hmix hag b st r1 a w h1 hd hI b0 (.inScope b :: k) cs
    subst he
    obtain ⟨a', w', h3, h4⟩ := h2 _ a1 w1 b0 k cs hI1 harr
    exact ⟨_, a', w', ⟨rfl, h3⟩, .of_steps (.one step_scope) h4⟩
  | .exit id, st, r, a, w, h, hd, hI => by
    simp only [code, Option.some.injEq] at h; subst h
    exact wp_exit ⟨rfl, hI⟩
  | .goto l, st, r, a, w, h, hd, hI => by
    simp only [code, Option.some.injEq] at h; subst h
    exact wp_goto ⟨rfl, hI⟩
  | .ret, st, r, a, w, h, hd, hI => by
    simp only [code, Option.some.injEq] at h; subst h
    exact wp_ret ⟨rfl, hI⟩
  | .rangeFunc _ _ _ _, st, r, a, w, h, hd, hI => by simp [code] at h
  | .refuse _, st, r, a, w, h, hd, hI => by simp [code] at h

theorem again_ok (hcall : ∀ f as rs fs, call f as = some (rs, fs) → Contract C.P (C.modes f) f as rs fs) (hmix : C.P.follows .mixedOrders = true) : ∀ m, AgainOK C M0 D0 β0 w0 n (againN C call f kk m)
  | 0 => by intro b rest st r a w h; simp [againN] at h
  | m + 1 => by
    intro b rest st r a w h hb hrest hI b0 k cs
    simp only [againN] at h
    obtain ⟨r1, h1, h2⟩ := handle_ok (again_ok hcall hmix m) hb h
    obtain ⟨e, a1, w1, ⟨he, hI1⟩, harr⟩ := code_ok hcall hmix (again_ok hcall hmix m) rest st r1 a w h1 hrest hI b0 (.inScope b :: k) cs
    subst he
    exact h2 _ a1 w1 b0 k cs hI1 harr

theorem body_ok (hcall : ∀ f as rs fs, call f as = some (rs, fs) → Contract C.P (C.modes f) f as rs fs) (hmix : C.P.follows .mixedOrders = true) {c : Code} {st : St} {r : Ex × St} {a : Act} {w : World}
    (h : bodyOf C call f kk c st = some r) (hd : dstsOk n c = true) (hI : Inv M0 D0 β0 w0 n st a w) : c.wp C.P (Post1 M0 D0 β0 w0 n r) a w :=
  code_ok hcall hmix (again_ok hcall hmix kk) c st r a w h hd hI

end
end Go.Proofs.YtbnjbianobdleaaGreat.Vm

/-
  A call of a function.
-/
namespace Go.Proofs.YtbnjbianobdleaaGreat.Vm
open Go
set_option linter.unusedVariables false
set_option linter.unusedSimpArgs false

theorem pw_of_mem {α : Type} {R : α → α → Prop} (hs : ∀ a b, R a b → R b a) : ∀ {l : List α}, l.Pairwise R → ∀ a ∈ l, ∀ b ∈ l, a ≠ b → R a b
  | [], _, a, ha, _, _, _ => by simp at ha
  | x :: l, h, a, ha, b, hb, hne => by
    rw [List.pairwise_cons] at h
    rcases List.mem_cons.1 ha with e | ha
    · rcases List.mem_cons.1 hb with e' | hb
      · exact absurd (e.trans e'.symm) hne
      · rw [e]; exact h.1 b hb
    · rcases List.mem_cons.1 hb with e' | hb
      · rw [e']; exact hs _ _ (h.1 a ha)
      · exact pw_of_mem hs h.2 a ha b hb hne

/-- Which number the parameters' places get. -/
def asgA : Nat → List LT → List (Nat × Loc)
  | _, [] => []
  | j, t :: r => asg innerId (parId j) t ++ asgA (j + 1) r

section
variable {M0 M : Cells} {w : World} {tm : Array Value}

/-- One parameter. -/
theorem add_tv {β : Nat → Loc} {st s1 : St} {v : TV} {t : LT} {c : Value} {j : Nat} (hS : SR M0 M β st tm w) (hv : TVL w M v t c) (hc : tm.getD j undef = c) (hM : ∀ l ∈ t.locs, ∀ b x, l.F b x → M b x ∧ ¬ M0 b x) (hap : Apart t.locs)
    (hold : ∀ id o, st.obj id = some o → ∀ l ∈ t.locs, ∀ b x, (β id).F b x → ¬ l.F b x) (h : st.add (place innerId (parId j) v).2 = some s1) :
    ∃ β1, SR M0 M β1 (s1.put j (place innerId (parId j) v).1) tm w ∧ (∀ id, (∃ o, st.obj id = some o) → β1 id = β id) ∧ (∀ p ∈ asg innerId (parId j) t, β1 p.1 = p.2) ∧ (∀ id o, (s1.put j (place innerId (parId j) v).1).obj id = some o → st.obj id = some o ∨ β1 id ∈ t.locs) := by
  obtain ⟨a1, a2, a3, a4⟩ := add_spec _ h
  have hids := place_ids innerId v (parId j) t c hv
  rw [hids] at a2 a3
  obtain ⟨β1, hβ⟩ : ∃ β1 : Nat → Loc, ∀ i, β1 i = match lkp i (asg innerId (parId j) t) with | some l => l | none => β i := ⟨_, fun _ => rfl⟩
  have hb : ∀ p ∈ asg innerId (parId j) t, β1 p.1 = p.2 := by
    intro p hp
    rw [hβ, lkp_of_mem (n := p.1) (a := p.2) a2 hp]
  have hbo' : ∀ id, (∃ o, st.obj id = some o) → β1 id = β id := by
    rintro id ⟨o, ho⟩
    have : id ∉ (asg innerId (parId j) t).map (·.1) := fun hi => by rw [a3 id hi] at ho; simp at ho
    rw [hβ, lkp_none_of this]
  obtain ⟨p1, p2⟩ := place_ok innerId v (parId j) t c hv hb
  obtain ⟨r1, r2⟩ := place_refs innerId v (parId j)
  have hlocs := asg_locs innerId (parId j) t
  have hk : ∀ b o v, at_ w b o = some v → ¬ M b o → at_ w b o = some v ∧ ¬ M b o := fun b o v h1 h2 => ⟨h1, h2⟩
  have hobj : ∀ id o, (s1.put j (place innerId (parId j) v).1).obj id = some o → ((id, o) ∈ (place innerId (parId j) v).2) ∨ st.obj id = some o := by
    intro id o ho
    have ho' : s1.obj id = some o := ho
    rw [a4] at ho'
    split at ho'
    · rename_i o' hl
      simp only [Option.some.injEq] at ho'; subst ho'
      exact .inl (lkp_mem hl)
    · exact .inr ho'
  have hnew : ∀ id o, (id, o) ∈ (place innerId (parId j) v).2 → (id, β1 id) ∈ asg innerId (parId j) t ∧ β1 id ∈ t.locs := by
    intro id o hm
    have : id ∈ (asg innerId (parId j) t).map (·.1) := by rw [← hids]; exact List.mem_map_of_mem (f := (·.1)) hm
    obtain ⟨p, hp, rfl⟩ := List.mem_map.1 this
    rw [hb p hp]
    exact ⟨hp, by rw [← hlocs]; exact List.mem_map_of_mem (f := (·.2)) hp⟩
  have hex : ∀ i, (∃ o, st.obj i = some o) ∨ i ∈ (place innerId (parId j) v).2.map (·.1) → ∃ o, (s1.put j (place innerId (parId j) v).1).obj i = some o := by
    intro i hi
    show ∃ o, s1.obj i = some o
    rw [a4]
    cases hl : lkp i (place innerId (parId j) v).2 with
    | some o => exact ⟨o, rfl⟩
    | none =>
      rcases hi with hi | hi
      · exact hi
      · obtain ⟨p, hp, rfl⟩ := List.mem_map.1 hi
        rw [lkp_of_mem (n := p.1) (a := p.2) (by rw [hids]; exact a2) hp] at hl; simp at hl
  refine ⟨β1, ⟨⟨hS.1.sup, hS.1.old, fun t' => ?_, fun id o ho => ?_, fun id o ho b x hF => ?_, fun id id' o o' ho ho' hne b x hF hF' => ?_⟩, fun t' i hi => ?_, fun id o ho => ⟨⟨o, ho⟩, fun i hi => ?_⟩⟩, hbo', hb, fun id o ho => ?_⟩
  · show AVR β1 w M ((s1.put j _).get t') _
    rw [put_get]
    split
    · rename_i e; subst e; rw [hc]; exact p1
    · have hg : s1.get t' = st.get t' := by simp only [St.get, a1]
      rw [hg]
      exact AVR.mono hk _ _ (fun i hi => by rw [hbo' i (hS.2.1 t' i hi)]; exact Loc.same_refl _) (hS.1.slots t')
  · rcases hobj id o ho with hm | ho
    · exact p2 _ hm
    · rw [hbo' id ⟨o, ho⟩]
      exact ObjR.mono hk (fun _ _ _ _ h => ⟨h, rfl⟩) (fun _ _ h => h) (fun _ _ _ => rfl) (fun _ h => h) (fun i hi => by rw [hbo' i ((hS.2.2 id o ho).2 i hi)]; exact Loc.same_refl _) (hS.1.objs id o ho)
  · rcases hobj id o ho with hm | ho
    · exact hM _ (hnew id o hm).2 b x hF
    · rw [hbo' id ⟨o, ho⟩] at hF
      exact hS.1.own id o ho b x hF
  · rcases hobj id o ho with hm | ho
    · rcases hobj id' o' ho' with hm' | ho'
      · have hp := (hnew id o hm).1
        have hp' := (hnew id' o' hm').1
        have hpw : (asg innerId (parId j) t).Pairwise (fun p q => ∀ b x, p.2.F b x → ¬ q.2.F b x) := by
          have := hap
          unfold Apart at this
          rw [← hlocs, List.pairwise_map] at this
          exact this
        exact pw_of_mem (R := fun p q : Nat × Loc => ∀ b x, p.2.F b x → ¬ q.2.F b x) (fun a b h x y h1 h2 => h x y h2 h1) hpw _ hp _ hp' (fun e => hne (by injection e)) b x hF hF'
      · rw [hbo' id' ⟨o', ho'⟩] at hF'
        exact hold id' o' ho' _ (hnew id o hm).2 b x hF' hF
    · rw [hbo' id ⟨o, ho⟩] at hF
      rcases hobj id' o' ho' with hm' | ho'
      · exact hold id o ho _ (hnew id' o' hm').2 b x hF hF'
      · rw [hbo' id' ⟨o', ho'⟩] at hF'
        exact hS.1.disj id id' o o' ho ho' hne b x hF hF'
  · have hi' : i ∈ ((s1.put j (place innerId (parId j) v).1).get t').refs := hi
    rw [put_get] at hi'
    split at hi'
    · exact hex i (.inr (r1 i hi'))
    · have hg : s1.get t' = st.get t' := by simp only [St.get, a1]
      rw [hg] at hi'
      exact hex i (.inl (hS.2.1 t' i hi'))
  · rcases hobj id o ho with hm | ho
    · exact hex i (.inr (r2 _ hm i hi))
    · exact hex i (.inl ((hS.2.2 id o ho).2 i hi))
  · rcases hobj id o ho with hm | ho
    · exact .inr (hnew id o hm).2
    · exact .inl ho

theorem enter_ok : ∀ (as : List TV) (j : Nat) (ts : List LT) (cs : List Value) (β : Nat → Loc) (st s : St), SR M0 M β st tm w → TVAll w M as ts cs → (∀ k c, cs[k]? = some c → tm.getD (j + k) undef = c) → (∀ l ∈ LT.locsL ts, ∀ b x, l.F b x → M b x ∧ ¬ M0 b x) → Apart (LT.locsL ts) →
    (∀ id o, st.obj id = some o → ∀ l ∈ LT.locsL ts, ∀ b x, (β id).F b x → ¬ l.F b x) → enter j as st = some s →
    ∃ β', SR M0 M β' s tm w ∧ (∀ id, (∃ o, st.obj id = some o) → β' id = β id) ∧ (∀ id, (∃ o, st.obj id = some o) → ∃ o, s.obj id = some o) ∧ ∀ p ∈ asgA j ts, β' p.1 = p.2
  | [], j, ts, cs, β, st, s, hS, hT, hc, hM, hap, hold, h => by
    simp only [enter, Option.some.injEq] at h; subst h
    simp only [TVAll] at hT
    obtain ⟨rfl, rfl⟩ := hT
    exact ⟨β, hS, fun _ _ => rfl, fun _ h => h, by simp [asgA]⟩
  | v :: as, j, ts, cs, β, st, s, hS, hT, hc, hM, hap, hold, h => by
    simp only [TVAll] at hT
    obtain ⟨t, r, c, d, rfl, rfl, hv, hr⟩ := hT
    simp only [enter] at h
    split at h
    · rename_i s1 h1
      simp only [LT.locsL] at hM hap hold
      obtain ⟨β1, k1, k2, k3, k4⟩ := add_tv hS hv (by simpa using hc 0 c rfl) (fun l hl => hM l (by simp [hl])) hap.left (fun id o ho l hl => hold id o ho l (by simp [hl])) h1
      have hdis : ∀ id o, (s1.put j (place innerId (parId j) v).1).obj id = some o → ∀ l ∈ LT.locsL r, ∀ b x, (β1 id).F b x → ¬ l.F b x := by
        intro id o ho l hl b x hF
        rcases k4 id o ho with ho' | hin
        · rw [k2 id ⟨o, ho'⟩] at hF
          exact hold id o ho' l (by simp [hl]) b x hF
        · have := (List.pairwise_append.1 hap).2.2 _ hin l hl
          exact this b x hF
      obtain ⟨β', m1, m2, m3, m4⟩ := enter_ok as (j + 1) r d β1 _ s k1 hr (fun k c' hk => by
        have := hc (k + 1) c' (by simpa using hk)
        rwa [show j + (k + 1) = j + 1 + k by omega] at this) (fun l hl => hM l (by simp [hl])) hap.right hdis h
      · have hst : ∀ id, (∃ o, st.obj id = some o) → ∃ o, (s1.put j (place innerId (parId j) v).1).obj id = some o := by
          rintro id ⟨o, ho⟩
          obtain ⟨a1, a2, a3, a4⟩ := add_spec _ h1
          show ∃ o, s1.obj id = some o
          rw [a4]
          cases lkp id (place innerId (parId j) v).2 with
          | some o => exact ⟨o, rfl⟩
          | none => exact ⟨o, ho⟩
        refine ⟨β', m1, fun id hi => (m2 id (hst id hi)).trans (k2 id hi), fun id hi => m3 id (hst id hi), fun p hp => ?_⟩
        simp only [asgA, List.mem_append] at hp
        rcases hp with hp | hp
        · rw [← k3 p hp]
          refine m2 p.1 ?_
          have : p.1 ∈ (place innerId (parId j) v).2.map (·.1) := by rw [place_ids innerId v (parId j) t c hv]; exact List.mem_map_of_mem (f := (·.1)) hp
          obtain ⟨q, hq, hqe⟩ := List.mem_map.1 this
          obtain ⟨a1, a2, a3, a4⟩ := add_spec _ h1
          show ∃ o, s1.obj p.1 = some o
          rw [a4, ← hqe, lkp_of_mem (n := q.1) (a := q.2) a2 hq]
          exact ⟨_, rfl⟩
        · exact m4 p hp
    · exact absurd h (by simp)

end

/-! ### Results -/
section
variable {P : Program} {M0 M : Cells} {β : Nat → Loc} {V : View} {w : World} {tm : Array Value}

theorem resTV1_ok (hV : VR M0 M β V tm w) {v : AV} {c : Value} {x : TV} {ids : List Nat} (hc : AVR β w M v c) (h : resTV1 V v = some (x, ids)) : ∃ t js, TVL w M x t c ∧ js.Perm ids ∧ OwnL V β t.locs js := by
  have lent : ∀ {x : TV} {l : List Nat}, lentTV V v = some (x, l) → (∀ i ∈ l, False) → ∃ t js, TVL w M x t c ∧ js.Perm [] ∧ OwnL V β t.locs js := by
    intro x l hl hf
    obtain ⟨y, rfl, hy⟩ := lent_ok hV (fun _ _ h => h) hc hl (fun i hi => (hf i hi).elim)
    exact ⟨.none, [], by simp only [TVL]; exact ⟨trivial, hy⟩, List.Perm.refl _, OwnL.nil⟩
  unfold resTV1 at h
  split at h
  · simp only [Option.some.injEq, Prod.mk.injEq] at h; obtain ⟨rfl, rfl⟩ := h
    exact lent (l := []) rfl (by simp)
  · simp only [Option.some.injEq, Prod.mk.injEq] at h; obtain ⟨rfl, rfl⟩ := h
    exact lent (l := []) rfl (by simp)
  · split at h
    · rename_i hp
      simp only [Option.some.injEq, Prod.mk.injEq] at h; obtain ⟨rfl, rfl⟩ := h
      exact lent (l := []) (by simp only [lentTV, hp]) (by simp)
    · exact absurd h (by simp)
  · split at h
    · rename_i hp
      split at h
      · rename_i ho
        simp only [Option.some.injEq, Prod.mk.injEq] at h; obtain ⟨rfl, rfl⟩ := h
        exact lent (l := []) (by simp only [lentTV, hp, ho, if_true]) (by simp)
      · exact absurd h (by simp)
    · exact absurd h (by simp)
  · split at h
    · rename_i id _ sz es ho
      simp only [Option.some.injEq, Prod.mk.injEq] at h; obtain ⟨rfl, rfl⟩ := h
      simp only [AVR] at hc
      exact ⟨.one (β id), [id], by simp only [TVL]; exact ⟨β id, rfl, hc, hV.objs id _ ho⟩, List.Perm.refl _, OwnL.cons ⟨⟨_, ho⟩, fun _ _ h => h⟩ OwnL.nil⟩
    · exact absurd h (by simp)
  · split at h
    · rename_i ob hl
      simp only [Option.some.injEq, Prod.mk.injEq] at h; obtain ⟨rfl, rfl⟩ := h
      obtain ⟨t, js, k1, k2, k3, _⟩ := leaf_ok hV 4 _ c _ _ _ hc hl
      refine ⟨t, js, k1, ?_, k3⟩
      cases ob <;> simpa [oids] using k2
    · exact absurd h (by simp)
  · exact absurd h (by simp)

def rvRun (tm : Array Value) : ResultVar → Sem Value
  | .tmp t => pure (tm.getD t undef)
  | .cell a t => do loadVar t (← asAddr (tm.getD a undef))

theorem resVal_ok {C : Cx} (hV : VR M0 M β V tm w) {x : ResultVar} {v : AV} (h : resVal C V x = some v) : ∃ c, (rvRun tm x).run C.P w = .ok c w ∧ AVR β w M v c := by
  cases x with
  | tmp t =>
    simp only [resVal, Option.some.injEq] at h; subst h
    exact ⟨_, by simp [rvRun], hV.slots t⟩
  | cell a t =>
    simp only [resVal] at h
    split at h
    · exact absurd h (by simp)
    · rename_i ht
      have ht : okT C.P t = true := by simpa using ht
      split at h
      · rename_i id i off hg
        have hs := hV.slots a
        rw [hg] at hs
        simp only [AVR] at hs
        obtain ⟨b, o, hb, hs⟩ := hs
        split at h
        · rename_i cs ho
          split at h
          · rename_i hcond
            obtain ⟨rfl, hl⟩ := hcond
            rw [Nat.zero_mul, Nat.add_zero] at hs
            obtain ⟨c, k1, k2, _⟩ := load_box (P := C.P) ht (hV.objs id _ ho) hb hl (v := v) (by
              split at h
              · rename_i hag
                rw [if_pos hag]
                split at h
                · rename_i hown; rw [if_pos hown]; simp only [Option.some.injEq] at h; rw [h]
                · exact absurd h (by simp)
              · rename_i hag
                rw [if_neg hag, h])
            exact ⟨c, by simp [rvRun, hs, asAddr, k1], k2⟩
          · exact absurd h (by simp)
        · exact absurd h (by simp)
      · exact absurd h (by simp)

theorem mapM_run1 {α : Type} {f : α → Sem Value} : ∀ (l : List α) (vs : List Value), l.length = vs.length → (∀ (k : Nat) (x : α) (c : Value), l[k]? = some x → vs[k]? = some c → (f x).run P w = .ok c w) → (l.mapM f).run P w = .ok vs w
  | [], [], _, _ => by simp
  | [], _ :: _, h, _ => by simp at h
  | _ :: _, [], h, _ => by simp at h
  | x :: l, v :: vs, hl, h => by
    have h1 := h 0 x v rfl rfl
    have h2 := mapM_run1 l vs (by simpa using hl) (fun k y c hy hc => h (k + 1) y c (by simpa using hy) (by simpa using hc))
    simp [List.mapM_cons, h1, h2]

theorem resTVs_ok {C : Cx} (hV : VR M0 M β V tm w) : ∀ (rv : List ResultVar) (rs : List TV) (ids : List Nat), resTVs C V rv = some (rs, ids) →
    ∃ vs lrs js, rv.length = vs.length ∧ (∀ (k : Nat) (x : ResultVar) (c : Value), rv[k]? = some x → vs[k]? = some c → (rvRun tm x).run C.P w = .ok c w) ∧ TVAll w M rs lrs vs ∧ js.Perm ids ∧ OwnL V β (LT.locsL lrs) js
  | [], rs, ids, h => by
    simp only [resTVs, Option.some.injEq, Prod.mk.injEq] at h; obtain ⟨rfl, rfl⟩ := h
    exact ⟨[], [], [], rfl, by simp, by simp [TVAll], List.Perm.refl _, OwnL.nil⟩
  | x :: rv, rs, ids, h => by
    simp only [resTVs] at h
    split at h
    · rename_i v hv
      split at h
      · rename_i y i l is hy hl
        simp only [Option.some.injEq, Prod.mk.injEq] at h; obtain ⟨rfl, rfl⟩ := h
        obtain ⟨c, k1, k2⟩ := resVal_ok hV hv
        obtain ⟨t, js, k3, k4, k5⟩ := resTV1_ok hV k2 hy
        obtain ⟨vs, lrs, js', m1, m2, m3, m4, m5⟩ := resTVs_ok hV rv l is hl
        refine ⟨c :: vs, t :: lrs, js ++ js', by simp [m1], fun k x' c' hx hc => ?_, by simp only [TVAll]; exact ⟨t, lrs, c, vs, rfl, rfl, k3, m3⟩, List.Perm.append k4 m4, by simp only [LT.locsL]; exact k5.append m5⟩
        cases k with
        | zero => simp at hx hc; subst hx; subst hc; exact k1
        | succ k => exact m2 k x' c' (by simpa using hx) (by simpa using hc)
      · exact absurd h (by simp)
    · exact absurd h (by simp)

theorem results_run {fn : Func} {vs : List Value} (h : (fn.results.toList.mapM (rvRun tm)).run P w = .ok vs w) : (results fn tm).run P w = .ok (wrapV vs) w := by
  have e : results fn tm = (do let vs ← fn.results.mapM (rvRun tm); pure (if h : vs.size = 1 then vs[0] else .tuple vs)) := by
    unfold results
    congr 1
  rw [e, Array.mapM_eq_mapM_toList]
  simp [h]
  cases vs with
  | nil => rfl
  | cons v r => cases r <;> simp [wrapV]

end
end Go.Proofs.YtbnjbianobdleaaGreat.Vm

/-
  What comes back of parameters; a whole call.
-/
namespace Go.Proofs.YtbnjbianobdleaaGreat.Vm
open Go
set_option linter.unusedVariables false
set_option linter.unusedSimpArgs false

/-- Cells of these places are those of these objects. -/
def Cov (V : View) (β : Nat → Loc) (ls : List Loc) (ids : List Nat) : Prop := ∀ l ∈ ls, ∀ x y, l.F x y → ∃ i ∈ ids, (∃ o, V.obj i = some o) ∧ (β i).F x y
theorem Cov.nil {V : View} {β : Nat → Loc} (ids : List Nat) : Cov V β [] ids := by intro l hl; simp at hl
theorem Cov.append {V : View} {β : Nat → Loc} {ls ls' : List Loc} {a b : List Nat} (h : Cov V β ls a) (k : Cov V β ls' b) : Cov V β (ls ++ ls') (a ++ b) := by
  intro l hl x y hF
  rcases List.mem_append.1 hl with hl | hl
  · obtain ⟨i, h1, h2⟩ := h l hl x y hF; exact ⟨i, by simp [h1], h2⟩
  · obtain ⟨i, h1, h2⟩ := k l hl x y hF; exact ⟨i, by simp [h1], h2⟩
theorem Cov.cons {V : View} {β : Nat → Loc} {l : Loc} {ls : List Loc} {i : Nat} {b : List Nat} (h : (∃ o, V.obj i = some o) ∧ ∀ x y, l.F x y → (β i).F x y) (k : Cov V β ls b) : Cov V β (l :: ls) (i :: b) := by
  intro l' hl x y hF
  rcases List.mem_cons.1 hl with rfl | hl
  · exact ⟨i, by simp, h.1, h.2 x y hF⟩
  · obtain ⟨i, h1, h2⟩ := k l' hl x y hF; exact ⟨i, by simp [h1], h2⟩

theorem samePtr_eq {id : Nat} {v : AV} (h : samePtr id v = true) : v = .addr id 0 0 := by
  unfold samePtr at h
  split at h
  · rename_i i
    have : i = id := by simpa using h
    rw [this]
  · exact absurd h (by simp)

section
variable {M0 M Mw : Cells} {β β0 : Nat → Loc} {V : View} {w w0 : World} {tm : Array Value}

theorem parId_odd (j : Nat) : parId j % 2 = 1 := by unfold parId; omega
theorem innerId_odd (i j : Nat) : innerId i j % 2 = 1 := by unfold innerId; omega

mutual
theorem finalTV_ok (hV : VR M0 M β V tm w) (hpin : ∀ id o, id % 2 = 1 → V.obj id = some o → (β0 id).same (β id)) : ∀ (v : TV) (id : Nat) (t : LT) (c0 c : Value) (f : TV) (a b : List Nat), id % 2 = 1 → TVL w0 Mw v t c0 → (∀ p ∈ asg innerId id t, β0 p.1 = p.2) → AVR β w M (.addr id 0 0) c →
    finalTV V id v = some (f, a, b) → (∃ x, (∃ bs, f = .bld bs ∧ x = v) ∨ ∃ cs, f = .ptr cs ∧ x = v) ∧ ∃ lf js, TVL w M f lf c ∧ like t lf ∧ js.Perm (a ++ b) ∧ OwnL V β lf.locs js ∧ Cov V β lf.loose a ∧ Cov V β t.fixed b
  | .ptr cells, id, t, c0, c, f, a, b, hid, hv, hb, hc, h => by
    simp only [TVL] at hv
    obtain ⟨l, subs, b1, o1, rfl, h1, h2, h3, h4, h5⟩ := hv
    have hl := hb (id, l) (by simp [asg])
    simp only at hl
    simp only [finalTV] at h
    split at h
    · rename_i cs ho
      split at h
      · rename_i l' a' b' hls
        simp only [Option.some.injEq, Prod.mk.injEq] at h; obtain ⟨rfl, rfl, rfl⟩ := h
        have hp := hpin id _ hid ho
        rw [hl] at hp
        obtain ⟨b2, o2, q1, q2, q3, q4⟩ := hV.objs id _ ho
        have hbase : (β id).base = some (b1, o1) := hp.1.trans h1
        rw [hbase] at q1; injection q1 with q1; injection q1 with e1 e2; subst e1; subst e2
        obtain ⟨k0, k1, subs', js, k2, k3, k4, k5, k6, k7⟩ := finalTVs_ok hV hpin cells cs id 0 subs b1 o1 b1 o1 l' a' b' h5 (fun p hp => hb p (by simp only [asg, List.mem_cons]; exact .inr hp)) q4 hls
        simp only [AVR] at hc
        obtain ⟨b3, o3, hb3, hc⟩ := hc
        rw [hbase] at hb3; injection hb3 with hb3; injection hb3 with e1 e2; subst e1; subst e2
        refine ⟨⟨_, .inr ⟨_, rfl, rfl⟩⟩, .box (β id) subs', id :: js, ?_, ?_, ?_, ?_, ?_, ?_⟩
        · simp only [TVL]
          exact ⟨β id, subs', b1, o1, rfl, hbase, by rw [q2]; omega, q3, by simpa using hc, k2⟩
        · simp only [like]
          exact ⟨β id, subs', rfl, by rw [hbase, h1], by rw [q2, h2, k1], by rw [q3, h3], k3⟩
        · exact (List.Perm.cons id k4).trans (List.perm_middle.symm)
        · simp only [LT.locs]; exact OwnL.cons ⟨⟨_, ho⟩, fun _ _ h => h⟩ k5
        · simp only [LT.loose]; exact k6
        · simp only [LT.fixed]
          exact Cov.cons ⟨⟨_, ho⟩, fun x y hF => (Loc.F_of (by rw [hbase, h1]) (by rw [q2, h2, k1]) (by rw [q3, h3]) x y).1 hF⟩ k7
      · exact absurd h (by simp)
    · exact absurd h (by simp)
  | .bld s, id, t, c0, c, f, a, b, hid, hv, hb, hc, h => by
    simp only [TVL] at hv
    obtain ⟨l, b1, o1, rfl, h1, h2, h3⟩ := hv
    have hl := hb (id, l) (by simp [asg])
    simp only at hl
    simp only [finalTV] at h
    split at h
    · rename_i bs ho
      simp only [Option.some.injEq, Prod.mk.injEq] at h; obtain ⟨rfl, rfl, rfl⟩ := h
      have hp := hpin id _ hid ho
      rw [hl] at hp
      have hbase : (β id).base = some (b1, o1) := hp.1.trans h1
      simp only [AVR] at hc
      obtain ⟨b3, o3, hb3, hc⟩ := hc
      rw [hbase] at hb3; injection hb3 with hb3; injection hb3 with e1 e2; subst e1; subst e2
      refine ⟨⟨_, .inl ⟨_, rfl, rfl⟩⟩, .bld (β id), [id], ?_, ?_, by simp, ?_, ?_, by simp [LT.fixed, Cov]⟩
      · simp only [TVL]; exact ⟨β id, b1, o1, rfl, hbase, by simpa using hc, hV.objs id _ ho⟩
      · simp only [like]; exact ⟨β id, rfl, by rw [hbase, h1]⟩
      · simp only [LT.locs]; exact OwnL.cons ⟨⟨_, ho⟩, fun _ _ h => h⟩ OwnL.nil
      · simp only [LT.loose]; exact Cov.cons ⟨⟨_, ho⟩, fun _ _ h => h⟩ (Cov.nil [])
    · exact absurd h (by simp)
  | .pv _, id, t, c0, c, f, a, b, hid, hv, hb, hc, h => by simp [finalTV] at h
  | .own _ _, id, t, c0, c, f, a, b, hid, hv, hb, hc, h => by simp [finalTV] at h
theorem finalTVs_ok (hV : VR M0 M β V tm w) (hpin : ∀ id o, id % 2 = 1 → V.obj id = some o → (β0 id).same (β id)) : ∀ (vs : List TV) (cs : List AV) (id j : Nat) (ts : List LT) (b0 o0 b1 o1 : Nat) (l : List TV) (a b : List Nat), TVLs w0 Mw vs ts b0 o0 → (∀ p ∈ asgs innerId id j ts, β0 p.1 = p.2) →
    (∀ (k : Nat) (v : AV), cs[k]? = some v → ∃ c, at_ w b1 (o1 + k) = some c ∧ frz_ w b1 (o1 + k) = false ∧ c.oneCell' = true ∧ AVR β w M v c) → finalTVs V id j vs cs = some (l, a, b) →
    l.length = cs.length ∧ cs.length = vs.length ∧ ∃ ts' js, TVLs w M l ts' b1 o1 ∧ likes ts ts' ∧ js.Perm (a ++ b) ∧ OwnL V β (LT.locsL ts') js ∧ Cov V β (LT.looseL ts') a ∧ Cov V β (LT.fixedL ts) b
  | [], cs, id, j, ts, b0, o0, b1, o1, l, a, b, hT, hb, hcs, h => by
    cases cs with
    | cons c cs => simp [finalTVs] at h
    | nil =>
      simp only [finalTVs, Option.some.injEq, Prod.mk.injEq] at h; obtain ⟨rfl, rfl, rfl⟩ := h
      simp only [TVLs] at hT; subst hT
      exact ⟨rfl, rfl, [], [], by simp only [TVLs], by simp only [likes], List.Perm.refl _, OwnL.nil, Cov.nil _, Cov.nil _⟩
  | v :: vs, [], id, j, ts, b0, o0, b1, o1, l, a, b, hT, hb, hcs, h => by simp [finalTVs] at h
  | v :: vs, c :: cs, id, j, ts, b0, o0, b1, o1, l, a, b, hT, hb, hcs, h => by
    simp only [TVLs] at hT
    obtain ⟨t, r, c0, rfl, _, _, _, hv, hr⟩ := hT
    obtain ⟨cv, c1, c2, c3, c4⟩ := hcs 0 c rfl
    simp only [finalTVs] at h
    split at h
    · rename_i x a1 b1' l' a2 b2 hx hl
      simp only [Option.some.injEq, Prod.mk.injEq] at h; obtain ⟨rfl, rfl, rfl⟩ := h
      obtain ⟨k0, k1, ts', js, k2, k3, k4, k5, k6, k7⟩ := finalTVs_ok hV hpin vs cs id (j + 1) r b0 (o0 + 1) b1 (o1 + 1) l' a2 b2 hr (fun p hp => hb p (by simp only [asgs, List.mem_append]; exact .inr hp)) (fun k v hk => by
        have := hcs (k + 1) v (by simpa using hk)
        rwa [show o1 + (k + 1) = o1 + 1 + k by omega] at this) hl
      have head : ∃ lf js1, TVL w M x lf cv ∧ like t lf ∧ js1.Perm (a1 ++ b1') ∧ OwnL V β lf.locs js1 ∧ Cov V β lf.loose a1 ∧ Cov V β t.fixed b1' := by
        have plain : (t = .none ∨ ∃ l0, t = .one l0) → plainFin V c = some (x, a1, b1') →
            ∃ lf js1, TVL w M x lf cv ∧ like t lf ∧ js1.Perm (a1 ++ b1') ∧ OwnL V β lf.locs js1 ∧ Cov V β lf.loose a1 ∧ Cov V β t.fixed b1' := by
          intro ht hx
          have hlike : ∀ lf, like t lf := by
            intro lf
            rcases ht with rfl | ⟨_, rfl⟩ <;> simp only [like]
          have hfix : t.fixed = [] := by rcases ht with rfl | ⟨_, rfl⟩ <;> rfl
          unfold plainFin at hx
          split at hx
          · simp only [Option.some.injEq, Prod.mk.injEq] at hx; obtain ⟨rfl, rfl, rfl⟩ := hx
            simp only [AVR] at c4
            exact ⟨.none, [], by simp only [TVL]; exact ⟨trivial, c4⟩, hlike _, List.Perm.refl _, OwnL.nil, Cov.nil _, by rw [hfix]; exact Cov.nil _⟩
          · simp only [Option.some.injEq, Prod.mk.injEq] at hx; obtain ⟨rfl, rfl, rfl⟩ := hx
            simp only [AVR] at c4; subst c4
            refine ⟨.none, [], ?_, hlike _, List.Perm.refl _, OwnL.nil, Cov.nil _, by rw [hfix]; exact Cov.nil _⟩
            simp only [TVL, Rep]
            exact ⟨trivial, none, 0, rfl, Nat.le_refl _, fun _ => rfl, fun a ha => by simp at ha, 1, by simp only [RepRow]⟩
          · split at hx
            · rename_i i _ _ sz es ho
              simp only [Option.some.injEq, Prod.mk.injEq] at hx; obtain ⟨rfl, rfl, rfl⟩ := hx
              simp only [AVR] at c4
              exact ⟨.one (β i), [i], by simp only [TVL]; exact ⟨β i, rfl, c4, hV.objs i _ ho⟩, hlike _, by simp, OwnL.cons ⟨⟨_, ho⟩, fun _ _ h => h⟩ OwnL.nil, Cov.cons ⟨⟨_, ho⟩, fun _ _ h => h⟩ (Cov.nil []), by rw [hfix]; exact Cov.nil _⟩
            · exact absurd hx (by simp)
          · exact absurd hx (by simp)
        have hb' : ∀ p ∈ asg innerId (innerId id j) t, β0 p.1 = p.2 := fun p hp => hb p (by simp only [asgs, List.mem_append]; exact .inl hp)
        by_cases href : isRef v = true
        · rw [if_pos href] at hx
          split at hx
          · rename_i hsp
            rw [samePtr_eq hsp] at c4
            exact (finalTV_ok hV hpin v (innerId id j) t c0 cv x a1 b1' (innerId_odd _ _) hv hb' c4 hx).2
          · exact absurd hx (by simp)
        · rw [if_neg href] at hx
          cases v with
          | pv y =>
            simp only [TVL] at hv
            exact plain (.inl hv.1) hx
          | own sz es =>
            simp only [TVL] at hv
            obtain ⟨l0, e, _⟩ := hv
            exact plain (.inr ⟨l0, e⟩) hx
          | ptr cells => exact absurd rfl href
          | bld s => exact absurd rfl href
      obtain ⟨lf, js1, m1, m2, m3, m4, m5, m6⟩ := head
      refine ⟨by simp [k0], by simp [k1], lf :: ts', js1 ++ js, ?_, ?_, ?_, ?_, ?_, ?_⟩
      · simp only [TVLs]; exact ⟨lf, ts', cv, rfl, by simpa using c1, by simpa using c2, c3, m1, k2⟩
      · simp only [likes]; exact ⟨lf, ts', rfl, m2, k3⟩
      · exact (List.Perm.append m3 k4).trans (perm4 _ _ _ _)
      · simp only [LT.locsL]; exact m4.append k5
      · simp only [LT.looseL]; exact m5.append k6
      · simp only [LT.fixedL]; exact m6.append k7
    · exact absurd h (by simp)
end

theorem finals_ok (hV : VR M0 M β V tm w) (hpin : ∀ id o, id % 2 = 1 → V.obj id = some o → (β0 id).same (β id)) : ∀ (as : List TV) (ms : List Mode) (j : Nat) (ts : List LT) (cs : List Value) (fs : List TV) (a b : List Nat), TVAll w0 Mw as ts cs → (∀ p ∈ asgA j ts, β0 p.1 = p.2) →
    finals V ms j as = some (fs, a, b) → ∃ lfs js, FinR w M ms as ts cs fs lfs ∧ js.Perm (a ++ b) ∧ OwnL V β (LT.locsL lfs) js ∧ Cov V β (LooseF fs lfs) a ∧ Cov V β (FixA ms as ts) b
  | [], ms, j, ts, cs, fs, a, b, hT, hb, h => by
    simp only [finals, Option.some.injEq, Prod.mk.injEq] at h; obtain ⟨rfl, rfl, rfl⟩ := h
    exact ⟨[], [], by simp [FinR], List.Perm.refl _, OwnL.nil, by simp [LooseF, Cov], by simp [FixA, Cov]⟩
  | .pv x :: as, ms, j, ts, cs, fs, a, b, hT, hb, h => by
    simp only [TVAll] at hT
    obtain ⟨t, r, c, d, rfl, rfl, hv, hr⟩ := hT
    simp only [finals] at h
    obtain ⟨lfs, js, k1, k2, k3, k4, k5⟩ := finals_ok hV hpin as ms.tail (j + 1) r d fs a b hr (fun p hp => hb p (by simp only [asgA, List.mem_append]; exact .inr hp)) h
    exact ⟨lfs, js, by simp only [FinR]; exact ⟨t, r, c, d, rfl, rfl, k1⟩, k2, k3, k4, by simp only [FixA]; exact k5⟩
  | .own sz es :: as, ms, j, ts, cs, fs, a, b, hT, hb, h => by
    simp only [TVAll] at hT
    obtain ⟨t, r, c, d, rfl, rfl, hv, hr⟩ := hT
    simp only [finals] at h
    split at h
    · rename_i l a' b' hl
      obtain ⟨lfs, js, k1, k2, k3, k4, k5⟩ := finals_ok hV hpin as ms.tail (j + 1) r d l a' b' hr (fun p hp => hb p (by simp only [asgA, List.mem_append]; exact .inr hp)) hl
      split at h
      · rename_i hmut
        split at h
        · rename_i sz' es' ho
          simp only [Option.some.injEq, Prod.mk.injEq] at h; obtain ⟨rfl, rfl, rfl⟩ := h
          simp only [TVL] at hv
          obtain ⟨l0, rfl, hc, hO⟩ := hv
          have hl0 := hb (parId j, l0) (by simp [asgA, asg])
          simp only at hl0
          have hp := hpin (parId j) _ (parId_odd j) ho
          rw [hl0] at hp
          have hO' := hV.objs (parId j) _ ho
          have he : β (parId j) = l0 := by
            obtain ⟨p1, p2, p3, p4⟩ := hp
            obtain ⟨q1, q2, q3, q4, q5, q6, q7, q8, q9⟩ := hO'
            obtain ⟨r1, r2, r3, r4, r5, r6, r7, r8, r9⟩ := hO
            have hk : (β (parId j)).k = l0.k := by rw [q5, r5, p3, ← q1, ← r1, p4]
            have hx : (β (parId j)).ext = l0.ext := by rw [q6.1, r6.1]
            generalize β (parId j) = lx at p1 p2 p3 p4 hk hx
            cases lx; cases l0
            simp only at p1 p2 p3 p4 hk hx
            subst p1; subst p2; subst p3; subst p4; subst hk; subst hx; rfl
          have hsz : sz' = sz := by rw [he] at hO'; exact hO'.1.symm.trans hO.1
          subst hsz
          rw [he] at hO'
          have hF : ∀ x y, l0.F x y → (β (parId j)).F x y := fun x y h => by rw [he]; exact h
          refine ⟨.one l0 :: lfs, parId j :: js, ?_, ?_, ?_, ?_, ?_⟩
          · simp only [FinR]
            exact ⟨_, r, c, d, rfl, rfl, by rw [if_pos hmut]; exact ⟨es', l, lfs, rfl, rfl, by simp only [TVL]; exact ⟨l0, rfl, hc, hO'⟩, k1⟩⟩
          · exact (List.Perm.cons _ k2).trans (List.perm_middle.symm)
          · simp only [LT.locsL, LT.locs]; exact OwnL.cons ⟨⟨_, ho⟩, hF⟩ k3
          · simp only [LooseF]; exact k4
          · simp only [FixA]
            rw [if_pos hmut]
            simp only [LT.locs]
            exact Cov.cons ⟨⟨_, ho⟩, hF⟩ k5
        · exact absurd h (by simp)
      · rename_i hmut
        simp only [Option.some.injEq, Prod.mk.injEq] at h; obtain ⟨rfl, rfl, rfl⟩ := h
        exact ⟨lfs, js, by simp only [FinR]; exact ⟨t, r, c, d, rfl, rfl, by rw [if_neg hmut]; exact k1⟩, k2, k3, k4, by simp only [FixA]; rw [if_neg hmut]; exact k5⟩
    · exact absurd h (by simp)
  | .ptr cells :: as, ms, j, ts, cs, fs, a, b, hT, hb, h => by
    simp only [TVAll] at hT
    obtain ⟨t, r, c, d, rfl, rfl, hv, hr⟩ := hT
    simp only [finals] at h
    split at h
    · rename_i x a1 b1 l a2 b2 hx hl
      simp only [Option.some.injEq, Prod.mk.injEq] at h; obtain ⟨rfl, rfl, rfl⟩ := h
      obtain ⟨lfs, js, k1, k2, k3, k4, k5⟩ := finals_ok hV hpin as ms.tail (j + 1) r d l a2 b2 hr (fun p hp => hb p (by simp only [asgA, List.mem_append]; exact .inr hp)) hl
      have hb' : ∀ p ∈ asg innerId (parId j) t, β0 p.1 = p.2 := fun p hp => hb p (by simp only [asgA, List.mem_append]; exact .inl hp)
      have hc : AVR β w M (.addr (parId j) 0 0) c := by
        simp only [TVL] at hv
        obtain ⟨l0, subs, b3, o3, rfl, h1, _, _, h4, _⟩ := hv
        have hl0 := hb' (parId j, l0) (by simp [asg])
        simp only at hl0
        have ho : ∃ o, V.obj (parId j) = some o := by
          simp only [finalTV] at hx
          split at hx
          · rename_i ho; exact ⟨_, ho⟩
          · exact absurd hx (by simp)
        obtain ⟨o, ho⟩ := ho
        have hp := hpin (parId j) _ (parId_odd j) ho
        rw [hl0] at hp
        simp only [AVR]
        exact ⟨b3, o3, hp.1.trans h1, by simpa using h4⟩
      obtain ⟨⟨_, hsh⟩, lf, js1, m1, m2, m3, m4, m5, m6⟩ := finalTV_ok hV hpin (.ptr cells) (parId j) t c c x a1 b1 (parId_odd j) hv hb' hc hx
      have hLF : LooseF (x :: l) (lf :: lfs) = lf.loose ++ LooseF l lfs := by
        rcases hsh with ⟨bs, rfl, _⟩ | ⟨cs', rfl, _⟩ <;> rfl
      refine ⟨lf :: lfs, js1 ++ js, ?_, (List.Perm.append m3 k2).trans (perm4 _ _ _ _), by simp only [LT.locsL]; exact m4.append k3, by rw [hLF]; exact m5.append k4, by simp only [FixA]; exact m6.append k5⟩
      simp only [FinR]; exact ⟨t, r, c, d, rfl, rfl, x, l, lf, lfs, rfl, rfl, m1, m2, k1⟩
    · exact absurd h (by simp)
  | .bld s :: as, ms, j, ts, cs, fs, a, b, hT, hb, h => by
    simp only [TVAll] at hT
    obtain ⟨t, r, c, d, rfl, rfl, hv, hr⟩ := hT
    simp only [finals] at h
    split at h
    · rename_i x a1 b1 l a2 b2 hx hl
      simp only [Option.some.injEq, Prod.mk.injEq] at h; obtain ⟨rfl, rfl, rfl⟩ := h
      obtain ⟨lfs, js, k1, k2, k3, k4, k5⟩ := finals_ok hV hpin as ms.tail (j + 1) r d l a2 b2 hr (fun p hp => hb p (by simp only [asgA, List.mem_append]; exact .inr hp)) hl
      have hb' : ∀ p ∈ asg innerId (parId j) t, β0 p.1 = p.2 := fun p hp => hb p (by simp only [asgA, List.mem_append]; exact .inl hp)
      have hc : AVR β w M (.addr (parId j) 0 0) c := by
        simp only [TVL] at hv
        obtain ⟨l0, b3, o3, rfl, h1, h4, _⟩ := hv
        have hl0 := hb' (parId j, l0) (by simp [asg])
        simp only at hl0
        have ho : ∃ o, V.obj (parId j) = some o := by
          simp only [finalTV] at hx
          split at hx
          · rename_i ho; exact ⟨_, ho⟩
          · exact absurd hx (by simp)
        obtain ⟨o, ho⟩ := ho
        have hp := hpin (parId j) _ (parId_odd j) ho
        rw [hl0] at hp
        simp only [AVR]
        exact ⟨b3, o3, hp.1.trans h1, by simpa using h4⟩
      obtain ⟨⟨_, hsh⟩, lf, js1, m1, m2, m3, m4, m5, m6⟩ := finalTV_ok hV hpin (.bld s) (parId j) t c c x a1 b1 (parId_odd j) hv hb' hc hx
      have hLF : LooseF (x :: l) (lf :: lfs) = lf.loose ++ LooseF l lfs := by
        rcases hsh with ⟨bs, rfl, _⟩ | ⟨cs', rfl, _⟩ <;> rfl
      refine ⟨lf :: lfs, js1 ++ js, ?_, (List.Perm.append m3 k2).trans (perm4 _ _ _ _), by simp only [LT.locsL]; exact m4.append k3, by rw [hLF]; exact m5.append k4, by simp only [FixA]; exact m6.append k5⟩
      simp only [FinR]; exact ⟨t, r, c, d, rfl, rfl, x, l, lf, lfs, rfl, rfl, m1, m2, k1⟩
    · exact absurd h (by simp)

/-- A place of an argument may go, or stays. -/
theorem loose_fix : ∀ {as : List TV} {ms : List Mode} {ts : List LT} {cs : List Value}, TVAll w M as ts cs → ∀ l ∈ LT.locsL ts, l ∈ LooseA ms as ts ∨ l ∈ FixA ms as ts
  | [], ms, ts, cs, h, l, hl => by simp only [TVAll] at h; obtain ⟨rfl, rfl⟩ := h; simp [LT.locsL] at hl
  | v :: as, ms, ts, cs, h, l, hl => by
    simp only [TVAll] at h
    obtain ⟨t, r, c, d, rfl, rfl, hv, hr⟩ := h
    simp only [LT.locsL, List.mem_append] at hl
    have ih := fun hl => loose_fix (ms := ms.tail) hr l hl
    cases v with
    | pv x =>
      simp only [TVL] at hv
      simp only [LooseA, FixA, List.mem_append]
      rcases hl with hl | hl
      · rw [hv.1] at hl; simp [LT.locs] at hl
      · exact (ih hl).imp .inr id
    | own sz es =>
      simp only [LooseA, FixA, List.mem_append]
      rcases hl with hl | hl
      · by_cases hm : ms.headD .borrow = .mut
        · exact .inr (.inl (by rw [if_pos hm]; exact hl))
        · exact .inl (.inl (by rw [if_neg hm]; exact hl))
      · exact (ih hl).imp .inr .inr
    | ptr cells =>
      simp only [LooseA, FixA, List.mem_append]
      rcases hl with hl | hl
      · exact ((LT.mem_locs t l).1 hl).imp .inl .inl
      · exact (ih hl).imp .inr .inr
    | bld s =>
      simp only [LooseA, FixA, List.mem_append]
      rcases hl with hl | hl
      · exact ((LT.mem_locs t l).1 hl).imp .inl .inl
      · exact (ih hl).imp .inr .inr

end
end Go.Proofs.YtbnjbianobdleaaGreat.Vm

/-
  THE MACHINE IS SOUND: what it says of a call, the model does.
-/
namespace Go.Proofs.YtbnjbianobdleaaGreat.Vm
open Go
set_option linter.unusedVariables false
set_option linter.unusedSimpArgs false

def funcOK (fn : Func) : Bool := !(fn.name == "runtime.NumGoroutine") && (match fn.body with | some c => dstsOk fn.ntmps c | none => true)
def progOK (P : Program) : Bool := P.funcs.toList.all funcOK

theorem progOK_at {P : Program} (h : progOK P = true) {f : FuncId} {fn : Func} (hf : P.funcs[f]? = some fn) : funcOK fn = true := by
  simp only [progOK, List.all_eq_true] at h
  exact h fn (List.mem_of_getElem? (i := f) (by simpa using hf))

theorem run_callFunc {P : Program} (h : progOK P = true) {f : FuncId} {fn : Func} {c : Code} (hf : P.funcs[f]? = some fn) (hb : fn.body = some c) (args : Array Value) (w : World) : (callFunc f args).run P w = .ok (.enter f args) w := by
  have h1 := progOK_at h hf
  simp only [funcOK, Bool.and_eq_true, Bool.not_eq_true'] at h1
  have h2 : ¬ fn.name = "runtime.NumGoroutine" := by simpa using h1.1
  unfold callFunc
  simp [program, Sem.run, hf, h2, hb]

section
variable {C : Cx} {M0 : Cells} {β0 : Nat → Loc} {w w' : World} {n : Nat}

theorem leave_ok {f : FuncId} {fn : Func} {as : List TV} {ts : List LT} {args : List Value} {st : St} {a : Act} {rs fs : List TV} (hH : Handed M0 w as ts args) (hb : ∀ p ∈ asgA 0 ts, β0 p.1 = p.2)
    (hI : Inv M0 (fun b j => ∃ l ∈ LT.locsL ts, l.F b j) β0 w n st a w') (h : leave C f fn.results.toList as st = some (rs, fs)) :
    ∃ v, (results fn a.tmps).run C.P w' = .ok v w' ∧ Took (C.modes f) M0 w as ts args rs fs v w' := by
  unfold leave at h
  split at h
  · rename_i s hs
    have hpass : ∀ (rv : List ResultVar) {st s : St}, resPrep C rv st = some s → Pass M0 a.tmps w' st s := by
      intro rv
      induction rv with
      | nil => intro st s h; simp only [resPrep, Option.some.injEq] at h; subst h; exact Pass.refl _
      | cons x r ih =>
        intro st s h
        simp only [resPrep] at h
        split at h
        · rename_i s1 h1
          exact (pass_freezeAll h1).trans (ih h)
        · exact absurd h (by simp)
    obtain ⟨M, β, hS, hFr, hM, hn, hdef, hpin⟩ := Inv.step hI (hpass _ hs)
    split at h
    · rename_i rs' i1 fs' i2 i3 hr hf
      split at h
      · rename_i hnd
        simp only [Option.some.injEq, Prod.mk.injEq] at h; obtain ⟨rfl, rfl⟩ := h
        have hnd := nodup_ok hnd
        obtain ⟨vs, lrs, js, r1, r2, r3, r4, r5⟩ := resTVs_ok hS.1 _ _ _ hr
        obtain ⟨lfs, js', f1, f2, f3, f4, f5⟩ := finals_ok hS.1 (fun id o hid ho => hpin id o hid ho) as (C.modes f) 0 ts args fs' i2 i3 hH.tv hb hf
        refine ⟨wrapV vs, results_run (mapM_run1 _ _ r1 r2), vs, lrs, lfs, rfl, ?_⟩
        have hjs : (js ++ js').Perm (i1 ++ (i2 ++ i3)) := List.Perm.append r4 f2
        have hO : OwnL s.view β (LT.locsL (lrs ++ lfs)) (js ++ js') := by rw [locsL_append]; exact r5.append f3
        have hMx : ∀ b j, cellsOf M0 (LT.locsL (lrs ++ lfs)) b j → M b j := by
          rintro b j (h | ⟨l, hl, hF⟩)
          · exact hS.1.sup b j h
          · obtain ⟨i, hi, ⟨o, ho⟩, hF'⟩ := hO.mem l hl b j hF
            exact (hS.1.own i o ho b j hF').1
        have hcell : ∀ i, (∃ o, s.view.obj i = some o) → ∀ b j, (β i).F b j → ¬ M0 b j ∧ b < w'.heap.size ∧ (w.heap.size ≤ b ∨ ∃ l0 ∈ LT.locsL ts, l0.F b j) := by
          rintro i ⟨o, ho⟩ b j hF
          have := hS.1.own i o ho b j hF
          refine ⟨this.2, hS.1.old b j this.1, ?_⟩
          rcases hM b j this.1 with h | h | h
          · exact absurd h this.2
          · exact .inr h
          · exact .inl h
        have hloose : ∀ i, (∃ o, s.view.obj i = some o) → i ∉ i3 → ∀ b j, (β i).F b j → w.heap.size ≤ b ∨ ∃ l0 ∈ LooseA (C.modes f) as ts, l0.F b j := by
          intro i hi hn3 b j hF
          rcases (hcell i hi b j hF).2.2 with h | ⟨l0, hl0, hF0⟩
          · exact .inl h
          · rcases loose_fix (ms := C.modes f) hH.tv l0 hl0 with h | h
            · exact .inr ⟨l0, h, hF0⟩
            · obtain ⟨k, hk, ⟨o', ho'⟩, hF'⟩ := f5 l0 h b j hF0
              obtain ⟨o, ho⟩ := hi
              exact absurd hF' (hS.1.disj i k o o' ho ho' (fun e => hn3 (e ▸ hk)) b j hF)
        refine ⟨TVAll.imp (fun v _ t c h => TVL.sub hMx h) r3, FinR.imp (fun v _ t c h => TVL.sub hMx h) f1, OwnL.pairwise hS.1 hO (hjs.symm.nodup hnd), fun l hl b j hF => ?_, fun l hl b j hF => ?_, hFr⟩
        · obtain ⟨i, hi, ho, hF'⟩ := hO.mem l hl b j hF
          exact hcell i ho b j hF'
        · obtain ⟨n1, n2, n3⟩ := List.nodup_append.1 hnd
          obtain ⟨n4, n5, n6⟩ := List.nodup_append.1 n2
          rcases List.mem_append.1 hl with hl | hl
          · obtain ⟨i, hi, ho, hF'⟩ := r5.mem l hl b j hF
            exact hloose i ho (fun h3 => n3 i (r4.subset hi) i (List.mem_append.2 (.inr h3)) rfl) b j hF'
          · obtain ⟨i, hi, ho, hF'⟩ := f4 l hl b j hF
            exact hloose i ho (fun h3 => n6 i hi i h3 rfl) b j hF'
      · exact absurd h (by simp)
    · exact absurd h (by simp)
  · exact absurd h (by simp)

/-- WHAT THE MACHINE SAYS OF A CALL, THE MODEL DOES. -/
theorem callN_ok (hext : ∀ f g as rs fs, C.ext f = some g → g as = some (rs, fs) → Contract C.P (C.modes f) f as rs fs) (hprog : progOK C.P = true) (hmix : C.P.follows .mixedOrders = true) :
    ∀ (k : Nat) (f : FuncId) (as rs fs : List TV), callN C k f as = some (rs, fs) → Contract C.P (C.modes f) f as rs fs
  | 0, f, as, rs, fs, h => by simp [callN] at h
  | k + 1, f, as, rs, fs, h => by
    simp only [callN] at h
    split at h
    · rename_i g hg
      exact hext f g as rs fs hg h
    · split at h
      · exact absurd h (by simp)
      · rename_i fn hfn
        split at h
        · exact absurd h (by simp)
        · rename_i c hc
          split at h
          · rename_i hlen
            split at h
            · rename_i s hs
              split at h
              · rename_i e st hbody
                split at h
                · rename_i he
                  intro M0 w ts args hH
                  unfold Invokes
                  rw [run_callFunc hprog hfn hc]
                  simp only
                  have hal := TVAll.length hH.tv
                  let tm : Array Value := args.toArray ++ Array.replicate (fn.ntmps - args.toArray.size) undef
                  have hM0 : ∀ b j, M0 b j → cellsOf M0 (LT.locsL ts) b j := fun b j h => .inl h
                  have hS0 : SR M0 (cellsOf M0 (LT.locsL ts)) (fun _ => ⟨none, 0, 0, 0, 0, none⟩) ⟨[], []⟩ tm w := by
                    refine ⟨⟨hM0, ?_, fun t => ?_, fun id o ho => ?_, fun id o ho => ?_, fun id id' o o' ho => ?_⟩, fun t i hi => ?_, fun id o ho => ?_⟩
                    · rintro b j (h | ⟨l, hl, hF⟩)
                      · exact hH.old b j h
                      · exact (hH.out l hl b j hF).2
                    · show AVR _ w _ .undef _
                      simp only [AVR]
                    · have : (none : Option Obj) = some o := ho; simp at this
                    · have : (none : Option Obj) = some o := ho; simp at this
                    · have : (none : Option Obj) = some o := ho; simp at this
                    · have hi' : i ∈ AV.refs .undef := hi
                      simp [AV.refs] at hi'
                    · have : (none : Option Obj) = some o := ho; simp at this
                  obtain ⟨β', k1, k2, k3, k4⟩ := enter_ok as 0 ts args _ _ s hS0 hH.tv (fun j cc hj => by
                      have hlt := (List.getElem?_eq_some_iff.1 hj).1
                      simp only [tm, Nat.zero_add, Array.getD_eq_getD_getElem?]
                      rw [Array.getElem?_append_left (by simpa using hlt)]
                      simp [hj])
                    (fun l hl b x hF => ⟨.inr ⟨l, hl, hF⟩, (hH.out l hl b x hF).1⟩) hH.apart (fun id o ho => by have : (none : Option Obj) = some o := ho; simp at this) hs
                  have hsz : tm.size = fn.ntmps := by simp [tm]; omega
                  have hI : Inv M0 (fun b j => ∃ l ∈ LT.locsL ts, l.F b j) β' w fn.ntmps s ⟨tm, []⟩ w := by
                    refine ⟨_, β', k1, Fr.refl _ _, fun b j hb => ?_, hsz, rfl, fun id o _ _ => Loc.same_refl _⟩
                    rcases hb with h | h
                    · exact .inl h
                    · exact .inr (.inl h)
                  have hdo : dstsOk fn.ntmps c = true := by
                    have := progOK_at hprog hfn
                    simp only [funcOK, hc, Bool.and_eq_true] at this
                    exact this.2
                  refine calls_of_wp hfn hc (wp_mono (body_ok (callN_ok hext hprog hmix k) hmix hbody hdo hI) ?_)
                  rintro e' a' w' ⟨rfl, hI'⟩
                  obtain ⟨v, h1, h2⟩ := leave_ok hH k4 hI' h
                  have hd : a'.defers = [] := by obtain ⟨_, _, _, _, _, _, hd, _⟩ := hI'; exact hd
                  rcases he with he | he
                  · subst he
                    exact ⟨hd, v, h1, v, rfl, h2⟩
                  · subst he
                    exact ⟨hd, v, h1, v, rfl, h2⟩
                · exact absurd h (by simp)
              · exact absurd h (by simp)
            · exact absurd h (by simp)
          · exact absurd h (by simp)

end
end Go.Proofs.YtbnjbianobdleaaGreat.Vm

/-
  More fuel, the same answer.
-/
namespace Go.Proofs.YtbnjbianobdleaaGreat.Vm
open Go
set_option linter.unusedVariables false
set_option linter.unusedSimpArgs false

def Le (call call' : FuncId → List TV → Option (List TV × List TV)) : Prop := ∀ f xs r, call f xs = some r → call' f xs = some r

section
variable {C : Cx} {call call' : FuncId → List TV → Option (List TV × List TV)}

theorem callM_up (h : Le call call') {d : Nat} {c : Call} {V : View} {m : Made} (k : callM C call d c V = some m) : callM C call' d c V = some m := by
  unfold callM at k ⊢
  split at k
  · split at k
    · split at k
      · split at k
        · rename_i hc
          split at k
          · rename_i rs fs hr
            simp only [hc, if_true, h _ _ _ hr]; exact k
          · exact absurd k (by simp)
        · exact absurd k (by simp)
      · exact absurd k (by simp)
    · exact absurd k (by simp)
  · exact absurd k (by simp)

theorem made_up (h : Le call call') {o : Oper} {V : View} {m : Made} (k : made C call o V = some m) : made C call' o V = some m := by
  unfold made at k ⊢
  simp only at k ⊢
  split at k
  · exact callM_up h k
  · exact k

theorem oper_up (h : Le call call') {pl : List Nat} {o : Oper} {st s : St} (k : oper C call pl o st = some s) : oper C call' pl o st = some s := by
  unfold oper at k ⊢
  split at k
  · split at k
    · rename_i hm
      simp only [made_up h hm]; exact k
    · exact absurd k (by simp)
  · exact absurd k (by simp)

theorem opers_up (h : Le call call') {all : List Oper} {pl : List Nat} : ∀ {l : List Oper} {st s : St}, opers C call all pl l st = some s → opers C call' all pl l st = some s
  | [], st, s, k => by simpa only [opers] using k
  | o :: r, st, s, k => by
    simp only [opers] at k ⊢
    split at k
    · split at k
      · rename_i ho
        simp only [oper_up h ho]; exact opers_up h k
      · exact absurd k (by simp)
    · exact opers_up h k
    · exact absurd k (by simp)

theorem textR_up (h : Le call call') {all : List Oper} {pl : List Nat} {ob : Nat → Option Obj} : ∀ {l : List Oper} {i : Nat} {done : List Done} {st : St} {d : List Done × St}, textR C call all pl ob l i done st = some d → textR C call' all pl ob l i done st = some d
  | [], i, done, st, d, k => by simpa only [textR] using k
  | o :: r, i, done, st, d, k => by
    simp only [textR] at k ⊢
    split at k
    · rename_i hb
      rw [if_pos hb]
      split at k
      · split at k
        · rename_i hp
          rw [if_pos hp]
          split at k
          · rename_i hm
            simp only [made_up h hm]
            split at k
            · rename_i hc; rw [if_pos hc]; exact textR_up h k
            · exact absurd k (by simp)
          · exact absurd k (by simp)
        · exact absurd k (by simp)
      · exact textR_up h k
      · exact absurd k (by simp)
    · exact absurd k (by simp)

theorem region_up (h : Le call call') {ops : Array Oper} {pre : List Nat} {draw : Bool} {st s : St} (k : region C call ops pre draw st = some s) : region C call' ops pre draw st = some s := by
  unfold region at k ⊢
  simp only at k ⊢
  cases draw with
  | true =>
    simp only [if_true] at k ⊢
    split at k
    · rename_i hn
      rw [if_pos hn]
      split at k
      · rename_i hf
        simp only [textR_up h hf]
        exact k
      · exact absurd k (by simp)
    · exact absurd k (by simp)
  | false => exact opers_up h k

def LeA (ag ag' : Code → Code → St → Option (Ex × St)) : Prop := ∀ b c s r, ag b c s = some r → ag' b c s = some r

theorem loopN_up {body body' : St → Option (Ex × St)} (h : ∀ s r, body s = some r → body' s = some r) : ∀ {n m : Nat} {st : St} {r : Ex × St}, n ≤ m → loopN body n st = some r → loopN body' m st = some r
  | 0, m, st, r, _, k => by simp [loopN] at k
  | n + 1, 0, st, r, hm, k => by omega
  | n + 1, m + 1, st, r, hm, k => by
    simp only [loopN] at k ⊢
    split at k
    · rename_i hb
      rw [h _ _ hb]; exact loopN_up h (by omega) k
    · rename_i hne
      have hb := h _ _ k
      rw [hb]
      obtain ⟨e, s⟩ := r
      cases e with
      | normal => exact absurd k (hne s)
      | _ => rfl

theorem code_up (h : Le call call') {f : FuncId} {k k' : Nat} (hk : k ≤ k') {ag ag' : Code → Code → St → Option (Ex × St)} (ha : LeA ag ag') : ∀ (c : Code) (st : St) (r : Ex × St), code C call f k ag c st = some r → code C call' f k' ag' c st = some r
  | .skip, st, r, e => by simpa only [code] using e
  | .label l, st, r, e => by simpa only [code] using e
  | .region id ops draw, st, r, e => by
    simp only [code] at e ⊢
    split at e
    · split at e
      · rename_i hr
        simp only [region_up h hr]; exact e
      · exact absurd e (by simp)
    · exact absurd e (by simp)
  | .seq a b, st, r, e => by
    simp only [code] at e ⊢
    split at e
    · rename_i s hs
      rw [code_up h hk ha a _ _ hs]
      exact code_up h hk ha b _ _ e
    · rename_i hne
      rw [code_up h hk ha a _ _ e]
      obtain ⟨x, s⟩ := r
      cases x with
      | normal => exact absurd e (hne s)
      | _ => rfl
  | .cond c a b, st, r, e => by
    simp only [code] at e ⊢
    split at e
    · rename_i t ht
      cases t with
      | true => exact code_up h hk ha a _ _ e
      | false => exact code_up h hk ha b _ _ e
    · exact absurd e (by simp)
  | .block id b, st, r, e => by
    simp only [code] at e ⊢
    split at e
    · rename_i i s hs
      rw [code_up h hk ha b _ _ hs]; exact e
    · rename_i hne
      rw [code_up h hk ha b _ _ e]
      obtain ⟨x, s⟩ := r
      cases x with
      | exit i => exact absurd e (hne i s)
      | _ => rfl
  | .loop b, st, r, e => by
    simp only [code] at e ⊢
    refine loopN_up (fun s r hs => ?_) hk e
    split at hs
    · exact code_up h hk ha b _ _ hs
    · exact absurd hs (by simp)
  | .scope b, st, r, e => by
    simp only [code] at e ⊢
    unfold handle at e ⊢
    split at e
    · rename_i l s hs
      rw [code_up h hk ha b _ _ hs]
      simp only
      split at e
      · exact ha _ _ _ _ e
      · exact absurd e (by simp)
    · rename_i hne
      rw [code_up h hk ha b _ _ e]
      obtain ⟨x, s⟩ := r
      cases x with
      | goto l => exact absurd e (hne l s)
      | _ => rfl
  | .exit id, st, r, e => by simpa only [code] using e
  | .goto l, st, r, e => by simpa only [code] using e
  | .ret, st, r, e => by simpa only [code] using e
  | .rangeFunc _ _ _ _, st, r, e => by simp [code] at e
  | .refuse _, st, r, e => by simp [code] at e

theorem againN_up (h : Le call call') {f : FuncId} {k k' : Nat} (hk : k ≤ k') : ∀ {n n' : Nat}, n ≤ n' → LeA (againN C call f k n) (againN C call' f k' n')
  | 0, n', _ => by intro b c s r e; simp [againN] at e
  | n + 1, 0, hn => by omega
  | n + 1, n' + 1, hn => by
    intro b c s r e
    have ih := againN_up (f := f) h hk (show n ≤ n' by omega)
    simp only [againN] at e ⊢
    unfold handle at e ⊢
    split at e
    · rename_i l s' hs
      rw [code_up h hk ih c _ _ hs]
      simp only
      split at e
      · exact ih _ _ _ _ e
      · exact absurd e (by simp)
    · rename_i hne
      rw [code_up h hk ih c _ _ e]
      obtain ⟨x, s⟩ := r
      cases x with
      | goto l => exact absurd e (hne l s)
      | _ => rfl

theorem bodyOf_up (h : Le call call') {f : FuncId} {k k' : Nat} (hk : k ≤ k') {c : Code} {st : St} {r : Ex × St} (e : bodyOf C call f k c st = some r) : bodyOf C call' f k' c st = some r :=
  code_up h hk (againN_up h hk hk) c st r e
end

theorem callN_up {C : Cx} : ∀ {k k' : Nat}, k ≤ k' → Le (callN C k) (callN C k')
  | 0, k', _ => by intro f xs r e; simp [callN] at e
  | k + 1, 0, hk => by omega
  | k + 1, k' + 1, hk => by
    intro f xs r e
    have hk : k ≤ k' := by omega
    simp only [callN] at e ⊢
    split at e
    · exact e
    · split at e
      · exact absurd e (by simp)
      · split at e
        · exact absurd e (by simp)
        · split at e
          · rename_i hl
            rw [if_pos hl]
            split at e
            · split at e
              · rename_i hb
                simp only [bodyOf_up (callN_up hk) hk hb]; exact e
              · exact absurd e (by simp)
            · exact absurd e (by simp)
          · exact absurd e (by simp)

/-- A call's answer, with fuel enough. -/
def Ev (C : Cx) (f : FuncId) (xs : List TV) (r : List TV × List TV) : Prop := ∃ k, ∀ j, k ≤ j → callN C j f xs = some r
theorem Ev.of {C : Cx} {k : Nat} {f : FuncId} {xs : List TV} {r : List TV × List TV} (h : callN C k f xs = some r) : Ev C f xs r := ⟨k, fun j hj => callN_up hj f xs r h⟩
theorem Ev.get {C : Cx} {f : FuncId} {xs : List TV} {r : List TV × List TV} (h : Ev C f xs r) : ∃ k, callN C k f xs = some r := let ⟨k, h⟩ := h; ⟨k, h k (Nat.le_refl _)⟩
end Go.Proofs.YtbnjbianobdleaaGreat.Vm
