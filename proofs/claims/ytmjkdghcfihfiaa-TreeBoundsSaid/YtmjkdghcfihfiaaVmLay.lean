/-
  What an operation makes is laid into the state.
-/
import Derived.Test.YtmjkdghcfihfiaaVmSt
namespace Go.Proofs.Ytmjkdghcfihfiaa.Vm
open Go
set_option linter.unusedVariables false
set_option linter.unusedSimpArgs false

section
variable {M0 M : Cells} {β : Nat → Loc} {st : St} {tm : Array Value} {w : World}

theorem freezeAll_ok : ∀ (ids : List Nat) {M : Cells} {st s : St}, SR M0 M β st tm w → freezeAll ids st = some s →
    ∃ Mf, SR M0 Mf β s tm w ∧ (∀ b j, Mf b j ↔ M b j ∧ ¬ ∃ i ∈ ids, (∃ o, st.obj i = some o) ∧ (β i).F b j) ∧ ∀ i, (∃ o, s.obj i = some o) ↔ i ∉ ids ∧ ∃ o, st.obj i = some o
  | [], M, st, s, h, hf => by
    simp only [freezeAll, Option.some.injEq] at hf; subst hf
    exact ⟨M, h, by simp, by simp⟩
  | k :: ids, M, st, s, h, hf => by
    -- one is frozen, then the others
    have step : ∀ (s1 : St), SR M0 (lessF M (β k)) β s1 tm w → (∀ i, (∃ o, s1.obj i = some o) ↔ i ≠ k ∧ ∃ o, st.obj i = some o) → (∃ o, st.obj k = some o) → freezeAll ids s1 = some s →
        ∃ Mf, SR M0 Mf β s tm w ∧ (∀ b j, Mf b j ↔ M b j ∧ ¬ ∃ i ∈ k :: ids, (∃ o, st.obj i = some o) ∧ (β i).F b j) ∧ ∀ i, (∃ o, s.obj i = some o) ↔ i ∉ k :: ids ∧ ∃ o, st.obj i = some o := by
      intro s1 h1 hd hk hf
      obtain ⟨Mf, k1, k2, k3⟩ := freezeAll_ok ids h1 hf
      refine ⟨Mf, k1, fun b j => ?_, fun i => ?_⟩
      · rw [k2]
        constructor
        · rintro ⟨⟨a1, a2⟩, a3⟩
          refine ⟨a1, ?_⟩
          rintro ⟨i, hi, ho, hF⟩
          by_cases e : i = k
          · subst e; exact a2 hF
          · rcases List.mem_cons.1 hi with e' | hi
            · exact e e'
            · exact a3 ⟨i, hi, (hd i).2 ⟨e, ho⟩, hF⟩
        · rintro ⟨a1, a2⟩
          refine ⟨⟨a1, fun hF => a2 ⟨k, by simp, hk, hF⟩⟩, ?_⟩
          rintro ⟨i, hi, ho, hF⟩
          exact a2 ⟨i, by simp [hi], ((hd i).1 ho).2, hF⟩
      · rw [k3, hd]
        simp only [List.mem_cons, not_or]
        constructor
        · rintro ⟨a1, a2, a3⟩; exact ⟨⟨a2, a1⟩, a3⟩
        · rintro ⟨⟨a1, a2⟩, a3⟩; exact ⟨a2, a1, a3⟩
    simp only [freezeAll] at hf
    split at hf
    · rename_i sz es ho
      split at hf
      · rename_i s1 h1
        exact step s1 (freeze_ok h h1) (freeze_dom h1) ⟨_, ho⟩ hf
      · exact absurd hf (by simp)
    · rename_i cs ho
      split at hf
      · rename_i l hl
        refine step _ (freezeBox_ok h ho hl) (fun i => ?_) ⟨_, ho⟩ hf
        rw [freezeBox_obj]
        by_cases e : i = k
        · simp [e]
        · simp only [e, if_false, Option.map_eq_some_iff, ne_eq, not_false_eq_true, true_and]
          exact ⟨fun ⟨o, a, h1, _⟩ => ⟨a, h1⟩, fun ⟨a, h1⟩ => ⟨_, a, h1, rfl⟩⟩
      · exact absurd hf (by simp)
    · exact absurd hf (by simp)
    · rename_i ho
      obtain ⟨Mf, k1, k2, k3⟩ := freezeAll_ok ids h hf
      refine ⟨Mf, k1, fun b j => ?_, fun i => ?_⟩
      · rw [k2]
        constructor
        · rintro ⟨a1, a2⟩
          refine ⟨a1, ?_⟩
          rintro ⟨i, hi, ⟨o, hio⟩, hF⟩
          rcases List.mem_cons.1 hi with rfl | hi
          · rw [ho] at hio; simp at hio
          · exact a2 ⟨i, hi, ⟨o, hio⟩, hF⟩
        · rintro ⟨a1, a2⟩
          exact ⟨a1, fun ⟨i, hi, hio, hF⟩ => a2 ⟨i, by simp [hi], hio, hF⟩⟩
      · rw [k3]
        simp only [List.mem_cons, not_or]
        constructor
        · rintro ⟨a1, o, a2⟩
          exact ⟨⟨fun e => by subst e; rw [ho] at a2; simp at a2, a1⟩, o, a2⟩
        · rintro ⟨⟨a1, a2⟩, a3⟩; exact ⟨a2, a3⟩

theorem killAll_ok : ∀ (ids : List Nat) {st : St}, SR M0 M β st tm w → SR M0 M β (killAll ids st) tm w ∧ ∀ i, (∃ o, (killAll ids st).obj i = some o) ↔ i ∉ ids ∧ ∃ o, st.obj i = some o
  | [], st, h => ⟨h, by simp [killAll]⟩
  | k :: ids, st, h => by
    obtain ⟨k1, k2⟩ := killAll_ok ids (kill_ok k h)
    refine ⟨k1, fun i => ?_⟩
    simp only [killAll]
    rw [k2, kill_obj]
    simp only [List.mem_cons, not_or]
    by_cases e : i = k
    · simp [e]
    · simp only [e, if_false, Option.map_eq_some_iff, not_false_eq_true, true_and]
      exact ⟨fun ⟨a1, o, a, h1, _⟩ => ⟨a1, a, h1⟩, fun ⟨a1, a, h1⟩ => ⟨a1, _, a, h1, rfl⟩⟩

theorem upd_obj (id i : Nat) (o : Obj) (st : St) : (st.upd id o).obj i = if i = id then some o else st.obj i := by
  simp only [St.obj, St.upd, lkp]
  split
  · rfl
  · rename_i h; rw [lkp_del, if_neg h]

theorem patchAll_spec : ∀ (ws : List Patch) {st s : St}, patchAll ws st = some s → s.tmps = st.tmps ∧ (∀ i, s.obj i = patched ws i (st.obj i)) ∧ ((ws.map Patch.id).Nodup → ∀ p ∈ ws, ∃ o o', st.obj p.id = some o ∧ p.on (some o) = some o')
  | [], st, s, h => by
    simp only [patchAll, Option.some.injEq] at h; subst h
    exact ⟨rfl, fun _ => rfl, by simp⟩
  | q :: ws, st, s, h => by
    simp only [patchAll] at h
    split at h
    · rename_i o ho
      obtain ⟨k1, k2, k3⟩ := patchAll_spec ws h
      refine ⟨k1, fun i => ?_, fun hn p hp => ?_⟩
      · rw [k2, upd_obj]
        simp only [patched, List.foldl_cons]
        by_cases e : i = q.id
        · subst e; simp [ho]
        · rw [if_neg e, if_neg (fun h => e h.symm)]
      · simp only [List.map_cons, List.nodup_cons] at hn
        rcases List.mem_cons.1 hp with rfl | hp
        · cases hq : st.obj p.id with
          | none => rw [hq] at ho; cases p <;> simp [Patch.on] at ho
          | some o0 => rw [hq] at ho; exact ⟨o0, o, rfl, ho⟩
        · obtain ⟨o1, o2, h1, h2⟩ := k3 hn.2 p hp
          have hne : ¬ p.id = q.id := fun e => hn.1 (by rw [← e]; exact List.mem_map_of_mem (f := Patch.id) hp)
          rw [upd_obj, if_neg hne] at h1
          exact ⟨o1, o2, h1, h2⟩
    · exact absurd h (by simp)

theorem add_spec : ∀ (os : List (Nat × Obj)) {st s : St}, st.add os = some s → s.tmps = st.tmps ∧ (os.map (·.1)).Nodup ∧ (∀ i ∈ os.map (·.1), st.obj i = none) ∧ ∀ i, s.obj i = match lkp i os with | some o => some o | none => st.obj i
  | [], st, s, h => by
    simp only [St.add, Option.some.injEq] at h; subst h
    exact ⟨rfl, by simp, by simp, fun i => by simp [lkp]⟩
  | (id, o) :: r, st, s, h => by
    simp only [St.add] at h
    split at h
    · exact absurd h (by simp)
    · rename_i hn
      obtain ⟨k1, k2, k3, k4⟩ := add_spec r h
      have hid : id ∉ r.map (·.1) := fun hi => by
        have := k3 id hi
        simp [St.obj, lkp] at this
      refine ⟨k1, List.nodup_cons.2 ⟨hid, k2⟩, fun i hi => ?_, fun i => ?_⟩
      · simp only [List.map_cons, List.mem_cons] at hi
        rcases hi with rfl | hi
        · exact hn
        · have := k3 i hi
          simp only [St.obj, lkp] at this
          split at this
          · exact absurd this (by simp)
          · exact this
      · rw [k4]
        simp only [lkp, St.obj]
        by_cases e : i = id
        · subst e
          rw [if_pos rfl]
          cases hl : lkp i r with
          | none => simp
          | some x => exact absurd (List.mem_map_of_mem (f := (·.1)) (lkp_mem hl)) hid
        · rw [if_neg e]
          cases hl : lkp i r with
          | none => simp [e]
          | some x => simp [e]

theorem put_get (t t' : Nat) (v : AV) (st : St) : (st.put t v).get t' = if t' = t then v else st.get t' := by
  simp only [St.get, St.put, lkp]
  by_cases e : t' = t
  · simp [e]
  · simp only [e, if_false]

theorem lay_ok {a : Act} {o : Oper} {m : Made} {st st' : St} {M1 M' : Cells} {β' : Nat → Loc} {w' : World} {c : Value} (hS : SR M0 M β st a.tmps w) (hP : Post M1 β w (fun id => ∃ o, st.obj id = some o) m M' β' w' c)
    (hM1 : ∀ b j, M1 b j ↔ M b j ∧ ¬ ∃ i ∈ m.frz, (∃ o, st.obj i = some o) ∧ (β i).F b j) (hfd : ∀ g ∈ m.dels ++ m.use, g ∉ m.frz)
    (hRefs : MRefs (fun id => (∃ o, st.obj id = some o) ∧ id ∉ m.dels ++ m.use ∧ id ∉ m.frz) m) (h : lay o m st = some st') (hdst : ∀ t, o.dst = some t → t < a.tmps.size) : SR M0 M' β' st' (a.put o.dst c).tmps w' := by
  unfold lay at h
  split at h
  · rename_i s1 h1
    split at h
    · rename_i s3 h3
      split at h
      · rename_i s4 h4
        injection h with h; subst h
        obtain ⟨Mf, k1, k2, k3⟩ := freezeAll_ok m.frz hS h1
        have hMf : Mf = M1 := by
          funext b j
          exact propext ((k2 b j).trans (hM1 b j).symm)
        subst hMf
        obtain ⟨l1, l2⟩ := killAll_ok (m.dels ++ m.use) k1
        obtain ⟨p1, p2, p3⟩ := patchAll_spec m.ws h3
        obtain ⟨q1, q2, q3, q4⟩ := add_spec m.os h4
        have hw := p3 hP.nd
        have dom2 : ∀ i, (∃ o, (killAll (m.dels ++ m.use) s1).obj i = some o) ↔ i ∉ m.dels ++ m.use ∧ i ∉ m.frz ∧ ∃ o, st.obj i = some o := fun i => by rw [l2, k3]
        have pat : ∀ i o0, (killAll (m.dels ++ m.use) s1).obj i = some o0 → ∃ o1, s3.obj i = some o1 := by
          intro i o0 ho
          rw [p2]
          by_cases hi : i ∈ m.ws.map Patch.id
          · obtain ⟨p, hp, rfl⟩ := List.mem_map.1 hi
            rw [patched_at hP.nd hp]
            obtain ⟨o1, o2, e1, e2⟩ := hw p hp
            rw [e1]; exact ⟨o2, e2⟩
          · rw [patched_other hi]; exact ⟨o0, ho⟩
        have hos : ∀ id ∈ m.os.map (·.1), ¬ ∃ o, (killAll (m.dels ++ m.use) s1).obj id = some o := by
          rintro id hid ⟨o0, ho⟩
          obtain ⟨o1, h1⟩ := pat id o0 ho
          rw [q3 id hid] at h1; simp at h1
        have hpo : ∀ i, (putD o m.v s4).obj i = s4.obj i := fun i => by unfold putD; cases o.dst <;> rfl
        have hputD : putD o m.v s4 = (match o.dst with | some t => s4.put t m.v | none => s4) := rfl
        have hV1 : VR M0 M' β' (putD o m.v s4).view (a.put o.dst c).tmps w' := by
          refine Post.view (V0 := (killAll (m.dels ++ m.use) s1).view) (d := o.dst) l1.1 hP l1.2 hos q2 (fun g hg hd => ⟨fun b j hF => ?_, fun id o' ho' b j hF => ?_⟩) (fun p hp => hw p hp) (fun t => ?_) (fun id => ?_) (fun t => ?_)
          · obtain ⟨o0, ho0⟩ := hd
            have hown := hS.1.own g o0 ho0 b j hF
            refine ⟨(hM1 b j).2 ⟨hown.1, ?_⟩, hown.2⟩
            rintro ⟨i, hi, ⟨o1, ho1⟩, hF'⟩
            exact hS.1.disj g i o0 o1 ho0 ho1 (fun e => hfd g hg (e ▸ hi)) b j hF hF'
          · obtain ⟨o0, ho0⟩ := hd
            obtain ⟨d1, d2, o1, ho1⟩ := (dom2 id).1 ⟨o', ho'⟩
            exact hS.1.disj g id o0 o1 ho0 ho1 (fun e => d1 (e ▸ hg)) b j hF
          · show (putD o m.v s4).get t = _
            rw [hputD]
            have hg4 : s4.get t = (killAll (m.dels ++ m.use) s1).get t := by simp only [St.get, q1, p1]
            cases hd : o.dst with
            | none => simp only [reduceCtorEq, if_false]; exact hg4
            | some d =>
              simp only [put_get, hg4]
              by_cases e : t = d
              · subst e; simp; 
              · have : ¬ d = t := fun h => e h.symm
                simp [e, this]; rfl
          · show (putD o m.v s4).obj id = _
            rw [hpo, q4]
            cases lkp id m.os with
            | some x => rfl
            | none => exact p2 id
          · cases hd : o.dst with
            | none => simp [Act.put]
            | some d =>
              have hlt := hdst d hd
              simp only [Act.put, Option.some.injEq]
              by_cases e : d = t
              · subst e; simp [hlt]
              · simp [e, Array.getElem?_setIfInBounds]
        refine ⟨hV1, ?_⟩
        have dom4 : ∀ i, ((∃ o, st.obj i = some o) ∧ i ∉ m.dels ++ m.use ∧ i ∉ m.frz) ∨ i ∈ m.os.map (·.1) → ∃ o', (putD o m.v s4).view.obj i = some o' := by
          intro i hi
          show ∃ o', (putD o m.v s4).obj i = some o'
          rw [hpo, q4]
          rcases hi with ⟨h1, h2, h3⟩ | hi
          · cases hl : lkp i m.os with
            | some x => exact ⟨x, rfl⟩
            | none =>
              obtain ⟨o0, ho0⟩ := (dom2 i).2 ⟨h2, h3, h1⟩
              exact pat i o0 ho0
          · obtain ⟨p, hp, rfl⟩ := List.mem_map.1 hi
            rw [lkp_of_mem (n := p.1) (a := p.2) q2 hp]
            exact ⟨_, rfl⟩
        have ref2 : ∀ i, (∃ o, (killAll (m.dels ++ m.use) s1).obj i = some o) → ∃ o', (putD o m.v s4).view.obj i = some o' := fun i hi => by
          obtain ⟨d1, d2, d3⟩ := (dom2 i).1 hi
          exact dom4 i (.inl ⟨d3, d1, d2⟩)
        refine ⟨fun t i hi => ?_, fun id ob hob => ⟨⟨ob, hob⟩, fun i hi => ?_⟩⟩
        · have hg : (putD o m.v s4).view.get t = m.v ∨ (putD o m.v s4).view.get t = (killAll (m.dels ++ m.use) s1).get t := by
            have hg4 : s4.get t = (killAll (m.dels ++ m.use) s1).get t := by simp only [St.get, q1, p1]
            show (putD o m.v s4).get t = m.v ∨ (putD o m.v s4).get t = _
            rw [hputD]
            cases hd : o.dst with
            | none => exact .inr hg4
            | some d =>
              simp only [put_get]
              by_cases e : t = d
              · exact .inl (by simp [e])
              · exact .inr (by simp only [e, if_false]; exact hg4)
          rcases hg with hg | hg
          · rw [hg] at hi; exact dom4 i (hRefs.1 i hi)
          · rw [hg] at hi; exact ref2 i (l1.2.1 t i hi)
        · have hob' : s4.obj id = some ob := by rw [← hpo]; exact hob
          rw [q4] at hob'
          split at hob'
          · rename_i x hl
            injection hob' with hob'; subst hob'
            exact dom4 i (hRefs.2.1 _ (lkp_mem hl) i hi)
          · rename_i hl
            rw [p2] at hob'
            by_cases hid : id ∈ m.ws.map Patch.id
            · obtain ⟨p, hp, rfl⟩ := List.mem_map.1 hid
              rw [patched_at hP.nd hp] at hob'
              obtain ⟨o0, o1, e1, e2⟩ := hw p hp
              rw [e1] at hob'
              cases p with
              | box k off cells =>
                cases o0 <;> simp only [Patch.on] at hob' <;> try (cases hob'; done)
                rename_i cs0
                split at hob'
                · rename_i hle
                  injection hob' with hob'; subst hob'
                  simp only [Obj.refs] at hi
                  obtain ⟨v, hv, hvi⟩ := refsL_mem.1 hi
                  obtain ⟨j, hj⟩ := List.mem_iff_getElem?.1 hv
                  rw [setFrom_get _ _ _ hle] at hj
                  split at hj
                  · exact dom4 i (hRefs.2.2 k off cells hp i (refsL_mem.2 ⟨v, List.mem_of_getElem? hj, hvi⟩))
                  · exact ref2 i ((l1.2.2 _ _ e1).2 i (by simp only [Obj.refs]; exact refsL_mem.2 ⟨v, List.mem_of_getElem? hj, hvi⟩))
                · exact absurd hob' (by simp)
              | buf k sz es =>
                cases o0 <;> simp only [Patch.on] at hob' <;> try (cases hob'; done)
                split at hob'
                · injection hob' with hob'; subst hob'; simp [Obj.refs] at hi
                · exact absurd hob' (by simp)
              | bld k bs =>
                cases o0 <;> simp only [Patch.on] at hob' <;> try (cases hob'; done)
                injection hob' with hob'; subst hob'; simp [Obj.refs] at hi
            · rw [patched_other hid] at hob'
              exact ref2 i ((l1.2.2 id ob hob').2 i hi)
      · exact absurd h (by simp)
    · exact absurd h (by simp)
  · exact absurd h (by simp)

end
end Go.Proofs.Ytmjkdghcfihfiaa.Vm
