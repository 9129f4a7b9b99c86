/-
  The law LensMap: a part of its proof; no conditions.
-/
import Derived.Test.YtcoikmicjbppmaaGreatKb
import Derived.Orders
import Derived.ScopeJumps
namespace Go.Proofs.YtcoikmicjbppmaaGreat.Vm
open Go
set_option linter.unusedVariables false
set_option linter.unusedSimpArgs false
section
variable {M0 M : ay} {β : Nat -> Loc} {st : St} {tm : Array Value} {w : World}
theorem dy : ∀ (ids : List Nat) {M : ay} {st s : St}, SR M0 M β st tm w -> c7 ids st = some s →
  ∃ Mf, SR M0 Mf β s tm w /\ (∀ b j, Mf b j ↔ M b j /\ ¬ ∃ i ∈ ids, (∃ o, st.obj i = some o) /\ (β i).F b j) /\ ∀ i, (∃ o, s.obj i = some o) ↔ i ∉ ids /\ ∃ o, st.obj i = some o
 | [], M, st, s, h, hf => by
  simp only [c7, Option.some.injEq] at hf; subst hf
  exact ⟨M, h, by simp, by simp⟩
 | k :: ids, M, st, s, h, hf => by
  have step : ∀ (s1 : St), SR M0 (kq M (β k)) β s1 tm w -> (∀ i, (∃ o, s1.obj i = some o) ↔ i ≠ k /\ ∃ o, st.obj i = some o) -> (∃ o, st.obj k = some o) -> c7 ids s1 = some s →
    ∃ Mf, SR M0 Mf β s tm w /\ (∀ b j, Mf b j ↔ M b j /\ ¬ ∃ i ∈ k :: ids, (∃ o, st.obj i = some o) /\ (β i).F b j) /\ ∀ i, (∃ o, s.obj i = some o) ↔ i ∉ k :: ids /\ ∃ o, st.obj i = some o := by
   intro s1 h1 hd hk hf
   obtain ⟨Mf, k1, k2, k3⟩ := dy ids h1 hf
   refine ⟨Mf, k1, fun b j => ?_, fun i => ?_⟩
   ·rw [k2]
    constructor
    ·rintro ⟨⟨a1, a2⟩, a3⟩
     refine ⟨a1, ?_⟩
     rintro ⟨i, hi, ho, hF⟩
     by_cases e : i = k
     ·subst e; exact a2 hF
     ·rcases List.mem_cons.1 hi with e' | hi
      ·exact e e'
      ·exact a3 ⟨i, hi, (hd i).2 ⟨e, ho⟩, hF⟩
    ·rintro ⟨a1, a2⟩
     refine ⟨⟨a1, fun hF => a2 ⟨k, by simp, hk, hF⟩⟩, ?_⟩
     rintro ⟨i, hi, ho, hF⟩
     exact a2 ⟨i, by simp [hi], ((hd i).1 ho).2, hF⟩
   ·rw [k3, hd]
    simp only [List.mem_cons, not_or]
    constructor
    ·rintro ⟨a1, a2, a3⟩; exact ⟨⟨a2, a1⟩, a3⟩
    ·rintro ⟨⟨a1, a2⟩, a3⟩; exact ⟨a2, a1, a3⟩
  simp only [c7] at hf
  split at hf
  ·rename_i sz es ho
   split at hf
   ·rename_i s1 h1
    exact step s1 (sg h h1) (qn h1) ⟨_, ho⟩ hf
   ·exact absurd hf (by simp)
  ·rename_i cs ho
   split at hf
   ·rename_i l hl
    refine step _ (tL h ho hl) (fun i => ?_) ⟨_, ho⟩ hf
    rw [rF]
    by_cases e : i = k
    ·simp [e]
    ·simp only [e, if_false, Option.map_eq_some_iff, ne_eq, not_false_eq_true, true_and]
     exact ⟨fun ⟨o, a, h1, _⟩ => ⟨a, h1⟩, fun ⟨a, h1⟩ => ⟨_, a, h1, rfl⟩⟩
   ·exact absurd hf (by simp)
  ·exact absurd hf (by simp)
  ·rename_i ho
   obtain ⟨Mf, k1, k2, k3⟩ := dy ids h hf
   refine ⟨Mf, k1, fun b j => ?_, fun i => ?_⟩
   ·rw [k2]
    constructor
    ·rintro ⟨a1, a2⟩
     refine ⟨a1, ?_⟩
     rintro ⟨i, hi, ⟨o, hio⟩, hF⟩
     rcases List.mem_cons.1 hi with rfl | hi
     ·rw [ho] at hio; simp at hio
     ·exact a2 ⟨i, hi, ⟨o, hio⟩, hF⟩
    ·rintro ⟨a1, a2⟩
     exact ⟨a1, fun ⟨i, hi, hio, hF⟩ => a2 ⟨i, by simp [hi], hio, hF⟩⟩
   ·rw [k3]
    simp only [List.mem_cons, not_or]
    constructor
    ·rintro ⟨a1, o, a2⟩
     exact ⟨⟨fun e => by subst e; rw [ho] at a2; simp at a2, a1⟩, o, a2⟩
    ·rintro ⟨⟨a1, a2⟩, a3⟩; exact ⟨a2, a3⟩
theorem il : ∀ (ids : List Nat) {st : St}, SR M0 M β st tm w -> SR M0 M β (dW ids st) tm w /\ ∀ i, (∃ o, (dW ids st).obj i = some o) ↔ i ∉ ids /\ ∃ o, st.obj i = some o
 | [], st, h => ⟨h, by simp [dW]⟩
 | k :: ids, st, h => by
  obtain ⟨k1, k2⟩ := il ids (Ea k h)
  refine ⟨k1, fun i => ?_⟩
  simp only [dW]
  rw [k2, Bq]
  simp only [List.mem_cons, not_or]
  by_cases e : i = k
  ·simp [e]
  ·simp only [e, if_false, Option.map_eq_some_iff, not_false_eq_true, true_and]
   exact ⟨fun ⟨a1, o, a, h1, _⟩ => ⟨a1, a, h1⟩, fun ⟨a1, a, h1⟩ => ⟨a1, _, a, h1, rfl⟩⟩
theorem nw (id i : Nat) (o : Obj) (st : St) : (st.upd id o).obj i = if i = id then some o else st.obj i := by
 simp only [St.obj, St.upd, cB]
 split
 ·rfl
 ·rename_i h; rw [jA, if_neg h]
theorem iV : ∀ (ws : List Patch) {st s : St}, eB ws st = some s -> s.tmps = st.tmps /\ (∀ i, s.obj i = dk ws i (st.obj i)) /\ ((ws.map Patch.id).Nodup -> ∀ p ∈ ws, ∃ o o', st.obj p.id = some o /\ p.on (some o) = some o')
 | [], st, s, h => by
  simp only [eB, Option.some.injEq] at h; subst h
  exact ⟨rfl, fun _ => rfl, by simp⟩
 | q :: ws, st, s, h => by
  simp only [eB] at h
  split at h
  ·rename_i o ho
   obtain ⟨k1, k2, k3⟩ := iV ws h
   refine ⟨k1, fun i => ?_, fun hn p hp => ?_⟩
   ·rw [k2, nw]
    simp only [dk, List.foldl_cons]
    by_cases e : i = q.id
    ·subst e; simp [ho]
    ·rw [if_neg e, if_neg (fun h => e h.symm)]
   ·simp only [List.map_cons, List.nodup_cons] at hn
    rcases List.mem_cons.1 hp with rfl | hp
    ·cases hq : st.obj p.id with
     | none => rw [hq] at ho; cases p <;> simp [Patch.on] at ho
     | some o0 => rw [hq] at ho; exact ⟨o0, o, rfl, ho⟩
    ·obtain ⟨o1, o2, h1, h2⟩ := k3 hn.2 p hp
     have hne : ¬ p.id = q.id := fun e => hn.1 (by rw [<- e]; exact List.mem_map_of_mem (f := Patch.id) hp)
     rw [nw, if_neg hne] at h1
     exact ⟨o1, o2, h1, h2⟩
  ·exact absurd h (by simp)
theorem f9 : ∀ (os : List (Nat × Obj)) {st s : St}, st.add os = some s -> s.tmps = st.tmps /\ (os.map (·.1)).Nodup /\ (∀ i ∈ os.map (·.1), st.obj i = none) /\ ∀ i, s.obj i = match cB i os with | some o => some o | none => st.obj i
 | [], st, s, h => by
  simp only [St.add, Option.some.injEq] at h; subst h
  exact ⟨rfl, by simp, by simp, fun i => by simp [cB]⟩
 | (id, o) :: r, st, s, h => by
  simp only [St.add] at h
  split at h
  ·exact absurd h (by simp)
  ·rename_i hn
   obtain ⟨k1, k2, k3, k4⟩ := f9 r h
   have hid : id ∉ r.map (·.1) := fun hi => by
    have := k3 id hi
    simp [St.obj, cB] at this
   refine ⟨k1, List.nodup_cons.2 ⟨hid, k2⟩, fun i hi => ?_, fun i => ?_⟩
   ·simp only [List.map_cons, List.mem_cons] at hi
    rcases hi with rfl | hi
    ·exact hn
    ·have := k3 i hi
     simp only [St.obj, cB] at this
     split at this
     ·exact absurd this (by simp)
     ·exact this
   ·rw [k4]
    simp only [cB, St.obj]
    by_cases e : i = id
    ·subst e
     rw [if_pos rfl]
     cases hl : cB i r with
     | none => simp
     | some x => exact absurd (List.mem_map_of_mem (f := (·.1)) (dX hl)) hid
    ·rw [if_neg e]
     cases hl : cB i r with
     | none => simp [e]
     | some x => simp [e]
theorem gL (t t' : Nat) (v : AV) (st : St) : (st.put t v).get t' = if t' = t then v else st.get t' := by
 simp only [St.get, St.put, cB]
 by_cases e : t' = t
 ·simp [e]
 ·simp only [e, if_false]
theorem Ht {a : Act} {o : Oper} {m : Made} {st st' : St} {M1 M' : ay} {β' : Nat -> Loc} {w' : World} {c : Value} (hS : SR M0 M β st a.tmps w) (hP : Post M1 β w (fun id => ∃ o, st.obj id = some o) m M' β' w' c)
  (hM1 : ∀ b j, M1 b j ↔ M b j /\ ¬ ∃ i ∈ m.frz, (∃ o, st.obj i = some o) /\ (β i).F b j) (hfd : ∀ g ∈ m.dels ++ m.use, g ∉ m.frz)
  (hRefs : fZ (fun id => (∃ o, st.obj id = some o) /\ id ∉ m.dels ++ m.use /\ id ∉ m.frz) m) (h : Dx o m st = some st') (hdst : ∀ t, o.dst = some t -> t < a.tmps.size) : SR M0 M' β' st' (a.put o.dst c).tmps w' := by
 unfold Dx at h
 split at h
 ·rename_i s1 h1
  split at h
  ·rename_i s3 h3
   split at h
   ·rename_i s4 h4
    injection h with h; subst h
    obtain ⟨Mf, k1, k2, k3⟩ := dy m.frz hS h1
    have hMf : Mf = M1 := by
     funext b j
     exact propext ((k2 b j).trans (hM1 b j).symm)
    subst hMf
    obtain ⟨l1, l2⟩ := il (m.dels ++ m.use) k1
    obtain ⟨p1, p2, p3⟩ := iV m.ws h3
    obtain ⟨q1, q2, q3, q4⟩ := f9 m.os h4
    have hw := p3 hP.nd
    have dom2 : ∀ i, (∃ o, (dW (m.dels ++ m.use) s1).obj i = some o) ↔ i ∉ m.dels ++ m.use /\ i ∉ m.frz /\ ∃ o, st.obj i = some o := fun i => by rw [l2, k3]
    have pat : ∀ i o0, (dW (m.dels ++ m.use) s1).obj i = some o0 -> ∃ o1, s3.obj i = some o1 := by
     intro i o0 ho
     rw [p2]
     by_cases hi : i ∈ m.ws.map Patch.id
     ·obtain ⟨p, hp, rfl⟩ := List.mem_map.1 hi
      rw [fF hP.nd hp]
      obtain ⟨o1, o2, e1, e2⟩ := hw p hp
      rw [e1]; exact ⟨o2, e2⟩
     ·rw [dg hi]; exact ⟨o0, ho⟩
    have hos : ∀ id ∈ m.os.map (·.1), ¬ ∃ o, (dW (m.dels ++ m.use) s1).obj id = some o := by
     rintro id hid ⟨o0, ho⟩
     obtain ⟨o1, h1⟩ := pat id o0 ho
     rw [q3 id hid] at h1; simp at h1
    have hpo : ∀ i, (gg o m.v s4).obj i = s4.obj i := fun i => by unfold gg; cases o.dst <;> rfl
    have hputD : gg o m.v s4 = (match o.dst with | some t => s4.put t m.v | none => s4) := rfl
    have hV1 : VR M0 M' β' (gg o m.v s4).view (a.put o.dst c).tmps w' := by
     refine Post.view (V0 := (dW (m.dels ++ m.use) s1).view) (d := o.dst) l1.1 hP l1.2 hos q2 (fun g hg hd => ⟨fun b j hF => ?_, fun id o' ho' b j hF => ?_⟩) (fun p hp => hw p hp) (fun t => ?_) (fun id => ?_) (fun t => ?_)
     ·obtain ⟨o0, ho0⟩ := hd
      have hown := hS.1.own g o0 ho0 b j hF
      refine ⟨(hM1 b j).2 ⟨hown.1, ?_⟩, hown.2⟩
      rintro ⟨i, hi, ⟨o1, ho1⟩, hF'⟩
      exact hS.1.disj g i o0 o1 ho0 ho1 (fun e => hfd g hg (e ▸ hi)) b j hF hF'
     ·obtain ⟨o0, ho0⟩ := hd
      obtain ⟨d1, d2, o1, ho1⟩ := (dom2 id).1 ⟨o', ho'⟩
      exact hS.1.disj g id o0 o1 ho0 ho1 (fun e => d1 (e ▸ hg)) b j hF
     ·show (gg o m.v s4).get t = _
      rw [hputD]
      have hg4 : s4.get t = (dW (m.dels ++ m.use) s1).get t := by simp only [St.get, q1, p1]
      cases hd : o.dst with
      | none => simp only [reduceCtorEq, if_false]; exact hg4
      | some d =>
       simp only [gL, hg4]
       by_cases e : t = d
       ·subst e; simp;
       ·have : ¬ d = t := fun h => e h.symm
        simp [e, this]; rfl
     ·show (gg o m.v s4).obj id = _
      rw [hpo, q4]
      cases cB id m.os with
      | some x => rfl
      | none => exact p2 id
     ·cases hd : o.dst with
      | none => simp [Act.put]
      | some d =>
       have hlt := hdst d hd
       simp only [Act.put, Option.some.injEq]
       by_cases e : d = t
       ·subst e; simp [hlt]
       ·simp [e, Array.getElem?_setIfInBounds]
    refine ⟨hV1, ?_⟩
    have dom4 : ∀ i, ((∃ o, st.obj i = some o) /\ i ∉ m.dels ++ m.use /\ i ∉ m.frz) ∨ i ∈ m.os.map (·.1) -> ∃ o', (gg o m.v s4).view.obj i = some o' := by
     intro i hi
     show ∃ o', (gg o m.v s4).obj i = some o'
     rw [hpo, q4]
     rcases hi with ⟨h1, h2, h3⟩ | hi
     ·cases hl : cB i m.os with
      | some x => exact ⟨x, rfl⟩
      | none =>
       obtain ⟨o0, ho0⟩ := (dom2 i).2 ⟨h2, h3, h1⟩
       exact pat i o0 ho0
     ·obtain ⟨p, hp, rfl⟩ := List.mem_map.1 hi
      rw [e9 (n := p.1) (a := p.2) q2 hp]
      exact ⟨_, rfl⟩
    have ref2 : ∀ i, (∃ o, (dW (m.dels ++ m.use) s1).obj i = some o) -> ∃ o', (gg o m.v s4).view.obj i = some o' := fun i hi => by
     obtain ⟨d1, d2, d3⟩ := (dom2 i).1 hi
     exact dom4 i (.inl ⟨d3, d1, d2⟩)
    refine ⟨fun t i hi => ?_, fun id ob hob => ⟨⟨ob, hob⟩, fun i hi => ?_⟩⟩
    ·have hg : (gg o m.v s4).view.get t = m.v ∨ (gg o m.v s4).view.get t = (dW (m.dels ++ m.use) s1).get t := by
      have hg4 : s4.get t = (dW (m.dels ++ m.use) s1).get t := by simp only [St.get, q1, p1]
      show (gg o m.v s4).get t = m.v ∨ (gg o m.v s4).get t = _
      rw [hputD]
      cases hd : o.dst with
      | none => exact .inr hg4
      | some d =>
       simp only [gL]
       by_cases e : t = d
       ·exact .inl (by simp [e])
       ·exact .inr (by simp only [e, if_false]; exact hg4)
     rcases hg with hg | hg
     ·rw [hg] at hi; exact dom4 i (hRefs.1 i hi)
     ·rw [hg] at hi; exact ref2 i (l1.2.1 t i hi)
    ·have hob' : s4.obj id = some ob := by rw [<- hpo]; exact hob
     rw [q4] at hob'
     split at hob'
     ·rename_i x hl
      injection hob' with hob'; subst hob'
      exact dom4 i (hRefs.2.1 _ (dX hl) i hi)
     ·rename_i hl
      rw [p2] at hob'
      by_cases hid : id ∈ m.ws.map Patch.id
      ·obtain ⟨p, hp, rfl⟩ := List.mem_map.1 hid
       rw [fF hP.nd hp] at hob'
       obtain ⟨o0, o1, e1, e2⟩ := hw p hp
       rw [e1] at hob'
       cases p with
       | box k off cells =>
        cases o0 <;> simp only [Patch.on] at hob' <;> try (cases hob'; done)
        rename_i cs0
        split at hob'
        ·rename_i hle
         injection hob' with hob'; subst hob'
         simp only [Obj.refs] at hi
         obtain ⟨v, hv, hvi⟩ := bj.1 hi
         obtain ⟨j, hj⟩ := List.mem_iff_getElem?.1 hv
         rw [ch _ _ _ hle] at hj
         split at hj
         ·exact dom4 i (hRefs.2.2 k off cells hp i (bj.2 ⟨v, List.mem_of_getElem? hj, hvi⟩))
         ·exact ref2 i ((l1.2.2 _ _ e1).2 i (by simp only [Obj.refs]; exact bj.2 ⟨v, List.mem_of_getElem? hj, hvi⟩))
        ·exact absurd hob' (by simp)
       | buf k sz es =>
        cases o0 <;> simp only [Patch.on] at hob' <;> try (cases hob'; done)
        split at hob'
        ·injection hob' with hob'; subst hob'; simp [Obj.refs] at hi
        ·exact absurd hob' (by simp)
       | bld k bs =>
        cases o0 <;> simp only [Patch.on] at hob' <;> try (cases hob'; done)
        injection hob' with hob'; subst hob'; simp [Obj.refs] at hi
      ·rw [dg hid] at hob'
       exact ref2 i ((l1.2.2 id ob hob').2 i hi)
   ·exact absurd h (by simp)
  ·exact absurd h (by simp)
 ·exact absurd h (by simp)
end
end Go.Proofs.YtcoikmicjbppmaaGreat.Vm
namespace Go.Proofs.YtcoikmicjbppmaaGreat.Vm
open Go
set_option linter.unusedVariables false
set_option linter.unusedSimpArgs false
def dh (os : List (Nat × Obj)) : Prop := ∀ p ∈ os, p.1 % 2 = 0
theorem dh.append {a b : List (Nat × Obj)} (h : dh a) (k : dh b) : dh (a ++ b) := fun p hp => (List.mem_append.1 hp).elim (h p) (k p)
theorem fy (d : Nat) : aN d % 2 = 0 := by unfold aN; omega
theorem fc (i j : Nat) : bg i j % 2 = 0 := by unfold bg; omega
mutual
theorem qR : ∀ (v : TV) (id : Nat), id % 2 = 0 -> dh (bV bg id v).2
 | .pv x, id, _ => by simp [bV, dh]
 | .own sz es, id, h => by simpa [bV, dh] using h
 | .bld bs, id, h => by simpa [bV, dh] using h
 | .ptr cells, id, h => by
  intro p hp
  simp only [bV, List.mem_cons] at hp
  rcases hp with rfl | hp
  ·exact h
  ·exact places_even cells id 0 p hp
theorem places_even : ∀ (vs : List TV) (id j : Nat), dh (places bg id j vs).2
 | [], id, j => by simp [places, dh]
 | v :: vs, id, j => by
  simp only [places]
  exact (qR v (bg id j) (fc _ _)).append (places_even vs id (j + 1))
end
theorem xE (d : Nat) (rs : List TV) : dh (dQ d rs).2 := by
 cases rs with
 | nil => exact places_even [] (aN d) 0
 | cons v r =>
  cases r with
  | nil => exact qR v _ (fy d)
  | cons v' r => exact places_even (v :: v' :: r) (aN d) 0
mutual
theorem lG : ∀ (ob : Option Back) (id j : Nat) (f : TV) (a : AV) (ps : List Patch) (os : List (Nat × Obj)), bw id j ob f = some (a, ps, os) -> dh os
 | some (.box i off bs), id, j, f, a, ps, os, h => by
  cases f <;> simp only [bw] at h <;> try (cases h; done)
  rename_i cells
  split at h
  ·rename_i l ps' os' hl
   injection h with h; injection h with h1 h; injection h with h2 h3; subst h3
   exact backLeaves_even bs i off cells l ps' os' hl
  ·exact absurd h (by simp)
 | some (.own i), id, j, f, a, ps, os, h => by cases f <;> simp only [bw] at h <;> cases h
 | some .nilSl, id, j, f, a, ps, os, h => by cases f <;> simp only [bw] at h <;> cases h
 | some (.bld i), id, j, f, a, ps, os, h => by
  cases f <;> simp only [bw] at h <;> try (cases h; done)
  injection h with h; injection h with h1 h; injection h with h2 h3; subst h3
  simp [dh]
 | none, id, j, f, a, ps, os, h => by
  cases f <;> simp only [bw] at h <;> try (cases h; done)
  ·injection h with h; injection h with h1 h; injection h with h2 h3; subst h3; simp [dh]
  ·injection h with h; injection h with h1 h; injection h with h2 h3; subst h3
   simpa [dh] using fc id j
theorem backLeaves_even : ∀ (bs : List (Option Back)) (id j : Nat) (fs : List TV) (l : List AV) (ps : List Patch) (os : List (Nat × Obj)), backLeaves id j bs fs = some (l, ps, os) -> dh os
 | [], id, j, fs, l, ps, os, h => by
  cases fs <;> simp only [backLeaves] at h <;> try (cases h; done)
  injection h with h; injection h with h1 h; injection h with h2 h3; subst h3
  simp [dh]
 | ob :: bs, id, j, fs, l, ps, os, h => by
  cases fs <;> simp only [backLeaves] at h <;> try (cases h; done)
  rename_i f fs
  split at h
  ·rename_i a p os1 l' ps' os' h1 h2
   injection h with h; injection h with e1 h; injection h with e2 e3; subst e3
   exact (lG ob id j f a p os1 h1).append (backLeaves_even bs id (j + 1) fs l' ps' os' h2)
  ·exact absurd h (by simp)
end
theorem iE : ∀ (bs : List Back) (fs : List TV) (ws : List Patch) (os : List (Nat × Obj)), bZ bs fs = some (ws, os) -> dh os
 | [], fs, ws, os, h => by
  cases fs <;> simp only [bZ] at h <;> try (cases h; done)
  injection h with h; injection h with h1 h2; subst h2
  simp [dh]
 | b :: bs, [], ws, os, h => by cases b <;> simp only [bZ] at h <;> cases h
 | b :: bs, f :: fs, ws, os, h => by
  have two : ((∃ i, b = .bld i) ∨ ∃ i off l, b = .box i off l) -> dh os := by
   intro hb
   obtain ⟨a, p, o, q, r, h1, h2, rfl, rfl⟩ := fb hb h
   exact (lG _ _ _ _ _ _ _ h1).append (iE bs fs q r h2)
  cases b with
  | box i off l => exact two (.inr ⟨i, off, l, rfl⟩)
  | bld i => exact two (.inl ⟨i, rfl⟩)
  | nilSl =>
   cases f <;> (try simp only [bZ] at h) <;> try (cases h; done)
   rename_i sz es
   cases es with
   | cons e es => (try simp only [bZ] at h); cases h
   | nil =>
    (try simp only [bZ] at h)
    exact iE bs fs ws os h
  | own i =>
   cases f <;> simp only [bZ] at h <;> try (cases h; done)
   split at h
   ·rename_i q r hr
    injection h with h; injection h with h1 h2; subst h2
    exact iE bs fs q _ hr
   ·exact absurd h (by simp)
theorem wW {C : Cx} {call : FuncId -> List TV -> Option (RT)} {d : Nat} {c : Call} {V : View} {m : Made} (h : gw C call d c V = some m) : dh m.os := by
 unfold gw at h
 split at h
 ·split at h
  ·split at h
   ·split at h
    ·split at h
     ·rename_i rs fs hc
      split at h
      ·rename_i ws os hb
       injection h with h; subst h
       exact (xE d rs).append (iE _ _ _ _ hb)
      ·exact absurd h (by simp)
     ·exact absurd h (by simp)
    ·exact absurd h (by simp)
   ·exact absurd h (by simp)
  ·exact absurd h (by simp)
 ·exact absurd h (by simp)
theorem gP : dh [] := by simp [dh]
theorem nO (d : Nat) (o : Obj) : dh [(aN d, o)] := by intro p hp; simp at hp; subst hp; exact fy d
theorem xP {P : Program} {d : Nat} {s t : TypeId} {x : AV} {V : View} {v : AV} {os : List (Nat × Obj)} (h : oX P d s t x V = some (v, os)) : dh os := by
 unfold oX at h
 repeat' split at h
 all_goals first
  | (cases h; done)
  | (injection h with h; injection h with h1 h2; subst h2; exact gP)
  | (injection h with h; injection h with h1 h2; subst h2; exact nO d _)
theorem wT {P : Program} {d : Nat} {vs : List Value} {ts : List TypeId} {l : List AV} {os : List (Nat × Obj)} (hb : jJ P (aN d) 0 vs ts = some (l, os)) : dh ((aN d, .box l) :: os) := by
 obtain ⟨_, k2, _⟩ := jK (P := P) (aN d) _ _ _ _ _ hb
 intro p hp
 rcases List.mem_cons.1 hp with rfl | hp
 ·exact fy d
 ·obtain ⟨k, sz, _, e, _⟩ := k2 p hp
  rw [e]; exact fc _ _
theorem BU {P : Program} {bt : TypeId} {d : Nat} {o : Op} {V : View} {v : AV} {os : List (Nat × Obj)} (h : dq P bt d o V = some (v, os)) : dh os := by
 unfold dq at h
 repeat' split at h
 all_goals first
  | (cases h; done)
  | exact xP h
  | (injection h with h; injection h with h1 h2; subst h2; exact gP)
  | (injection h with h; injection h with h1 h2; subst h2; exact nO d _)
  | (injection h with h; injection h with h1 h2; subst h2; exact wT (by assumption))
theorem BR {P : Program} {d : Nat} {o : Op} {V : View} {v : AV} {os : List (Nat × Obj)} {id : Option Nat} (h : we P d o V = some (v, os, id)) : dh os := by
 unfold we at h
 repeat' split at h
 all_goals first
  | (cases h; done)
  | (injection h with h; injection h with h1 h2; injection h2 with h2 h3; subst h2; exact nO d _)
theorem HO {P : Program} {o : Op} {V : View} {m : Made} (h : rJ P o V = some m) : m.os = [] := by
 unfold rJ at h
 repeat' split at h
 all_goals first
  | (cases h; done)
  | (injection h with h; subst h; rfl)
theorem sD {C : Cx} {call : FuncId -> List TV -> Option (RT)} {o : Oper} {V : View} {m : Made} (h : fC C call o V = some m) : dh m.os := by
 unfold fC at h
 simp only at h
 split at h
 ·exact wW h
 ·split at h
  ·rename_i v os hq
   injection h with h; subst h
   exact BU hq
  ·split at h
   ·rename_i v os id ha
    injection h with h; subst h
    exact BR ha
   ·rw [HO h]; exact gP
end Go.Proofs.YtcoikmicjbppmaaGreat.Vm
namespace Go.Proofs.YtcoikmicjbppmaaGreat.Vm
open Go
set_option linter.unusedVariables false
set_option linter.unusedSimpArgs false
theorem BT {P : Program} {d : Nat} {o : Op} {V : View} {v : AV} {os : List (Nat × Obj)} {id : Option Nat} {R : Nat -> Prop} (h : we P d o V = some (v, os, id)) : fZ R ⟨v, os, [], id.toList, [], []⟩ := by
 unfold we at h
 repeat' split at h
 all_goals first
  | (cases h; done)
  | (injection h with h; injection h with h1 h2; injection h2 with h2 h3; subst h1; subst h2; exact ⟨fun i hi => by simp [AV.refs] at hi; subst hi; exact .inr (by simp), fun p hp i hi => by simp at hp; subst hp; simp [Obj.refs] at hi, by simp⟩)
theorem fZ.imp {R R' : Nat -> Prop} {m : Made} (h : fZ R m) (hi : ∀ i, R i -> R' i) : fZ R' m :=
 ⟨fun i hi' => (h.1 i hi').imp (hi i) (fun h => h), fun p hp i hi' => (h.2.1 p hp i hi').imp (hi i) (fun h => h), fun id off cs hm i hi' => (h.2.2 id off cs hm i hi').imp (hi i) (fun h => h)⟩
section
variable {C : Cx} {call : FuncId -> List TV -> Option (RT)} {M0 M : ay} {β : Nat -> Loc} {V : View} {a : Act} {w : World}
theorem v7 {R : Nat -> Prop} (hcall : ∀ f as rs fs, call f as = some (rs, fs) -> br C.P (C.modes f) f as rs fs) (hV : VR M0 M β V a.tmps w) (hR : bI R V) {o : Oper} {m : Made} (h : fC C call o V = some m)
  (hos : (m.os.map (·.1)).Nodup) (hfresh : ∀ id ∈ m.os.map (·.1), R id -> id ∈ m.dels ++ m.use ∨ id ∈ m.frz) {K : Act -> World -> Prop} {Q : Exit -> Act -> World -> Prop}
  (hK : ∀ M' β' w' c, Post (fun b j => M b j /\ ¬ ∃ i ∈ m.frz, (∃ o, V.obj i = some o) /\ (β i).F b j) β w (fun id => ∃ o, V.obj id = some o) m M' β' w' c →
   fZ (fun id => R id /\ id ∉ m.dels ++ m.use /\ id ∉ m.frz) m -> K (a.put o.dst c) w') : o.wp C.P a w K Q := by
 have plain : m.frz = [] -> Gk C.P a.eval o.op w M β (fun id => ∃ o, V.obj id = some o) (fun id => R id /\ id ∉ m.dels ++ m.use /\ id ∉ m.frz) m -> o.wp C.P a w K Q := by
  rintro hz ⟨c, w', M', β', h1, h2, h3⟩
  have e : (fun b j => M b j /\ ¬ ∃ i ∈ m.frz, (∃ o, V.obj i = some o) /\ (β i).F b j) = M := by
   funext b j; simp [hz]
  rw [e] at hK
  have := hK M' β' w' c h2 h3
  unfold Oper.wp
  rcases h1 o rfl with h5 | ⟨e5, h5⟩
  ·rw [h5]; exact this
  ·rw [h5]; rw [e5] at this; exact this
 unfold fC at h
 simp only at h
 split at h
 ·rename_i c hc
  have hop : o.op = .call c := by
   unfold ki at hc
   split at hc
   ·rename_i c' heq
    split at hc
    ·exact absurd hc (by simp)
    ·injection hc with hc; subst hc; exact heq
   ·exact absurd hc (by simp)
  have huse : m.use = [] := by
   unfold gw at h
   repeat' split at h
   all_goals first
    | (cases h; done)
    | (injection h with h; subst h; rfl)
  obtain ⟨f, cs, hex, hinv⟩ := Aa hcall hV h hos (fun id hid ob hob => by simpa [huse] using hfresh id hid ((hR.2 id ob hob).1))
  have fin : ∀ v w', (∃ M' β', Post (fun b j => M b j /\ ¬ ∃ i ∈ m.frz, (∃ o, V.obj i = some o) /\ (β i).F b j) β w (fun id => ∃ o, V.obj id = some o) m M' β' w' v /\ ∀ R : Nat -> Prop, (∀ id o, V.obj id = some o -> id ∉ m.dels -> id ∉ m.frz -> R id) -> fZ R m) -> K (a.put o.dst v) w' := by
   rintro v w' ⟨M', β', k1, k2⟩
   exact hK M' β' w' v k1 (k2 _ (fun id ob hob h1 h2 => ⟨(hR.2 id ob hob).1, by simpa [huse] using h1, h2⟩))
  unfold Oper.wp
  rw [hex o hop]
  unfold cT at hinv
  split at hinv
  ·rename_i v w' hr
   rw [hr]; exact fin v w' hinv
  ·rename_i g as w' hr
   rw [hr]
   simp only [Oper.upon]
   refine hinv.mono ?_
   rintro e w'' ⟨v, rfl, hh⟩
   exact fin v w'' hh
  ·exact hinv.elim
 ·split at h
  ·rename_i v os hq
   injection h with h; subst h
   refine plain rfl ?_
   have hd : ∀ p ∈ os, ¬ R p.1 := by
    intro p hp hob
    have := hfresh p.1 (List.mem_map_of_mem (f := (·.1)) hp) hob
    simp [Made.only] at this
   obtain ⟨c, w', M', β', k1, k2, k3⟩ := (HQ hV hR hd hq).wok (dom := fun id => ∃ o, V.obj id = some o)
   exact ⟨c, w', M', β', k1, k2, k3.imp (fun i hi => ⟨hi, by simp [Made.only], by simp [Made.only]⟩)⟩
  ·split at h
   ·rename_i v os id ha
    injection h with h; subst h
    refine plain rfl ?_
    obtain ⟨c, w', M', β', k1, k2, _⟩ := HL hV hR (dom := fun id => ∃ o, V.obj id = some o) (fun id ob h => ⟨ob, h⟩) ha
    exact ⟨c, w', M', β', k1, k2, BT ha⟩
   ·obtain ⟨c, w', M', β', k1, k2, k3⟩ := HN hV hR (dom := fun id => ∃ o, V.obj id = some o) (fun id ob h => ⟨ob, h⟩) h
    have hgone : m.dels = [] /\ m.use = [] /\ m.frz = [] := by
     unfold rJ at h
     repeat' split at h
     all_goals first
      | (cases h; done)
      | (injection h with h; subst h; exact ⟨rfl, rfl, rfl⟩)
    exact plain hgone.2.2 ⟨c, w', M', β', k1, k2, k3.imp (fun i hi => ⟨hi, by simp [hgone.1, hgone.2.1], by simp [hgone.2.2]⟩)⟩
theorem Ef (hcall : ∀ f as rs fs, call f as = some (rs, fs) -> br C.P (C.modes f) f as rs fs) (hV : VR M0 M β V a.tmps w) (hR : bI (fun id => ∃ o, V.obj id = some o) V) {o : Oper} {m : Made} (h : fC C call o V = some m)
  (hos : (m.os.map (·.1)).Nodup) (hfresh : ∀ id ∈ m.os.map (·.1), ∀ ob, V.obj id = some ob -> id ∈ m.dels ++ m.use ∨ id ∈ m.frz) {K : Act -> World -> Prop} {Q : Exit -> Act -> World -> Prop}
  (hK : ∀ M' β' w' c, Post (fun b j => M b j /\ ¬ ∃ i ∈ m.frz, (∃ o, V.obj i = some o) /\ (β i).F b j) β w (fun id => ∃ o, V.obj id = some o) m M' β' w' c →
   fZ (fun id => (∃ o, V.obj id = some o) /\ id ∉ m.dels ++ m.use /\ id ∉ m.frz) m -> K (a.put o.dst c) w') : o.wp C.P a w K Q :=
 v7 hcall hV hR h hos (fun id hid ⟨ob, hob⟩ => hfresh id hid ob hob) hK
theorem EJ {β : Nat -> Loc} {w : World} {M Ml : ay} {l : Loc} {sz : Nat} {es : LP} (hMl : ∀ b j, Ml b j -> M b j) (hO : cJ β w M l (.buf sz es)) (hF : ∀ b j, l.F b j -> ¬ Ml b j) : bp w Ml (.sl es) l.hdr := by
 have hk : ∀ b o v, at_ w b o = some v -> ¬ M b o -> at_ w b o = some v /\ ¬ Ml b o := fun b o v h1 h2 => ⟨h1, fun h => h2 (hMl _ _ h)⟩
 obtain ⟨q1, q2, q3, q4, q5, q6, q7, q8, q9⟩ := hO
 simp only [bp, Loc.hdr]
 cases hb : l.base with
 | none =>
  have hcap := q7 hb
  have he : es = [] := List.length_eq_zero_iff.1 (by omega)
  subst he
  exact ⟨none, 0, rfl, Nat.le_refl _, fun _ => rfl, fun p hp => by simp at hp, sz, by simp only [RepRow]⟩
 | some bo =>
  obtain ⟨b, o⟩ := bo
  refine ⟨_, l.cap, by rw [q3], by omega, fun h => by simp at h, fun p hp _ => by injection hp with hp; subst hp; rfl, sz, RepRow.of fun i e he => ?_⟩
  obtain ⟨vs, k1, k2⟩ := (q9 b o hb).2 i e he
  refine ⟨_, vs, rfl, q8 e (List.mem_of_getElem? he), RepS.mono hk _ _ k1, fun j c hj => ?_⟩
  show at_ w b (o + (0 + i) * sz + j) = some c /\ ¬ Ml b (o + (0 + i) * sz + j)
  rw [Nat.zero_add]
  refine ⟨k2 j c hj, hF _ _ (.inl ⟨o, hb, by omega, ?_⟩)⟩
  have hj' : j < sz := by
   have := (List.getElem?_eq_some_iff.1 hj).1
   rw [k1.length, q8 e (List.mem_of_getElem? he)] at this; exact this
  have hi := (List.getElem?_eq_some_iff.1 he).1
  have : (i + 1) * sz <= l.cap * sz := Nat.mul_le_mul_right _ (by omega)
  rw [Nat.add_mul] at this
  omega
theorem rR {pl : List Nat} {o : Oper} {ob : Nat -> Option Obj} {m : Made} {dom : Nat -> Prop} {M1 M' : ay} {β' : Nat -> Loc} {w' : World} {c : Value} (hold : ∀ b j, M1 b j -> b < w.heap.size) (h : Post M1 β w dom m M' β' w' c) :
  ∃ M'' β'', Post M1 β w dom (cR pl o ob m) M'' β'' w' c := by
 unfold cR
 split
 ·rename_i d i sz es hd hos hws
  split
  ·split
   ·rename_i j hv
    split
    ·rename_i hij
     subst hij
     have hn := h.new (i, .buf sz es) (by rw [hos]; simp)
     have hval := h.val
     rw [hv] at hval
     simp only [aL] at hval
     have hid : ∀ k, k ≠ i -> k ∉ m.os.map (·.1) := fun k hk => by rw [hos]; simpa using hk
     refine ⟨kq M' (β' i), fun k => if k = i then β i else β' k, ⟨fun k _ => ?_, fun k _ hk => ?_, fun b j hM => ?_, fun b j hM => h.only b j hM.1, fun b j hM => h.old b j hM.1, by simp, by simp [hws], h.nd, fun k k' hk => ?_, h.fr, ?_⟩⟩
     ·by_cases e : k = i
      ·exact Loc.same_of (by simp [e])
      ·simp only [e, if_false]; exact h.same k (hid k e)
     ·by_cases e : k = i
      ·simp [e]
      ·simp only [e, if_false]; exact h.keep k (hid k e) hk
     ·rcases h.kept b j hM with hM' | hG
      ·by_cases hF : (β' i).F b j
       ·rcases (hn.2 b j hF).2 with hf | hG
        ·have := hold b j hM; omega
        ·exact .inr hG
       ·exact .inl ⟨hM', hF⟩
      ·exact .inr hG
     ·rcases hk with hk | ⟨_, hk⟩
      ·simp at hk
      ·simp [hws] at hk
     ·simp only [aL]
      rw [hval]
      exact EJ (fun b j hM => hM.1) hn.1 (fun b j hF hM => hM.2 hF)
    ·exact ⟨M', β', h⟩
   ·exact ⟨M', β', h⟩
  ·exact ⟨M', β', h⟩
 ·exact ⟨M', β', h⟩
end
end Go.Proofs.YtcoikmicjbppmaaGreat.Vm
namespace Go.Proofs.YtcoikmicjbppmaaGreat.Vm
open Go
set_option linter.unusedVariables false
set_option linter.unusedSimpArgs false
def nJ (M0 D0 : ay) (β0 : Nat -> Loc) (w0 : World) (n : Nat) (st : St) (a : Act) (w : World) : Prop :=
 ∃ M β, SR M0 M β st a.tmps w /\ Fr D0 w0 w /\ (∀ b j, M b j -> M0 b j ∨ D0 b j ∨ w0.heap.size <= b) /\ a.tmps.size = n /\ a.defers = [] /\ ∀ id o, id % 2 = 1 -> st.obj id = some o -> (β0 id).same (β id)
theorem kN (pl : List Nat) (o : Oper) (ob : Nat -> Option Obj) (m : Made) : (cR pl o ob m = m) ∨ (∃ i sz es, m.os = [(i, .buf sz es)] /\ m.ws = [] /\ m.v = .own i /\ ob i = none /\ cR pl o ob m = { m with v := .pv (.sl es), os := [] }) := by
 unfold cR
 split
 ·rename_i d i sz es hd hos hws
  split
  ·rename_i hc
   split
   ·rename_i j hv
    split
    ·rename_i hij
     subst hij
     simp only [Bool.and_eq_true, Option.isNone_iff_eq_none] at hc
     exact .inr ⟨i, sz, es, hos, hws, hv, hc.2, rfl⟩
    ·exact .inl rfl
   ·exact .inl rfl
  ·exact .inl rfl
 ·exact .inl rfl
theorem jE : ∀ (ws : List Patch) {st s : St}, eB ws st = some s -> ∀ i, (∃ o, st.obj i = some o) ↔ ∃ o, s.obj i = some o
 | [], st, s, h, i => by simp only [eB, Option.some.injEq] at h; subst h; exact Iff.rfl
 | q :: ws, st, s, h, i => by
  simp only [eB] at h
  split at h
  ·rename_i o ho
   rw [<- jE ws h i, nw]
   by_cases e : i = q.id
   ·subst e
    simp only [if_true]
    constructor
    ·intro _; exact ⟨o, rfl⟩
    ·intro _
     cases hq : st.obj q.id with
     | none => rw [hq] at ho; cases q <;> simp [Patch.on] at ho
     | some o0 => exact ⟨o0, rfl⟩
   ·simp [e]
  ·exact absurd h (by simp)
theorem BB {C : Cx} {call : FuncId -> List TV -> Option (RT)} {o : Oper} {V : View} {m : Made} (h : fC C call o V = some m) : ∀ g ∈ m.dels ++ m.use, g ∉ m.frz := by
 unfold fC at h
 simp only at h
 split at h
 ·unfold gw at h
  split at h
  ·split at h
   ·split at h
    ·split at h
     ·rename_i hchk
      simp only [Bool.and_eq_true] at hchk
      split at h
      ·split at h
       ·injection h with h; subst h
        intro g hg hz
        simp only [List.append_nil] at hg
        split at hz
        ·simp at hz
        ·rename_i l _
         split at hz
         ·simp at hz
         ·exact kY hchk.2 g hz (List.mem_append.2 (.inl hg))
       ·exact absurd h (by simp)
      ·exact absurd h (by simp)
     ·exact absurd h (by simp)
    ·exact absurd h (by simp)
   ·exact absurd h (by simp)
  ·exact absurd h (by simp)
 ·split at h
  ·injection h with h; subst h; simp [Made.only]
  ·split at h
   ·injection h with h; subst h; simp
   ·unfold rJ at h
    repeat' split at h
    all_goals first
     | (cases h; done)
     | (injection h with h; subst h; simp)
section
variable {M0 M : ay} {β : Nat -> Loc} {st : St} {tm : Array Value} {w : World}
theorem Ec {o : Oper} {m : Made} {st' : St} (hS : SR M0 M β st tm w) (h : Dx o m st = some st') (hnd : (m.ws.map Patch.id).Nodup) : ∀ x j, Dm β (fun id => ∃ o, st.obj id = some o) m x j -> M x j /\ ¬ M0 x j := by
 rintro x j (⟨g, hg, ⟨ob, hob⟩, hF⟩ | ⟨p, hp, hd, ht⟩)
 ·exact hS.1.own g ob hob x j hF
 ·unfold Dx at h
  split at h
  ·rename_i s1 h1
   split at h
   ·rename_i s3 h3
    obtain ⟨Mf, k1, k2, k3⟩ := dy m.frz hS h1
    obtain ⟨l1, l2⟩ := il (m.dels ++ m.use) k1
    obtain ⟨p1, p2, p3⟩ := iV m.ws h3
    obtain ⟨o0, o1, e1, e2⟩ := p3 hnd p hp
    have hF : (β p.id).F x j := by
     refine Patch.touch_F ht ?_
     rintro id off cells rfl
     cases o0 <;> simp only [Patch.on] at e2 <;> try (cases e2; done)
     rename_i cs
     obtain ⟨b0, o0, q1, q2, q3, q4⟩ := l1.1.objs _ _ e1
     split at e2
     ·rw [q2]; assumption
     ·exact absurd e2 (by simp)
    have := l1.1.own p.id o0 e1 x j hF
    exact ⟨((k2 x j).1 this.1).1, this.2⟩
   ·exact absurd h (by simp)
  ·exact absurd h (by simp)
theorem m7 (a : Act) (d : Option Tmp) (v : Value) : (a.put d v).tmps.size = a.tmps.size := by cases d <;> simp [Act.put]
theorem jG (a : Act) (d : Option Tmp) (v : Value) : (a.put d v).defers = a.defers := by cases d <;> rfl
end
theorem Eb {M0 M : ay} {β : Nat -> Loc} {tm : Array Value} {w : World} {o : Oper} {m : Made} {st st' : St} (hS : SR M0 M β st tm w) (h : Dx o m st = some st') {id : Nat} (hn : id ∉ m.os.map (·.1)) (ho : ∃ ob, st'.obj id = some ob) : ∃ ob, st.obj id = some ob := by
 obtain ⟨ob, hob⟩ := ho
 unfold Dx at h
 split at h
 ·rename_i s1 h1
  split at h
  ·rename_i s3 h3
   split at h
   ·rename_i s4 h4
    injection h with h; subst h
    have hpo : (gg o m.v s4).obj id = s4.obj id := by unfold gg; cases o.dst <;> rfl
    rw [hpo] at hob
    obtain ⟨q1, q2, q3, q4⟩ := f9 m.os h4
    rw [q4] at hob
    have hl : cB id m.os = none := by
     cases hl : cB id m.os with
     | none => rfl
     | some x => exact absurd (List.mem_map_of_mem (f := (·.1)) (dX hl)) hn
    rw [hl] at hob
    obtain ⟨o1, ho1⟩ := (jE m.ws h3 id).2 ⟨ob, hob⟩
    obtain ⟨Mf, k1, k2, k3⟩ := dy m.frz hS h1
    exact ((k3 id).1 (((il (m.dels ++ m.use) k1).2 id).1 ⟨o1, ho1⟩).2).2
   ·exact absurd h (by simp)
  ·exact absurd h (by simp)
 ·exact absurd h (by simp)
section
variable {C : Cx} {call : FuncId -> List TV -> Option (RT)} {M0 D0 : ay} {β0 : Nat -> Loc} {w0 : World} {n : Nat}
theorem Eo (hcall : ∀ f as rs fs, call f as = some (rs, fs) -> br C.P (C.modes f) f as rs fs) {pl : List Nat} {o : Oper} {st st' : St} {a : Act} {w : World} (hI : nJ M0 D0 β0 w0 n st a w) (h : wh C call pl o st = some st')
  (hd : ∀ t, o.dst = some t -> t < n) {K : Act -> World -> Prop} {Q : Exit -> Act -> World -> Prop} (hK : ∀ a' w', nJ M0 D0 β0 w0 n st' a' w' -> K a' w') : o.wp C.P a w K Q := by
 obtain ⟨M, β, hS, hFr, hM, hn, hdef, hpin⟩ := hI
 unfold wh at h
 split at h
 ·rename_i s hs
  split at h
  ·rename_i m hm
   obtain ⟨Mf, hSf, hMf, hdf⟩ := dy _ hS hs
   have heven := sD hm
   have hfz := BB hm
   have harr := kN pl o s.obj m
   have hnum : (m.os.map (·.1)).Nodup /\ ∀ id ∈ m.os.map (·.1), ∀ ob, s.view.obj id = some ob -> id ∈ m.dels ++ m.use ∨ id ∈ m.frz := by
    rcases harr with e | ⟨i, sz, es, e1, e2, e3, e4, e5⟩
    ·rw [e] at h
     unfold Dx at h
     split at h
     ·rename_i s1 h1
      split at h
      ·rename_i s3 h3
       split at h
       ·rename_i s4 h4
        obtain ⟨q1, q2, q3, q4⟩ := f9 m.os h4
        obtain ⟨_, k1, _, k3⟩ := dy m.frz hSf h1
        obtain ⟨_, l2⟩ := il (m.dels ++ m.use) k1
        refine ⟨q2, fun id hid ob hob => ?_⟩
        by_cases hg : id ∈ m.dels ++ m.use
        ·exact .inl hg
        ·by_cases hz : id ∈ m.frz
         ·exact .inr hz
         ·obtain ⟨x, hx⟩ := (jE m.ws h3 id).1 ((l2 id).2 ⟨hg, (k3 id).2 ⟨hz, ob, hob⟩⟩)
          rw [q3 id hid] at hx; simp at hx
       ·exact absurd h (by simp)
      ·exact absurd h (by simp)
     ·exact absurd h (by simp)
    ·rw [e1]
     refine ⟨by simp, fun id hid ob hob => ?_⟩
     simp at hid; subst hid
     have hob' : s.obj id = some ob := hob
     rw [e4] at hob'; simp at hob'
   refine Ef hcall hSf.1 hSf.2 hm hnum.1 hnum.2 (fun M' β' w' c hP hR => hK _ _ ?_)
   obtain ⟨M2, β2, hP2⟩ := rR (pl := pl) (o := o) (ob := s.obj) (fun b j h => hSf.1.old b j h.1) hP
   have harr2 : (cR pl o s.obj m).dels = m.dels /\ (cR pl o s.obj m).use = m.use /\ (cR pl o s.obj m).frz = m.frz /\ dh (cR pl o s.obj m).os /\ fZ (fun id => (∃ o, s.view.obj id = some o) /\ id ∉ m.dels ++ m.use /\ id ∉ m.frz) (cR pl o s.obj m) := by
    rcases harr with e | ⟨i, sz, es, e1, e2, e3, e4, e5⟩
    ·rw [e]; exact ⟨rfl, rfl, rfl, heven, hR⟩
    ·rw [e5]; exact ⟨rfl, rfl, rfl, gP, by simp [AV.refs], by simp, by simp [e2]⟩
   obtain ⟨a1, a2, a3, a4, a5⟩ := harr2
   generalize hma : cR pl o s.obj m = ma at hP2 h a1 a2 a3 a4 a5
   rw [<- a1, <- a2, <- a3] at a5
   have hS' := Ht hSf hP2 (fun b j => by rw [a3]; exact Iff.rfl) (fun g hg => by rw [a1, a2] at hg; rw [a3]; exact hfz g hg) a5 h (fun t ht => by rw [hn]; exact hd t ht)
   have hown := Ec hSf h hP2.nd
   refine ⟨M2, β2, hS', hFr.trans hP2.fr (fun _ _ h => h) (fun x j hx => ?_), fun b j hx => ?_, (m7 ..).trans hn, (jG ..).trans hdef, fun id ob hid hob => ?_⟩
   ·have := hown x j hx
    rcases hM x j ((hMf x j).1 this.1).1 with h | h | h
    ·exact absurd h this.2
    ·exact .inl h
    ·exact .inr h
   ·rcases hP2.only b j hx with h | h
    ·exact hM b j ((hMf b j).1 h.1).1
    ·exact .inr (.inr (Nat.le_trans hFr.size h))
   ·have hni : id ∉ ma.os.map (·.1) := by
     intro h
     obtain ⟨p, hp, rfl⟩ := List.mem_map.1 h
     have := a4 p hp
     omega
    obtain ⟨ob1, hob1⟩ := Eb hSf h hni ⟨ob, hob⟩
    obtain ⟨ob2, hob2⟩ := ((hdf id).1 ⟨ob1, hob1⟩).2
    exact (hpin id ob2 hid hob2).trans (hP2.same id hni)
  ·exact absurd h (by simp)
 ·exact absurd h (by simp)
theorem nJ.step {st st' : St} {a : Act} {w : World} (hI : nJ M0 D0 β0 w0 n st a w)
  (h : ∀ M β, SR M0 M β st a.tmps w -> ∃ M' β', SR M0 M' β' st' a.tmps w /\ (∀ b j, M' b j -> M b j) /\ ∀ id o, id % 2 = 1 -> st'.obj id = some o -> (∃ o', st.obj id = some o') /\ (β id).same (β' id)) : nJ M0 D0 β0 w0 n st' a w := by
 obtain ⟨M, β, hS, hFr, hM, hn, hdef, hpin⟩ := hI
 obtain ⟨M', β', k1, k2, k3⟩ := h M β hS
 refine ⟨M', β', k1, hFr, fun b j hb => hM b j (k2 b j hb), hn, hdef, fun id o hid ho => ?_⟩
 obtain ⟨⟨o', ho'⟩, hs⟩ := k3 id o hid ho
 exact (hpin id o' hid ho').trans hs
def MA (d : Option Nat) (v : AV) (st : St) : St := match d with | some t => st.put t v | none => st
theorem HV {M : ay} {β : Nat -> Loc} {st : St} {a : Act} {w : World} (hS : SR M0 M β st a.tmps w) (d : Option Nat) {v : AV} {c : Value} (hv : aL β w M v c) (hr : ∀ i ∈ v.refs, ∃ o, st.obj i = some o) (hd : ∀ t, d = some t -> t < a.tmps.size) :
  SR M0 M β (MA d v st) (a.put d c).tmps w := by
 cases d with
 | none => exact hS
 | some d =>
  have hlt := hd d rfl
  refine ⟨⟨hS.1.sup, hS.1.old, fun t => ?_, hS.1.objs, hS.1.own, hS.1.disj⟩, fun t i hi => ?_, hS.2.2⟩
  ·show aL β w M ((st.put d v).get t) _
   rw [gL]
   simp only [Act.put]
   by_cases e : t = d
   ·subst e; simp [hlt]; exact hv
   ·rw [if_neg e]
    have : ¬ d = t := fun h => e h.symm
    simp only [Array.getD_eq_getD_getElem?, Array.getElem?_setIfInBounds, this, if_false]
    have hs : aL β w M (st.get t) (a.tmps.getD t undef) := hS.1.slots t
    simpa only [Array.getD_eq_getD_getElem?] using hs
  ·have hi' : i ∈ ((st.put d v).get t).refs := hi
   rw [gL] at hi'
   split at hi'
   ·exact hr i hi'
   ·exact hS.2.1 t i hi'
theorem Et {st : St} {a : Act} {w : World} (hI : nJ M0 D0 β0 w0 n st a w) (o : Oper) (hd : ∀ t, o.dst = some t -> t < n) : nJ M0 D0 β0 w0 n (gg o (.tup []) st) (a.put o.dst undef) w := by
 obtain ⟨M, β, hS, hFr, hM, hn, hdef, hpin⟩ := hI
 refine ⟨M, β, HV hS o.dst (v := .tup []) (c := undef) (by simp only [aL]; exact ⟨#[], rfl, by simp [AVRs]⟩) (by simp [AV.refs, AV.refsL]) (fun t ht => by rw [hn]; exact hd t ht), hFr, hM, (m7 ..).trans hn, (jG ..).trans hdef, fun id ob hid hob => hpin id ob hid ?_⟩
 unfold gg at hob
 cases h : o.dst with
 | none => rw [h] at hob; exact hob
 | some t => rw [h] at hob; exact hob
theorem lA {M : ay} {β : Nat -> Loc} {V : View} {tm : Array Value} {w : World} (hV : VR M0 M β V tm w) {ops : Array Oper} {o : Oper} {b : Bool} (h : wanted ops.toList V o = some b) : Region.wanted o (yielded ops tm) = b := by
 unfold wanted at h
 unfold Region.wanted
 cases hg : o.guard with
 | none => rw [hg] at h; simp at h; simp [h]
 | some jw =>
  obtain ⟨j, want⟩ := jw
  rw [hg] at h
  simp only [Array.getElem?_toList] at h ⊢
  unfold yielded
  cases ht : (ops[j]?).bind (·.dst) with
  | none => rw [ht] at h; simp at h
  | some t =>
   rw [ht] at h
   have hs := hV.slots t
   simp only [Option.bind_some]
   simp only at h
   split at h
   ·rename_i b' hb
    rw [hb] at hs
    simp only [aL, bp] at hs
    simp only [Option.some.injEq] at h
    have : tm[t]? = some (.bool b') := by
     simp only [Array.getD_eq_getD_getElem?] at hs
     cases hq : tm[t]? with
     | none => rw [hq] at hs; simp [undef] at hs
     | some x => rw [hq] at hs; simp at hs; rw [hs]
    rw [this]; simp only; rw [<- h]; cases b' <;> cases want <;> rfl
   ·rename_i hb
    rw [hb] at hs
    simp only [aL, AVRs] at hs
    obtain ⟨cs, hs, _⟩ := hs
    simp only [Option.some.injEq] at h
    rw [<- h]
    cases hq : tm[t]? with
    | none => rfl
    | some x =>
     simp only [Array.getD_eq_getD_getElem?, hq, Option.getD_some] at hs
     rw [hs]; rfl
   ·exact absurd h (by simp)
theorem qQ (hcall : ∀ f as rs fs, call f as = some (rs, fs) -> br C.P (C.modes f) f as rs fs) {pl : List Nat} {ops : Array Oper} (hd : ∀ o ∈ ops.toList, ∀ t, o.dst = some t -> t < n) {st' : St} {Q : Exit -> Act -> World -> Prop} (hQ : ∀ a' w', nJ M0 D0 β0 w0 n st' a' w' -> Q .normal a' w') :
  ∀ (l : List Oper) (k : Nat) (st : St) (a : Act) (w : World), ops.toList.drop k = l -> k <= ops.size -> nJ M0 D0 β0 w0 n st a w -> i7 C call ops.toList pl l st = some st' -> wpOps C.P ops Q (List.range' k (ops.size - k)) a w
 | [], k, st, a, w, hl, hk, hI, h => by
  simp only [i7, Option.some.injEq] at h; subst h
  have : ops.size - k = 0 := by
   have := congrArg List.length hl
   simp at this; omega
  rw [this]
  exact hQ _ _ hI
 | o :: r, k, st, a, w, hl, hk, hI, h => by
  have hlt : k < ops.size := by
   have := congrArg List.length hl
   simp at this; omega
  have ho : ops[k]? = some o := by
   have := congrArg (·[0]?) hl
   simpa using this
  have hr : ops.toList.drop (k + 1) = r := by
   have := congrArg List.tail hl
   simpa using this
  have hm : o ∈ ops.toList := by
   have : ops.toList[k]? = some o := by simpa using ho
   exact List.mem_of_getElem? this
  rw [show ops.size - k = (ops.size - (k + 1)) + 1 by omega, List.range'_succ]
  simp only [wpOps, ho]
  simp only [i7] at h
  split at h
  ·rename_i hw
   obtain ⟨M, β, hS, _⟩ := id hI
   rw [lA hS.1 hw]
   simp only [if_true]
   split at h
   ·rename_i s hs
    exact .inl (Eo hcall hI hs (hd o hm) fun a' w' hI' => qQ hcall hd hQ r (k + 1) s a' w' hr (by omega) hI' h)
   ·exact absurd h (by simp)
  ·rename_i hw
   obtain ⟨M, β, hS, _⟩ := id hI
   rw [lA hS.1 hw]
   simp only [Bool.false_eq_true, if_false]
   exact qQ hcall hd hQ r (k + 1) _ _ w hr (by omega) (Et hI o (hd o hm)) h
  ·exact absurd h (by simp)
end
end Go.Proofs.YtcoikmicjbppmaaGreat.Vm
namespace Go.Proofs.YtcoikmicjbppmaaGreat.Vm
open Go
set_option linter.unusedVariables false
set_option linter.unusedSimpArgs false
mutual
theorem vL : ∀ v : AV, v.ids = v.refs
 | .own i => by simp only [AV.ids, AV.refs]
 | .part i _ _ => by simp only [AV.ids, AV.refs]
 | .addr i _ _ => by simp only [AV.ids, AV.refs]
 | .tup vs => by simp only [AV.ids, AV.refs]; exact idsL_refsL vs
 | .agg vs => by simp only [AV.ids, AV.refs]; exact idsL_refsL vs
 | .clo f a b => by simp only [AV.ids, AV.refs, idsL_refsL a, idsL_refsL b]
 | .undef => by simp only [AV.ids, AV.refs]
 | .pv _ => by simp only [AV.ids, AV.refs]
 | .nilSl => by simp only [AV.ids, AV.refs]
theorem idsL_refsL : ∀ vs : List AV, AV.idsL vs = AV.refsL vs
 | [] => by simp only [AV.idsL, AV.refsL]
 | v :: vs => by simp only [AV.idsL, AV.refsL, vL v, idsL_refsL vs]
end
section
variable {M : ay} {β β' : Nat -> Loc} {w : World} {g : Nat -> Option Nat}
mutual
theorem pG : ∀ (v : AV) (c : Value), (∀ i ∈ v.refs, ∀ j, g i = some j -> (β i).same (β' j)) -> aL β w M v c -> aL β' w M (AV.sub g v) c
 | .own i, c, hg, h => by
  simp only [AV.sub]
  split
  ·rename_i j hj
   simp only [aL] at h ⊢
   rw [(hg i (by simp [AV.refs]) j hj).hdr]; exact h
  ·simp only [aL]
 | .part i lo n, c, hg, h => by
  simp only [AV.sub]
  split
  ·rename_i j hj
   obtain ⟨h1, h2, h3, h4⟩ := hg i (by simp [AV.refs]) j hj
   simp only [aL] at h ⊢
   rw [h1, h2, h4]; exact h
  ·simp only [aL]
 | .addr i a b, c, hg, h => by
  simp only [AV.sub]
  split
  ·rename_i j hj
   obtain ⟨h1, h2, h3, h4⟩ := hg i (by simp [AV.refs]) j hj
   simp only [aL] at h ⊢
   rw [h1, h4]; exact h
  ·simp only [aL]
 | .nilSl, c, _, h => by simp only [AV.sub, aL] at h ⊢; exact h
 | .undef, c, _, h => by simp only [AV.sub, aL]
 | .pv x, c, _, h => by simp only [AV.sub, aL] at h ⊢; exact h
 | .tup vs, c, hg, h => by
  simp only [AV.sub, aL] at h ⊢
  obtain ⟨cs, h1, h2⟩ := h
  exact ⟨cs, h1, subgL_ok vs _ (fun i hi => hg i (by simpa only [AV.refs] using hi)) h2⟩
 | .agg vs, c, hg, h => by
  simp only [AV.sub, aL] at h ⊢
  obtain ⟨cs, h1, h2, h3⟩ := h
  exact ⟨cs, h1, subgL_ok vs _ (fun i hi => hg i (by simpa only [AV.refs] using hi)) h2, h3⟩
 | .clo f a b, c, hg, h => by
  simp only [AV.sub, aL] at h ⊢
  obtain ⟨x, y, h1, h2, h3⟩ := h
  exact ⟨x, y, h1, subgL_ok a _ (fun i hi => hg i (by simp only [AV.refs, List.mem_append]; exact .inl hi)) h2, subgL_ok b _ (fun i hi => hg i (by simp only [AV.refs, List.mem_append]; exact .inr hi)) h3⟩
theorem subgL_ok : ∀ (vs : List AV) (cs : List Value), (∀ i ∈ AV.refsL vs, ∀ j, g i = some j -> (β i).same (β' j)) -> AVRs β w M vs cs -> AVRs β' w M (AV.subL g vs) cs
 | [], cs, _, h => by simp only [AV.subL, AVRs] at h ⊢; exact h
 | v :: vs, cs, hg, h => by
  simp only [AV.subL, AVRs] at h ⊢
  obtain ⟨c, r, h1, h2, h3⟩ := h
  exact ⟨c, r, h1, pG v c (fun i hi => hg i (by simp only [AV.refsL, List.mem_append]; exact .inl hi)) h2, subgL_ok vs r (fun i hi => hg i (by simp only [AV.refsL, List.mem_append]; exact .inr hi)) h3⟩
end
mutual
theorem lv : ∀ (v : AV), ∀ j ∈ (AV.sub g v).refs, ∃ i ∈ v.refs, g i = some j
 | .own i, j, h => by
  simp only [AV.sub] at h
  split at h
  ·rename_i k hk
   simp only [AV.refs, List.mem_singleton] at h ⊢; subst h; exact ⟨i, rfl, hk⟩
  ·simp [AV.refs] at h
 | .part i lo n, j, h => by
  simp only [AV.sub] at h
  split at h
  ·rename_i k hk
   simp only [AV.refs, List.mem_singleton] at h ⊢; subst h; exact ⟨i, rfl, hk⟩
  ·simp [AV.refs] at h
 | .addr i a b, j, h => by
  simp only [AV.sub] at h
  split at h
  ·rename_i k hk
   simp only [AV.refs, List.mem_singleton] at h ⊢; subst h; exact ⟨i, rfl, hk⟩
  ·simp [AV.refs] at h
 | .nilSl, j, h => by simp [AV.sub, AV.refs] at h
 | .undef, j, h => by simp [AV.sub, AV.refs] at h
 | .pv x, j, h => by simp [AV.sub, AV.refs] at h
 | .tup vs, j, h => by simp only [AV.sub, AV.refs] at h ⊢; exact subgL_refs vs j h
 | .agg vs, j, h => by simp only [AV.sub, AV.refs] at h ⊢; exact subgL_refs vs j h
 | .clo f a b, j, h => by
  simp only [AV.sub, AV.refs, List.mem_append] at h ⊢
  rcases h with h | h
  ·obtain ⟨i, h1, h2⟩ := subgL_refs a j h; exact ⟨i, .inl h1, h2⟩
  ·obtain ⟨i, h1, h2⟩ := subgL_refs b j h; exact ⟨i, .inr h1, h2⟩
theorem subgL_refs : ∀ (vs : List AV), ∀ j ∈ AV.refsL (AV.subL g vs), ∃ i ∈ AV.refsL vs, g i = some j
 | [], j, h => by simp [AV.subL, AV.refsL] at h
 | v :: vs, j, h => by
  simp only [AV.subL, AV.refsL, List.mem_append] at h ⊢
  rcases h with h | h
  ·obtain ⟨i, h1, h2⟩ := lv v j h; exact ⟨i, .inl h1, h2⟩
  ·obtain ⟨i, h1, h2⟩ := subgL_refs vs j h; exact ⟨i, .inr h1, h2⟩
end
end
section
variable {M0 M : ay} {β : Nat -> Loc} {st : St} {tm : Array Value} {w : World}
theorem Loc.same_refl (l : Loc) : l.same l := ⟨rfl, rfl, rfl, rfl⟩
theorem qK {g : Nat -> Option Nat} {β' : Nat -> Loc} {l : Loc} : ∀ {o : Obj}, (∀ i ∈ o.refs, ∀ j, g i = some j -> (β i).same (β' j)) -> cJ β w M l o -> cJ β' w M l (o.map (AV.sub g))
 | .box cs, hg, h => by
  obtain ⟨b, o, q1, q2, q3, q4⟩ := h
  refine ⟨b, o, q1, by simpa using q2, q3, fun j v hj => ?_⟩
  rw [List.getElem?_map] at hj
  simp only [Option.map_eq_some_iff] at hj
  obtain ⟨u, hu, rfl⟩ := hj
  obtain ⟨c, k1, k2, k3, k4⟩ := q4 j u hu
  exact ⟨c, k1, k2, k3, pG _ _ (fun i hi => hg i (by simp only [Obj.refs]; exact bj.2 ⟨u, List.mem_of_getElem? hu, hi⟩)) k4⟩
 | .buf s es, hg, h => cJ.mono (o := .buf s es) (fun b o v h1 h2 => ⟨h1, h2⟩) (fun _ _ _ _ h => ⟨h, rfl⟩) (fun _ _ h => h) (fun _ _ _ => rfl) (fun _ h => h) (by simp [Obj.refs]) h
 | .bld bs, hg, h => cJ.mono (o := .bld bs) (fun b o v h1 h2 => ⟨h1, h2⟩) (fun _ _ _ _ h => ⟨h, rfl⟩) (fun _ _ h => h) (fun _ _ _ => rfl) (fun _ h => h) (by simp [Obj.refs]) h
theorem oO {g : Nat -> Option Nat} {o : Obj} : ∀ j ∈ (o.map (AV.sub g)).refs, ∃ i ∈ o.refs, g i = some j := by
 intro j hj
 cases o with
 | box cs =>
  simp only [Obj.map, Obj.refs] at hj ⊢
  obtain ⟨v, hv, hj⟩ := bj.1 hj
  obtain ⟨u, hu, rfl⟩ := List.mem_map.1 hv
  obtain ⟨i, h1, h2⟩ := lv u j hj
  exact ⟨i, bj.2 ⟨u, hu, h1⟩, h2⟩
 | buf s es => simp [Obj.map, Obj.refs] at hj
 | bld bs => simp [Obj.map, Obj.refs] at hj
def rL (a b : Nat) : Nat -> Option Nat := fun i => if i = a then some b else some i
theorem qC {α : Type} (a b n : Nat) : ∀ (l : List (Nat × α)), (cB b l = none) -> cB n (l.map fun p => if p.1 = a then (b, p.2) else p) = if n = b then cB a l else if n = a then (if a = b then cB a l else none) else cB n l
 | [], _ => by simp [cB]
 | (m, x) :: r, hb => by
  simp only [cB] at hb
  split at hb
  ·exact absurd hb (by simp)
  ·rename_i hbm
   have ih := qC a b n r hb
   simp only [List.map_cons]
   by_cases hma : m = a
   ·subst hma
    simp only [if_true, cB]
    by_cases hnb : n = b
    ·simp [hnb]
    ·simp only [hnb, if_false] at ih ⊢
     by_cases hnm : n = m
     ·subst hnm
      simp only [if_true] at ih ⊢
      rw [ih]
      have : ¬ n = b := hnb
      simp [this]
     ·simp only [hnm, if_false] at ih ⊢
      exact ih
   ·simp only [hma, if_false, cB]
    by_cases hnm : n = m
    ·subst hnm
     have : ¬ n = b := fun e => hbm e.symm
     simp [this, hma]
    ·simp only [hnm, if_false]
     rw [ih]
     have : ¬ a = m := fun e => hma e.symm
     simp [this]
theorem H2 {a b : Nat} {s : St} (h : SR M0 M β st tm w) (hr : st.ren a b = some s) : SR M0 M (fun i => if i = b then β a else β i) s tm w /\ ∀ i, (∃ o, s.obj i = some o) -> (i = b /\ ∃ o, st.obj a = some o) ∨ (i ≠ a /\ i ≠ b /\ ∃ o, st.obj i = some o) := by
 unfold St.ren at hr
 split at hr
 ·exact absurd hr (by simp)
 ·rename_i hb
  simp only [Option.some.injEq] at hr
  obtain ⟨hV, hC⟩ := h
  have hnb : ∀ i, (∃ o, st.obj i = some o) -> i ≠ b := by
   rintro i ⟨o, ho⟩ rfl
   rw [St.obj, hb] at ho; simp at ho
  have hg : ∀ i, (∃ o, st.obj i = some o) -> ∀ j, rL a b i = some j -> (β i).same ((fun i => if i = b then β a else β i) j) := by
   intro i hi j hj
   simp only [rL] at hj
   split at hj
   ·rename_i e
    simp only [Option.some.injEq] at hj; subst hj; subst e
    simp [Loc.same_refl]
   ·simp only [Option.some.injEq] at hj; subst hj
    simp [hnb i hi, Loc.same_refl]
  have hget : ∀ t, s.get t = AV.sub (rL a b) (st.get t) := by
   intro t
   subst hr
   simp only [St.get, St.map, gE]
   cases cB t st.tmps with
   | none => simp [AV.sub]
   | some v => rfl
  have hobj : ∀ i, s.obj i = if i = b then (st.obj a).map (Obj.map (AV.sub (rL a b))) else if i = a then none else (st.obj i).map (Obj.map (AV.sub (rL a b))) := by
   intro i
   subst hr
   simp only [St.obj, St.map]
   have hb' : cB b (st.objs.map fun p => (p.1, p.2.map (AV.sub (rL a b)))) = none := by rw [gE, hb]; rfl
   have := qC a b i _ hb'
   rw [show (fun p : Nat × Obj => (p.1, Obj.map (AV.sub fun i => if i = a then some b else some i) p.2)) = (fun p => (p.1, p.2.map (AV.sub (rL a b)))) from rfl]
   rw [this]
   by_cases e : i = b
   ·subst e; simp only [if_true, gE]
   ·simp only [e, if_false]
    by_cases e2 : i = a
    ·subst e2; simp [e]
    ·simp only [e2, if_false, gE]
  have hcase : ∀ i o, s.obj i = some o -> ∃ k o0, st.obj k = some o0 /\ o = o0.map (AV.sub (rL a b)) /\ ((i = b /\ k = a) ∨ (i ≠ a /\ i ≠ b /\ k = i)) := by
   intro i o ho
   rw [hobj] at ho
   split at ho
   ·rename_i e
    simp only [Option.map_eq_some_iff] at ho
    obtain ⟨o0, h1, rfl⟩ := ho
    exact ⟨a, o0, h1, rfl, .inl ⟨e, rfl⟩⟩
   ·rename_i e
    split at ho
    ·exact absurd ho (by simp)
    ·rename_i e2
     simp only [Option.map_eq_some_iff] at ho
     obtain ⟨o0, h1, rfl⟩ := ho
     exact ⟨i, o0, h1, rfl, .inr ⟨e2, e, rfl⟩⟩
  have hloc : ∀ i k, ((i = b /\ k = a) ∨ (i ≠ a /\ i ≠ b /\ k = i)) -> (if i = b then β a else β i) = β k := by
   rintro i k (⟨rfl, rfl⟩ | ⟨h1, h2, rfl⟩)
   ·simp
   ·simp [h2]
  have hdom : ∀ k, (∃ o, st.obj k = some o) -> ∀ j, rL a b k = some j -> ∃ o, s.obj j = some o := by
   rintro k ⟨o, ho⟩ j hj
   simp only [rL] at hj
   split at hj
   ·rename_i e
    simp only [Option.some.injEq] at hj; subst hj; subst e
    exact ⟨_, by rw [hobj, if_pos rfl, ho]; rfl⟩
   ·rename_i e
    simp only [Option.some.injEq] at hj; subst hj
    exact ⟨_, by rw [hobj, if_neg (hnb k ⟨o, ho⟩), if_neg e, ho]; rfl⟩
  refine ⟨⟨⟨hV.sup, hV.old, fun t => ?_, fun i o ho => ?_, fun i o ho => ?_, fun i i' o o' ho ho' hne => ?_⟩, fun t j hj => ?_, fun i o ho => ⟨⟨o, ho⟩, fun j hj => ?_⟩⟩, fun i hi => ?_⟩
  ·show aL _ w M (s.get t) _
   rw [hget]
   exact pG _ _ (fun i hi => hg i (hC.1 t i hi)) (hV.slots t)
  ·obtain ⟨k, o0, h1, rfl, h3⟩ := hcase i o ho
   show cJ _ w M (if i = b then β a else β i) _
   rw [hloc i k h3]
   exact qK (fun i hi => hg i ((hC.2 k o0 h1).2 i hi)) (hV.objs k o0 h1)
  ·obtain ⟨k, o0, h1, rfl, h3⟩ := hcase i o ho
   show ∀ x j, (if i = b then β a else β i).F x j -> _
   rw [hloc i k h3]
   exact hV.own k o0 h1
  ·obtain ⟨k, o0, h1, rfl, h3⟩ := hcase i o ho
   obtain ⟨k', o1, h1', rfl, h3'⟩ := hcase i' o' ho'
   show ∀ x j, (if i = b then β a else β i).F x j -> ¬ (if i' = b then β a else β i').F x j
   rw [hloc i k h3, hloc i' k' h3']
   refine hV.disj k k' o0 o1 h1 h1' ?_
   rintro rfl
   rcases h3 with ⟨rfl, rfl⟩ | ⟨e1, e2, rfl⟩
   ·rcases h3' with ⟨rfl, _⟩ | ⟨e1, e2, rfl⟩
    ·exact hne rfl
    ·exact e1 rfl
   ·rcases h3' with ⟨rfl, rfl⟩ | ⟨f1, f2, rfl⟩
    ·exact e1 rfl
    ·exact hne rfl
  ·have hj' : j ∈ (s.get t).refs := hj
   rw [hget] at hj'
   obtain ⟨i, h1, h2⟩ := lv _ j hj'
   exact hdom i (hC.1 t i h1) j h2
  ·obtain ⟨k, o0, h1, rfl, h3⟩ := hcase i o ho
   obtain ⟨i', h4, h5⟩ := oO j hj
   exact hdom i' ((hC.2 k o0 h1).2 i' h4) j h5
  ·obtain ⟨o, ho⟩ := hi
   obtain ⟨k, o0, h1, _, h3⟩ := hcase i o ho
   rcases h3 with ⟨rfl, rfl⟩ | ⟨e1, e2, rfl⟩
   ·exact .inl ⟨rfl, o0, h1⟩
   ·exact .inr ⟨e1, e2, o0, h1⟩
def fv (M0 : ay) (tm : Array Value) (w : World) (st st' : St) : Prop :=
 ∀ M β, SR M0 M β st tm w -> ∃ M' β', SR M0 M' β' st' tm w /\ (∀ b j, M' b j -> M b j) /\ ∀ id o, id % 2 = 1 -> st'.obj id = some o -> (∃ o', st.obj id = some o') /\ (β id).same (β' id)
theorem fv.refl (st : St) : fv M0 tm w st st := fun M β h => ⟨M, β, h, fun _ _ h => h, fun id o _ ho => ⟨⟨o, ho⟩, Loc.same_refl _⟩⟩
theorem fv.trans {s1 s2 s3 : St} (h : fv M0 tm w s1 s2) (k : fv M0 tm w s2 s3) : fv M0 tm w s1 s3 := by
 intro M β hS
 obtain ⟨M', β', a1, a2, a3⟩ := h M β hS
 obtain ⟨M'', β'', b1, b2, b3⟩ := k M' β' a1
 refine ⟨M'', β'', b1, fun b j hb => a2 b j (b2 b j hb), fun id o hid ho => ?_⟩
 obtain ⟨⟨o', ho'⟩, hs⟩ := b3 id o hid ho
 obtain ⟨ho'', hs'⟩ := a3 id o' hid ho'
 exact ⟨ho'', hs'.trans hs⟩
theorem kw {ids : List Nat} {s : St} (h : c7 ids st = some s) : fv M0 tm w st s := by
 intro M β hS
 obtain ⟨Mf, k1, k2, k3⟩ := dy ids hS h
 exact ⟨Mf, β, k1, fun b j hb => ((k2 b j).1 hb).1, fun id o _ ho => ⟨((k3 id).1 ⟨o, ho⟩).2, Loc.same_refl _⟩⟩
theorem wj {a b : Nat} {s : St} (hb : b % 2 = 0) (h : st.ren a b = some s) : fv M0 tm w st s := by
 intro M β hS
 obtain ⟨k1, k2⟩ := H2 hS h
 refine ⟨M, _, k1, fun _ _ h => h, fun id o hid ho => ?_⟩
 rcases k2 id ⟨o, ho⟩ with ⟨rfl, _⟩ | ⟨e1, e2, e3⟩
 ·omega
 ·exact ⟨e3, by simp [e2, Loc.same_refl]⟩
theorem wm {s : St} (h1 : ∀ t, s.get t = st.get t ∨ s.get t = .undef) (h2 : ∀ i o, s.obj i = some o -> st.obj i = some o) (hc : bI (fun id => ∃ o, s.obj id = some o) s.view) : fv M0 tm w st s := by
 rintro M β ⟨hV, hC⟩
 refine ⟨M, β, ⟨⟨hV.sup, hV.old, fun t => ?_, fun i o ho => hV.objs i o (h2 i o ho), fun i o ho => hV.own i o (h2 i o ho), fun i i' o o' ho ho' => hV.disj i i' o o' (h2 i o ho) (h2 i' o' ho')⟩, hc⟩, fun _ _ h => h, fun id o _ ho => ⟨⟨o, h2 id o ho⟩, Loc.same_refl _⟩⟩
 show aL β w M (s.get t) _
 rcases h1 t with h | h
 ·rw [h]; exact hV.slots t
 ·rw [h]; simp only [aL]
theorem qB {α : Type} (f : Nat -> Bool) (n : Nat) : ∀ (l : List (Nat × α)), cB n (l.filter fun p => f p.1) = if f n then cB n l else none
 | [] => by simp [cB]
 | (m, x) :: r => by
  have ih := qB f n r
  by_cases hm : f m
  ·rw [List.filter_cons_of_pos (by simpa using hm)]
   simp only [cB]
   by_cases e : n = m
   ·subst e; simp [hm]
   ·simp only [e, if_false]; exact ih
  ·rw [List.filter_cons_of_neg (by simpa using hm), ih]
   simp only [cB]
   by_cases e : n = m
   ·subst e; simp [hm]
   ·simp [e]
theorem wY {s : St} (h : tx s = true) : bI (fun id => ∃ o, s.obj id = some o) s.view := by
 simp only [tx, Bool.and_eq_true, List.all_eq_true, Option.isSome_iff_exists] at h
 obtain ⟨h1, h2⟩ := h
 refine ⟨fun t i hi => ?_, fun id o ho => ⟨⟨o, ho⟩, fun i hi => ?_⟩⟩
 ·have hi' : i ∈ (s.get t).refs := hi
  simp only [St.get] at hi'
  cases hl : cB t s.tmps with
  | none => rw [hl] at hi'; simp [AV.refs] at hi'
  | some v =>
   rw [hl] at hi'
   exact h1 (t, v) (dX hl) i (by rw [vL]; exact hi')
 ·have hm := dX (show cB id s.objs = some o from ho)
  have := h2 (id, o) hm
  cases o with
  | box cs =>
   simp only [List.all_eq_true, Option.isSome_iff_exists] at this
   exact this i (by rw [idsL_refsL]; exact hi)
  | buf _ _ => simp [Obj.refs] at hi
  | bld _ => simp [Obj.refs] at hi
theorem nY {α : Type} (n : Nat) (l : List (Nat × α)) : ∀ ts : List Nat, cB n (ts.filterMap fun t => (cB t l).map fun v => (t, v)) = if n ∈ ts then cB n l else none
 | [] => by simp [cB]
 | t :: ts => by
  have ih := nY n l ts
  rw [List.filterMap_cons]
  cases ht : cB t l with
  | none =>
   simp only [Option.map_none, ih, List.mem_cons]
   by_cases e : n = t
   ·subst e; simp [ht]
   ·simp [e]
  | some v =>
   simp only [Option.map_some, cB, ih, List.mem_cons]
   by_cases e : n = t
   ·subst e; simp [ht]
   ·simp [e]
theorem zj {ts : List Nat} {s : St} (h : IM ts st = some s) : fv M0 tm w st s := by
 unfold IM at h
 simp only at h
 split at h
 ·rename_i hc
  simp only [Option.some.injEq] at h
  refine wm (fun t => ?_) (fun i o ho => ?_) (by rw [<- h]; exact wY hc)
  ·rw [<- h]
   simp only [St.get]
   rw [nY]
   by_cases e : t ∈ ts
   ·rw [if_pos e]; exact .inl rfl
   ·rw [if_neg e]; exact .inr rfl
  ·rw [<- h] at ho
   generalize yy st.objs 4 (AV.idsL (List.map (fun x => x.2) (ts.filterMap fun t => (cB t st.tmps).map fun v => (t, v))) ++ qL st.objs) = ids at ho
   have ho' := (qB (fun n => ids.contains n || n % 2 == 1) i st.objs).symm.trans ho
   split at ho'
   ·exact ho'
   ·exact absurd ho' (by simp)
 ·exact absurd h (by simp)
theorem yk (k n : Nat) (o : Obj) : ∀ l : List (Nat × Obj), cB n (qv k o l) = if n = k then some o else cB n l
 | [] => by simp [qv, cB]
 | (j, p) :: r => by
  simp only [qv]
  split
  ·rename_i hlt
   simp only [cB]
   rw [yk k n o r]
   by_cases e : n = j
   ·subst e
    have : ¬ n = k := by omega
    simp [this]
   ·simp [e]
  ·simp only [cB]
theorem vV (n : Nat) : ∀ l : List (Nat × Obj), cB n (nj l) = cB n l
 | [] => rfl
 | (k, o) :: r => by simp only [nj, yk, cB, vV n r]
theorem xy (ts : List Nat) : fv M0 tm w st (mw ts st) := by
 intro M β hS
 have hg : ∀ t, (mw ts st).get t = st.get t ∨ (mw ts st).get t = .undef := by
  intro t
  simp only [St.get, mw, nY]
  by_cases e : t ∈ ts
  ·simp [e]
  ·simp [e]
 have ho : ∀ i, (mw ts st).obj i = st.obj i := fun i => by simp only [St.obj, mw, vV]
 refine wm hg (fun i o h => by rw [<- ho]; exact h) ⟨fun t i hi => ?_, fun id o h => ⟨⟨o, h⟩, fun i hi => ?_⟩⟩ M β hS
 ·have hi' : i ∈ ((mw ts st).get t).refs := hi
  rcases hg t with h | h
  ·rw [h] at hi'; simp only [ho]; exact hS.2.1 t i hi'
  ·rw [h] at hi'; simp [AV.refs] at hi'
 ·have h' : (mw ts st).obj id = some o := h
  rw [ho] at h'
  simp only [ho]
  exact (hS.2.2 id o h').2 i hi
theorem fS : ∀ (ts : List Nat) {st s : St}, iq ts st = some s -> fv M0 tm w st s
 | [], st, s, h => by simp only [iq, Option.some.injEq] at h; subst h; exact fv.refl _
 | t :: r, st, s, h => by
  simp only [iq] at h
  split at h
  ·split at h
   ·exact fS r h
   ·split at h
    ·rename_i s1 h1
     exact (wj (fy t) h1).trans (fS r h)
    ·exact absurd h (by simp)
  ·exact fS r h
theorem fR (id : Nat) : ∀ (j : Nat) (cs : List AV) {st s : St}, ip id j cs st = some s -> fv M0 tm w st s
 | j, [], st, s, h => by simp only [ip, Option.some.injEq] at h; subst h; exact fv.refl _
 | j, v :: r, st, s, h => by
  cases v <;> simp only [ip] at h <;> try (exact fR id (j + 1) r h)
  split at h
  ·exact fR id (j + 1) r h
  ·split at h
   ·rename_i s1 h1
    exact (wj (fc id j) h1).trans (fR id (j + 1) r h)
   ·exact absurd h (by simp)
theorem fQ : ∀ (ts : List Nat) {st s : St}, io ts st = some s -> fv M0 tm w st s
 | [], st, s, h => by simp only [io, Option.some.injEq] at h; subst h; exact fv.refl _
 | t :: r, st, s, h => by
  simp only [io] at h
  split at h
  ·split at h
   ·split at h
    ·rename_i s1 h1
     exact (fR _ _ _ h1).trans (fQ r h)
    ·exact absurd h (by simp)
   ·exact fQ r h
  ·exact fQ r h
theorem yq (β : Nat -> Loc) (w : World) (M : ay) {sz : Nat} (h : sz ≠ 0) : cJ β w M ⟨none, 0, 0, sz, 0, none⟩ (.buf sz []) :=
 ⟨rfl, by omega, rfl, Nat.le_refl _, by simp, ⟨rfl, fun b o hb => by simp at hb⟩, fun _ => rfl, by simp, by simp⟩
theorem tt {id : Nat} {ob : Obj} {s : St} (h : st.add [(id, ob)] = some s) : s.tmps = st.tmps /\ st.obj id = none /\ ∀ i, s.obj i = if i = id then some ob else st.obj i := by
 obtain ⟨k1, k2, k3, k4⟩ := f9 _ h
 refine ⟨k1, k3 id (by simp), fun i => ?_⟩
 rw [k4]
 simp only [cB]
 by_cases e : i = id <;> simp [e]
theorem wk {id sz : Nat} {s : St} (h0 : sz ≠ 0) (hid : id % 2 = 0) (h : st.add [(id, .buf sz [])] = some s) : ∀ M β, SR M0 M β st tm w -> ∃ β', SR M0 M β' s tm w /\ β' id = ⟨none, 0, 0, sz, 0, none⟩ /\ ∀ i, i ≠ id -> β' i = β i := by
 rintro M β ⟨hV, hC⟩
 obtain ⟨h1, h2, h3⟩ := tt h
 have hn : ∀ i, (∃ o, st.obj i = some o) -> i ≠ id := by rintro i ⟨o, ho⟩ rfl; rw [h2] at ho; simp at ho
 have hk : ∀ b o v, at_ w b o = some v -> ¬ M b o -> at_ w b o = some v /\ ¬ M b o := fun b o v h1 h2 => ⟨h1, h2⟩
 refine ⟨fun i => if i = id then ⟨none, 0, 0, sz, 0, none⟩ else β i, ⟨⟨hV.sup, hV.old, fun t => ?_, fun i o ho => ?_, fun i o ho b j hF => ?_, fun i i' o o' ho ho' hne b j hF => ?_⟩, fun t i hi => ?_, fun i o ho => ⟨⟨o, ho⟩, fun i' hi => ?_⟩⟩, by simp, fun i hi => by simp [hi]⟩
 ·show aL _ w M (s.get t) _
  have : s.get t = st.get t := by simp only [St.get, h1]
  rw [this]
  refine aL.mono hk _ _ (fun i hi => ?_) (hV.slots t)
  simp [hn i (hC.1 t i hi), Loc.same_refl]
 ·have ho' : s.obj i = some o := ho
  rw [h3] at ho'
  split at ho'
  ·rename_i e
   simp only [Option.some.injEq] at ho'; subst ho'; subst e
   simp only [if_true]
   exact yq _ w M h0
  ·rename_i e
   simp only [e, if_false]
   exact cJ.mono hk (fun _ _ _ _ h => ⟨h, rfl⟩) (fun _ _ h => h) (fun _ _ _ => rfl) (fun _ h => h) (fun i' hi' => by simp [hn i' ((hC.2 i o ho').2 i' hi'), Loc.same_refl]) (hV.objs i o ho')
 ·have ho' : s.obj i = some o := ho
  rw [h3] at ho'
  by_cases e : i = id
  ·simp only [e, if_true, Loc.F] at hF
   rcases hF with ⟨_, h, _⟩ | ⟨_, h, _⟩ <;> simp at h
  ·simp only [e, if_false] at hF ho'
   exact hV.own i o ho' b j hF
 ·have ho1 : s.obj i = some o := ho
  have ho2 : s.obj i' = some o' := ho'
  rw [h3] at ho1 ho2
  by_cases e : i = id
  ·simp only [e, if_true, Loc.F] at hF
   rcases hF with ⟨_, h, _⟩ | ⟨_, h, _⟩ <;> simp at h
  ·simp only [e, if_false] at hF ho1
   by_cases e' : i' = id
   ·simp only [e', if_true, Loc.F]
    rintro (⟨_, h, _⟩ | ⟨_, h, _⟩) <;> simp at h
   ·simp only [e', if_false] at ho2 ⊢
    exact hV.disj i i' o o' ho1 ho2 hne b j hF
 ·have hi' : i ∈ (st.get t).refs := by
   have : s.get t = st.get t := by simp only [St.get, h1]
   rw [<- this]; exact hi
  obtain ⟨o, ho⟩ := hC.1 t i hi'
  exact ⟨o, by rw [h3, if_neg (hn i ⟨o, ho⟩)]; exact ho⟩
 ·have ho' : s.obj i = some o := ho
  rw [h3] at ho'
  split at ho'
  ·simp only [Option.some.injEq] at ho'; subst ho'; simp [Obj.refs] at hi
  ·obtain ⟨o1, ho1⟩ := (hC.2 i o ho').2 i' hi
   exact ⟨o1, by rw [h3, if_neg (hn i' ⟨o1, ho1⟩)]; exact ho1⟩
theorem dZ : ∀ (l : List (Nat × Option Nat × Nat)) {st s : St}, fk l st = some s -> fv M0 tm w st s
 | [], st, s, h => by simp only [fk, Option.some.injEq] at h; subst h; exact fv.refl _
 | (t, none, sz) :: r, st, s, h => by
  simp only [fk] at h
  split at h
  ·exact absurd h (by simp)
  ·rename_i h0
   split at h
   ·rename_i hget
    split at h
    ·rename_i s1 h1
     refine fv.trans ?_ (dZ r h)
     intro M β hS
     obtain ⟨β', k1, k2, k3⟩ := wk h0 (fy t) h1 M β hS
     obtain ⟨a1, a2, a3⟩ := tt h1
     refine ⟨M, β', ⟨⟨k1.1.sup, k1.1.old, fun t' => ?_, k1.1.objs, k1.1.own, k1.1.disj⟩, fun t' i hi => ?_, k1.2.2⟩, fun _ _ h => h, fun id o hid ho => ?_⟩
     ·show aL β' w M ((s1.put t (.own (aN t))).get t') _
      rw [gL]
      split
      ·rename_i e
       subst e
       simp only [aL, k2]
       have := hS.1.slots t'
       have hg : st.view.get t' = .nilSl := hget
       rw [hg] at this
       simp only [aL] at this
       exact this
      ·exact k1.1.slots t'
     ·have hi' : i ∈ ((s1.put t (.own (aN t))).get t').refs := hi
      rw [gL] at hi'
      split at hi'
      ·simp only [AV.refs, List.mem_singleton] at hi'; subst hi'
       exact ⟨_, by show s1.obj _ = _; rw [a3, if_pos rfl]⟩
      ·exact k1.2.1 t' i hi'
     ·have ho' : s1.obj id = some o := ho
      have hne : id ≠ aN t := fun e => by have := fy t; omega
      rw [a3, if_neg hne] at ho'
      exact ⟨⟨o, ho'⟩, by rw [k3 id hne]; exact Loc.same_refl _⟩
    ·exact absurd h (by simp)
   ·exact dZ r h
 | (t, some j, sz) :: r, st, s, h => by
  simp only [fk] at h
  split at h
  ·exact absurd h (by simp)
  ·rename_i h0
   split at h
   ·rename_i id hget
    split at h
    ·rename_i cs hob
     split at h
     ·rename_i hcell
      split at h
      ·rename_i s1 h1
       refine fv.trans ?_ (dZ r h)
       intro M β hS
       obtain ⟨β', k1, k2, k3⟩ := wk h0 (fc id j) h1 M β hS
       obtain ⟨a1, a2, a3⟩ := tt h1
       have hne : id ≠ bg id j := fun e => by rw [<- e, hob] at a2; simp at a2
       have hob1 : s1.obj id = some (.box cs) := by rw [a3, if_neg hne]; exact hob
       have hold : ∀ i o, (s1.upd id (.box (cs.set j (.own (bg id j))))).obj i = some o -> (i = id /\ o = .box (cs.set j (.own (bg id j)))) ∨ (i ≠ id /\ s1.obj i = some o) := by
        intro i o ho
        rw [nw] at ho
        split at ho
        ·rename_i e; simp only [Option.some.injEq] at ho; exact .inl ⟨e, ho.symm⟩
        ·rename_i e; exact .inr ⟨e, ho⟩
       have hex : ∀ i, (∃ o, (s1.upd id (.box (cs.set j (.own (bg id j))))).obj i = some o) ↔ ∃ o, s1.obj i = some o := by
        intro i
        rw [nw]
        by_cases e : i = id
        ·subst e; simp [hob1]
        ·simp [e]
       have hown : ∀ i o, (s1.upd id (.box (cs.set j (.own (bg id j))))).obj i = some o -> ∃ o', s1.obj i = some o' := fun i o ho => (hex i).1 ⟨o, ho⟩
       refine ⟨M, β', ⟨⟨k1.1.sup, k1.1.old, fun t' => k1.1.slots t', fun i o ho => ?_, fun i o ho => ?_, fun i i' o o' ho ho' => ?_⟩, fun t' i hi => (hex i).2 (k1.2.1 t' i hi), fun i o ho => ⟨⟨o, ho⟩, fun i' hi => ?_⟩⟩, fun _ _ h => h, fun i o hid ho => ?_⟩
       ·rcases hold i o ho with ⟨rfl, rfl⟩ | ⟨hi, ho1⟩
        ·obtain ⟨b, p, q1, q2, q3, q4⟩ := k1.1.objs i _ hob1
         refine ⟨b, p, q1, by simpa using q2, q3, fun x v hx => ?_⟩
         rw [List.getElem?_set] at hx
         split at hx
         ·rename_i e
          subst e
          split at hx
          ·simp only [Option.some.injEq] at hx; subst hx
           obtain ⟨c, c1, c2, c3, c4⟩ := q4 j _ hcell
           refine ⟨c, c1, c2, c3, ?_⟩
           simp only [aL] at c4 ⊢
           rw [k2]; exact c4
          ·exact absurd hx (by simp)
         ·exact q4 x v hx
        ·exact k1.1.objs i o ho1
       ·obtain ⟨o', ho'⟩ := hown i o ho
        exact k1.1.own i o' ho'
       ·obtain ⟨o1, ho1⟩ := hown i o ho
        obtain ⟨o2, ho2⟩ := hown i' o' ho'
        exact k1.1.disj i i' o1 o2 ho1 ho2
       ·show ∃ o, (s1.upd id (.box (cs.set j (.own (bg id j))))).obj i' = some o
        rw [hex]
        rcases hold i o ho with ⟨rfl, rfl⟩ | ⟨hi1, ho1⟩
        ·simp only [Obj.refs] at hi
         obtain ⟨v, hv, hi⟩ := bj.1 hi
         rcases List.mem_or_eq_of_mem_set hv with hv | rfl
         ·exact (k1.2.2 i _ hob1).2 i' (by simp only [Obj.refs]; exact bj.2 ⟨v, hv, hi⟩)
         ·simp only [AV.refs, List.mem_singleton] at hi; subst hi
          exact ⟨_, by rw [a3, if_pos rfl]⟩
        ·exact (k1.2.2 i o ho1).2 i' hi
       ·obtain ⟨o', ho'⟩ := hown i o ho
        have hne' : i ≠ bg id j := fun e => by have := fc id j; omega
        rw [a3, if_neg hne'] at ho'
        exact ⟨⟨o', ho'⟩, by rw [k3 i hne']; exact Loc.same_refl _⟩
      ·exact absurd h (by simp)
     ·exact dZ r h
    ·exact dZ r h
   ·exact dZ r h
theorem zi {x : List Nat × List Nat × List (Nat × Option Nat × Nat)} {s : St} (h : od x st = some s) : fv M0 tm w st s := by
 unfold od at h
 split at h
 ·rename_i s1 h1
  split at h
  ·rename_i s2 h2
   split at h
   ·rename_i s3 h3
    split at h
    ·rename_i s4 h4
     split at h
     ·rename_i s5 h5
      simp only [Option.some.injEq] at h; subst h
      exact ((((zj h1).trans (kw h2)).trans (fS _ h3)).trans (fQ _ h4)).trans ((dZ _ h5).trans (xy _))
     ·exact absurd h (by simp)
    ·exact absurd h (by simp)
   ·exact absurd h (by simp)
  ·exact absurd h (by simp)
 ·exact absurd h (by simp)
theorem eJ : ∀ (ts : List Nat) {st s : St}, dS ts st = some s -> fv M0 tm w st s
 | [], st, s, h => by simp only [dS, Option.some.injEq] at h; subst h; exact fv.refl _
 | t :: r, st, s, h => by
  have one : ∀ {i : Nat} {s1 : St}, st.freeze i = some s1 -> fv M0 tm w st s1 := fun {i s1} hf M β hS =>
   ⟨_, β, sg hS hf, fun b j h => h.1, fun id o _ ho => ⟨((qn hf id).1 ⟨o, ho⟩).2, Loc.same_refl _⟩⟩
  simp only [dS] at h
  split at h
  ·split at h
   ·rename_i s1 h1
    exact (one h1).trans (eJ r h)
   ·exact absurd h (by simp)
  ·split at h
   ·rename_i s1 h1
    exact (one h1).trans (eJ r h)
   ·exact absurd h (by simp)
  ·exact eJ r h
end
end Go.Proofs.YtcoikmicjbppmaaGreat.Vm
namespace Go.Proofs.YtcoikmicjbppmaaGreat.Vm
open Go
set_option linter.unusedVariables false
set_option linter.unusedSimpArgs false
section
variable {V V' : View}
theorem nK (L : ∀ id ob, V.obj id = some ob -> V'.obj id = some ob) {v : AV} {l : LP} (h : gl V v = some l) : gl V' v = some l := by
 unfold gl at h ⊢
 split at h
 ·exact h
 ·exact h
 ·split at h
  ·rename_i hob; rw [L _ _ hob]; exact h
  ·exact absurd h (by simp)
 ·split at h
  ·rename_i hob; rw [L _ _ hob]; exact h
  ·exact absurd h (by simp)
 ·exact absurd h (by simp)
theorem fA : ∀ {xs : List Operand}, (∀ x ∈ xs, V.eval x = V'.eval x) -> cU V xs = cU V' xs
 | [], _ => rfl
 | x :: xs, h => by
  simp only [cU]
  rw [h x (by simp), fA (fun y hy => h y (by simp [hy]))]
theorem qe {o : Option Operand} (h : ∀ x, o = some x -> V.eval x = V'.eval x) : eX V o = eX V' o := by
 cases o with
 | none => rfl
 | some x => simp only [eX]; rw [h x rfl]
theorem iP : ∀ {ps : List (Nat × Operand)}, (∀ p ∈ ps, V.eval p.2 = V'.eval p.2) -> cn V ps = cn V' ps
 | [], _ => rfl
 | (i, x) :: ps, h => by
  simp only [cn]
  rw [h (i, x) (by simp), iP (fun y hy => h y (by simp [hy]))]
theorem C2 (L : ∀ id ob, V.obj id = some ob -> V'.obj id = some ob) {P : Program} {d : Nat} {s t : TypeId} {x : AV} {r : AV × List (Nat × Obj)} (h : oX P d s t x V = some r) : oX P d s t x V' = some r := by
 unfold oX at h ⊢
 split at h
 ·exact h
 ·split at h
  ·exact h
  ·split at h
   ·rename_i es h1 h2
    rw [nK L h2, h1]; exact h
   ·exact absurd h (by simp)
  ·exact absurd h (by simp)
 ·exact h
 ·exact absurd h (by simp)
theorem HP {P : Program} {bt : TypeId} {d : Nat} {o : Op} {r : AV × List (Nat × Obj)} (E : ∀ x ∈ o.operands.toList, V.eval x = V'.eval x) (L : ∀ id ob, V.obj id = some ob -> V'.obj id = some ob) (h : dq P bt d o V = some r) : dq P bt d o V' = some r := by
 cases o
 case move x => simp only [dq] at h ⊢; rw [<- E x (by simp [Op.operands])]; exact h
 case assign x => simp only [dq] at h ⊢; rw [<- E x (by simp [Op.operands])]; exact h
 case pick c x y =>
  simp only [dq] at h ⊢; rw [<- E c (by simp [Op.operands])]
  split at h
  ·rename_i t hc
   have : V'.eval (if t = true then x else y) = V.eval (if t = true then x else y) := by cases t <;> simp [E x (by simp [Op.operands]), E y (by simp [Op.operands])]
   rw [this]; exact h
  ·exact absurd h (by simp)
 case alloc t => simpa only [dq] using h
 case box t x => simp only [dq] at h ⊢; rw [<- E x (by simp [Op.operands])]; exact h
 case build t ps => simp only [dq] at h ⊢; rw [<- iP (fun p hp => E p.2 (by simp only [Op.operands, List.toList_toArray]; exact List.mem_map_of_mem hp))]; exact h
 case buildSlice t n ps => simp only [dq] at h ⊢; rw [<- iP (fun p hp => E p.2 (by simp only [Op.operands, List.toList_toArray]; exact List.mem_map_of_mem hp))]; exact h
 case load t x =>
  simp only [dq] at h ⊢
  split at h
  ·exact absurd h (by simp)
  ·rename_i ht
   rw [if_neg ht, <- E x (by simp [Op.operands])]
   split at h
   ·split at h
    ·rename_i hob; rw [L _ _ hob]; exact h
    ·rename_i hob; rw [L _ _ hob]; exact h
    ·exact absurd h (by simp)
   ·exact h
   ·exact absurd h (by simp)
 case nilCheck x => simp only [dq] at h ⊢; rw [<- E x (by simp [Op.operands])]; exact h
 case binOp op t x y u => simp only [dq] at h ⊢; rw [<- E x (by simp [Op.operands]), <- E y (by simp [Op.operands])]; exact h
 case unOp op t x => simp only [dq] at h ⊢; rw [<- E x (by simp [Op.operands])]; exact h
 case convert s t x =>
  simp only [dq] at h ⊢; rw [<- E x (by simp [Op.operands])]
  split at h
  ·exact C2 L h
  ·exact absurd h (by simp)
 case makeFunc f a b =>
  cases f <;> simp only [dq] at h ⊢ <;> try (cases h; done)
  rw [<- fA (xs := a.toList) (fun x hx => E x (by simp only [Op.operands, Array.toList_append]; exact List.mem_append.2 (.inl hx))), <- fA (xs := b.toList) (fun x hx => E x (by simp only [Op.operands, Array.toList_append]; exact List.mem_append.2 (.inr hx)))]
  exact h
 case makeSlice t x y => simp only [dq] at h ⊢; rw [<- E x (by simp [Op.operands]), <- E y (by simp [Op.operands])]; exact h
 case slice t x lo hi mx =>
  cases mx with
  | some m => simp only [dq] at h; cases h
  | none =>
   simp only [dq] at h ⊢
   rw [<- E x (by simp [Op.operands]), <- qe (o := lo) (fun y hy => E y (by subst hy; simp [Op.operands])), <- qe (o := hi) (fun y hy => E y (by subst hy; simp [Op.operands]))]
   split at h
   ·exact h
   ·split at h
    ·exact absurd h (by simp)
    ·rename_i hok
     rw [if_neg hok]
     split at h
     ·exact h
     ·exact h
     ·split at h
      ·rename_i hob; simp only [L _ _ hob]; exact h
      ·exact absurd h (by simp)
     ·split at h
      ·rename_i hob; simp only [L _ _ hob]; exact h
      ·exact absurd h (by simp)
     ·exact absurd h (by simp)
   ·exact absurd h (by simp)
 case fieldAddr t x f => simp only [dq] at h ⊢; rw [<- E x (by simp [Op.operands])]; exact h
 case field t x f => simp only [dq] at h ⊢; rw [<- E x (by simp [Op.operands])]; exact h
 case indexAddr t x y =>
  simp only [dq] at h ⊢; rw [<- E x (by simp [Op.operands]), <- E y (by simp [Op.operands])]
  split at h
  ·split at h
   ·rename_i hob; simp only [L _ _ hob]; exact h
   ·exact absurd h (by simp)
  ·split at h
   ·rename_i hob; simp only [L _ _ hob]; exact h
   ·exact absurd h (by simp)
  ·exact h
  ·exact absurd h (by simp)
 case index t x y => simp only [dq] at h ⊢; rw [<- E x (by simp [Op.operands]), <- E y (by simp [Op.operands])]; exact h
 case extract x i => simp only [dq] at h ⊢; rw [<- E x (by simp [Op.operands])]; exact h
 case call c =>
  obtain ⟨callee, as, ts⟩ := c
  cases callee with
  | value f => simp only [dq] at h; cases h
  | invoke r m => simp only [dq] at h; cases h
  | builtin b =>
   have hx : ∀ x ∈ as.toList, V.eval x = V'.eval x := fun x hx => E x (by simp only [Op.operands, Call.operands, Array.toList_append]; exact List.mem_append.2 (.inr hx))
   cases b <;> simp only [dq] at h ⊢ <;> try (cases h; done)
   ·split at h
    ·rename_i x t tr h1 h2
     rw [<- hx x (by rw [h1]; simp)]
     split at h
     ·exact h
     ·rename_i v hu hv
      split at h
      ·rename_i l hl
       simp only [nK L hl]; exact h
      ·exact absurd h (by simp)
     ·exact absurd h (by simp)
    ·exact absurd h (by simp)
   ·rw [<- fA hx]; exact h
   ·rw [<- fA hx]; exact h
 all_goals (simp only [dq] at h; cases h)
theorem Ci (L : ∀ id ob, V.obj id = some ob -> V'.obj id = some ob) {sz : Nat} {x : Operand} (E : V.eval x = V'.eval x) {r : LP × Option Nat} (h : sR sz V x = some r) : sR sz V' x = some r := by
 unfold sR at h ⊢
 simp only at h ⊢
 rw [<- E]
 split at h
 ·exact h
 ·split at h
  ·rename_i hob; simp only [L _ _ hob]; exact h
  ·exact absurd h (by simp)
 ·exact absurd h (by simp)
theorem rT (L : ∀ id ob, V.obj id = some ob -> V'.obj id = some ob) {P : Program} {u : TypeId} {x : Operand} (E : V.eval x = V'.eval x) {r : LP} (h : jp P u V x = some r) : jp P u V' x = some r := by
 unfold jp at h ⊢
 rw [<- E]
 split at h
 ·exact h
 ·exact nK L h
 ·exact absurd h (by simp)
theorem Cg (L : ∀ id ob, V.obj id = some ob -> V'.obj id = some ob) {sz : Nat} {x : AV} {r : Nat × Nat × Nat × LP} (h : nf sz V x = some r) : nf sz V' x = some r := by
 unfold nf at h ⊢
 split at h
 ·split at h
  ·rename_i hob; simp only [L _ _ hob]; exact h
  ·exact absurd h (by simp)
 ·split at h
  ·rename_i hob; simp only [L _ _ hob]; exact h
  ·exact absurd h (by simp)
 ·exact absurd h (by simp)
theorem HK {P : Program} {d : Nat} {o : Op} {r : AV × List (Nat × Obj) × Option Nat} (E : ∀ x ∈ o.operands.toList, V.eval x = V'.eval x) (L : ∀ id ob, V.obj id = some ob -> V'.obj id = some ob) (h : we P d o V = some r) : we P d o V' = some r := by
 unfold we at h ⊢
 split at h
 ·rename_i as ts
  have hx : ∀ x ∈ as.toList, V.eval x = V'.eval x := fun x hx => E x (by simp only [Op.operands, Call.operands, Array.toList_append]; exact List.mem_append.2 (.inr hx))
  split at h
  ·rename_i x y t u h1 h2
   split at h
   ·split at h
    ·rename_i ha hb
     rw [Ci L (hx x (by rw [h1]; simp)) ha, rT L (hx y (by rw [h1]; simp)) hb]
     exact h
    ·exact absurd h (by simp)
   ·exact absurd h (by simp)
  ·exact absurd h (by simp)
 ·exact absurd h (by simp)
theorem HM {P : Program} {o : Op} {r : Made} (E : ∀ x ∈ o.operands.toList, V.eval x = V'.eval x) (L : ∀ id ob, V.obj id = some ob -> V'.obj id = some ob) (h : rJ P o V = some r) : rJ P o V' = some r := by
 unfold rJ at h ⊢
 split at h
 ·rename_i t a x
  rw [<- E a (by simp [Op.operands]), <- E x (by simp [Op.operands])]
  split at h
  ·split at h
   ·rename_i hc
    rw [if_pos hc]
    split at h
    ·rename_i hob; simp only [L _ _ hob]; exact h
    ·rename_i hob; simp only [L _ _ hob]; exact h
    ·exact absurd h (by simp)
   ·exact absurd h (by simp)
  ·exact absurd h (by simp)
 ·rename_i as ts
  have hx : ∀ x ∈ as.toList, V.eval x = V'.eval x := fun x hx => E x (by simp only [Op.operands, Call.operands, Array.toList_append]; exact List.mem_append.2 (.inr hx))
  split at h
  ·rename_i x y t u h1 h2
   rw [<- hx x (by rw [h1]; simp)]
   split at h
   ·split at h
    ·rename_i ha hb
     rw [Cg L ha, rT L (hx y (by rw [h1]; simp)) hb]
     exact h
    ·exact absurd h (by simp)
   ·exact absurd h (by simp)
  ·exact absurd h (by simp)
 ·exact absurd h (by simp)
theorem lW {g g' : AV -> Option (TV × List Nat × Option Back)} (hg : ∀ v r, g v = some r -> g' v = some r) : ∀ (vs : List AV) (r : List TV × List Nat × List (Option Back)), fP g vs = some r -> fP g' vs = some r
 | [], r, h => by simpa only [fP] using h
 | v :: vs, r, h => by
  simp only [fP] at h ⊢
  split at h
  ·rename_i h1 h2
   simp only [hg v _ h1, lW hg vs _ h2]; exact h
  ·exact absurd h (by simp)
theorem sv (L : ∀ id ob, V.obj id = some ob -> V'.obj id = some ob) : ∀ (n : Nat) (v : AV) (r : TV × List Nat × Option Back), gq V n v = some r -> gq V' n v = some r
 | 0, v, r, h => by
  simp only [gq] at h ⊢
  split at h
  ·exact h
  ·exact h
  ·split at h
   ·rename_i hob; simp only [L _ _ hob]; exact h
   ·exact absurd h (by simp)
  ·exact absurd h (by simp)
 | n + 1, v, r, h => by
  simp only [gq] at h ⊢
  split at h
  ·exact h
  ·exact h
  ·split at h
   ·rename_i hob; simp only [L _ _ hob]; exact h
   ·exact absurd h (by simp)
  ·split at h
   ·rename_i cs hob
    simp only [L _ _ hob]
    split at h
    ·rename_i l ids bs hl
     simp only [lW (sv L n) cs _ hl]; exact h
    ·exact absurd h (by simp)
   ·rename_i hob; simp only [L _ _ hob]; exact h
   ·exact absurd h (by simp)
  ·exact absurd h (by simp)
theorem ze (L : ∀ id ob, V.obj id = some ob -> V'.obj id = some ob) {v : AV} {r : TV × List Nat} (h : jy V v = some r) : jy V' v = some r := by
 unfold jy at h ⊢
 split at h
 ·exact h
 ·exact h
 ·split at h
  ·rename_i hob; simp only [L _ _ hob]; exact h
  ·exact absurd h (by simp)
 ·split at h
  ·rename_i hob; simp only [L _ _ hob]; exact h
  ·exact absurd h (by simp)
 ·exact h
 ·exact h
 ·exact absurd h (by simp)
theorem zR (L : ∀ id ob, V.obj id = some ob -> V'.obj id = some ob) {P : Program} {m : Mode} {t : TypeId} {v : AV} {g : Given} (h : mt P m t V v = some g) : mt P m t V' v = some g := by
 cases v
 case addr id i off =>
  simp only [mt] at h ⊢
  split at h
  ·rename_i h0
   rw [if_pos h0]
   split at h
   ·rename_i cs hob
    simp only [L _ _ hob]
    split at h
    ·split at h
     ·rename_i hl
      rw [if_pos hl]
      split at h
      ·rename_i hls
       simp only [lW (sv L 4) _ _ hls]; exact h
      ·exact absurd h (by simp)
     ·exact absurd h (by simp)
    ·exact absurd h (by simp)
   ·rename_i hob
    simp only [L _ _ hob]; exact h
   ·exact absurd h (by simp)
  ·exact absurd h (by simp)
 case nilSl => simpa only [mt] using h
 case own id =>
  simp only [mt] at h ⊢
  split at h
  ·rename_i hob; simp only [L _ _ hob]; exact h
  ·rename_i hob; simp only [L _ _ hob]; exact h
  ·rename_i hob; simp only [L _ _ hob]; exact h
  ·exact absurd h (by simp)
 all_goals
  simp only [mt] at h ⊢
  split at h
  ·rename_i hl
   simp only [ze L hl]; exact h
  ·exact absurd h (by simp)
theorem rQ (L : ∀ id ob, V.obj id = some ob -> V'.obj id = some ob) {P : Program} : ∀ (vs : List AV) (ms : List Mode) (ts : List TypeId) (g : Given), iO P V ms ts vs = some g -> iO P V' ms ts vs = some g
 | [], ms, ts, g, h => by simpa only [iO] using h
 | v :: vs, ms, ts, g, h => by
  simp only [iO] at h ⊢
  split at h
  ·rename_i h1 h2
   simp only [zR L h1, rQ L vs _ _ _ h2]; exact h
  ·exact absurd h (by simp)
theorem vf {c : Callee} (E : ∀ f, c = .value f -> V.eval f = V'.eval f) : g8 V c = g8 V' c := by
 cases c with
 | value x =>
  have := E x rfl
  cases x <;> simp only [g8] <;> first | rfl | (rw [this])
 | invoke _ _ => rfl
 | builtin _ => rfl
theorem z8 {C : Cx} {call : FuncId -> List TV -> Option (RT)} {d : Nat} {c : Call} {m : Made} (E : ∀ x ∈ c.operands.toList, V.eval x = V'.eval x) (L : ∀ id ob, V.obj id = some ob -> V'.obj id = some ob) (h : gw C call d c V = some m) : gw C call d c V' = some m := by
 obtain ⟨callee, as, ts⟩ := c
 unfold gw at h ⊢
 simp only at h ⊢
 rw [<- vf (V := V) (c := callee) (fun f hf => E f (by subst hf; simp [Call.operands])), <- fA (V := V) (xs := as.toList) (fun x hx => E x (by simp only [Call.operands, Array.toList_append]; exact List.mem_append.2 (.inr hx)))]
 split at h
 ·split at h
  ·split at h
   ·rename_i hg
    simp only [rQ L _ _ _ _ hg]; exact h
   ·exact absurd h (by simp)
  ·exact absurd h (by simp)
 ·exact absurd h (by simp)
theorem qO {P : Program} {bt : TypeId} {d : Nat} {o : Op} {W W' : View} {r : AV × List (Nat × Obj) × Option Nat} (h : we P d o W = some r) : dq P bt d o W' = none := by
 unfold we at h
 split at h
 ·simp only [dq]
 ·exact absurd h (by simp)
theorem qP {P : Program} {bt : TypeId} {d : Nat} {o : Op} {W W' : View} {r : Made} (h : rJ P o W = some r) : dq P bt d o W' = none /\ we P d o W' = none := by
 unfold rJ at h
 split at h
 ·simp [dq, we]
 ·simp [dq, we]
 ·exact absurd h (by simp)
theorem Ee {C : Cx} {call : FuncId -> List TV -> Option (RT)} {o : Oper} {m : Made} (E : ∀ x ∈ o.op.operands.toList, V.eval x = V'.eval x) (L : ∀ id ob, V.obj id = some ob -> V'.obj id = some ob) (h : fC C call o V = some m) : fC C call o V' = some m := by
 unfold fC at h ⊢
 simp only at h ⊢
 split at h
 ·rename_i c hc
  have hop : o.op = .call c := by
   unfold ki at hc
   split at hc
   ·rename_i c' heq
    split at hc
    ·exact absurd hc (by simp)
    ·injection hc with hc; subst hc; exact heq
   ·exact absurd hc (by simp)
  exact z8 (fun x hx => E x (by rw [hop]; exact hx)) L h
 ·split at h
  ·rename_i hq
   simp only [HP E L hq]; exact h
  ·split at h
   ·rename_i ha
    simp only [qO (W' := V') (bt := C.bldT) ha, HK E L ha]; exact h
   ·have hn := qP (W' := V') (bt := C.bldT) (d := o.dst.getD 499) h
    simp only [hn.1, hn.2]
    exact HM E L h
end
end Go.Proofs.YtcoikmicjbppmaaGreat.Vm
namespace Go.Proofs.YtcoikmicjbppmaaGreat.Vm
open Go
set_option linter.unusedVariables false
set_option linter.unusedSimpArgs false
theorem gK (id : Nat) : ∀ ws : List Patch, dk ws id none = none
 | [] => rfl
 | p :: ws => by
  simp only [dk, List.foldl_cons]
  have : (if p.id = id then p.on none else none) = none := by split <;> (try rfl); cases p <;> rfl
  rw [this]; exact gK id ws
theorem ck {f : Nat -> Bool} {id : Nat} {base : Nat -> Option Obj} {x : Done} {r : List Done} : c5 f id base (x :: r) = if f x.i then (match cB id x.m.os with
    | some o => some o
    | none => if x.m.dead.contains id then none else dk x.m.ws id (c5 f id base r)) else c5 f id base r := rfl
theorem eS {f g : Nat -> Bool} {t : Nat} {base : Nat -> AV} : ∀ {done : List Done}, (∀ y ∈ done, y.o.dst = some t -> f y.i = g y.i) -> dV f t base done = dV g t base done
 | [], _ => rfl
 | x :: r, h => by
  simp only [dV]
  rw [eS (done := r) (fun y hy => h y (by simp [hy]))]
  split
  ·rename_i hd; rw [h x (by simp) hd]
  ·rfl
theorem iI {α : Type} {n : Nat} : ∀ {l : List (Nat × α)}, n ∉ l.map (·.1) -> cB n l = none
 | [], _ => rfl
 | (m, a) :: r, h => by
  simp only [List.map_cons, List.mem_cons, not_or] at h
  simp only [cB, h.1, if_false]
  exact iI h.2
theorem mF {f : Nat -> Bool} {id : Nat} {base : Nat -> Option Obj} : ∀ {done : List Done} {ob : Obj}, c5 f id base done = some ob -> (∃ o, base id = some o) ∨ ∃ z ∈ done, f z.i = true /\ id ∈ z.m.os.map (·.1)
 | [], ob, h => .inl ⟨ob, h⟩
 | x :: r, ob, h => by
  have tail : ∀ {ob}, c5 f id base r = some ob -> (∃ o, base id = some o) ∨ ∃ z ∈ x :: r, f z.i = true /\ id ∈ z.m.os.map (·.1) := fun h => by
   rcases mF h with h | ⟨z, h1, h2⟩
   ·exact .inl h
   ·exact .inr ⟨z, by simp [h1], h2⟩
  rw [ck] at h
  split at h
  ·rename_i hf
   split at h
   ·rename_i o hl
    exact .inr ⟨x, by simp, hf, List.mem_map_of_mem (f := (·.1)) (dX hl)⟩
   ·split at h
    ·exact absurd h (by simp)
    ·cases hd : c5 f id base r with
     | none => rw [hd, gK] at h; exact absurd h (by simp)
     | some o => exact tail hd
  ·exact tail h
def iA (S : Nat -> Bool) (i : Nat) : Nat -> Bool := fun j => j == i || S j
theorem fa {S : Nat -> Bool} {i j : Nat} (h : j ≠ i) : iA S i j = S j := by simp [iA, h]
theorem ll {S : Nat -> Bool} {i : Nat} : iA S i i = true := by simp [iA]
theorem mD {S : Nat -> Bool} {x : Done} {t : Nat} {base : Nat -> AV} : ∀ {done : List Done}, (done.map (·.i)).Nodup -> (done.filterMap (·.o.dst)).Nodup -> x ∈ done -> S x.i = false →
  dV (iA S x.i) t base done = if x.o.dst = some t then x.m.v else dV S t base done
 | [], _, _, h, _ => by simp at h
 | y :: r, hn, hd, hx, hS => by
  simp only [List.map_cons, List.nodup_cons] at hn
  have hd' : (r.filterMap (·.o.dst)).Nodup := by
   rw [List.filterMap_cons] at hd
   split at hd
   ·exact hd
   ·exact (List.nodup_cons.1 hd).2
  have hnot : ∀ d, y.o.dst = some d -> ∀ z ∈ r, z.o.dst ≠ some d := by
   intro d hyd z hz hzd
   rw [List.filterMap_cons, hyd] at hd
   exact (List.nodup_cons.1 hd).1 (List.mem_filterMap.2 ⟨z, hz, hzd⟩)
  simp only [dV]
  rcases List.mem_cons.1 hx with rfl | hx
  ·rw [ll]
   split
   ·simp
   ·refine eS fun z hz _ => fa fun e => hn.1 (by rw [<- e]; exact List.mem_map_of_mem (f := (·.i)) hz)
  ·have hne : y.i ≠ x.i := fun e => hn.1 (by rw [e]; exact List.mem_map_of_mem (f := (·.i)) hx)
   rw [fa hne, mD hn.2 hd' hx hS]
   by_cases hyt : y.o.dst = some t
   ·simp only [hyt, if_true]
    have : ¬ x.o.dst = some t := hnot t hyt x hx
    simp [this]
   ·simp only [hyt, if_false]
def IZ (x y : Done) : Prop := ∀ i, i ∈ x.m.writes ++ x.m.os.map (·.1) -> i ∉ y.m.writes ++ y.m.os.map (·.1)
theorem mu {x : Done} {id : Nat} (h : id ∉ x.m.writes ++ x.m.os.map (·.1)) (z : Option Obj) : (match cB id x.m.os with | some o => some o | none => if x.m.dead.contains id then none else dk x.m.ws id z) = z := by
 simp only [List.mem_append, not_or, Made.writes] at h
 rw [iI h.2]
 simp only
 rw [if_neg (by simpa using h.1.1), dg h.1.2]
theorem mE {S : Nat -> Bool} {x : Done} {id : Nat} {base : Nat -> Option Obj} : ∀ {done : List Done}, (done.map (·.i)).Nodup -> x ∈ done -> S x.i = false -> (∀ y ∈ done, S y.i = true -> x.i < y.i -> IZ x y) →
  (done.map (·.i)).Pairwise (· > ·) →
  c5 (iA S x.i) id base done = match cB id x.m.os with | some o => some o | none => if x.m.dead.contains id then none else dk x.m.ws id (c5 S id base done)
 | [], _, h, _, _, _ => by simp at h
 | y :: r, hn, hx, hS, hA, hp => by
  simp only [List.map_cons, List.nodup_cons] at hn
  simp only [List.map_cons, List.pairwise_cons] at hp
  rw [ck (f := iA S x.i), ck (f := S)]
  rcases List.mem_cons.1 hx with rfl | hx
  ·rw [ll, hS]
   simp only [if_true, Bool.false_eq_true, if_false]
   have : c5 (iA S x.i) id base r = c5 S id base r := by
    clear hA hp hx
    induction r with
    | nil => rfl
    | cons z r ih =>
     simp only [List.map_cons, List.mem_cons, not_or] at hn
     rw [ck, ck, fa (fun e => hn.1.1 e.symm), ih ⟨hn.1.2, (List.nodup_cons.1 hn.2).2⟩]
   rw [this]
  ·have hne : y.i ≠ x.i := fun e => hn.1 (by rw [e]; exact List.mem_map_of_mem (f := (·.i)) hx)
   have hgt : x.i < y.i := hp.1 x.i (List.mem_map_of_mem (f := (·.i)) hx)
   have ih := mE (id := id) (base := base) hn.2 hx hS (fun z hz => hA z (by simp [hz])) hp.2
   rw [fa hne]
   cases hy : S y.i with
   | false => simp only [Bool.false_eq_true, if_false]; exact ih
   | true =>
    simp only [if_true]
    have haw := hA y (by simp) hy hgt
    by_cases hid : id ∈ x.m.writes ++ x.m.os.map (·.1)
    ·rw [mu (haw id hid), mu (haw id hid)]; exact ih
    ·rw [mu hid] at ih
     rw [mu hid, ih]
theorem VR.less {M0 M : ay} {β : Nat -> Loc} {V V' : View} {tm : Array Value} {w : World} (h : VR M0 M β V tm w) (h1 : ∀ t, V'.get t = V.get t) (h2 : ∀ id o, V'.obj id = some o -> V.obj id = some o) : VR M0 M β V' tm w :=
 ⟨h.sup, h.old, fun t => by rw [h1]; exact h.slots t, fun id o ho => h.objs id o (h2 id o ho), fun id o ho => h.own id o (h2 id o ho), fun id id' o o' ho ho' => h.disj id id' o o' (h2 id o ho) (h2 id' o' ho')⟩
theorem GJ {M0 M : ay} {β : Nat -> Loc} {V : View} {tm : Array Value} {w : World} (h : VR M0 M β V tm w) {m : Made} (hw : ∀ p ∈ m.ws, ∃ o o', V.obj p.id = some o /\ p.on (some o) = some o') :
  ∀ x j, Dm β (fun id => ∃ o, V.obj id = some o) m x j -> M x j /\ ¬ M0 x j := by
 rintro x j (⟨g, hg, ⟨ob, hob⟩, hF⟩ | ⟨p, hp, hd, ht⟩)
 ·exact h.own g ob hob x j hF
 ·obtain ⟨o0, o1, e1, e2⟩ := hw p hp
  refine h.own p.id o0 e1 x j (Patch.touch_F ht ?_)
  rintro id off cells rfl
  cases o0 <;> simp only [Patch.on] at e2 <;> try (cases e2; done)
  obtain ⟨b0, o0, q1, q2, q3, q4⟩ := h.objs _ _ e1
  split at e2
  ·rw [q2]; assumption
  ·exact absurd e2 (by simp)
theorem uZ (look : Nat -> Nat) (o : Oper) : (∀ e ∈ o.after.toList, Region.binds .any e = true -> (g7 look o).testBit e.on = true) ∧
  ∀ j, (g7 look o).testBit j = true -> ∃ e ∈ o.after.toList, Region.binds .any e = true /\ (e.on = j ∨ (look e.on).testBit j = true) := by
 unfold g7
 have key : ∀ (l : List Edge) (s : Nat), (∀ j, s.testBit j = true -> (l.foldl (fun s e => if Region.binds .any e then s ||| 2 ^ e.on ||| look e.on else s) s).testBit j = true) ∧
   (∀ e ∈ l, Region.binds .any e = true -> (l.foldl (fun s e => if Region.binds .any e then s ||| 2 ^ e.on ||| look e.on else s) s).testBit e.on = true) ∧
   ∀ j, (l.foldl (fun s e => if Region.binds .any e then s ||| 2 ^ e.on ||| look e.on else s) s).testBit j = true -> s.testBit j = true ∨ ∃ e ∈ l, Region.binds .any e = true /\ (e.on = j ∨ (look e.on).testBit j = true) := by
  intro l
  induction l with
  | nil => intro s; exact ⟨fun j h => h, by simp, fun j h => .inl h⟩
  | cons e l ih =>
   intro s
   simp only [List.foldl_cons]
   by_cases hb : Region.binds .any e = true
   ·simp only [hb, if_true]
    obtain ⟨a1, a2, a3⟩ := ih (s ||| 2 ^ e.on ||| look e.on)
    refine ⟨fun j h => a1 j (by simp [Nat.testBit_or, h]), fun e' he hb' => ?_, fun j h => ?_⟩
    ·rcases List.mem_cons.1 he with rfl | he
     ·exact a1 _ (by simp [Nat.testBit_or, Nat.testBit_two_pow_self])
     ·exact a2 e' he hb'
    ·rcases a3 j h with h | ⟨e', h1, h2⟩
     ·simp only [Nat.testBit_or, Bool.or_eq_true] at h
      rcases h with (h | h) | h
      ·exact .inl h
      ·rw [Nat.testBit_two_pow] at h
       exact .inr ⟨e, by simp, hb, .inl (by simpa using h)⟩
      ·exact .inr ⟨e, by simp, hb, .inr h⟩
     ·exact .inr ⟨e', by simp [h1], h2⟩
   ·simp only [hb]
    obtain ⟨a1, a2, a3⟩ := ih s
    refine ⟨a1, fun e' he hb' => ?_, fun j h => ?_⟩
    ·rcases List.mem_cons.1 he with rfl | he
     ·exact absurd hb' hb
     ·exact a2 e' he hb'
    ·rcases a3 j h with h | ⟨e', h1, h2⟩
     ·exact .inl h
     ·exact .inr ⟨e', by simp [h1], h2⟩
 obtain ⟨_, k2, k3⟩ := key o.after.toList 0
 exact ⟨k2, fun j h => (k3 j h).resolve_left (by simp)⟩
theorem uY {j k : Nat} : ∀ {done : List Done}, (wU done j).testBit k = true -> ∃ z ∈ done, z.i = j /\ z.b.testBit k = true
 | [], h => by simp [wU] at h
 | x :: r, h => by
  simp only [wU] at h
  split at h
  ·rename_i e; exact ⟨x, by simp, e, h⟩
  ·obtain ⟨z, h1, h2⟩ := uY h; exact ⟨z, by simp [h1], h2⟩
section
variable {C : Cx} {call : FuncId -> List TV -> Option (RT)}
structure GoodX (C : Cx) (call : FuncId -> List TV -> Option (RT)) (ops : Array Oper) (pl : List Nat) (st : St) (done : List Done) (x : Done) : Prop where
 at_ : ops[x.i]? = some x.o
 lt : x.b < 2 ^ x.i
 aft : ∀ e ∈ x.o.after.toList, Region.binds .any e = true -> x.b.testBit e.on = true
 bef : ∀ j, x.b.testBit j = true -> ∃ e ∈ x.o.after.toList, Region.binds .any e = true /\ (e.on = j ∨ ∃ z ∈ done, z.i = e.on /\ z.b.testBit j = true)
 does : (wanted ops.toList (dF (fun j => decide (j < x.i)) st done) x.o = some true /\ ∃ m, fC C call x.o ((dF (fun j => decide (j < x.i)) st done).only x.rd) = some m /\ lZ (dF (fun j => decide (j < x.i)) st done) x.m = true /\ x.m = cR pl x.o st.obj m /\ x.raw = m.os.map (·.1)) ∨
  (wanted ops.toList (dF (fun j => decide (j < x.i)) st done) x.o = some false /\ x.m = .only (.tup []) [] /\ x.raw = [])
theorem sX {f : Nat -> Bool} {st : St} {y : Done} {done : List Done} (hf : f y.i = false) : dF f st (y :: done) = dF f st done := by
 unfold dF
 congr 1
 ·funext t
  simp only [dV, hf]
  split <;> simp
 ·funext id
  rw [ck, hf]; simp
theorem jI {b i j : Nat} (h : b < 2 ^ i) (hj : b.testBit j = true) : j < i := by
 rcases Nat.lt_or_ge j i with h1 | h1
 ·exact h1
 ·have : b < 2 ^ j := Nat.lt_of_lt_of_le h (Nat.pow_le_pow_right (by omega) h1)
  rw [Nat.testBit_lt_two_pow this] at hj; exact absurd hj (by simp)
theorem GoodX.more {ops : Array Oper} {pl : List Nat} {st : St} {done : List Done} {x y : Done} (h : GoodX C call ops pl st done x) (hi : x.i < y.i) : GoodX C call ops pl st (y :: done) x := by
 have hf : (fun j => decide (j < x.i)) y.i = false := by simp; omega
 refine ⟨h.at_, h.lt, h.aft, fun j hj => ?_, ?_⟩
 ·obtain ⟨e, h1, h2, h3⟩ := h.bef j hj
  refine ⟨e, h1, h2, h3.imp (fun h => h) ?_⟩
  rintro ⟨z, h4, h5⟩
  exact ⟨z, by simp [h4], h5⟩
 ·rw [sX hf]; exact h.does
theorem yj {α : Type} (n : Nat) : ∀ (a b : List (Nat × α)), cB n (a ++ b) = match cB n a with | some x => some x | none => cB n b
 | [], b => rfl
 | (m, x) :: a, b => by
  simp only [List.cons_append, cB]
  split
  ·rfl
  ·exact yj n a b
theorem qA (n : Nat) : ∀ (ids : List Nat) (l : List (Nat × Obj)), cB n (j4 ids l) = if ids.contains n then none else cB n l
 | [], l => by simp [j4]
 | i :: r, l => by
  simp only [j4]
  rw [qA n r, jA]
  by_cases e : n = i
  ·subst e; simp
  ·by_cases h : r.contains n <;> simp [e]
theorem iS (n : Nat) : ∀ (ws : List Patch) (l : List (Nat × Obj)), cB n (ee ws l) = dk ws n (cB n l)
 | [], l => rfl
 | p :: r, l => by
  simp only [ee, dk, List.foldl_cons]
  split
  ·rename_i o ho
   rw [iS n r]
   simp only [cB]
   by_cases e : n = p.id
   ·subst e; simp [ho, dk]
   ·rw [if_neg e, jA, if_neg e, if_neg (fun h => e h.symm)]; rfl
  ·rename_i ho
   rw [iS n r, jA]
   by_cases e : n = p.id
   ·subst e; simp [ho, dk]
   ·rw [if_neg e, if_neg (fun h => e h.symm)]; rfl
def uO (s st : St) (done : List Done) : Prop := (∀ t, s.get t = dV (fun _ => true) t st.get done) /\ ∀ id, s.obj id = c5 (fun _ => true) id st.obj done
theorem xN {s st : St} {done : List Done} {i b : Nat} {o : Oper} {m : Made} {raw rd : List Nat} (h : uO s st done) : uO (rj o m s) st (⟨i, b, o, m, raw, rd⟩ :: done) := by
 refine ⟨fun t => ?_, fun id => ?_⟩
 ·simp only [rj, dV, if_true]
  rw [<- h.1 t]
  unfold gg
  cases hd : o.dst with
  | none => simp [St.get]
  | some d =>
   simp only [gL, Option.some.injEq]
   by_cases e : t = d
   ·simp [e]
   ·have : ¬ d = t := fun h => e h.symm
    simp [e, this, St.get]
 ·rw [ck, if_pos rfl, <- h.2 id]
  simp only [rj]
  have : (gg o m.v ⟨s.tmps, m.os ++ ee m.ws (j4 m.dead s.objs)⟩).obj id = cB id (m.os ++ ee m.ws (j4 m.dead s.objs)) := by unfold gg; cases o.dst <;> rfl
  rw [this, yj]
  cases cB id m.os with
  | some o => rfl
  | none =>
   simp only
   rw [iS, qA]
   split
   ·rw [gK]
   ·rfl
theorem j5 {f g : Nat -> Bool} {id : Nat} {base : Nat -> Option Obj} : ∀ {l : List Done}, (∀ x ∈ l, f x.i = g x.i) -> c5 f id base l = c5 g id base l
 | [], _ => rfl
 | x :: r, h => by rw [ck, ck, h x (by simp), j5 (fun y hy => h y (by simp [hy]))]
theorem uO.view {s st : St} {done : List Done} (h : uO s st done) {f : Nat -> Bool} (hf : ∀ x ∈ done, f x.i = true) : s.view = dF f st done := by
 unfold dF St.view
 congr 1
 ·funext t; rw [h.1 t]; exact eS fun y hy _ => (hf y hy).symm
 ·funext id; rw [h.2 id]; exact j5 fun y hy => (hf y hy).symm
def Done.key (x : Done) : Nat × Nat × Oper := (x.i, x.b, x.o)
theorem zU (done : List Done) (j : Nat) : wU done j = match cB j (done.map Done.key) with | some p => p.1 | none => 0 := by
 induction done with
 | nil => rfl
 | cons x r ih =>
  simp only [wU, List.map_cons, Done.key, cB]
  by_cases e : x.i = j
  ·simp [e]
  ·have e' : ¬ j = x.i := fun h => e h.symm
   rw [if_neg e, if_neg e']
   exact ih
theorem rl {ops : Array Oper} {pl : List Nat} {st : St} : ∀ (l : List Oper) (i : Nat) (done0 done : List Done) (s0 s : St), ops.toList.drop i = l -> iL C call ops.toList pl st.obj l i done0 s0 = some (done, s) →
  (done0.map (·.i) = (List.range i).reverse) -> (∀ x ∈ done0, GoodX C call ops pl st done0 x) -> i <= ops.size -> uO s0 st done0 →
  done.map (·.i) = (List.range ops.size).reverse /\ (∀ x ∈ done, GoodX C call ops pl st done x) /\ uO s st done /\ done.map Done.key = p6 l i (done0.map Done.key)
 | [], i, done0, done, s0, s, hl, h, hi, hg, hs, hL => by
  simp only [iL, Option.some.injEq, Prod.mk.injEq] at h; obtain ⟨rfl, rfl⟩ := h
  have : i = ops.size := by
   have := congrArg List.length hl
   simp at this; omega
  subst this
  exact ⟨hi, hg, hL, rfl⟩
 | o :: r, i, done0, done, s0, s, hl, h, hi, hg, hs, hL => by
  have hlt : i < ops.size := by
   have := congrArg List.length hl
   simp at this; omega
  have ho : ops[i]? = some o := by
   have := congrArg (·[0]?) hl
   simpa using this
  have hr : ops.toList.drop (i + 1) = r := by
   have := congrArg List.tail hl
   simpa using this
  simp only [iL] at h
  split at h
  ·rename_i hb
   obtain ⟨b1, b2⟩ := uZ (wU done0) o
   have hlti : ∀ x ∈ done0, x.i < i := by
    intro x hx
    have : x.i ∈ done0.map (·.i) := List.mem_map_of_mem (f := (·.i)) hx
    rw [hi] at this
    simpa using this
   have hself : (fun j => decide (j < i)) i = false := by simp
   have hv : s0.view = dF (fun j => decide (j < i)) st done0 := hL.view fun x hx => by simpa using hlti x hx
   have step : ∀ (m : Made) (raw rd : List Nat), ((wanted ops.toList (dF (fun j => decide (j < i)) st done0) o = some true /\ ∃ m0, fC C call o ((dF (fun j => decide (j < i)) st done0).only rd) = some m0 /\ lZ (dF (fun j => decide (j < i)) st done0) m = true /\ m = cR pl o st.obj m0 /\ raw = m0.os.map (·.1)) ∨
      (wanted ops.toList (dF (fun j => decide (j < i)) st done0) o = some false /\ m = .only (.tup []) [] /\ raw = [])) →
     iL C call ops.toList pl st.obj r (i + 1) (⟨i, g7 (wU done0) o, o, m, raw, rd⟩ :: done0) (rj o m s0) = some (done, s) →
     done.map (·.i) = (List.range ops.size).reverse /\ (∀ x ∈ done, GoodX C call ops pl st done x) /\ uO s st done /\ done.map Done.key = p6 (o :: r) i (done0.map Done.key) := by
    intro m raw rd hm hfr
    have := rl r (i + 1) _ done _ s hr hfr (by simp [hi, List.range_succ]) (fun x hx => ?_) hlt (xN hL)
    ·refine ⟨this.1, this.2.1, this.2.2.1, ?_⟩
     rw [this.2.2.2]
     simp only [p6, List.map_cons, Done.key]
     rw [show wU done0 = fun j => match cB j (done0.map Done.key) with | some p => p.1 | none => 0 from funext (zU done0)]
     rfl
    ·rcases List.mem_cons.1 hx with rfl | hx
     ·refine ⟨ho, hb, b1, fun j hj => ?_, ?_⟩
      ·obtain ⟨e, h1, h2, h3⟩ := b2 j hj
       refine ⟨e, h1, h2, h3.imp (fun h => h) fun h => ?_⟩
       obtain ⟨z, k1, k2, k3⟩ := uY h
       exact ⟨z, by simp [k1], k2, k3⟩
      ·rw [sX hself]; exact hm
     ·exact (hg x hx).more (hlti x hx)
   rw [hv] at h
   split at h
   ·rename_i hw
    split at h
    ·split at h
     ·rename_i m hm
      split at h
      ·rename_i hc
       exact step _ _ _ (.inl ⟨hw, m, hm, hc, rfl, rfl⟩) h
      ·exact absurd h (by simp)
     ·exact absurd h (by simp)
    ·exact absurd h (by simp)
   ·rename_i hw
    exact step _ _ _ (.inr ⟨hw, rfl, rfl⟩) h
   ·exact absurd h (by simp)
  ·exact absurd h (by simp)
theorem pU {done : List Done} : ∀ {l : List Done}, apart done l = true -> ∀ x ∈ l, ∀ y ∈ done, nv x y = true -> ∀ i, i ∈ x.rd ++ (x.m.writes ++ x.raw) -> i ∉ y.m.writes ++ y.raw
 | [], _, x, hx => by simp at hx
 | z :: r, h, x, hx => by
  simp only [apart, Bool.and_eq_true] at h
  rcases List.mem_cons.1 hx with rfl | hx
  ·intro y hy hu
   have := List.all_eq_true.1 h.1 y hy
   rw [hu] at this
   simp only [Bool.not_true, Bool.false_or] at this
   exact kY this
  ·exact pU h.2 x hx
theorem rg {all : List Oper} {done : List Done} : ∀ {l : List Done}, uA all (done.map Done.key) (l.map Done.key) = true -> ∀ x ∈ l, ∀ y ∈ done, nv x y = true -> ∀ t, y.o.dst = some t -> t ∉ oN all x.o
 | [], _, x, hx => by simp at hx
 | z :: r, h, x, hx => by
  simp only [List.map_cons, Done.key, uA, Bool.and_eq_true] at h
  rcases List.mem_cons.1 hx with rfl | hx
  ·intro y hy hu t ht
   have := List.all_eq_true.1 h.1 (y.key) (List.mem_map_of_mem hy)
   simp only [Done.key] at this
   unfold nv at hu
   rw [hu] at this
   simp only [Bool.not_true, Bool.false_or] at this
   rw [ht] at this
   simpa using this
  ·exact rg h.2 x hx
theorem uL {all : List Oper} {V V' : View} {o : Oper} (h : ∀ t ∈ oN all o, V.get t = V'.get t) : wanted all V o = wanted all V' o := by
 unfold wanted
 cases hg : o.guard with
 | none => rfl
 | some jw =>
  obtain ⟨j, want⟩ := jw
  simp only
  cases ht : (all[j]?).bind (·.dst) with
  | none => rfl
  | some t =>
   simp only
   rw [h t (by simp [oN, hg, ht])]
theorem w5 {all : List Oper} {V V' : View} {o : Oper} (h : ∀ t ∈ oN all o, V.get t = V'.get t) : ∀ x ∈ o.op.operands.toList, V.eval x = V'.eval x := by
 intro x hx
 cases x with
 | tmp t =>
  simp only [View.eval]
  rw [h t (by simp only [oN, xw, List.mem_append, List.mem_filterMap]; exact .inl ⟨.tmp t, hx, rfl⟩)]
 | const v => rfl
 | func f => rfl
 | global g => rfl
theorem lL (pl : List Nat) (o : Oper) (ob : Nat -> Option Obj) (m : Made) : (cR pl o ob m).dels = m.dels /\ (cR pl o ob m).use = m.use /\ (cR pl o ob m).frz = m.frz /\ (cR pl o ob m).ws = m.ws /\ (∀ i ∈ (cR pl o ob m).os.map (·.1), i ∈ m.os.map (·.1)) /\ (∀ R, fZ R m -> fZ R (cR pl o ob m)) := by
 rcases kN pl o ob m with e | ⟨i, sz, es, e1, e2, e3, e4, e5⟩
 ·rw [e]; exact ⟨rfl, rfl, rfl, rfl, fun i h => h, fun R h => h⟩
 ·rw [e5]; exact ⟨rfl, rfl, rfl, rfl, by simp, fun R h => ⟨by simp [AV.refs], by simp, by simp [e2]⟩⟩
end
theorem sd {α : Type} {f : α -> List Nat} {a b : α} {i : Nat} : ∀ {l : List α}, (l.flatMap f).Nodup -> a ∈ l -> b ∈ l -> i ∈ f a -> i ∈ f b -> a = b
 | [], _, h, _, _, _ => by simp at h
 | x :: r, hn, ha, hb, hia, hib => by
  rw [List.flatMap_cons] at hn
  obtain ⟨h1, h2, h3⟩ := List.nodup_append.1 hn
  rcases List.mem_cons.1 ha with e | ha
  ·rcases List.mem_cons.1 hb with e' | hb
   ·exact e.trans e'.symm
   ·exact absurd rfl (h3 i (e ▸ hia) i (List.mem_flatMap.2 ⟨b, hb, hib⟩))
  ·rcases List.mem_cons.1 hb with e' | hb
   ·exact absurd rfl (h3 i (e' ▸ hib) i (List.mem_flatMap.2 ⟨a, ha, hia⟩))
   ·exact sd h2 ha hb hia hib
theorem lQ {α : Type} {f : α -> List Nat} {a : α} : ∀ {l : List α}, (l.flatMap f).Nodup -> a ∈ l -> (f a).Nodup
 | [], _, h => by simp at h
 | x :: r, hn, ha => by
  rw [List.flatMap_cons] at hn
  obtain ⟨h1, h2, h3⟩ := List.nodup_append.1 hn
  rcases List.mem_cons.1 ha with rfl | ha
  ·exact h1
  ·exact lQ h2 ha
section
variable {C : Cx} {call : FuncId -> List TV -> Option (RT)} {M0 D0 : ay} {β0 : Nat -> Loc} {w0 : World} {n : Nat} {ops : Array Oper} {pl : List Nat} {st : St} {done : List Done}
structure RegOK (C : Cx) (call : FuncId -> List TV -> Option (RT)) (ops : Array Oper) (pl : List Nat) (st : St) (done : List Done) : Prop where
 idx : done.map (·.i) = (List.range ops.size).reverse
 good : ∀ x ∈ done, GoodX C call ops pl st done x
 ap : apart done done = true
 slots : ∀ x ∈ done, ∀ y ∈ done, nv x y = true -> ∀ t, y.o.dst = some t -> t ∉ oN ops.toList x.o
 dst : (ops.toList.filterMap (·.dst)).Nodup
 raws : (done.flatMap Done.raw).Nodup
 free : ∀ i ∈ done.flatMap Done.raw, st.obj i = none
theorem RegOK.ops_eq (R : RegOK C call ops pl st done) : done.map (·.o) = ops.toList.reverse := by
 have hlen : done.length = ops.size := by have := congrArg List.length R.idx; simpa using this
 refine List.ext_getElem? fun k => ?_
 rw [List.getElem?_map]
 cases hk : done[k]? with
 | none =>
  have : done.length <= k := List.getElem?_eq_none_iff.1 hk
  rw [List.getElem?_eq_none (by simp; omega)]; rfl
 | some x =>
  have hlt := (List.getElem?_eq_some_iff.1 hk).1
  have hi : (done.map (·.i))[k]? = some x.i := by rw [List.getElem?_map, hk]; rfl
  rw [R.idx, List.getElem?_reverse (by simp; omega)] at hi
  simp only [List.length_range] at hi
  rw [List.getElem?_range (by omega)] at hi
  simp only [Option.some.injEq] at hi
  have := (R.good x (List.mem_of_getElem? hk)).at_
  rw [List.getElem?_reverse (by simp; omega)]
  simp only [Array.length_toList, Array.getElem?_toList, Option.map_some]
  rw [hi]; exact this.symm
theorem RegOK.dsts (R : RegOK C call ops pl st done) : (done.filterMap (·.o.dst)).Nodup := by
 have : done.filterMap (·.o.dst) = (done.map (·.o)).filterMap (·.dst) := by rw [List.filterMap_map]; rfl
 rw [this, R.ops_eq, List.filterMap_reverse]
 exact List.pairwise_reverse.2 (R.dst.imp fun h => h.symm)
theorem RegOK.idn (R : RegOK C call ops pl st done) : (done.map (·.i)).Nodup := by rw [R.idx]; exact List.pairwise_reverse.2 (List.nodup_range.imp fun h => h.symm)
theorem RegOK.idp (R : RegOK C call ops pl st done) : (done.map (·.i)).Pairwise (· > ·) := by
 rw [R.idx, List.pairwise_reverse]
 exact List.pairwise_lt_range
theorem RegOK.uniq (R : RegOK C call ops pl st done) {x y : Done} (hx : x ∈ done) (hy : y ∈ done) (h : x.i = y.i) : x = y := by
 have := R.idn
 clear R
 induction done with
 | nil => simp at hx
 | cons z r ih =>
  simp only [List.map_cons, List.nodup_cons] at this
  rcases List.mem_cons.1 hx with e | hx
  ·rcases List.mem_cons.1 hy with e' | hy
   ·exact e.trans e'.symm
   ·exact absurd (show z.i ∈ r.map (·.i) by rw [<- e, h]; exact List.mem_map_of_mem (f := (·.i)) hy) this.1
  ·rcases List.mem_cons.1 hy with e' | hy
   ·exact absurd (show z.i ∈ r.map (·.i) by rw [<- e', <- h]; exact List.mem_map_of_mem (f := (·.i)) hx) this.1
   ·exact ih hx hy this.2
theorem RegOK.os (R : RegOK C call ops pl st done) {x : Done} (hx : x ∈ done) : ∀ i ∈ x.m.os.map (·.1), i ∈ x.raw := by
 intro i hi
 rcases (R.good x hx).does with ⟨_, m, _, _, h1, h2⟩ | ⟨_, h1, _⟩
 ·rw [h2]; rw [h1] at hi; exact (lL pl x.o st.obj m).2.2.2.2.1 i hi
 ·rw [h1] at hi; simp [Made.only] at hi
theorem RegOK.osn (R : RegOK C call ops pl st done) {x : Done} (hx : x ∈ done) : (x.m.os.map (·.1)).Nodup := by
 rcases (R.good x hx).does with ⟨_, m, _, _, h1, h2⟩ | ⟨_, h1, _⟩
 ·have := lQ R.raws hx
  rw [h2] at this
  rw [h1]
  rcases kN pl x.o st.obj m with e | ⟨i, sz, es, e1, e2, e3, e4, e5⟩
  ·rw [e]; exact this
  ·rw [e5]; simp
 ·rw [h1]; simp [Made.only]
theorem RegOK.evens (R : RegOK C call ops pl st done) {x : Done} (hx : x ∈ done) : dh x.m.os := by
 rcases (R.good x hx).does with ⟨_, m, hm, _, h1, h2⟩ | ⟨_, h1, _⟩
 ·rw [h1]
  rcases kN pl x.o st.obj m with e | ⟨i, sz, es, e1, e2, e3, e4, e5⟩
  ·rw [e]; exact sD hm
  ·rw [e5]; exact gP
 ·rw [h1]; exact gP
def RS (S : Nat -> Bool) (st : St) (done : List Done) (id : Nat) : Prop := (∃ o, st.obj id = some o) ∨ ∃ z ∈ done, S z.i = true /\ id ∈ z.m.os.map (·.1)
def I0 (M0 D0 : ay) (β0 : Nat -> Loc) (w0 : World) (n : Nat) (st : St) (done : List Done) (S : Nat -> Bool) (a : Act) (w : World) : Prop :=
 ∃ M β, VR M0 M β (dF S st done) a.tmps w /\ bI (RS S st done) (dF S st done) /\ Fr D0 w0 w /\ (∀ b j, M b j -> M0 b j ∨ D0 b j ∨ w0.heap.size <= b) /\ a.tmps.size = n /\ a.defers = [] ∧
  (∀ id o, id % 2 = 1 -> st.obj id = some o -> (β0 id).same (β id)) /\ ∀ id, RS S st done id -> (∃ z ∈ done, S z.i = true /\ id ∈ z.m.dead) ∨ ∃ o, (dF S st done).obj id = some o
theorem kF {f : Nat -> Bool} {st : St} {done : List Done} {id : Nat} : (dF f st done).obj id = c5 f id st.obj done := by simp [dF]
theorem B2 {β : Nat -> Loc} {M : ay} {w : World} {a : Act} {d : Option Nat} {v : AV} {c : Value} {g g' : Nat -> AV} (hd : ∀ t, d = some t -> t < a.tmps.size) (hv : aL β w M v c) (hg : ∀ t, aL β w M (g t) (a.tmps.getD t undef))
  (h : ∀ t, g' t = if d = some t then v else g t) : ∀ t, aL β w M (g' t) ((a.put d c).tmps.getD t undef) := by
 intro t
 rw [h]
 cases d with
 | none => simpa [Act.put] using hg t
 | some d =>
  have hlt := hd d rfl
  simp only [Act.put, Option.some.injEq]
  by_cases e : d = t
  ·subst e; simp [hlt]; exact hv
  ·simp only [e, if_false]
   have := hg t
   simp only [Array.getD_eq_getD_getElem?] at this ⊢
   rw [Array.getElem?_setIfInBounds_ne e]; exact this
theorem HW {a : Act} {d : Option Nat} {c : Value} (hd : ∀ t, d = some t -> t < a.tmps.size) (t : Nat) : (a.put d c).tmps.getD t undef = if d = some t then c else a.tmps.getD t undef := by
 cases d with
 | none => simp [Act.put]
 | some d =>
  have hlt := hd d rfl
  simp only [Act.put, Option.some.injEq]
  by_cases e : d = t
  ·subst e; simp [hlt]
  ·simp [e, Array.getElem?_setIfInBounds]
theorem yW (hcall : ∀ f as rs fs, call f as = some (rs, fs) -> br C.P (C.modes f) f as rs fs) (R : RegOK C call ops pl st done) {x : Done} (hx : x ∈ done) {S : Nat -> Bool} (hSx : S x.i = false)
  (hdown : ∀ z ∈ done, S z.i = true -> ∀ j, z.b.testBit j = true -> S j = true) (hready : ∀ e ∈ x.o.after.toList, Region.binds .any e = true -> S e.on = true) {a : Act} {w : World} (hJ : I0 M0 D0 β0 w0 n st done S a w)
  (hd : ∀ t, x.o.dst = some t -> t < n) {K : Act -> World -> Prop} {Q : Exit -> Act -> World -> Prop} (hK : ∀ a' w', I0 M0 D0 β0 w0 n st done (iA S x.i) a' w' -> K a' w') : wpOp C.P ops Q x.i K a w := by
 obtain ⟨M, β, hV, hC, hFr, hM, hn, hdef, hpin, hdom⟩ := hJ
 have hg := R.good x hx
 have hsub : ∀ j, x.b.testBit j = true -> S j = true := by
  intro j hj
  obtain ⟨e, h1, h2, h3⟩ := hg.bef j hj
  rcases h3 with rfl | ⟨z, hz, h4, h5⟩
  ·exact hready e h1 h2
  ·exact hdown z hz (by rw [h4]; exact hready e h1 h2) j h5
 have hun : ∀ y ∈ done, S y.i = true -> x.b.testBit y.i = true ∨ nv x y = true := by
  intro y hy hSy
  cases h1 : x.b.testBit y.i with
  | true => exact .inl rfl
  | false =>
   refine .inr ?_
   have h2 : y.b.testBit x.i = false := by
    cases h : y.b.testBit x.i with
    | false => rfl
    | true => have := hdown y hy hSy _ h; rw [hSx] at this; exact absurd this (by simp)
   have h3 : x.i ≠ y.i := fun e => by rw [e, hSy] at hSx; exact absurd hSx (by simp)
   simp [nv, h1, h2, h3]
 have ap2 := pU R.ap x hx
 have hdiff : ∀ y ∈ done, S y.i ≠ decide (y.i < x.i) -> nv x y = true := by
  intro y hy hne
  cases hSy : S y.i with
  | true =>
   rcases hun y hy hSy with h | h
   ·have := jI hg.lt h
    rw [hSy] at hne; simp [this] at hne
   ·exact h
  | false =>
   have hlt : y.i < x.i := by
    rw [hSy] at hne; simpa using hne
   have h1 : x.b.testBit y.i = false := by
    cases h : x.b.testBit y.i with
    | false => rfl
    | true => rw [hsub _ h] at hSy; exact absurd hSy (by simp)
   have h2 : y.b.testBit x.i = false := by
    cases h : y.b.testBit x.i with
    | false => rfl
    | true => have := jI (R.good y hy).lt h; omega
   have h3 : x.i ≠ y.i := by omega
   simp [nv, h1, h2, h3]
 have hlooks : ∀ t ∈ oN ops.toList x.o, (dF (fun j => decide (j < x.i)) st done).get t = (dF S st done).get t := by
  intro t ht
  refine eS fun y hy hyt => ?_
  by_cases e : S y.i = decide (y.i < x.i)
  ·exact e.symm
  ·exact absurd ht (R.slots x hx y hy (hdiff y hy e) t hyt)
 have hobjs : ∀ id, id ∈ x.rd ++ (x.m.writes ++ x.raw) -> (dF (fun j => decide (j < x.i)) st done).obj id = (dF S st done).obj id := by
  intro id hid
  have key : ∀ l : List Done, (∀ y ∈ l, y ∈ done) -> c5 (fun j => decide (j < x.i)) id st.obj l = c5 S id st.obj l := by
   intro l
   induction l with
   | nil => intro _; rfl
   | cons y r ih =>
    intro hl
    rw [ck, ck, ih fun z hz => hl z (by simp [hz])]
    by_cases e : S y.i = decide (y.i < x.i)
    ·rw [e]
    ·have hy := hl y (by simp)
     have := ap2 y hy (hdiff y hy e) id hid
     have haw : id ∉ y.m.writes ++ y.m.os.map (·.1) := by
      intro h
      rcases List.mem_append.1 h with h | h
      ·exact this (List.mem_append.2 (.inl h))
      ·exact this (List.mem_append.2 (.inr (R.os hy id h)))
     rw [mu haw]
     simp
  exact key done fun y hy => hy
 have hosR : ∀ i ∈ x.raw, ¬ RS S st done i := by
  rintro i hi (⟨o, ho⟩ | ⟨z, hz, hSz, hzi⟩)
  ·rw [R.free i (List.mem_flatMap.2 ⟨x, hx, hi⟩)] at ho; exact absurd ho (by simp)
  ·have := sd R.raws hx hz hi (R.os hz i hzi)
   rw [this, hSz] at hSx; exact absurd hSx (by simp)
 have hwx : wanted ops.toList (dF (fun j => decide (j < x.i)) st done) x.o = wanted ops.toList (dF S st done) x.o := uL hlooks
 unfold wpOp
 rw [hg.at_]
 simp only
 have hget1 : ∀ t, (dF (iA S x.i) st done).get t = if x.o.dst = some t then x.m.v else (dF S st done).get t := fun t => mD R.idn R.dsts hx hSx
 have haway : ∀ y ∈ done, S y.i = true -> x.i < y.i -> IZ x y := by
  intro y hy hSy hlt i hi hi'
  have hnb : x.b.testBit y.i ≠ true := fun h => by have := jI hg.lt h; omega
  have hu := (hun y hy hSy).resolve_left hnb
  have := ap2 y hy hu i
  refine this (List.mem_append.2 (.inr ?_)) ?_
  ·rcases List.mem_append.1 hi with h | h
   ·exact List.mem_append.2 (.inl h)
   ·exact List.mem_append.2 (.inr (R.os hx i h))
  ·rcases List.mem_append.1 hi' with h | h
   ·exact List.mem_append.2 (.inl h)
   ·exact List.mem_append.2 (.inr (R.os hy i h))
 have hobj1 : ∀ id, (dF (iA S x.i) st done).obj id = match cB id x.m.os with | some o => some o | none => if x.m.dead.contains id then none else dk x.m.ws id ((dF S st done).obj id) := by
  intro id
  rw [kF, kF]
  exact mE R.idn hx hSx haway R.idp
 have hRS1 : ∀ id, RS (iA S x.i) st done id ↔ RS S st done id ∨ id ∈ x.m.os.map (·.1) := by
  intro id
  constructor
  ·rintro (h | ⟨z, hz, h1, h2⟩)
   ·exact .inl (.inl h)
   ·by_cases e : z.i = x.i
    ·rw [R.uniq hz hx e] at h2; exact .inr h2
    ·rw [fa e] at h1; exact .inl (.inr ⟨z, hz, h1, h2⟩)
  ·rintro ((h | ⟨z, hz, h1, h2⟩) | h)
   ·exact .inl h
   ·exact .inr ⟨z, hz, by simp [iA, h1], h2⟩
   ·exact .inr ⟨x, hx, ll, h⟩
 have hdead1 : ∀ id, (∃ z ∈ done, iA S x.i z.i = true /\ id ∈ z.m.dead) ↔ (∃ z ∈ done, S z.i = true /\ id ∈ z.m.dead) ∨ id ∈ x.m.dead := by
  intro id
  constructor
  ·rintro ⟨z, hz, h1, h2⟩
   by_cases e : z.i = x.i
   ·rw [R.uniq hz hx e] at h2; exact .inr h2
   ·rw [fa e] at h1; exact .inl ⟨z, hz, h1, h2⟩
  ·rintro (⟨z, hz, h1, h2⟩ | h)
   ·exact ⟨z, hz, by simp [iA, h1], h2⟩
   ·exact ⟨x, hx, ll, h⟩
 rcases hg.does with ⟨hw, m, hm, hok, harr, hraw⟩ | ⟨hw, hm, hraw⟩
 ·rw [lA hV (hwx ▸ hw)]
  simp only [if_true]
  refine .inl ?_
  have hmS : fC C call x.o (dF S st done) = some m := Ee (V := (dF (fun j => decide (j < x.i)) st done).only x.rd) (w5 (all := ops.toList) (fun t ht => hlooks t ht)) (fun id ob hob => by
   simp only [View.only] at hob
   split at hob
   ·rename_i hc
    rw [<- hobjs id (List.mem_append.2 (.inl (by simpa using hc)))]; exact hob
   ·exact absurd hob (by simp)) hm
  have hfz : m.frz = [] := by
   simp only [lZ, Bool.and_eq_true] at hok
   have h1 : x.m.frz = [] := by simpa using hok.1.1
   rw [harr, (lL pl x.o st.obj m).2.2.1] at h1; exact h1
  have hws : ∀ p ∈ x.m.ws, p.id ∉ x.m.dead /\ ∃ o o', (dF S st done).obj p.id = some o /\ p.on (some o) = some o' := by
   intro p hp
   simp only [lZ, Bool.and_eq_true, List.all_eq_true] at hok
   have h1 := hok.2 p hp
   refine ⟨by simpa using h1.1, ?_⟩
   have h2 := h1.2
   have hid : p.id ∈ x.rd ++ (x.m.writes ++ x.raw) := List.mem_append.2 (.inr (List.mem_append.2 (.inl (List.mem_append.2 (.inr (List.mem_map_of_mem (f := Patch.id) hp))))))
   rw [hobjs p.id hid] at h2
   cases ho : (dF S st done).obj p.id with
   | none => rw [ho] at h2; cases p <;> simp [Patch.on] at h2
   | some o =>
    rw [ho] at h2
    obtain ⟨o', ho'⟩ := Option.isSome_iff_exists.1 h2
    exact ⟨o, o', rfl, ho'⟩
  have hrn : (m.os.map (·.1)).Nodup := by have := lQ R.raws hx; rw [hraw] at this; exact this
  refine v7 hcall hV hC hmS hrn (fun id hid hr => absurd hr (hosR id (by rw [hraw]; exact hid))) (fun M' β' w' c hP hRef => hK _ _ ?_)
  have eM : (fun b j => M b j /\ ¬ ∃ i ∈ m.frz, (∃ o, (dF S st done).obj i = some o) /\ (β i).F b j) = M := by
   funext b j; simp [hfz]
  rw [eM] at hP
  obtain ⟨M2, β2, hP2⟩ := rR (pl := pl) (o := x.o) (ob := st.obj) hV.old hP
  rw [<- harr] at hP2
  have hRef2 : fZ (RS S st done) x.m := by
   rw [harr]; exact (lL pl x.o st.obj m).2.2.2.2.2 _ (hRef.imp fun i h => h.1)
  have hdt : ∀ t, x.o.dst = some t -> t < a.tmps.size := fun t ht => by rw [hn]; exact hd t ht
  have hV1 : VR M0 M2 β2 (dF (iA S x.i) st done) (a.put x.o.dst c).tmps w' := by
   refine Post.view (V0 := ⟨(dF S st done).get, fun id => if x.m.dead.contains id then none else (dF S st done).obj id⟩) (R := RS S st done) (d := x.o.dst) (hV.less (fun _ => rfl) (fun id o ho => ?_)) hP2 ⟨hC.1, fun id o ho => ?_⟩ (fun id hid => hosR id (R.os hx id hid)) (R.osn hx)
    (fun g hgd hdm => ⟨fun b j hF => ?_, fun id o ho b j hF => ?_⟩) (fun p hp => ?_) hget1 (fun id => ?_) (fun t => HW hdt t)
   ·simp only at ho
    split at ho
    ·exact absurd ho (by simp)
    ·exact ho
   ·simp only at ho
    split at ho
    ·exact absurd ho (by simp)
    ·exact hC.2 id o ho
   ·obtain ⟨o0, ho0⟩ := hdm
    exact hV.own g o0 ho0 b j hF
   ·obtain ⟨o0, ho0⟩ := hdm
    simp only at ho
    split at ho
    ·exact absurd ho (by simp)
    ·rename_i hnd
     exact hV.disj g id o0 o ho0 ho (fun e => hnd (by rw [<- e]; simpa [Made.dead] using hgd)) b j hF
   ·obtain ⟨h1, o, o', h2, h3⟩ := hws p hp
    exact ⟨o, o', by simp [h1, h2], h3⟩
   ·rw [hobj1]
    cases cB id x.m.os with
    | some o => rfl
    | none =>
     simp only
     split
     ·rw [gK]
     ·rfl
  refine ⟨M2, β2, hV1, ⟨fun t i hi => ?_, fun id o ho => ?_⟩, hFr.trans hP2.fr (fun _ _ h => h) (fun y j hy => ?_), fun b j hb => ?_, (m7 ..).trans hn, (jG ..).trans hdef, fun id o hid ho => (hpin id o hid ho).trans (hP2.same id fun h => ?_), fun id hid => ?_⟩
  ·rw [hget1] at hi
   rw [hRS1]
   split at hi
   ·exact hRef2.1 i hi
   ·exact .inl (hC.1 t i hi)
  ·rw [hobj1] at ho
   rw [hRS1]
   split at ho
   ·rename_i o' hl
    simp only [Option.some.injEq] at ho; subst ho
    have hm' := dX hl
    refine ⟨.inr (List.mem_map_of_mem (f := (·.1)) hm'), fun i hi => ?_⟩
    rw [hRS1]
    exact hRef2.2.1 _ hm' i hi
   ·split at ho
    ·exact absurd ho (by simp)
    ·by_cases hpid : id ∈ x.m.ws.map Patch.id
     ·obtain ⟨p, hp, rfl⟩ := List.mem_map.1 hpid
      rw [fF hP2.nd hp] at ho
      obtain ⟨_, o0, o1, e1, e2⟩ := hws p hp
      rw [e1] at ho
      refine ⟨.inl (hC.2 _ _ e1).1, fun i hi => ?_⟩
      rw [hRS1]
      cases p with
      | box k off cells =>
       cases o0 <;> simp only [Patch.on] at ho <;> try (cases ho; done)
       rename_i cs0
       split at ho
       ·rename_i hle'
        injection ho with ho; subst ho
        simp only [Obj.refs] at hi
        obtain ⟨v, hv, hvi⟩ := bj.1 hi
        obtain ⟨j, hj⟩ := List.mem_iff_getElem?.1 hv
        rw [ch _ _ _ hle'] at hj
        split at hj
        ·exact hRef2.2.2 k off cells hp i (bj.2 ⟨v, List.mem_of_getElem? hj, hvi⟩)
        ·exact .inl ((hC.2 _ _ e1).2 i (by simp only [Obj.refs]; exact bj.2 ⟨v, List.mem_of_getElem? hj, hvi⟩))
       ·exact absurd ho (by simp)
      | buf k sz es =>
       cases o0 <;> simp only [Patch.on] at ho <;> try (cases ho; done)
       split at ho
       ·injection ho with ho; subst ho; simp [Obj.refs] at hi
       ·exact absurd ho (by simp)
      | bld k bs =>
       cases o0 <;> simp only [Patch.on] at ho <;> try (cases ho; done)
       injection ho with ho; subst ho; simp [Obj.refs] at hi
     ·rw [dg hpid] at ho
      refine ⟨.inl (hC.2 id o ho).1, fun i hi => ?_⟩
      rw [hRS1]
      exact .inl ((hC.2 id o ho).2 i hi)
  ·have := GJ hV (fun p hp => (hws p hp).2) y j hy
   rcases hM y j this.1 with h | h | h
   ·exact absurd h this.2
   ·exact .inl h
   ·exact .inr h
  ·rcases hP2.only b j hb with h | h
   ·exact hM b j h
   ·exact .inr (.inr (Nat.le_trans hFr.size h))
  ·obtain ⟨p, hp, rfl⟩ := List.mem_map.1 h
   have := R.evens hx p hp
   omega
  ·rw [hRS1] at hid
   rw [hdead1, hobj1]
   by_cases hos : id ∈ x.m.os.map (·.1)
   ·obtain ⟨p, hp, rfl⟩ := List.mem_map.1 hos
    rw [e9 (n := p.1) (a := p.2) (R.osn hx) hp]
    exact .inr ⟨_, rfl⟩
   ·rw [iI hos]
    simp only
    by_cases hdd : id ∈ x.m.dead
    ·exact .inl (.inr hdd)
    ·rw [if_neg (by simpa using hdd)]
     rcases hdom id (hid.resolve_right hos) with h | ⟨o, ho⟩
     ·exact .inl (.inl h)
     ·refine .inr ?_
      by_cases hpid : id ∈ x.m.ws.map Patch.id
      ·obtain ⟨p, hp, rfl⟩ := List.mem_map.1 hpid
       rw [fF hP2.nd hp]
       obtain ⟨_, o0, o1, e1, e2⟩ := hws p hp
       rw [e1]; exact ⟨o1, e2⟩
      ·rw [dg hpid]; exact ⟨o, ho⟩
 ·rw [lA hV (hwx ▸ hw)]
  simp only [Bool.false_eq_true, if_false]
  have hdt : ∀ t, x.o.dst = some t -> t < a.tmps.size := fun t ht => by rw [hn]; exact hd t ht
  have hobj2 : ∀ id, (dF (iA S x.i) st done).obj id = (dF S st done).obj id := by
   intro id; rw [hobj1, hm]; simp [Made.only, cB, Made.dead, dk]
  have hos0 : x.m.os = [] := by rw [hm]; rfl
  have hdd0 : x.m.dead = [] := by rw [hm]; rfl
  refine hK _ _ ⟨M, β, ⟨hV.sup, hV.old, B2 hdt (v := .tup []) (c := undef) (by simp only [aL]; exact ⟨#[], rfl, by simp [AVRs]⟩) hV.slots (fun t => by rw [hget1, hm]; rfl), fun id o ho => hV.objs id o (hobj2 id ▸ ho), fun id o ho => hV.own id o (hobj2 id ▸ ho), fun id id' o o' ho ho' => hV.disj id id' o o' (hobj2 id ▸ ho) (hobj2 id' ▸ ho')⟩,
   ⟨fun t i hi => ?_, fun id o ho => ?_⟩, hFr, hM, (m7 ..).trans hn, (jG ..).trans hdef, hpin, fun id hid => ?_⟩
  ·rw [hget1] at hi
   rw [hRS1]
   split at hi
   ·rw [hm] at hi; simp [Made.only, AV.refs, AV.refsL] at hi
   ·exact .inl (hC.1 t i hi)
  ·rw [hobj2] at ho
   rw [hRS1]
   refine ⟨.inl (hC.2 id o ho).1, fun i hi => ?_⟩
   rw [hRS1]
   exact .inl ((hC.2 id o ho).2 i hi)
  ·rw [hRS1, hos0] at hid
   rw [hdead1, hobj2]
   rcases hdom id (hid.resolve_right (by simp)) with h | h
   ·exact .inl (.inl h)
   ·exact .inr h
theorem RegOK.ex (R : RegOK C call ops pl st done) {i : Nat} (hi : i < ops.size) : ∃ x ∈ done, x.i = i := by
 have : i ∈ done.map (·.i) := by rw [R.idx]; simpa using hi
 obtain ⟨x, hx, h⟩ := List.mem_map.1 this
 exact ⟨x, hx, h⟩
def left (listed : Array Bool) (n : Nat) : Nat := ((List.range n).filter fun i => !listed.getD i true).length
theorem Ed {listed : Array Bool} {n i : Nat} (hs : listed.size = n) (hi : i < n) (h : listed.getD i false = false) : left (listed.setIfInBounds i true) n < left listed n := by
 unfold left
 have hsub : ∀ (l : List Nat), l.Nodup -> i ∈ l -> (l.filter fun j => !(listed.setIfInBounds i true).getD j true).length < (l.filter fun j => !listed.getD j true).length := by
  intro l
  induction l with
  | nil => intro _ h; simp at h
  | cons k r ih =>
   intro hn hk
   simp only [List.nodup_cons] at hn
   have hsame : ∀ j, j ≠ i -> (listed.setIfInBounds i true).getD j true = listed.getD j true := fun j hj => by
    simp only [Array.getD_eq_getD_getElem?, Array.getElem?_setIfInBounds_ne (fun e => hj e.symm)]
   by_cases e : k = i
   ·subst e
    have hr : (r.filter fun j => !(listed.setIfInBounds k true).getD j true) = r.filter fun j => !listed.getD j true := by
     refine List.filter_congr fun j hj => ?_
     rw [hsame j (fun e => hn.1 (e ▸ hj))]
    have h1 : (listed.setIfInBounds k true).getD k true = true := by simp [Array.getD_eq_getD_getElem?, Array.getElem?_setIfInBounds]; split <;> simp
    have h2 : listed.getD k true = false := by
     have hk' : k < listed.size := by omega
     simpa [Array.getD_eq_getD_getElem?, Array.getElem?_eq_getElem hk'] using h
    rw [List.filter_cons_of_neg (by simp [h1]), List.filter_cons_of_pos (by simp [h2]), hr]
    simp
   ·have hi' := (List.mem_cons.1 hk).resolve_left (fun h => e h.symm)
    have := ih hn.2 hi'
    cases hv : listed.getD k true with
    | true =>
     rw [List.filter_cons_of_neg (by simp [hsame k e, hv]), List.filter_cons_of_neg (by simp [hv])]; exact this
    | false =>
     rw [List.filter_cons_of_pos (by simp [hsame k e, hv]), List.filter_cons_of_pos (by simp [hv])]; simpa using this
 exact hsub _ List.nodup_range (by simpa using hi)
theorem sF {listed : Array Bool} {i : Nat} (h : i ∈ Region.ready .any ops listed) : i < ops.size /\ listed.getD i true = false /\ ∃ o, ops[i]? = some o /\ ∀ e ∈ o.after.toList, Region.binds .any e = true -> listed.getD e.on false = true := by
 simp only [Region.ready, List.mem_filter, List.mem_range, Bool.and_eq_true, Bool.not_eq_true'] at h
 obtain ⟨h1, h2, h3⟩ := h
 refine ⟨h1, h2, ?_⟩
 cases ho : ops[i]? with
 | none => rw [ho] at h3; simp at h3
 | some o =>
  rw [ho] at h3
  simp only [Option.map_some, Option.getD_some] at h3
  refine ⟨o, rfl, fun e he hb => ?_⟩
  have := (Array.all_eq_true_iff_forall_mem.1 h3) e (by simpa using he)
  simpa [hb] using this
theorem Aq (hcall : ∀ f as rs fs, call f as = some (rs, fs) -> br C.P (C.modes f) f as rs fs) (R : RegOK C call ops pl st done) (hd : ∀ x ∈ done, ∀ t, x.o.dst = some t -> t < n) {Q : Exit -> Act -> World -> Prop}
  (hQ : ∀ S a w, (∀ x ∈ done, S x.i = true) -> I0 M0 D0 β0 w0 n st done S a w -> Q .normal a w) : ∀ (fuel : Nat) (listed : Array Bool) (a : Act) (w : World), listed.size = ops.size -> left listed ops.size <= fuel →
   (∀ z ∈ done, listed.getD z.i false = true -> ∀ j, z.b.testBit j = true -> listed.getD j false = true) -> I0 M0 D0 β0 w0 n st done (fun i => listed.getD i false) a w -> wpAny C.P .any ops Q fuel listed a w := by
 have hall : ∀ (listed : Array Bool), listed.size = ops.size -> Region.ready .any ops listed = [] -> ∀ x ∈ done, listed.getD x.i false = true := by
  intro listed hs hr
  have key : ∀ i, i < ops.size -> listed.getD i false = true := by
   intro i
   induction i using Nat.strongRecOn with
   | _ i ih =>
    intro hi
    cases hv : listed.getD i false with
    | true => rfl
    | false =>
     obtain ⟨x, hx, rfl⟩ := R.ex hi
     have hg := R.good x hx
     have : x.i ∈ Region.ready .any ops listed := by
      simp only [Region.ready, List.mem_filter, List.mem_range, Bool.and_eq_true, Bool.not_eq_true']
      refine ⟨hi, ?_, ?_⟩
      ·have hi' : x.i < listed.size := by omega
       simpa [Array.getD_eq_getD_getElem?, Array.getElem?_eq_getElem hi'] using hv
      ·rw [hg.at_]
       simp only [Option.map_some, Option.getD_some]
       refine Array.all_eq_true_iff_forall_mem.2 fun e he => ?_
       cases hb : Region.binds .any e with
       | false => simp
       | true =>
        have hlt := jI hg.lt (hg.aft e (by simpa using he) hb)
        simp [ih e.on hlt (by omega)]
     rw [hr] at this; simp at this
  intro x hx
  have := (Array.getElem?_eq_some_iff.1 (R.good x hx).at_).1
  exact key x.i this
 intro fuel
 induction fuel with
 | zero =>
  intro listed a w hs hl hdn hJ
  have hr : Region.ready .any ops listed = [] := by
   cases hr : Region.ready .any ops listed with
   | nil => rfl
   | cons i r =>
    obtain ⟨h1, h2, _⟩ := sF (by rw [hr]; exact List.mem_cons_self : i ∈ Region.ready .any ops listed)
    have : 0 < left listed ops.size := List.length_pos_of_mem (a := i) (List.mem_filter.2 ⟨by simpa using h1, by simp [h2]⟩)
    omega
  exact ⟨hr, hQ _ a w (hall listed hs hr) hJ⟩
 | succ fuel ih =>
  intro listed a w hs hl hdn hJ
  refine ⟨fun hr => hQ _ a w (hall listed hs hr) hJ, fun i hi => ?_⟩
  obtain ⟨h1, h2, o, ho, h3⟩ := sF hi
  obtain ⟨x, hx, rfl⟩ := R.ex h1
  have hg := R.good x hx
  have hox : o = x.o := by have := ho.symm.trans hg.at_; simpa using this
  subst hox
  have hlx : listed.getD x.i false = false := by
   have hi' : x.i < listed.size := by omega
   simpa [Array.getD_eq_getD_getElem?, Array.getElem?_eq_getElem hi'] using h2
  have hplus : (fun i => (listed.setIfInBounds x.i true).getD i false) = iA (fun i => listed.getD i false) x.i := by
   funext j
   simp only [iA, Array.getD_eq_getD_getElem?]
   by_cases e : j = x.i
   ·subst e
    have hi' : x.i < listed.size := by omega
    simp [hi']
   ·rw [Array.getElem?_setIfInBounds_ne (fun h => e h.symm)]; simp [e]
  refine yW hcall R hx (S := fun i => listed.getD i false) hlx hdn h3 hJ (hd x hx) fun a' w' hJ' => ih _ a' w' (by simpa using hs) (by have := Ed hs h1 hlx; omega) ?_ (by rw [hplus]; exact hJ')
  intro z hz hzl j hj
  have e1 := congrFun hplus
  rw [e1] at hzl ⊢
  by_cases e : z.i = x.i
  ·have := R.uniq hz hx e
   subst this
   obtain ⟨e', k1, k2, k3⟩ := hg.bef j hj
   rcases k3 with rfl | ⟨y, hy, k4, k5⟩
   ·simp [iA, h3 e' k1 k2]
   ·have := hdn y hy (by rw [k4]; exact h3 e' k1 k2) j k5
    simp only [iA, this, Bool.or_true]
  ·rw [fa e] at hzl
   have := hdn z hz hzl j hj
   simp only [iA, this, Bool.or_true]
theorem Ar {S : Nat -> Bool} (R : RegOK C call ops pl st done) {s : St} (hL : uO s st done) (hS : ∀ x ∈ done, S x.i = true) {a : Act} {w : World} (hJ : I0 M0 D0 β0 w0 n st done S a w) : nJ M0 D0 β0 w0 n (dv (done.flatMap fun x => x.m.dead) s) a w := by
 obtain ⟨M, β, hV, hC, hFr, hM, hn, hdef, hpin, hdom⟩ := hJ
 have hg : ∀ t, s.get t = (dF S st done).get t := by
  intro t
  rw [hL.1 t]
  exact eS fun y hy _ => (hS y hy).symm
 have ho : ∀ id, s.obj id = (dF S st done).obj id := by
  intro id
  rw [hL.2 id, kF]
  exact j5 fun y hy => (hS y hy).symm
 have hodd : ∀ id o, id % 2 = 1 -> (s).obj id = some o -> ∃ o', st.obj id = some o' := by
  intro id o hid hob
  rw [ho] at hob
  rw [kF] at hob
  rcases mF hob with h | ⟨z, hz, _, h2⟩
  ·exact h
  ·obtain ⟨p, hp, rfl⟩ := List.mem_map.1 h2
   have := R.evens hz p hp
   omega
 have hV' : VR M0 M β (s).view a.tmps w := hV.less (fun t => hg t) (fun id o h => by rw [<- ho]; exact h)
 have hex : ∀ i, RS S st done i -> (done.flatMap fun x => x.m.dead).contains i = false -> ∃ o, (s).obj i = some o := by
  intro i hi hnd
  rcases hdom i hi with ⟨z, hz, _, h⟩ | ⟨o, h⟩
  ·simp only [List.contains_eq_mem, decide_eq_false_iff_not] at hnd
   exact absurd (List.mem_flatMap.2 ⟨z, hz, h⟩) hnd
  ·exact ⟨o, by rw [ho]; exact h⟩
 generalize (done.flatMap fun x => x.m.dead) = ids at hex
 have hCg : ∀ t, ∀ i ∈ ((s).get t).refs, RS S st done i := fun t i hi => by rw [hg] at hi; exact hC.1 t i hi
 have hCo : ∀ id o, (s).obj id = some o -> RS S st done id /\ ∀ i ∈ o.refs, RS S st done i := fun id o h => by rw [ho] at h; exact hC.2 id o h
 cases ids with
 | nil =>
  refine ⟨M, β, ⟨hV', fun t i hi => hex i (hCg t i hi) rfl, fun id o h => ⟨⟨o, h⟩, fun i hi => hex i ((hCo id o h).2 i hi) rfl⟩⟩, hFr, hM, hn, hdef, fun id o hid h => ?_⟩
  obtain ⟨o', ho'⟩ := hodd id o hid h
  exact hpin id o' hid ho'
 | cons b r =>
  let g : Nat -> Option Nat := fun i => if (b :: r).contains i then none else some i
  have hgs : ∀ i j, g i = some j -> j = i /\ (b :: r).contains i = false := by
   intro i j h
   simp only [g] at h
   split at h
   ·exact absurd h (by simp)
   ·rename_i hc; exact ⟨by simpa using h.symm, by simpa using hc⟩
  have hget : ∀ t, (dv (b :: r) s).get t = AV.sub g (s.get t) := by
   intro t
   simp only [dv, St.get, St.map, gE]
   cases cB t s.tmps <;> simp [AV.sub, g]
  have hobj : ∀ id, (dv (b :: r) s).obj id = (s.obj id).map (Obj.map (AV.sub g)) := by
   intro id
   simp only [dv, St.obj, St.map, gE]; rfl
  have hob : ∀ id o, (dv (b :: r) s).obj id = some o -> ∃ o0, s.obj id = some o0 /\ o = o0.map (AV.sub g) := by
   intro id o h
   rw [hobj] at h
   simp only [Option.map_eq_some_iff] at h
   obtain ⟨o0, h1, h2⟩ := h
   exact ⟨o0, h1, h2.symm⟩
  have hsame : ∀ i j, g i = some j -> (β i).same (β j) := fun i j h => by rw [(hgs i j h).1]; exact Loc.same_refl _
  refine ⟨M, β, ⟨⟨hV'.sup, hV'.old, fun t => ?_, fun id o h => ?_, fun id o h => ?_, fun id id' o o' h h' => ?_⟩, fun t j hj => ?_, fun id o h => ⟨⟨o, h⟩, fun j hj => ?_⟩⟩, hFr, hM, hn, hdef, fun id o hid h => ?_⟩
  ·show aL β w M ((dv (b :: r) s).get t) _
   rw [hget]
   exact pG _ _ (fun i _ j h => hsame i j h) (hV'.slots t)
  ·obtain ⟨o0, h1, rfl⟩ := hob id o h
   exact qK (fun i _ j h => hsame i j h) (hV'.objs id o0 h1)
  ·obtain ⟨o0, h1, rfl⟩ := hob id o h
   exact hV'.own id o0 h1
  ·obtain ⟨o0, h1, rfl⟩ := hob id o h
   obtain ⟨o1, h1', rfl⟩ := hob id' o' h'
   exact hV'.disj id id' o0 o1 h1 h1'
  ·have hj' : j ∈ ((dv (b :: r) s).get t).refs := hj
   rw [hget] at hj'
   obtain ⟨i, h1, h2⟩ := lv _ j hj'
   obtain ⟨rfl, h3⟩ := hgs i j h2
   obtain ⟨o, h4⟩ := hex j (hCg t j h1) h3
   exact ⟨_, by show (dv (b :: r) s).obj j = _; rw [hobj, h4]; rfl⟩
  ·obtain ⟨o0, h1, rfl⟩ := hob id o h
   obtain ⟨i, h5, h2⟩ := oO j hj
   obtain ⟨rfl, h3⟩ := hgs i j h2
   obtain ⟨o, h4⟩ := hex j ((hCo id o0 h1).2 j h5) h3
   exact ⟨_, by show (dv (b :: r) s).obj j = _; rw [hobj, h4]; rfl⟩
  ·obtain ⟨o0, h1, rfl⟩ := hob id o h
   obtain ⟨o', ho'⟩ := hodd id o0 hid h1
   exact hpin id o' hid ho'
theorem zp (hcall : ∀ f as rs fs, call f as = some (rs, fs) -> br C.P (C.modes f) f as rs fs) (hmix : C.P.follows .mixedOrders = true) {id : Nat} {ops : Array Oper} {pre : List Nat} {draw : Bool} {st st' : St} {a : Act} {w : World}
  (hI : nJ M0 D0 β0 w0 n st a w) (h : region C call ops pre draw st = some st') (hd : ∀ o ∈ ops.toList, ∀ t, o.dst = some t -> t < n) {Q : Exit -> Act -> World -> Prop} (hQ : ∀ a' w', nJ M0 D0 β0 w0 n st' a' w' -> Q .normal a' w') :
  (Code.region id ops draw).wp C.P Q a w := by
 unfold region at h
 simp only at h
 cases draw with
 | false =>
  simp only [Bool.false_eq_true, if_false] at h
  refine wp_region ?_
  have := qQ (pl := pre ++ gU ops.toList) hcall hd hQ ops.toList 0 st a w rfl (by omega) hI h
  rwa [Nat.sub_zero, <- List.range_eq_range'] at this
 | true =>
  simp only [if_true] at h
  split at h
  ·rename_i hnd
   split at h
   ·rename_i done s hfree
    split at h
    ·rename_i hchk
     simp only [Option.some.injEq] at h; subst h
     simp only [Bool.and_eq_true, List.all_eq_true, Option.isNone_iff_eq_none] at hchk
     obtain ⟨⟨h1, h2⟩, h3⟩ := hchk
     obtain ⟨f1, f2, f3, f4⟩ := rl ops.toList 0 [] done st s rfl hfree rfl (by simp) (by omega) ⟨fun _ => rfl, fun _ => rfl⟩
     simp only [xK, Bool.and_eq_true] at hnd
     have hk := hnd.2
     rw [show p6 ops.toList 0 [] = done.map Done.key from f4.symm] at hk
     have R : RegOK C call ops (pre ++ gU ops.toList) st done := ⟨f1, f2, h1, rg hk, kt hnd.1, kt h2, h3⟩
     refine wp_region_any hmix (Aq hcall R (fun x hx => ?_) (fun S a' w' hS hJ => hQ a' w' (Ar R f3 hS hJ)) ops.size _ a _ (by simp) ?_ ?_ ?_)
     ·have := (f2 x hx).at_
      exact hd x.o (List.mem_of_getElem? (i := x.i) (by simpa using this))
     ·unfold left
      refine Nat.le_trans (List.length_filter_le _ _) (by simp)
     ·intro z hz hl
      simp [Array.getD_eq_getD_getElem?, Array.getElem?_replicate] at hl
      split at hl <;> simp at hl
     ·obtain ⟨M, β, hS, hFr, hM, hn, hdef, hpin⟩ := hI
      have hf : (fun i => (Array.replicate ops.size false).getD i false) = fun _ => false := by
       funext i
       simp only [Array.getD_eq_getD_getElem?, Array.getElem?_replicate]
       split <;> rfl
      rw [hf]
      have hw : VR M0 M β st.view a.tmps { w with drawn := w.drawn + 1 } := hS.1.world (Fr.drew w _)
      have e1 : ∀ t, (dF (fun _ => false) st done).get t = st.get t := by
       intro t
       show dV _ t st.get done = st.get t
       have : ∀ l : List Done, dV (fun _ => false) t st.get l = st.get t := by
        intro l
        induction l with
        | nil => rfl
        | cons x r ih => simp only [dV, ih]; split <;> simp
       exact this done
      have e2 : ∀ id, (dF (fun _ => false) st done).obj id = st.obj id := by
       intro id
       rw [kF]
       have : ∀ l : List Done, c5 (fun _ => false) id st.obj l = st.obj id := by
        intro l
        induction l with
        | nil => rfl
        | cons x r ih => rw [ck, ih]; simp
       exact this done
      refine ⟨M, β, hw.less e1 (fun id o h => by rw [e2] at h; exact h), ⟨fun t i hi => ?_, fun id o h => ?_⟩, hFr.trans (Fr.drew w (fun _ _ => False)) (fun _ _ h => h) (fun _ _ h => h.elim), hM, hn, hdef, hpin, fun id hid => ?_⟩
      ·rw [e1] at hi; exact .inl (hS.2.1 t i hi)
      ·rw [e2] at h
       exact ⟨.inl ⟨o, h⟩, fun i hi => .inl ((hS.2.2 id o h).2 i hi)⟩
      ·rcases hid with ⟨o, h⟩ | ⟨z, _, h, _⟩
       ·exact .inr ⟨o, by rw [e2]; exact h⟩
       ·exact absurd h (by simp)
    ·exact absurd h (by simp)
   ·exact absurd h (by simp)
  ·exact absurd h (by simp)
end
end Go.Proofs.YtcoikmicjbppmaaGreat.Vm
namespace Go.Proofs.YtcoikmicjbppmaaGreat.Vm
open Go
set_option linter.unusedVariables false
set_option linter.unusedSimpArgs false
def df (n : Nat) : Code -> Bool
 | .region _ ops _ => ops.toList.all fun o => match o.dst with | some t => decide (t < n) | none => true
 | .seq a b => df n a && df n b
 | .cond _ a b => df n a && df n b
 | .block _ b => df n b
 | .loop b => df n b
 | .scope b => df n b
 | _ => true
theorem ij {n l : Nat} : ∀ {c rest : Code}, findLabel c l = some rest -> df n c = true -> df n rest = true
 | .seq a b, rest, h, hd => by
  simp only [df, Bool.and_eq_true] at hd
  simp only [findLabel] at h
  split at h
  ·rename_i r hr
   simp only [Option.some.injEq] at h; subst h
   simp only [df, Bool.and_eq_true]
   exact ⟨ij hr hd.1, hd.2⟩
  ·exact ij h hd.2
 | .label l', rest, h, hd => by
  simp only [findLabel] at h
  split at h
  ·simp only [Option.some.injEq] at h; subst h; rfl
  ·exact absurd h (by simp)
 | .skip, _, h, _ | .region _ _ _, _, h, _ | .cond _ _ _, _, h, _ | .block _ _, _, h, _ | .loop _, _, h, _ | .rangeFunc _ _ _ _, _, h, _ | .exit _, _, h, _ | .scope _, _, h, _ | .goto _, _, h, _ | .ret, _, h, _ | .refuse _, _, h, _ => by simp [findLabel] at h
def Ds : Ex -> Exit
 | .normal => .normal
 | .exit id => .exit id
 | .goto l => .goto l
 | .ret => .ret
section
variable {C : Cx} {call : FuncId -> List TV -> Option (RT)} {M0 D0 : ay} {β0 : Nat -> Loc} {w0 : World} {n : Nat} {f : FuncId} {kk : Nat}
def tl (C : Cx) (M0 D0 : ay) (β0 : Nat -> Loc) (w0 : World) (n : Nat) (again : Code -> Code -> St -> Option (Ex × St)) : Prop :=
 ∀ (b rest : Code) (st : St) (r : Ex × St) (a : Act) (w : World), again b rest st = some r -> df n b = true -> df n rest = true -> nJ M0 D0 β0 w0 n st a w →
  ∀ (b0 : Frame) (k : List Item) (cs : List Frame), ∃ a' w', nJ M0 D0 β0 w0 n r.2 a' w' /\ Arrives C.P (lone (b0.at a (.code rest :: .inScope b :: k)) cs w) b0 k cs (Ds r.1) a' w'
def xY (M0 D0 : ay) (β0 : Nat -> Loc) (w0 : World) (n : Nat) (r : Ex × St) : Exit -> Act -> World -> Prop := fun e a' w' => e = Ds r.1 /\ nJ M0 D0 β0 w0 n r.2 a' w'
theorem qw {st s : St} {a : Act} {w : World} {x : List Nat × List Nat × List (Nat × Option Nat × Nat)} (hI : nJ M0 D0 β0 w0 n st a w) (h : od x st = some s) : nJ M0 D0 β0 w0 n s a w := nJ.step hI (zi h)
theorem rz {b0 : Frame} {k : List Item} {cs : List Frame} {b : Code} {m : Machine} {a : Act} {w : World} : ∀ {e : Ex}, (∀ l, e ≠ .goto l) -> Arrives C.P m b0 (.inScope b :: k) cs (Ds e) a w -> Arrives C.P m b0 k cs (Ds e) a w
 | .normal, _, h => Steps.trans h (.one step_inScope)
 | .exit id, _, h => fun k' hk => h k' (by simp [exitTo, hk])
 | .goto l, hn, _ => absurd rfl (hn l)
 | .ret, _, h => h
theorem sq {again : Code -> Code -> St -> Option (Ex × St)} (hag : tl C M0 D0 β0 w0 n again) {b : Code} (hb : df n b = true) {r : Ex × St} {r0 : Option (Ex × St)} (h : kh C f again b r0 = some r) :
  ∃ r1, r0 = some r1 /\ ∀ (m : Machine) (a1 : Act) (w1 : World) (b0 : Frame) (k : List Item) (cs : List Frame), nJ M0 D0 β0 w0 n r1.2 a1 w1 -> Arrives C.P m b0 (.inScope b :: k) cs (Ds r1.1) a1 w1 →
   ∃ a' w', nJ M0 D0 β0 w0 n r.2 a' w' /\ Arrives C.P m b0 k cs (Ds r.1) a' w' := by
 unfold kh at h
 split at h
 ·rename_i l s
  refine ⟨_, rfl, fun m a1 w1 b0 k cs hI harr => ?_⟩
  split at h
  ·rename_i rest s' hf hn
   obtain ⟨a', w', h1, h2⟩ := hag b rest s' r a1 w1 h hb (ij hf hb) (qw hI hn) b0 k cs
   exact ⟨a', w', h1, .of_steps (harr _ (by simp [gotoIn, hf])) h2⟩
  ·exact absurd h (by simp)
 ·rename_i hng
  cases r0 with
  | none => simp at h
  | some r1 =>
   simp only [Option.some.injEq] at h; subst h
   exact ⟨r1, rfl, fun m a1 w1 b0 k cs hI harr => ⟨a1, w1, hI, rz (fun l e => hng l r1.2 (by rw [<- e])) harr⟩⟩
theorem fg (hcall : ∀ f as rs fs, call f as = some (rs, fs) -> br C.P (C.modes f) f as rs fs) (hmix : C.P.follows .mixedOrders = true) {again : Code -> Code -> St -> Option (Ex × St)} (hag : tl C M0 D0 β0 w0 n again) :
  ∀ (c : Code) (st : St) (r : Ex × St) (a : Act) (w : World), code C call f kk again c st = some r -> df n c = true -> nJ M0 D0 β0 w0 n st a w -> c.wp C.P (xY M0 D0 β0 w0 n r) a w
 | .skip, st, r, a, w, h, hd, hI => by
  simp only [code, Option.some.injEq] at h; subst h
  exact wp_skip ⟨rfl, hI⟩
 | .label l, st, r, a, w, h, hd, hI => by
  simp only [code] at h
  split at h
  ·rename_i s hs
   simp only [Option.some.injEq] at h; subst h
   exact wp_label ⟨rfl, qw hI hs⟩
  ·exact absurd h (by simp)
 | .region id ops draw, st, r, a, w, h, hd, hI => by
  simp only [code] at h
  split at h
  ·rename_i s hs
   split at h
   ·rename_i s' hs'
    simp only [Option.some.injEq] at h; subst h
    refine zp hcall hmix (nJ.step hI (eJ _ hs)) hs' (fun o ho t ht => ?_) fun a' w' hI' => ⟨rfl, hI'⟩
    simp only [df, List.all_eq_true] at hd
    have := hd o ho
    rw [ht] at this
    simpa using this
   ·exact absurd h (by simp)
  ·exact absurd h (by simp)
 | .seq x y, st, r, a, w, h, hd, hI => by
  simp only [df, Bool.and_eq_true] at hd
  simp only [code] at h
  split at h
  ·rename_i s hs
   refine wp_seq (wp_mono (fg hcall hmix hag x st _ a w hs hd.1 hI) ?_)
   rintro e a' w' ⟨he, hI'⟩
   subst he
   exact fg hcall hmix hag y s r a' w' h hd.2 hI'
  ·rename_i hne
   refine wp_seq (wp_mono (fg hcall hmix hag x st r a w h hd.1 hI) ?_)
   rintro e a' w' ⟨he, hI'⟩
   subst he
   obtain ⟨e, s⟩ := r
   cases e with
   | normal => exact absurd h (hne s)
   | exit id => exact ⟨rfl, hI'⟩
   | goto l => exact ⟨rfl, hI'⟩
   | ret => exact ⟨rfl, hI'⟩
 | .cond c x y, st, r, a, w, h, hd, hI => by
  simp only [df, Bool.and_eq_true] at hd
  simp only [code] at h
  split at h
  ·rename_i t ht
   obtain ⟨M, β, hS, _⟩ := id hI
   have hc := aP (a := a) hS.1 ht
   simp only [aL, bp] at hc
   refine wp_cond hc ?_
   cases t with
   | true => exact fg hcall hmix hag x st r a w h hd.1 hI
   | false => exact fg hcall hmix hag y st r a w h hd.2 hI
  ·exact absurd h (by simp)
 | .block id b, st, r, a, w, h, hd, hI => by
  simp only [df] at hd
  simp only [code] at h
  split at h
  ·rename_i i s hs
   refine wp_block (wp_mono (fg hcall hmix hag b st _ a w hs hd hI) ?_)
   rintro e a' w' ⟨he, hI'⟩
   subst he
   simp only [Ds, Exit.inBlock]
   split at h
   ·rename_i e
    simp only [Option.some.injEq] at h; subst h
    rw [if_pos e]
    exact ⟨rfl, hI'⟩
   ·rename_i e
    simp only [Option.some.injEq] at h; subst h
    rw [if_neg e]
    exact ⟨rfl, hI'⟩
  ·rename_i hne
   refine wp_block (wp_mono (fg hcall hmix hag b st r a w h hd hI) ?_)
   rintro e a' w' ⟨he, hI'⟩
   subst he
   obtain ⟨e, s⟩ := r
   cases e with
   | normal => exact ⟨rfl, hI'⟩
   | exit id => exact absurd h (hne id s)
   | goto l => exact ⟨rfl, hI'⟩
   | ret => exact ⟨rfl, hI'⟩
 | .loop b, st, r, a, w, h, hd, hI => by
  simp only [df] at hd
  simp only [code] at h
  intro b0 k cs
  have key : ∀ (m : Nat) (st : St) (a : Act) (w : World), jQ (fun s => match od (C.loops f (DA b)) s with | some s => code C call f kk again b s | none => none) m st = some r -> nJ M0 D0 β0 w0 n st a w →
    ∃ e a' w', xY M0 D0 β0 w0 n r e a' w' /\ Arrives C.P (lone (b0.at a (.code b :: .inLoop b :: k)) cs w) b0 k cs e a' w' := by
   intro m
   induction m with
   | zero => intro st a w h; simp [jQ] at h
   | succ m ih =>
    intro st a w h hI
    simp only [jQ] at h
    have one : ∀ r1, (match od (C.loops f (DA b)) st with | some s => code C call f kk again b s | none => none) = some r1 -> ∃ e a' w', xY M0 D0 β0 w0 n r1 e a' w' /\ Arrives C.P (lone (b0.at a (.code b :: .inLoop b :: k)) cs w) b0 (.inLoop b :: k) cs e a' w' := by
     intro r1 h1
     split at h1
     ·rename_i s hs
      exact fg hcall hmix hag b s r1 a w h1 hd (qw hI hs) b0 (.inLoop b :: k) cs
     ·exact absurd h1 (by simp)
    split at h
    ·rename_i s hs
     obtain ⟨e, a', w', ⟨he, hI'⟩, harr⟩ := one _ hs
     subst he
     obtain ⟨e2, a2, w2, h2, harr2⟩ := ih s a' w' h hI'
     exact ⟨e2, a2, w2, h2, .of_steps (Steps.trans harr (.one step_inLoop)) harr2⟩
    ·rename_i hne
     obtain ⟨e, a', w', ⟨he, hI'⟩, harr⟩ := one r h
     subst he
     obtain ⟨e, s⟩ := r
     cases e with
     | normal => exact absurd h (hne s)
     | exit id => exact ⟨_, a', w', ⟨rfl, hI'⟩, .pass (x := .inLoop b) rfl (fun _ _ => .inl (by simp [Ds])) harr⟩
     | goto l => exact ⟨_, a', w', ⟨rfl, hI'⟩, .pass (x := .inLoop b) rfl (fun _ _ => .inl (by simp [Ds])) harr⟩
     | ret => exact ⟨_, a', w', ⟨rfl, hI'⟩, .pass (x := .inLoop b) rfl (fun _ _ => .inl (by simp [Ds])) harr⟩
  obtain ⟨e, a', w', h1, harr⟩ := key kk st a w h hI
  exact ⟨e, a', w', h1, .of_steps (.one step_loop) harr⟩
 | .scope b, st, r, a, w, h, hd, hI => by
  simp only [df] at hd
  simp only [code] at h
  intro b0 k cs
  obtain ⟨r1, h1, h2⟩ := sq hag hd h
  obtain ⟨e, a1, w1, ⟨he, hI1⟩, harr⟩ := fg hcall hmix hag b st r1 a w h1 hd hI b0 (.inScope b :: k) cs
  subst he
  obtain ⟨a', w', h3, h4⟩ := h2 _ a1 w1 b0 k cs hI1 harr
  exact ⟨_, a', w', ⟨rfl, h3⟩, .of_steps (.one step_scope) h4⟩
 | .exit id, st, r, a, w, h, hd, hI => by
  simp only [code, Option.some.injEq] at h; subst h
  exact wp_exit ⟨rfl, hI⟩
 | .goto l, st, r, a, w, h, hd, hI => by
  simp only [code, Option.some.injEq] at h; subst h
  exact wp_goto ⟨rfl, hI⟩
 | .ret, st, r, a, w, h, hd, hI => by
  simp only [code, Option.some.injEq] at h; subst h
  exact wp_ret ⟨rfl, hI⟩
 | .rangeFunc _ _ _ _, st, r, a, w, h, hd, hI => by simp [code] at h
 | .refuse _, st, r, a, w, h, hd, hI => by simp [code] at h
theorem pP (hcall : ∀ f as rs fs, call f as = some (rs, fs) -> br C.P (C.modes f) f as rs fs) (hmix : C.P.follows .mixedOrders = true) : ∀ m, tl C M0 D0 β0 w0 n (eP C call f kk m)
 | 0 => by intro b rest st r a w h; simp [eP] at h
 | m + 1 => by
  intro b rest st r a w h hb hrest hI b0 k cs
  simp only [eP] at h
  obtain ⟨r1, h1, h2⟩ := sq (pP hcall hmix m) hb h
  obtain ⟨e, a1, w1, ⟨he, hI1⟩, harr⟩ := fg hcall hmix (pP hcall hmix m) rest st r1 a w h1 hrest hI b0 (.inScope b :: k) cs
  subst he
  exact h2 _ a1 w1 b0 k cs hI1 harr
theorem DI (hcall : ∀ f as rs fs, call f as = some (rs, fs) -> br C.P (C.modes f) f as rs fs) (hmix : C.P.follows .mixedOrders = true) {c : Code} {st : St} {r : Ex × St} {a : Act} {w : World}
  (h : p8 C call f kk c st = some r) (hd : df n c = true) (hI : nJ M0 D0 β0 w0 n st a w) : c.wp C.P (xY M0 D0 β0 w0 n r) a w :=
 fg hcall hmix (pP hcall hmix kk) c st r a w h hd hI
end
end Go.Proofs.YtcoikmicjbppmaaGreat.Vm
namespace Go.Proofs.YtcoikmicjbppmaaGreat.Vm
open Go
set_option linter.unusedVariables false
set_option linter.unusedSimpArgs false
theorem sP {α : Type} {R : α -> α -> Prop} (hs : ∀ a b, R a b -> R b a) : ∀ {l : List α}, l.Pairwise R -> ∀ a ∈ l, ∀ b ∈ l, a ≠ b -> R a b
 | [], _, a, ha, _, _, _ => by simp at ha
 | x :: l, h, a, ha, b, hb, hne => by
  rw [List.pairwise_cons] at h
  rcases List.mem_cons.1 ha with e | ha
  ·rcases List.mem_cons.1 hb with e' | hb
   ·exact absurd (e.trans e'.symm) hne
   ·rw [e]; exact h.1 b hb
  ·rcases List.mem_cons.1 hb with e' | hb
   ·rw [e']; exact hs _ _ (h.1 a ha)
   ·exact sP hs h.2 a ha b hb hne
def nL : Nat -> List LT -> List (Nat × Loc)
 | _, [] => []
 | j, t :: r => asg bn (bJ j) t ++ nL (j + 1) r
section
variable {M0 M : ay} {w : World} {tm : Array Value}
theorem Gl {β : Nat -> Loc} {st s1 : St} {v : TV} {t : LT} {c : Value} {j : Nat} (hS : SR M0 M β st tm w) (hv : cY w M v t c) (hc : tm.getD j undef = c) (hM : ∀ l ∈ t.locs, ∀ b x, l.F b x -> M b x /\ ¬ M0 b x) (hap : fu t.locs)
  (hold : ∀ id o, st.obj id = some o -> ∀ l ∈ t.locs, ∀ b x, (β id).F b x -> ¬ l.F b x) (h : st.add (bV bn (bJ j) v).2 = some s1) :
  ∃ β1, SR M0 M β1 (s1.put j (bV bn (bJ j) v).1) tm w /\ (∀ id, (∃ o, st.obj id = some o) -> β1 id = β id) /\ (∀ p ∈ asg bn (bJ j) t, β1 p.1 = p.2) /\ (∀ id o, (s1.put j (bV bn (bJ j) v).1).obj id = some o -> st.obj id = some o ∨ β1 id ∈ t.locs) := by
 obtain ⟨a1, a2, a3, a4⟩ := f9 _ h
 have hids := fG bn v (bJ j) t c hv
 rw [hids] at a2 a3
 obtain ⟨β1, hβ⟩ : ∃ β1 : Nat -> Loc, ∀ i, β1 i = match cB i (asg bn (bJ j) t) with | some l => l | none => β i := ⟨_, fun _ => rfl⟩
 have hb : ∀ p ∈ asg bn (bJ j) t, β1 p.1 = p.2 := by
  intro p hp
  rw [hβ, e9 (n := p.1) (a := p.2) a2 hp]
 have hbo' : ∀ id, (∃ o, st.obj id = some o) -> β1 id = β id := by
  rintro id ⟨o, ho⟩
  have : id ∉ (asg bn (bJ j) t).map (·.1) := fun hi => by rw [a3 id hi] at ho; simp at ho
  rw [hβ, iI this]
 obtain ⟨p1, p2⟩ := mY bn v (bJ j) t c hv hb
 obtain ⟨r1, r2⟩ := mb bn v (bJ j)
 have hlocs := pX bn (bJ j) t
 have hk : ∀ b o v, at_ w b o = some v -> ¬ M b o -> at_ w b o = some v /\ ¬ M b o := fun b o v h1 h2 => ⟨h1, h2⟩
 have hobj : ∀ id o, (s1.put j (bV bn (bJ j) v).1).obj id = some o -> ((id, o) ∈ (bV bn (bJ j) v).2) ∨ st.obj id = some o := by
  intro id o ho
  have ho' : s1.obj id = some o := ho
  rw [a4] at ho'
  split at ho'
  ·rename_i o' hl
   simp only [Option.some.injEq] at ho'; subst ho'
   exact .inl (dX hl)
  ·exact .inr ho'
 have hnew : ∀ id o, (id, o) ∈ (bV bn (bJ j) v).2 -> (id, β1 id) ∈ asg bn (bJ j) t /\ β1 id ∈ t.locs := by
  intro id o hm
  have : id ∈ (asg bn (bJ j) t).map (·.1) := by rw [<- hids]; exact List.mem_map_of_mem (f := (·.1)) hm
  obtain ⟨p, hp, rfl⟩ := List.mem_map.1 this
  rw [hb p hp]
  exact ⟨hp, by rw [<- hlocs]; exact List.mem_map_of_mem (f := (·.2)) hp⟩
 have hex : ∀ i, (∃ o, st.obj i = some o) ∨ i ∈ (bV bn (bJ j) v).2.map (·.1) -> ∃ o, (s1.put j (bV bn (bJ j) v).1).obj i = some o := by
  intro i hi
  show ∃ o, s1.obj i = some o
  rw [a4]
  cases hl : cB i (bV bn (bJ j) v).2 with
  | some o => exact ⟨o, rfl⟩
  | none =>
   rcases hi with hi | hi
   ·exact hi
   ·obtain ⟨p, hp, rfl⟩ := List.mem_map.1 hi
    rw [e9 (n := p.1) (a := p.2) (by rw [hids]; exact a2) hp] at hl; simp at hl
 refine ⟨β1, ⟨⟨hS.1.sup, hS.1.old, fun t' => ?_, fun id o ho => ?_, fun id o ho b x hF => ?_, fun id id' o o' ho ho' hne b x hF hF' => ?_⟩, fun t' i hi => ?_, fun id o ho => ⟨⟨o, ho⟩, fun i hi => ?_⟩⟩, hbo', hb, fun id o ho => ?_⟩
 ·show aL β1 w M ((s1.put j _).get t') _
  rw [gL]
  split
  ·rename_i e; subst e; rw [hc]; exact p1
  ·have hg : s1.get t' = st.get t' := by simp only [St.get, a1]
   rw [hg]
   exact aL.mono hk _ _ (fun i hi => by rw [hbo' i (hS.2.1 t' i hi)]; exact Loc.same_refl _) (hS.1.slots t')
 ·rcases hobj id o ho with hm | ho
  ·exact p2 _ hm
  ·rw [hbo' id ⟨o, ho⟩]
   exact cJ.mono hk (fun _ _ _ _ h => ⟨h, rfl⟩) (fun _ _ h => h) (fun _ _ _ => rfl) (fun _ h => h) (fun i hi => by rw [hbo' i ((hS.2.2 id o ho).2 i hi)]; exact Loc.same_refl _) (hS.1.objs id o ho)
 ·rcases hobj id o ho with hm | ho
  ·exact hM _ (hnew id o hm).2 b x hF
  ·rw [hbo' id ⟨o, ho⟩] at hF
   exact hS.1.own id o ho b x hF
 ·rcases hobj id o ho with hm | ho
  ·rcases hobj id' o' ho' with hm' | ho'
   ·have hp := (hnew id o hm).1
    have hp' := (hnew id' o' hm').1
    have hpw : (asg bn (bJ j) t).Pairwise (fun p q => ∀ b x, p.2.F b x -> ¬ q.2.F b x) := by
     have := hap
     unfold fu at this
     rw [<- hlocs, List.pairwise_map] at this
     exact this
    exact sP (R := fun p q : Nat × Loc => ∀ b x, p.2.F b x -> ¬ q.2.F b x) (fun a b h x y h1 h2 => h x y h2 h1) hpw _ hp _ hp' (fun e => hne (by injection e)) b x hF hF'
   ·rw [hbo' id' ⟨o', ho'⟩] at hF'
    exact hold id' o' ho' _ (hnew id o hm).2 b x hF' hF
  ·rw [hbo' id ⟨o, ho⟩] at hF
   rcases hobj id' o' ho' with hm' | ho'
   ·exact hold id o ho _ (hnew id' o' hm').2 b x hF hF'
   ·rw [hbo' id' ⟨o', ho'⟩] at hF'
    exact hS.1.disj id id' o o' ho ho' hne b x hF hF'
 ·have hi' : i ∈ ((s1.put j (bV bn (bJ j) v).1).get t').refs := hi
  rw [gL] at hi'
  split at hi'
  ·exact hex i (.inr (r1 i hi'))
  ·have hg : s1.get t' = st.get t' := by simp only [St.get, a1]
   rw [hg] at hi'
   exact hex i (.inl (hS.2.1 t' i hi'))
 ·rcases hobj id o ho with hm | ho
  ·exact hex i (.inr (r2 _ hm i hi))
  ·exact hex i (.inl ((hS.2.2 id o ho).2 i hi))
 ·rcases hobj id o ho with hm | ho
  ·exact .inr (hnew id o hm).2
  ·exact .inl ho
theorem vm : ∀ (as : List TV) (j : Nat) (ts : List LT) (cs : List Value) (β : Nat -> Loc) (st s : St), SR M0 M β st tm w -> aX w M as ts cs -> (∀ k c, cs[k]? = some c -> tm.getD (j + k) undef = c) -> (∀ l ∈ LT.locsL ts, ∀ b x, l.F b x -> M b x /\ ¬ M0 b x) -> fu (LT.locsL ts) →
  (∀ id o, st.obj id = some o -> ∀ l ∈ LT.locsL ts, ∀ b x, (β id).F b x -> ¬ l.F b x) -> enter j as st = some s →
  ∃ β', SR M0 M β' s tm w /\ (∀ id, (∃ o, st.obj id = some o) -> β' id = β id) /\ (∀ id, (∃ o, st.obj id = some o) -> ∃ o, s.obj id = some o) /\ ∀ p ∈ nL j ts, β' p.1 = p.2
 | [], j, ts, cs, β, st, s, hS, hT, hc, hM, hap, hold, h => by
  simp only [enter, Option.some.injEq] at h; subst h
  simp only [aX] at hT
  obtain ⟨rfl, rfl⟩ := hT
  exact ⟨β, hS, fun _ _ => rfl, fun _ h => h, by simp [nL]⟩
 | v :: as, j, ts, cs, β, st, s, hS, hT, hc, hM, hap, hold, h => by
  simp only [aX] at hT
  obtain ⟨t, r, c, d, rfl, rfl, hv, hr⟩ := hT
  simp only [enter] at h
  split at h
  ·rename_i s1 h1
   simp only [LT.locsL] at hM hap hold
   obtain ⟨β1, k1, k2, k3, k4⟩ := Gl hS hv (by simpa using hc 0 c rfl) (fun l hl => hM l (by simp [hl])) hap.left (fun id o ho l hl => hold id o ho l (by simp [hl])) h1
   have hdis : ∀ id o, (s1.put j (bV bn (bJ j) v).1).obj id = some o -> ∀ l ∈ LT.locsL r, ∀ b x, (β1 id).F b x -> ¬ l.F b x := by
    intro id o ho l hl b x hF
    rcases k4 id o ho with ho' | hin
    ·rw [k2 id ⟨o, ho'⟩] at hF
     exact hold id o ho' l (by simp [hl]) b x hF
    ·have := (List.pairwise_append.1 hap).2.2 _ hin l hl
     exact this b x hF
   obtain ⟨β', m1, m2, m3, m4⟩ := vm as (j + 1) r d β1 _ s k1 hr (fun k c' hk => by
    have := hc (k + 1) c' (by simpa using hk)
    rwa [show j + (k + 1) = j + 1 + k by omega] at this) (fun l hl => hM l (by simp [hl])) hap.right hdis h
   ·have hst : ∀ id, (∃ o, st.obj id = some o) -> ∃ o, (s1.put j (bV bn (bJ j) v).1).obj id = some o := by
     rintro id ⟨o, ho⟩
     obtain ⟨a1, a2, a3, a4⟩ := f9 _ h1
     show ∃ o, s1.obj id = some o
     rw [a4]
     cases cB id (bV bn (bJ j) v).2 with
     | some o => exact ⟨o, rfl⟩
     | none => exact ⟨o, ho⟩
    refine ⟨β', m1, fun id hi => (m2 id (hst id hi)).trans (k2 id hi), fun id hi => m3 id (hst id hi), fun p hp => ?_⟩
    simp only [nL, List.mem_append] at hp
    rcases hp with hp | hp
    ·rw [<- k3 p hp]
     refine m2 p.1 ?_
     have : p.1 ∈ (bV bn (bJ j) v).2.map (·.1) := by rw [fG bn v (bJ j) t c hv]; exact List.mem_map_of_mem (f := (·.1)) hp
     obtain ⟨q, hq, hqe⟩ := List.mem_map.1 this
     obtain ⟨a1, a2, a3, a4⟩ := f9 _ h1
     show ∃ o, s1.obj p.1 = some o
     rw [a4, <- hqe, e9 (n := q.1) (a := q.2) a2 hq]
     exact ⟨_, rfl⟩
    ·exact m4 p hp
  ·exact absurd h (by simp)
end
section
variable {P : Program} {M0 M : ay} {β : Nat -> Loc} {V : View} {w : World} {tm : Array Value}
theorem zr (hV : VR M0 M β V tm w) {v : AV} {c : Value} {x : TV} {ids : List Nat} (hc : aL β w M v c) (h : xD V v = some (x, ids)) : ∃ t js, cY w M x t c /\ js.Perm ids /\ bK V β t.locs js := by
 have lent : ∀ {x : TV} {l : List Nat}, jy V v = some (x, l) -> (∀ i ∈ l, False) -> ∃ t js, cY w M x t c /\ js.Perm [] /\ bK V β t.locs js := by
  intro x l hl hf
  obtain ⟨y, rfl, hy⟩ := yi hV (fun _ _ h => h) hc hl (fun i hi => (hf i hi).elim)
  exact ⟨.none, [], by simp only [cY]; exact ⟨trivial, hy⟩, List.Perm.refl _, bK.nil⟩
 unfold xD at h
 split at h
 ·simp only [Option.some.injEq, Prod.mk.injEq] at h; obtain ⟨rfl, rfl⟩ := h
  exact lent (l := []) rfl (by simp)
 ·simp only [Option.some.injEq, Prod.mk.injEq] at h; obtain ⟨rfl, rfl⟩ := h
  exact lent (l := []) rfl (by simp)
 ·split at h
  ·rename_i hp
   simp only [Option.some.injEq, Prod.mk.injEq] at h; obtain ⟨rfl, rfl⟩ := h
   exact lent (l := []) (by simp only [jy, hp]) (by simp)
  ·exact absurd h (by simp)
 ·split at h
  ·rename_i hp
   split at h
   ·rename_i ho
    simp only [Option.some.injEq, Prod.mk.injEq] at h; obtain ⟨rfl, rfl⟩ := h
    exact lent (l := []) (by simp only [jy, hp, ho, if_true]) (by simp)
   ·exact absurd h (by simp)
  ·exact absurd h (by simp)
 ·split at h
  ·rename_i id _ sz es ho
   simp only [Option.some.injEq, Prod.mk.injEq] at h; obtain ⟨rfl, rfl⟩ := h
   simp only [aL] at hc
   exact ⟨.one (β id), [id], by simp only [cY]; exact ⟨β id, rfl, hc, hV.objs id _ ho⟩, List.Perm.refl _, bK.cons ⟨⟨_, ho⟩, fun _ _ h => h⟩ bK.nil⟩
  ·exact absurd h (by simp)
 ·split at h
  ·rename_i ob hl
   simp only [Option.some.injEq, Prod.mk.injEq] at h; obtain ⟨rfl, rfl⟩ := h
   obtain ⟨t, js, k1, k2, k3, _⟩ := yh hV 4 _ c _ _ _ hc hl
   refine ⟨t, js, k1, ?_, k3⟩
   cases ob <;> simpa [iz] using k2
  ·exact absurd h (by simp)
 ·exact absurd h (by simp)
def sW (tm : Array Value) : ResultVar -> Sem Value
 | .tmp t => pure (tm.getD t undef)
 | .cell a t => do loadVar t (← asAddr (tm.getD a undef))
theorem zt {C : Cx} (hV : VR M0 M β V tm w) {x : ResultVar} {v : AV} (h : up C V x = some v) : ∃ c, (sW tm x).run C.P w = .ok c w /\ aL β w M v c := by
 cases x with
 | tmp t =>
  simp only [up, Option.some.injEq] at h; subst h
  exact ⟨_, by simp [sW], hV.slots t⟩
 | cell a t =>
  simp only [up] at h
  split at h
  ·exact absurd h (by simp)
  ·rename_i ht
   have ht : iU C.P t = true := by simpa using ht
   split at h
   ·rename_i id i off hg
    have hs := hV.slots a
    rw [hg] at hs
    simp only [aL] at hs
    obtain ⟨b, o, hb, hs⟩ := hs
    split at h
    ·rename_i cs ho
     split at h
     ·rename_i hcond
      obtain ⟨rfl, hl⟩ := hcond
      rw [Nat.zero_mul, Nat.add_zero] at hs
      obtain ⟨c, k1, k2, _⟩ := vW (P := C.P) ht (hV.objs id _ ho) hb hl (v := v) (by
       split at h
       ·rename_i hag
        rw [if_pos hag]
        split at h
        ·rename_i hown; rw [if_pos hown]; simp only [Option.some.injEq] at h; rw [h]
        ·exact absurd h (by simp)
       ·rename_i hag
        rw [if_neg hag, h])
      exact ⟨c, by simp [sW, hs, asAddr, k1], k2⟩
     ·exact absurd h (by simp)
    ·exact absurd h (by simp)
   ·exact absurd h (by simp)
theorem sE {α : Type} {f : α -> Sem Value} : ∀ (l : List α) (vs : List Value), l.length = vs.length -> (∀ (k : Nat) (x : α) (c : Value), l[k]? = some x -> vs[k]? = some c -> (f x).run P w = .ok c w) -> (l.mapM f).run P w = .ok vs w
 | [], [], _, _ => by simp
 | [], _ :: _, h, _ => by simp at h
 | _ :: _, [], h, _ => by simp at h
 | x :: l, v :: vs, hl, h => by
  have h1 := h 0 x v rfl rfl
  have h2 := sE l vs (by simpa using hl) (fun k y c hy hc => h (k + 1) y c (by simpa using hy) (by simpa using hc))
  simp [List.mapM_cons, h1, h2]
theorem sQ {C : Cx} (hV : VR M0 M β V tm w) : ∀ (rv : List ResultVar) (rs : List TV) (ids : List Nat), qV C V rv = some (rs, ids) →
  ∃ vs lrs js, rv.length = vs.length /\ (∀ (k : Nat) (x : ResultVar) (c : Value), rv[k]? = some x -> vs[k]? = some c -> (sW tm x).run C.P w = .ok c w) /\ aX w M rs lrs vs /\ js.Perm ids /\ bK V β (LT.locsL lrs) js
 | [], rs, ids, h => by
  simp only [qV, Option.some.injEq, Prod.mk.injEq] at h; obtain ⟨rfl, rfl⟩ := h
  exact ⟨[], [], [], rfl, by simp, by simp [aX], List.Perm.refl _, bK.nil⟩
 | x :: rv, rs, ids, h => by
  simp only [qV] at h
  split at h
  ·rename_i v hv
   split at h
   ·rename_i y i l is hy hl
    simp only [Option.some.injEq, Prod.mk.injEq] at h; obtain ⟨rfl, rfl⟩ := h
    obtain ⟨c, k1, k2⟩ := zt hV hv
    obtain ⟨t, js, k3, k4, k5⟩ := zr hV k2 hy
    obtain ⟨vs, lrs, js', m1, m2, m3, m4, m5⟩ := sQ hV rv l is hl
    refine ⟨c :: vs, t :: lrs, js ++ js', by simp [m1], fun k x' c' hx hc => ?_, by simp only [aX]; exact ⟨t, lrs, c, vs, rfl, rfl, k3, m3⟩, List.Perm.append k4 m4, by simp only [LT.locsL]; exact k5.append m5⟩
    cases k with
    | zero => simp at hx hc; subst hx; subst hc; exact k1
    | succ k => exact m2 k x' c' (by simpa using hx) (by simpa using hc)
   ·exact absurd h (by simp)
  ·exact absurd h (by simp)
theorem wy {fn : Func} {vs : List Value} (h : (fn.results.toList.mapM (sW tm)).run P w = .ok vs w) : (results fn tm).run P w = .ok (rt vs) w := by
 have e : results fn tm = (do let vs ← fn.results.mapM (sW tm); pure (if h : vs.size = 1 then vs[0] else .tuple vs)) := by
  unfold results
  congr 1
 rw [e, Array.mapM_eq_mapM_toList]
 simp [h]
 cases vs with
 | nil => rfl
 | cons v r => cases r <;> simp [rt]
end
end Go.Proofs.YtcoikmicjbppmaaGreat.Vm
namespace Go.Proofs.YtcoikmicjbppmaaGreat.Vm
open Go
set_option linter.unusedVariables false
set_option linter.unusedSimpArgs false
def jW (V : View) (β : Nat -> Loc) (ls : List Loc) (ids : List Nat) : Prop := ∀ l ∈ ls, ∀ x y, l.F x y -> ∃ i ∈ ids, (∃ o, V.obj i = some o) /\ (β i).F x y
theorem jW.nil {V : View} {β : Nat -> Loc} (ids : List Nat) : jW V β [] ids := by intro l hl; simp at hl
theorem jW.append {V : View} {β : Nat -> Loc} {ls ls' : List Loc} {a b : List Nat} (h : jW V β ls a) (k : jW V β ls' b) : jW V β (ls ++ ls') (a ++ b) := by
 intro l hl x y hF
 rcases List.mem_append.1 hl with hl | hl
 ·obtain ⟨i, h1, h2⟩ := h l hl x y hF; exact ⟨i, by simp [h1], h2⟩
 ·obtain ⟨i, h1, h2⟩ := k l hl x y hF; exact ⟨i, by simp [h1], h2⟩
theorem jW.cons {V : View} {β : Nat -> Loc} {l : Loc} {ls : List Loc} {i : Nat} {b : List Nat} (h : (∃ o, V.obj i = some o) /\ ∀ x y, l.F x y -> (β i).F x y) (k : jW V β ls b) : jW V β (l :: ls) (i :: b) := by
 intro l' hl x y hF
 rcases List.mem_cons.1 hl with rfl | hl
 ·exact ⟨i, by simp, h.1, h.2 x y hF⟩
 ·obtain ⟨i, h1, h2⟩ := k l' hl x y hF; exact ⟨i, by simp [h1], h2⟩
theorem xJ {id : Nat} {v : AV} (h : uu id v = true) : v = .addr id 0 0 := by
 unfold uu at h
 split at h
 ·rename_i i
  have : i = id := by simpa using h
  rw [this]
 ·exact absurd h (by simp)
section
variable {M0 M Mw : ay} {β β0 : Nat -> Loc} {V : View} {w w0 : World} {tm : Array Value}
theorem i8 (j : Nat) : bJ j % 2 = 1 := by unfold bJ; omega
theorem vO (i j : Nat) : bn i j % 2 = 1 := by unfold bn; omega
mutual
theorem lO (hV : VR M0 M β V tm w) (hpin : ∀ id o, id % 2 = 1 -> V.obj id = some o -> (β0 id).same (β id)) : ∀ (v : TV) (id : Nat) (t : LT) (c0 c : Value) (f : TV) (a b : List Nat), id % 2 = 1 -> cY w0 Mw v t c0 -> (∀ p ∈ asg bn id t, β0 p.1 = p.2) -> aL β w M (.addr id 0 0) c →
  fN V id v = some (f, a, b) -> (∃ x, (∃ bs, f = .bld bs /\ x = v) ∨ ∃ cs, f = .ptr cs /\ x = v) /\ ∃ lf js, cY w M f lf c /\ jT t lf /\ js.Perm (a ++ b) /\ bK V β lf.locs js /\ jW V β lf.loose a /\ jW V β t.fixed b
 | .ptr cells, id, t, c0, c, f, a, b, hid, hv, hb, hc, h => by
  simp only [cY] at hv
  obtain ⟨l, subs, b1, o1, rfl, h1, h2, h3, h4, h5⟩ := hv
  have hl := hb (id, l) (by simp [asg])
  simp only at hl
  simp only [fN] at h
  split at h
  ·rename_i cs ho
   split at h
   ·rename_i l' a' b' hls
    simp only [Option.some.injEq, Prod.mk.injEq] at h; obtain ⟨rfl, rfl, rfl⟩ := h
    have hp := hpin id _ hid ho
    rw [hl] at hp
    obtain ⟨b2, o2, q1, q2, q3, q4⟩ := hV.objs id _ ho
    have hbase : (β id).base = some (b1, o1) := hp.1.trans h1
    rw [hbase] at q1; injection q1 with q1; injection q1 with e1 e2; subst e1; subst e2
    obtain ⟨k0, k1, subs', js, k2, k3, k4, k5, k6, k7⟩ := finalTVs_ok hV hpin cells cs id 0 subs b1 o1 b1 o1 l' a' b' h5 (fun p hp => hb p (by simp only [asg, List.mem_cons]; exact .inr hp)) q4 hls
    simp only [aL] at hc
    obtain ⟨b3, o3, hb3, hc⟩ := hc
    rw [hbase] at hb3; injection hb3 with hb3; injection hb3 with e1 e2; subst e1; subst e2
    refine ⟨⟨_, .inr ⟨_, rfl, rfl⟩⟩, .box (β id) subs', id :: js, ?_, ?_, ?_, ?_, ?_, ?_⟩
    ·simp only [cY]
     exact ⟨β id, subs', b1, o1, rfl, hbase, by rw [q2]; omega, q3, by simpa using hc, k2⟩
    ·simp only [jT]
     exact ⟨β id, subs', rfl, by rw [hbase, h1], by rw [q2, h2, k1], by rw [q3, h3], k3⟩
    ·exact (List.Perm.cons id k4).trans (List.perm_middle.symm)
    ·simp only [LT.locs]; exact bK.cons ⟨⟨_, ho⟩, fun _ _ h => h⟩ k5
    ·simp only [LT.loose]; exact k6
    ·simp only [LT.fixed]
     exact jW.cons ⟨⟨_, ho⟩, fun x y hF => (Loc.F_of (by rw [hbase, h1]) (by rw [q2, h2, k1]) (by rw [q3, h3]) x y).1 hF⟩ k7
   ·exact absurd h (by simp)
  ·exact absurd h (by simp)
 | .bld s, id, t, c0, c, f, a, b, hid, hv, hb, hc, h => by
  simp only [cY] at hv
  obtain ⟨l, b1, o1, rfl, h1, h2, h3⟩ := hv
  have hl := hb (id, l) (by simp [asg])
  simp only at hl
  simp only [fN] at h
  split at h
  ·rename_i bs ho
   simp only [Option.some.injEq, Prod.mk.injEq] at h; obtain ⟨rfl, rfl, rfl⟩ := h
   have hp := hpin id _ hid ho
   rw [hl] at hp
   have hbase : (β id).base = some (b1, o1) := hp.1.trans h1
   simp only [aL] at hc
   obtain ⟨b3, o3, hb3, hc⟩ := hc
   rw [hbase] at hb3; injection hb3 with hb3; injection hb3 with e1 e2; subst e1; subst e2
   refine ⟨⟨_, .inl ⟨_, rfl, rfl⟩⟩, .bld (β id), [id], ?_, ?_, by simp, ?_, ?_, by simp [LT.fixed, jW]⟩
   ·simp only [cY]; exact ⟨β id, b1, o1, rfl, hbase, by simpa using hc, hV.objs id _ ho⟩
   ·simp only [jT]; exact ⟨β id, rfl, by rw [hbase, h1]⟩
   ·simp only [LT.locs]; exact bK.cons ⟨⟨_, ho⟩, fun _ _ h => h⟩ bK.nil
   ·simp only [LT.loose]; exact jW.cons ⟨⟨_, ho⟩, fun _ _ h => h⟩ (jW.nil [])
  ·exact absurd h (by simp)
 | .pv _, id, t, c0, c, f, a, b, hid, hv, hb, hc, h => by simp [fN] at h
 | .own _ _, id, t, c0, c, f, a, b, hid, hv, hb, hc, h => by simp [fN] at h
theorem finalTVs_ok (hV : VR M0 M β V tm w) (hpin : ∀ id o, id % 2 = 1 -> V.obj id = some o -> (β0 id).same (β id)) : ∀ (vs : List TV) (cs : List AV) (id j : Nat) (ts : List LT) (b0 o0 b1 o1 : Nat) (l : List TV) (a b : List Nat), TVLs w0 Mw vs ts b0 o0 -> (∀ p ∈ asgs bn id j ts, β0 p.1 = p.2) →
  (∀ (k : Nat) (v : AV), cs[k]? = some v -> ∃ c, at_ w b1 (o1 + k) = some c /\ cK w b1 (o1 + k) = false /\ c.oneCell' = true /\ aL β w M v c) -> finalTVs V id j vs cs = some (l, a, b) →
  l.length = cs.length /\ cs.length = vs.length /\ ∃ ts' js, TVLs w M l ts' b1 o1 /\ likes ts ts' /\ js.Perm (a ++ b) /\ bK V β (LT.locsL ts') js /\ jW V β (LT.looseL ts') a /\ jW V β (LT.fixedL ts) b
 | [], cs, id, j, ts, b0, o0, b1, o1, l, a, b, hT, hb, hcs, h => by
  cases cs with
  | cons c cs => simp [finalTVs] at h
  | nil =>
   simp only [finalTVs, Option.some.injEq, Prod.mk.injEq] at h; obtain ⟨rfl, rfl, rfl⟩ := h
   simp only [TVLs] at hT; subst hT
   exact ⟨rfl, rfl, [], [], by simp only [TVLs], by simp only [likes], List.Perm.refl _, bK.nil, jW.nil _, jW.nil _⟩
 | v :: vs, [], id, j, ts, b0, o0, b1, o1, l, a, b, hT, hb, hcs, h => by simp [finalTVs] at h
 | v :: vs, c :: cs, id, j, ts, b0, o0, b1, o1, l, a, b, hT, hb, hcs, h => by
  simp only [TVLs] at hT
  obtain ⟨t, r, c0, rfl, _, _, _, hv, hr⟩ := hT
  obtain ⟨cv, c1, c2, c3, c4⟩ := hcs 0 c rfl
  simp only [finalTVs] at h
  split at h
  ·rename_i x a1 b1' l' a2 b2 hx hl
   simp only [Option.some.injEq, Prod.mk.injEq] at h; obtain ⟨rfl, rfl, rfl⟩ := h
   obtain ⟨k0, k1, ts', js, k2, k3, k4, k5, k6, k7⟩ := finalTVs_ok hV hpin vs cs id (j + 1) r b0 (o0 + 1) b1 (o1 + 1) l' a2 b2 hr (fun p hp => hb p (by simp only [asgs, List.mem_append]; exact .inr hp)) (fun k v hk => by
    have := hcs (k + 1) v (by simpa using hk)
    rwa [show o1 + (k + 1) = o1 + 1 + k by omega] at this) hl
   have head : ∃ lf js1, cY w M x lf cv /\ jT t lf /\ js1.Perm (a1 ++ b1') /\ bK V β lf.locs js1 /\ jW V β lf.loose a1 /\ jW V β t.fixed b1' := by
    have plain : (t = .none ∨ ∃ l0, t = .one l0) -> qS V c = some (x, a1, b1') →
      ∃ lf js1, cY w M x lf cv /\ jT t lf /\ js1.Perm (a1 ++ b1') /\ bK V β lf.locs js1 /\ jW V β lf.loose a1 /\ jW V β t.fixed b1' := by
     intro ht hx
     have hlike : ∀ lf, jT t lf := by
      intro lf
      rcases ht with rfl | ⟨_, rfl⟩ <;> simp only [jT]
     have hfix : t.fixed = [] := by rcases ht with rfl | ⟨_, rfl⟩ <;> rfl
     unfold qS at hx
     split at hx
     ·simp only [Option.some.injEq, Prod.mk.injEq] at hx; obtain ⟨rfl, rfl, rfl⟩ := hx
      simp only [aL] at c4
      exact ⟨.none, [], by simp only [cY]; exact ⟨trivial, c4⟩, hlike _, List.Perm.refl _, bK.nil, jW.nil _, by rw [hfix]; exact jW.nil _⟩
     ·simp only [Option.some.injEq, Prod.mk.injEq] at hx; obtain ⟨rfl, rfl, rfl⟩ := hx
      simp only [aL] at c4; subst c4
      refine ⟨.none, [], ?_, hlike _, List.Perm.refl _, bK.nil, jW.nil _, by rw [hfix]; exact jW.nil _⟩
      simp only [cY, bp]
      exact ⟨trivial, none, 0, rfl, Nat.le_refl _, fun _ => rfl, fun a ha => by simp at ha, 1, by simp only [RepRow]⟩
     ·split at hx
      ·rename_i i _ _ sz es ho
       simp only [Option.some.injEq, Prod.mk.injEq] at hx; obtain ⟨rfl, rfl, rfl⟩ := hx
       simp only [aL] at c4
       exact ⟨.one (β i), [i], by simp only [cY]; exact ⟨β i, rfl, c4, hV.objs i _ ho⟩, hlike _, by simp, bK.cons ⟨⟨_, ho⟩, fun _ _ h => h⟩ bK.nil, jW.cons ⟨⟨_, ho⟩, fun _ _ h => h⟩ (jW.nil []), by rw [hfix]; exact jW.nil _⟩
      ·exact absurd hx (by simp)
     ·exact absurd hx (by simp)
    have hb' : ∀ p ∈ asg bn (bn id j) t, β0 p.1 = p.2 := fun p hp => hb p (by simp only [asgs, List.mem_append]; exact .inl hp)
    by_cases href : FE v = true
    ·rw [if_pos href] at hx
     split at hx
     ·rename_i hsp
      rw [xJ hsp] at c4
      exact (lO hV hpin v (bn id j) t c0 cv x a1 b1' (vO _ _) hv hb' c4 hx).2
     ·exact absurd hx (by simp)
    ·rw [if_neg href] at hx
     cases v with
     | pv y =>
      simp only [cY] at hv
      exact plain (.inl hv.1) hx
     | own sz es =>
      simp only [cY] at hv
      obtain ⟨l0, e, _⟩ := hv
      exact plain (.inr ⟨l0, e⟩) hx
     | ptr cells => exact absurd rfl href
     | bld s => exact absurd rfl href
   obtain ⟨lf, js1, m1, m2, m3, m4, m5, m6⟩ := head
   refine ⟨by simp [k0], by simp [k1], lf :: ts', js1 ++ js, ?_, ?_, ?_, ?_, ?_, ?_⟩
   ·simp only [TVLs]; exact ⟨lf, ts', cv, rfl, by simpa using c1, by simpa using c2, c3, m1, k2⟩
   ·simp only [likes]; exact ⟨lf, ts', rfl, m2, k3⟩
   ·exact (List.Perm.append m3 k4).trans (sM ..)
   ·simp only [LT.locsL]; exact m4.append k5
   ·simp only [LT.looseL]; exact m5.append k6
   ·simp only [LT.fixedL]; exact m6.append k7
  ·exact absurd h (by simp)
end
theorem iY (hV : VR M0 M β V tm w) (hpin : ∀ id o, id % 2 = 1 -> V.obj id = some o -> (β0 id).same (β id)) : ∀ (as : List TV) (ms : List Mode) (j : Nat) (ts : List LT) (cs : List Value) (fs : List TV) (a b : List Nat), aX w0 Mw as ts cs -> (∀ p ∈ nL j ts, β0 p.1 = p.2) →
  ii V ms j as = some (fs, a, b) -> ∃ lfs js, cX w M ms as ts cs fs lfs /\ js.Perm (a ++ b) /\ bK V β (LT.locsL lfs) js /\ jW V β (bQ fs lfs) a /\ jW V β (fe ms as ts) b
 | [], ms, j, ts, cs, fs, a, b, hT, hb, h => by
  simp only [ii, Option.some.injEq, Prod.mk.injEq] at h; obtain ⟨rfl, rfl, rfl⟩ := h
  exact ⟨[], [], by simp [cX], List.Perm.refl _, bK.nil, by simp [bQ, jW], by simp [fe, jW]⟩
 | .pv x :: as, ms, j, ts, cs, fs, a, b, hT, hb, h => by
  simp only [aX] at hT
  obtain ⟨t, r, c, d, rfl, rfl, hv, hr⟩ := hT
  simp only [ii] at h
  obtain ⟨lfs, js, k1, k2, k3, k4, k5⟩ := iY hV hpin as ms.tail (j + 1) r d fs a b hr (fun p hp => hb p (by simp only [nL, List.mem_append]; exact .inr hp)) h
  exact ⟨lfs, js, by simp only [cX]; exact ⟨t, r, c, d, rfl, rfl, k1⟩, k2, k3, k4, by simp only [fe]; exact k5⟩
 | .own sz es :: as, ms, j, ts, cs, fs, a, b, hT, hb, h => by
  simp only [aX] at hT
  obtain ⟨t, r, c, d, rfl, rfl, hv, hr⟩ := hT
  simp only [ii] at h
  split at h
  ·rename_i l a' b' hl
   obtain ⟨lfs, js, k1, k2, k3, k4, k5⟩ := iY hV hpin as ms.tail (j + 1) r d l a' b' hr (fun p hp => hb p (by simp only [nL, List.mem_append]; exact .inr hp)) hl
   split at h
   ·rename_i hmut
    split at h
    ·rename_i sz' es' ho
     simp only [Option.some.injEq, Prod.mk.injEq] at h; obtain ⟨rfl, rfl, rfl⟩ := h
     simp only [cY] at hv
     obtain ⟨l0, rfl, hc, hO⟩ := hv
     have hl0 := hb (bJ j, l0) (by simp [nL, asg])
     simp only at hl0
     have hp := hpin (bJ j) _ (i8 j) ho
     rw [hl0] at hp
     have hO' := hV.objs (bJ j) _ ho
     have he : β (bJ j) = l0 := by
      obtain ⟨p1, p2, p3, p4⟩ := hp
      obtain ⟨q1, q2, q3, q4, q5, q6, q7, q8, q9⟩ := hO'
      obtain ⟨r1, r2, r3, r4, r5, r6, r7, r8, r9⟩ := hO
      have hk : (β (bJ j)).k = l0.k := by rw [q5, r5, p3, <- q1, <- r1, p4]
      have hx : (β (bJ j)).ext = l0.ext := by rw [q6.1, r6.1]
      generalize β (bJ j) = lx at p1 p2 p3 p4 hk hx
      cases lx; cases l0
      simp only at p1 p2 p3 p4 hk hx
      subst p1; subst p2; subst p3; subst p4; subst hk; subst hx; rfl
     have hsz : sz' = sz := by rw [he] at hO'; exact hO'.1.symm.trans hO.1
     subst hsz
     rw [he] at hO'
     have hF : ∀ x y, l0.F x y -> (β (bJ j)).F x y := fun x y h => by rw [he]; exact h
     refine ⟨.one l0 :: lfs, bJ j :: js, ?_, ?_, ?_, ?_, ?_⟩
     ·simp only [cX]
      exact ⟨_, r, c, d, rfl, rfl, by rw [if_pos hmut]; exact ⟨es', l, lfs, rfl, rfl, by simp only [cY]; exact ⟨l0, rfl, hc, hO'⟩, k1⟩⟩
     ·exact (List.Perm.cons _ k2).trans (List.perm_middle.symm)
     ·simp only [LT.locsL, LT.locs]; exact bK.cons ⟨⟨_, ho⟩, hF⟩ k3
     ·simp only [bQ]; exact k4
     ·simp only [fe]
      rw [if_pos hmut]
      simp only [LT.locs]
      exact jW.cons ⟨⟨_, ho⟩, hF⟩ k5
    ·exact absurd h (by simp)
   ·rename_i hmut
    simp only [Option.some.injEq, Prod.mk.injEq] at h; obtain ⟨rfl, rfl, rfl⟩ := h
    exact ⟨lfs, js, by simp only [cX]; exact ⟨t, r, c, d, rfl, rfl, by rw [if_neg hmut]; exact k1⟩, k2, k3, k4, by simp only [fe]; rw [if_neg hmut]; exact k5⟩
  ·exact absurd h (by simp)
 | .ptr cells :: as, ms, j, ts, cs, fs, a, b, hT, hb, h => by
  simp only [aX] at hT
  obtain ⟨t, r, c, d, rfl, rfl, hv, hr⟩ := hT
  simp only [ii] at h
  split at h
  ·rename_i x a1 b1 l a2 b2 hx hl
   simp only [Option.some.injEq, Prod.mk.injEq] at h; obtain ⟨rfl, rfl, rfl⟩ := h
   obtain ⟨lfs, js, k1, k2, k3, k4, k5⟩ := iY hV hpin as ms.tail (j + 1) r d l a2 b2 hr (fun p hp => hb p (by simp only [nL, List.mem_append]; exact .inr hp)) hl
   have hb' : ∀ p ∈ asg bn (bJ j) t, β0 p.1 = p.2 := fun p hp => hb p (by simp only [nL, List.mem_append]; exact .inl hp)
   have hc : aL β w M (.addr (bJ j) 0 0) c := by
    simp only [cY] at hv
    obtain ⟨l0, subs, b3, o3, rfl, h1, _, _, h4, _⟩ := hv
    have hl0 := hb' (bJ j, l0) (by simp [asg])
    simp only at hl0
    have ho : ∃ o, V.obj (bJ j) = some o := by
     simp only [fN] at hx
     split at hx
     ·rename_i ho; exact ⟨_, ho⟩
     ·exact absurd hx (by simp)
    obtain ⟨o, ho⟩ := ho
    have hp := hpin (bJ j) _ (i8 j) ho
    rw [hl0] at hp
    simp only [aL]
    exact ⟨b3, o3, hp.1.trans h1, by simpa using h4⟩
   obtain ⟨⟨_, hsh⟩, lf, js1, m1, m2, m3, m4, m5, m6⟩ := lO hV hpin (.ptr cells) (bJ j) t c c x a1 b1 (i8 j) hv hb' hc hx
   have hLF : bQ (x :: l) (lf :: lfs) = lf.loose ++ bQ l lfs := by
    rcases hsh with ⟨bs, rfl, _⟩ | ⟨cs', rfl, _⟩ <;> rfl
   refine ⟨lf :: lfs, js1 ++ js, ?_, (List.Perm.append m3 k2).trans (sM ..), by simp only [LT.locsL]; exact m4.append k3, by rw [hLF]; exact m5.append k4, by simp only [fe]; exact m6.append k5⟩
   simp only [cX]; exact ⟨t, r, c, d, rfl, rfl, x, l, lf, lfs, rfl, rfl, m1, m2, k1⟩
  ·exact absurd h (by simp)
 | .bld s :: as, ms, j, ts, cs, fs, a, b, hT, hb, h => by
  simp only [aX] at hT
  obtain ⟨t, r, c, d, rfl, rfl, hv, hr⟩ := hT
  simp only [ii] at h
  split at h
  ·rename_i x a1 b1 l a2 b2 hx hl
   simp only [Option.some.injEq, Prod.mk.injEq] at h; obtain ⟨rfl, rfl, rfl⟩ := h
   obtain ⟨lfs, js, k1, k2, k3, k4, k5⟩ := iY hV hpin as ms.tail (j + 1) r d l a2 b2 hr (fun p hp => hb p (by simp only [nL, List.mem_append]; exact .inr hp)) hl
   have hb' : ∀ p ∈ asg bn (bJ j) t, β0 p.1 = p.2 := fun p hp => hb p (by simp only [nL, List.mem_append]; exact .inl hp)
   have hc : aL β w M (.addr (bJ j) 0 0) c := by
    simp only [cY] at hv
    obtain ⟨l0, b3, o3, rfl, h1, h4, _⟩ := hv
    have hl0 := hb' (bJ j, l0) (by simp [asg])
    simp only at hl0
    have ho : ∃ o, V.obj (bJ j) = some o := by
     simp only [fN] at hx
     split at hx
     ·rename_i ho; exact ⟨_, ho⟩
     ·exact absurd hx (by simp)
    obtain ⟨o, ho⟩ := ho
    have hp := hpin (bJ j) _ (i8 j) ho
    rw [hl0] at hp
    simp only [aL]
    exact ⟨b3, o3, hp.1.trans h1, by simpa using h4⟩
   obtain ⟨⟨_, hsh⟩, lf, js1, m1, m2, m3, m4, m5, m6⟩ := lO hV hpin (.bld s) (bJ j) t c c x a1 b1 (i8 j) hv hb' hc hx
   have hLF : bQ (x :: l) (lf :: lfs) = lf.loose ++ bQ l lfs := by
    rcases hsh with ⟨bs, rfl, _⟩ | ⟨cs', rfl, _⟩ <;> rfl
   refine ⟨lf :: lfs, js1 ++ js, ?_, (List.Perm.append m3 k2).trans (sM ..), by simp only [LT.locsL]; exact m4.append k3, by rw [hLF]; exact m5.append k4, by simp only [fe]; exact m6.append k5⟩
   simp only [cX]; exact ⟨t, r, c, d, rfl, rfl, x, l, lf, lfs, rfl, rfl, m1, m2, k1⟩
  ·exact absurd h (by simp)
theorem sC : ∀ {as : List TV} {ms : List Mode} {ts : List LT} {cs : List Value}, aX w M as ts cs -> ∀ l ∈ LT.locsL ts, l ∈ cD ms as ts ∨ l ∈ fe ms as ts
 | [], ms, ts, cs, h, l, hl => by simp only [aX] at h; obtain ⟨rfl, rfl⟩ := h; simp [LT.locsL] at hl
 | v :: as, ms, ts, cs, h, l, hl => by
  simp only [aX] at h
  obtain ⟨t, r, c, d, rfl, rfl, hv, hr⟩ := h
  simp only [LT.locsL, List.mem_append] at hl
  have ih := fun hl => sC (ms := ms.tail) hr l hl
  cases v with
  | pv x =>
   simp only [cY] at hv
   simp only [cD, fe, List.mem_append]
   rcases hl with hl | hl
   ·rw [hv.1] at hl; simp [LT.locs] at hl
   ·exact (ih hl).imp .inr id
  | own sz es =>
   simp only [cD, fe, List.mem_append]
   rcases hl with hl | hl
   ·by_cases hm : ms.headD .borrow = .mut
    ·exact .inr (.inl (by rw [if_pos hm]; exact hl))
    ·exact .inl (.inl (by rw [if_neg hm]; exact hl))
   ·exact (ih hl).imp .inr .inr
  | ptr cells =>
   simp only [cD, fe, List.mem_append]
   rcases hl with hl | hl
   ·exact ((LT.mem_locs t l).1 hl).imp .inl .inl
   ·exact (ih hl).imp .inr .inr
  | bld s =>
   simp only [cD, fe, List.mem_append]
   rcases hl with hl | hl
   ·exact ((LT.mem_locs t l).1 hl).imp .inl .inl
   ·exact (ih hl).imp .inr .inr
end
end Go.Proofs.YtcoikmicjbppmaaGreat.Vm
namespace Go.Proofs.YtcoikmicjbppmaaGreat.Vm
open Go
set_option linter.unusedVariables false
set_option linter.unusedSimpArgs false
def tM (fn : Func) : Bool := !(fn.name == "runtime.NumGoroutine") && (match fn.body with | some c => df fn.ntmps c | none => true)
def og (P : Program) : Bool := P.funcs.toList.all tM
theorem sO {P : Program} (h : og P = true) {f : FuncId} {fn : Func} (hf : P.funcs[f]? = some fn) : tM fn = true := by
 simp only [og, List.all_eq_true] at h
 exact h fn (List.mem_of_getElem? (i := f) (by simpa using hf))
theorem ng {P : Program} (h : og P = true) {f : FuncId} {fn : Func} {c : Code} (hf : P.funcs[f]? = some fn) (hb : fn.body = some c) (args : Array Value) (w : World) : (callFunc f args).run P w = .ok (.enter f args) w := by
 have h1 := sO h hf
 simp only [tM, Bool.and_eq_true, Bool.not_eq_true'] at h1
 have h2 : ¬ fn.name = "runtime.NumGoroutine" := by simpa using h1.1
 unfold callFunc
 simp [program, Sem.run, hf, h2, hb]
section
variable {C : Cx} {M0 : ay} {β0 : Nat -> Loc} {w w' : World} {n : Nat}
theorem Bs {f : FuncId} {fn : Func} {as : List TV} {ts : List LT} {args : List Value} {st : St} {a : Act} {rs fs : List TV} (hH : Handed M0 w as ts args) (hb : ∀ p ∈ nL 0 ts, β0 p.1 = p.2)
  (hI : nJ M0 (fun b j => ∃ l ∈ LT.locsL ts, l.F b j) β0 w n st a w') (h : sA C f fn.results.toList as st = some (rs, fs)) :
  ∃ v, (results fn a.tmps).run C.P w' = .ok v w' /\ Gj (C.modes f) M0 w as ts args rs fs v w' := by
 unfold sA at h
 split at h
 ·rename_i s hs
  have hpass : ∀ (rv : List ResultVar) {st s : St}, m9 C rv st = some s -> fv M0 a.tmps w' st s := by
   intro rv
   induction rv with
   | nil => intro st s h; simp only [m9, Option.some.injEq] at h; subst h; exact fv.refl _
   | cons x r ih =>
    intro st s h
    simp only [m9] at h
    split at h
    ·rename_i s1 h1
     exact (kw h1).trans (ih h)
    ·exact absurd h (by simp)
  obtain ⟨M, β, hS, hFr, hM, hn, hdef, hpin⟩ := nJ.step hI (hpass _ hs)
  split at h
  ·rename_i rs' i1 fs' i2 i3 hr hf
   split at h
   ·rename_i hnd
    simp only [Option.some.injEq, Prod.mk.injEq] at h; obtain ⟨rfl, rfl⟩ := h
    have hnd := kt hnd
    obtain ⟨vs, lrs, js, r1, r2, r3, r4, r5⟩ := sQ hS.1 _ _ _ hr
    obtain ⟨lfs, js', f1, f2, f3, f4, f5⟩ := iY hS.1 (fun id o hid ho => hpin id o hid ho) as (C.modes f) 0 ts args fs' i2 i3 hH.tv hb hf
    refine ⟨rt vs, wy (sE _ _ r1 r2), vs, lrs, lfs, rfl, ?_⟩
    have hjs : (js ++ js').Perm (i1 ++ (i2 ++ i3)) := List.Perm.append r4 f2
    have hO : bK s.view β (LT.locsL (lrs ++ lfs)) (js ++ js') := by rw [jB]; exact r5.append f3
    have hMx : ∀ b j, cellsOf M0 (LT.locsL (lrs ++ lfs)) b j -> M b j := by
     rintro b j (h | ⟨l, hl, hF⟩)
     ·exact hS.1.sup b j h
     ·obtain ⟨i, hi, ⟨o, ho⟩, hF'⟩ := hO.mem l hl b j hF
      exact (hS.1.own i o ho b j hF').1
    have hcell : ∀ i, (∃ o, s.view.obj i = some o) -> ∀ b j, (β i).F b j -> ¬ M0 b j /\ b < w'.heap.size /\ (w.heap.size <= b ∨ ∃ l0 ∈ LT.locsL ts, l0.F b j) := by
     rintro i ⟨o, ho⟩ b j hF
     have := hS.1.own i o ho b j hF
     refine ⟨this.2, hS.1.old b j this.1, ?_⟩
     rcases hM b j this.1 with h | h | h
     ·exact absurd h this.2
     ·exact .inr h
     ·exact .inl h
    have hloose : ∀ i, (∃ o, s.view.obj i = some o) -> i ∉ i3 -> ∀ b j, (β i).F b j -> w.heap.size <= b ∨ ∃ l0 ∈ cD (C.modes f) as ts, l0.F b j := by
     intro i hi hn3 b j hF
     rcases (hcell i hi b j hF).2.2 with h | ⟨l0, hl0, hF0⟩
     ·exact .inl h
     ·rcases sC (ms := C.modes f) hH.tv l0 hl0 with h | h
      ·exact .inr ⟨l0, h, hF0⟩
      ·obtain ⟨k, hk, ⟨o', ho'⟩, hF'⟩ := f5 l0 h b j hF0
       obtain ⟨o, ho⟩ := hi
       exact absurd hF' (hS.1.disj i k o o' ho ho' (fun e => hn3 (e ▸ hk)) b j hF)
    refine ⟨aX.imp (fun v _ t c h => cY.sub hMx h) r3, cX.imp (fun v _ t c h => cY.sub hMx h) f1, bK.pairwise hS.1 hO (hjs.symm.nodup hnd), fun l hl b j hF => ?_, fun l hl b j hF => ?_, hFr⟩
    ·obtain ⟨i, hi, ho, hF'⟩ := hO.mem l hl b j hF
     exact hcell i ho b j hF'
    ·obtain ⟨n1, n2, n3⟩ := List.nodup_append.1 hnd
     obtain ⟨n4, n5, n6⟩ := List.nodup_append.1 n2
     rcases List.mem_append.1 hl with hl | hl
     ·obtain ⟨i, hi, ho, hF'⟩ := r5.mem l hl b j hF
      exact hloose i ho (fun h3 => n3 i (r4.subset hi) i (List.mem_append.2 (.inr h3)) rfl) b j hF'
     ·obtain ⟨i, hi, ho, hF'⟩ := f4 l hl b j hF
      exact hloose i ho (fun h3 => n6 i hi i h3 rfl) b j hF'
   ·exact absurd h (by simp)
  ·exact absurd h (by simp)
 ·exact absurd h (by simp)
theorem ve (hext : ∀ f g as rs fs, C.ext f = some g -> g as = some (rs, fs) -> br C.P (C.modes f) f as rs fs) (hprog : og C.P = true) (hmix : C.P.follows .mixedOrders = true) :
  ∀ (k : Nat) (f : FuncId) (as rs fs : List TV), cS C k f as = some (rs, fs) -> br C.P (C.modes f) f as rs fs
 | 0, f, as, rs, fs, h => by simp [cS] at h
 | k + 1, f, as, rs, fs, h => by
  simp only [cS] at h
  split at h
  ·rename_i g hg
   exact hext f g as rs fs hg h
  ·split at h
   ·exact absurd h (by simp)
   ·rename_i fn hfn
    split at h
    ·exact absurd h (by simp)
    ·rename_i c hc
     split at h
     ·rename_i hlen
      split at h
      ·rename_i s hs
       split at h
       ·rename_i e st hbody
        split at h
        ·rename_i he
         intro M0 w ts args hH
         unfold cT
         rw [ng hprog hfn hc]
         simp only
         have hal := aX.length hH.tv
         let tm : Array Value := args.toArray ++ Array.replicate (fn.ntmps - args.toArray.size) undef
         have hM0 : ∀ b j, M0 b j -> cellsOf M0 (LT.locsL ts) b j := fun b j h => .inl h
         have hS0 : SR M0 (cellsOf M0 (LT.locsL ts)) (fun _ => ⟨none, 0, 0, 0, 0, none⟩) ⟨[], []⟩ tm w := by
          refine ⟨⟨hM0, ?_, fun t => ?_, fun id o ho => ?_, fun id o ho => ?_, fun id id' o o' ho => ?_⟩, fun t i hi => ?_, fun id o ho => ?_⟩
          ·rintro b j (h | ⟨l, hl, hF⟩)
           ·exact hH.old b j h
           ·exact (hH.out l hl b j hF).2
          ·show aL _ w _ .undef _
           simp only [aL]
          ·have : (none : Option Obj) = some o := ho; simp at this
          ·have : (none : Option Obj) = some o := ho; simp at this
          ·have : (none : Option Obj) = some o := ho; simp at this
          ·have hi' : i ∈ AV.refs .undef := hi
           simp [AV.refs] at hi'
          ·have : (none : Option Obj) = some o := ho; simp at this
         obtain ⟨β', k1, k2, k3, k4⟩ := vm as 0 ts args _ _ s hS0 hH.tv (fun j cc hj => by
           have hlt := (List.getElem?_eq_some_iff.1 hj).1
           simp only [tm, Nat.zero_add, Array.getD_eq_getD_getElem?]
           rw [Array.getElem?_append_left (by simpa using hlt)]
           simp [hj])
          (fun l hl b x hF => ⟨.inr ⟨l, hl, hF⟩, (hH.out l hl b x hF).1⟩) hH.apart (fun id o ho => by have : (none : Option Obj) = some o := ho; simp at this) hs
         have hsz : tm.size = fn.ntmps := by simp [tm]; omega
         have hI : nJ M0 (fun b j => ∃ l ∈ LT.locsL ts, l.F b j) β' w fn.ntmps s ⟨tm, []⟩ w := by
          refine ⟨_, β', k1, Fr.refl _ _, fun b j hb => ?_, hsz, rfl, fun id o _ _ => Loc.same_refl _⟩
          rcases hb with h | h
          ·exact .inl h
          ·exact .inr (.inl h)
         have hdo : df fn.ntmps c = true := by
          have := sO hprog hfn
          simp only [tM, hc, Bool.and_eq_true] at this
          exact this.2
         refine calls_of_wp hfn hc (wp_mono (DI (ve hext hprog hmix k) hmix hbody hdo hI) ?_)
         rintro e' a' w' ⟨rfl, hI'⟩
         obtain ⟨v, h1, h2⟩ := Bs hH k4 hI' h
         have hd : a'.defers = [] := by obtain ⟨_, _, _, _, _, _, hd, _⟩ := hI'; exact hd
         rcases he with he | he
         ·subst he
          exact ⟨hd, v, h1, v, rfl, h2⟩
         ·subst he
          exact ⟨hd, v, h1, v, rfl, h2⟩
        ·exact absurd h (by simp)
       ·exact absurd h (by simp)
      ·exact absurd h (by simp)
     ·exact absurd h (by simp)
end
end Go.Proofs.YtcoikmicjbppmaaGreat.Vm
namespace Go.Proofs.YtcoikmicjbppmaaGreat.Vm
open Go
set_option linter.unusedVariables false
set_option linter.unusedSimpArgs false
def Le (call call' : FuncId -> List TV -> Option (RT)) : Prop := ∀ f xs r, call f xs = some r -> call' f xs = some r
section
variable {C : Cx} {call call' : FuncId -> List TV -> Option (RT)}
theorem Ab (h : Le call call') {d : Nat} {c : Call} {V : View} {m : Made} (k : gw C call d c V = some m) : gw C call' d c V = some m := by
 unfold gw at k ⊢
 split at k
 ·split at k
  ·split at k
   ·split at k
    ·rename_i hc
     split at k
     ·rename_i rs fs hr
      simp only [hc, if_true, h _ _ _ hr]; exact k
     ·exact absurd k (by simp)
    ·exact absurd k (by simp)
   ·exact absurd k (by simp)
  ·exact absurd k (by simp)
 ·exact absurd k (by simp)
theorem pz (h : Le call call') {o : Oper} {V : View} {m : Made} (k : fC C call o V = some m) : fC C call' o V = some m := by
 unfold fC at k ⊢
 simp only at k ⊢
 split at k
 ·exact Ab h k
 ·exact k
theorem yv (h : Le call call') {pl : List Nat} {o : Oper} {st s : St} (k : wh C call pl o st = some s) : wh C call' pl o st = some s := by
 unfold wh at k ⊢
 split at k
 ·split at k
  ·rename_i hm
   simp only [pz h hm]; exact k
  ·exact absurd k (by simp)
 ·exact absurd k (by simp)
theorem mW (h : Le call call') {all : List Oper} {pl : List Nat} : ∀ {l : List Oper} {st s : St}, i7 C call all pl l st = some s -> i7 C call' all pl l st = some s
 | [], st, s, k => by simpa only [i7] using k
 | o :: r, st, s, k => by
  simp only [i7] at k ⊢
  split at k
  ·split at k
   ·rename_i ho
    simp only [yv h ho]; exact mW h k
   ·exact absurd k (by simp)
  ·exact mW h k
  ·exact absurd k (by simp)
theorem nq (h : Le call call') {all : List Oper} {pl : List Nat} {ob : Nat -> Option Obj} : ∀ {l : List Oper} {i : Nat} {done : List Done} {st : St} {d : List Done × St}, iL C call all pl ob l i done st = some d -> iL C call' all pl ob l i done st = some d
 | [], i, done, st, d, k => by simpa only [iL] using k
 | o :: r, i, done, st, d, k => by
  simp only [iL] at k ⊢
  split at k
  ·rename_i hb
   rw [if_pos hb]
   split at k
   ·split at k
    ·rename_i hp
     rw [if_pos hp]
     split at k
     ·rename_i hm
      simp only [pz h hm]
      split at k
      ·rename_i hc; rw [if_pos hc]; exact nq h k
      ·exact absurd k (by simp)
     ·exact absurd k (by simp)
    ·exact absurd k (by simp)
   ·exact nq h k
   ·exact absurd k (by simp)
  ·exact absurd k (by simp)
theorem zq (h : Le call call') {ops : Array Oper} {pre : List Nat} {draw : Bool} {st s : St} (k : region C call ops pre draw st = some s) : region C call' ops pre draw st = some s := by
 unfold region at k ⊢
 simp only at k ⊢
 cases draw with
 | true =>
  simp only [if_true] at k ⊢
  split at k
  ·rename_i hn
   rw [if_pos hn]
   split at k
   ·rename_i hf
    simp only [nq h hf]
    exact k
   ·exact absurd k (by simp)
  ·exact absurd k (by simp)
 | false => exact mW h k
def MU (ag ag' : Code -> Code -> St -> Option (Ex × St)) : Prop := ∀ b c s r, ag b c s = some r -> ag' b c s = some r
theorem ks {body body' : St -> Option (Ex × St)} (h : ∀ s r, body s = some r -> body' s = some r) : ∀ {n m : Nat} {st : St} {r : Ex × St}, n <= m -> jQ body n st = some r -> jQ body' m st = some r
 | 0, m, st, r, _, k => by simp [jQ] at k
 | n + 1, 0, st, r, hm, k => by omega
 | n + 1, m + 1, st, r, hm, k => by
  simp only [jQ] at k ⊢
  split at k
  ·rename_i hb
   rw [h _ _ hb]; exact ks h (by omega) k
  ·rename_i hne
   have hb := h _ _ k
   rw [hb]
   obtain ⟨e, s⟩ := r
   cases e with
   | normal => exact absurd k (hne s)
   | _ => rfl
theorem eo (h : Le call call') {f : FuncId} {k k' : Nat} (hk : k <= k') {ag ag' : Code -> Code -> St -> Option (Ex × St)} (ha : MU ag ag') : ∀ (c : Code) (st : St) (r : Ex × St), code C call f k ag c st = some r -> code C call' f k' ag' c st = some r
 | .skip, st, r, e => by simpa only [code] using e
 | .label l, st, r, e => by simpa only [code] using e
 | .region id ops draw, st, r, e => by
  simp only [code] at e ⊢
  split at e
  ·split at e
   ·rename_i hr
    simp only [zq h hr]; exact e
   ·exact absurd e (by simp)
  ·exact absurd e (by simp)
 | .seq a b, st, r, e => by
  simp only [code] at e ⊢
  split at e
  ·rename_i s hs
   rw [eo h hk ha a _ _ hs]
   exact eo h hk ha b _ _ e
  ·rename_i hne
   rw [eo h hk ha a _ _ e]
   obtain ⟨x, s⟩ := r
   cases x with
   | normal => exact absurd e (hne s)
   | _ => rfl
 | .cond c a b, st, r, e => by
  simp only [code] at e ⊢
  split at e
  ·rename_i t ht
   cases t with
   | true => exact eo h hk ha a _ _ e
   | false => exact eo h hk ha b _ _ e
  ·exact absurd e (by simp)
 | .block id b, st, r, e => by
  simp only [code] at e ⊢
  split at e
  ·rename_i i s hs
   rw [eo h hk ha b _ _ hs]; exact e
  ·rename_i hne
   rw [eo h hk ha b _ _ e]
   obtain ⟨x, s⟩ := r
   cases x with
   | exit i => exact absurd e (hne i s)
   | _ => rfl
 | .loop b, st, r, e => by
  simp only [code] at e ⊢
  refine ks (fun s r hs => ?_) hk e
  split at hs
  ·exact eo h hk ha b _ _ hs
  ·exact absurd hs (by simp)
 | .scope b, st, r, e => by
  simp only [code] at e ⊢
  unfold kh at e ⊢
  split at e
  ·rename_i l s hs
   rw [eo h hk ha b _ _ hs]
   simp only
   split at e
   ·exact ha _ _ _ _ e
   ·exact absurd e (by simp)
  ·rename_i hne
   rw [eo h hk ha b _ _ e]
   obtain ⟨x, s⟩ := r
   cases x with
   | goto l => exact absurd e (hne l s)
   | _ => rfl
 | .exit id, st, r, e => by simpa only [code] using e
 | .goto l, st, r, e => by simpa only [code] using e
 | .ret, st, r, e => by simpa only [code] using e
 | .rangeFunc _ _ _ _, st, r, e => by simp [code] at e
 | .refuse _, st, r, e => by simp [code] at e
theorem kM (h : Le call call') {f : FuncId} {k k' : Nat} (hk : k <= k') : ∀ {n n' : Nat}, n <= n' -> MU (eP C call f k n) (eP C call' f k' n')
 | 0, n', _ => by intro b c s r e; simp [eP] at e
 | n + 1, 0, hn => by omega
 | n + 1, n' + 1, hn => by
  intro b c s r e
  have ih := kM (f := f) h hk (show n <= n' by omega)
  simp only [eP] at e ⊢
  unfold kh at e ⊢
  split at e
  ·rename_i l s' hs
   rw [eo h hk ih c _ _ hs]
   simp only
   split at e
   ·exact ih _ _ _ _ e
   ·exact absurd e (by simp)
  ·rename_i hne
   rw [eo h hk ih c _ _ e]
   obtain ⟨x, s⟩ := r
   cases x with
   | goto l => exact absurd e (hne l s)
   | _ => rfl
theorem yP (h : Le call call') {f : FuncId} {k k' : Nat} (hk : k <= k') {c : Code} {st : St} {r : Ex × St} (e : p8 C call f k c st = some r) : p8 C call' f k' c st = some r :=
 eo h hk (kM h hk hk) c st r e
end
theorem ff {C : Cx} : ∀ {k k' : Nat}, k <= k' -> Le (cS C k) (cS C k')
 | 0, k', _ => by intro f xs r e; simp [cS] at e
 | k + 1, 0, hk => by omega
 | k + 1, k' + 1, hk => by
  intro f xs r e
  have hk : k <= k' := by omega
  simp only [cS] at e ⊢
  split at e
  ·exact e
  ·split at e
   ·exact absurd e (by simp)
   ·split at e
    ·exact absurd e (by simp)
    ·split at e
     ·rename_i hl
      rw [if_pos hl]
      split at e
      ·split at e
       ·rename_i hb
        simp only [yP (ff hk) hk hb]; exact e
       ·exact absurd e (by simp)
      ·exact absurd e (by simp)
     ·exact absurd e (by simp)
def Ev (C : Cx) (f : FuncId) (xs : List TV) (r : RT) : Prop := ∃ k, ∀ j, k <= j -> cS C j f xs = some r
theorem Ev.of {C : Cx} {k : Nat} {f : FuncId} {xs : List TV} {r : RT} (h : cS C k f xs = some r) : Ev C f xs r := ⟨k, fun j hj => ff hj f xs r h⟩
theorem Ev.get {C : Cx} {f : FuncId} {xs : List TV} {r : RT} (h : Ev C f xs r) : ∃ k, cS C k f xs = some r := let ⟨k, h⟩ := h; ⟨k, h k (Nat.le_refl _)⟩
end Go.Proofs.YtcoikmicjbppmaaGreat.Vm
namespace Go.Proofs.YtcoikmicjbppmaaGreat.Vm
open Go
set_option linter.unusedVariables false
set_option linter.unusedSimpArgs false
inductive H where
 | auto
 | n (k : Nat) (h : H)
 | s (h : H)
 | b (x y : H)
 | r (k : Nat) (h : H)
def my (p : Prop) [Decidable p] (K : H -> Prop) : H -> Prop
 | .auto => if p then K .auto else False
 | .n 0 h => my p K h
 | .n (k + 1) h => if p then K (.n k h) else False
 | .s h => p /\ K h
 | .b _ _ => False
 | .r _ _ => False
theorem dt {p : Prop} [Decidable p] {K : H -> Prop} : ∀ {h : H}, my p K h -> p /\ ∃ h', K h'
 | .auto, k => by
  simp only [my] at k
  split at k
  ·rename_i hp; exact ⟨hp, _, k⟩
  ·exact k.elim
 | .n 0 h, k => dt (h := h) (by simpa only [my] using k)
 | .n (j + 1) h, k => by
  simp only [my] at k
  split at k
  ·rename_i hp; exact ⟨hp, _, k⟩
  ·exact k.elim
 | .s h, k => ⟨k.1, _, k.2⟩
 | .b _ _, k => by simp [my] at k
 | .r _ _, k => by simp [my] at k
def rE (b : Bool) (K : H -> Bool -> Prop) : H -> Prop
 | .auto => (match b with | true => K .auto true | false => K .auto false)
 | .n 0 h => rE b K h
 | .n (k + 1) h => (match b with | true => K (.n k h) true | false => K (.n k h) false)
 | .s h => b = true /\ K h true
 | .b x y => (b = true -> K x true) /\ (b = false -> K y false)
 | .r _ _ => False
theorem kX {b : Bool} {K : H -> Bool -> Prop} : ∀ {h : H}, rE b K h -> ∃ h', K h' b
 | .auto, k => by cases b <;> exact ⟨_, k⟩
 | .n 0 h, k => kX (h := h) (by simpa only [rE] using k)
 | .n (j + 1) h, k => by cases b <;> exact ⟨_, k⟩
 | .s h, k => by
  obtain ⟨h1, h2⟩ := k
  subst h1
  exact ⟨_, h2⟩
 | .b x y, k => by
  cases b
  ·exact ⟨_, k.2 rfl⟩
  ·exact ⟨_, k.1 rfl⟩
 | .r _ _, k => by simp [rE] at k
def mI (P : Program) : List TypeId -> (List PV -> Prop) -> Prop
 | [], K => K []
 | t :: ts, K => match P.underlying t with
  | some (.int k) => ∃ n : Int, mI P ts fun l => K (.int k n :: l)
  | some .bool => ∃ b : Bool, mI P ts fun l => K (.bool b :: l)
  | some .string => ∃ s : BS, mI P ts fun l => K (.str s :: l)
  | some (.slice _) => ∃ es : LP, mI P ts fun l => K (.sl es :: l)
  | _ => ∃ x : PV, mI P ts fun l => K (x :: l)
theorem qg {P : Program} : ∀ {ts : List TypeId} {K : List PV -> Prop}, mI P ts K -> ∃ l, K l
 | [], K, h => ⟨_, h⟩
 | t :: ts, K, h => by
  simp only [mI] at h
  split at h <;> (obtain ⟨x, h⟩ := h; obtain ⟨l, h⟩ := qg h; exact ⟨_, h⟩)
def o5 (P : Program) (es : LP) (i off n : Nat) (ts : List TypeId) (K : H -> List PV -> Prop) : H -> Prop
 | .auto => (match es[i]? with | some c => if off + n <= c.length then K .auto ((c.drop off).take n) else False | none => False)
 | .n 0 h => o5 P es i off n ts K h
 | .n (k + 1) h => (match es[i]? with | some c => if off + n <= c.length then K (.n k h) ((c.drop off).take n) else False | none => False)
 | .s h => ∃ c, es[i]? = some c /\ off + n <= c.length /\ mI P ts fun l => (c.drop off).take n = l /\ K h l
 | .b _ _ => False
 | .r _ _ => False
theorem wM {P : Program} {es : LP} {i off n : Nat} {ts : List TypeId} {K : H -> List PV -> Prop} : ∀ {h : H}, o5 P es i off n ts K h -> ∃ c, es[i]? = some c /\ off + n <= c.length /\ ∃ h', K h' ((c.drop off).take n)
 | .auto, k => by
  simp only [o5] at k
  split at k
  ·rename_i c hc
   split at k
   ·rename_i hp; exact ⟨c, hc, hp, _, k⟩
   ·exact k.elim
  ·exact k.elim
 | .n 0 h, k => wM (h := h) (by simpa only [o5] using k)
 | .n (j + 1) h, k => by
  simp only [o5] at k
  split at k
  ·rename_i c hc
   split at k
   ·rename_i hp; exact ⟨c, hc, hp, _, k⟩
   ·exact k.elim
  ·exact k.elim
 | .s h, k => by
  obtain ⟨c, k1, k2, k3⟩ := k
  obtain ⟨l, rfl, k4⟩ := qg k3
  exact ⟨c, k1, k2, _, k4⟩
 | .b _ _, k => by simp [o5] at k
 | .r _ _, k => by simp [o5] at k
def oZ (P : Program) (es : LP) (i n : Nat) (ts : List TypeId) (K : H -> List PV -> Prop) : H -> Prop
 | .auto => (match es[i]? with | some c => if c.length = n then K .auto c else False | none => False)
 | .n 0 h => oZ P es i n ts K h
 | .n (k + 1) h => (match es[i]? with | some c => if c.length = n then K (.n k h) c else False | none => False)
 | .s h => mI P ts fun l => es[i]? = some l /\ (if l.length = n then K h l else False)
 | .b _ _ => False
 | .r _ _ => False
theorem wL {P : Program} {es : LP} {i n : Nat} {ts : List TypeId} {K : H -> List PV -> Prop} : ∀ {h : H}, oZ P es i n ts K h -> ∃ c, es[i]? = some c /\ c.length = n /\ ∃ h', K h' c
 | .auto, k => by
  simp only [oZ] at k
  split at k
  ·rename_i c hc
   split at k
   ·rename_i hp; exact ⟨c, hc, hp, _, k⟩
   ·exact k.elim
  ·exact k.elim
 | .n 0 h, k => wL (h := h) (by simpa only [oZ] using k)
 | .n (j + 1) h, k => by
  simp only [oZ] at k
  split at k
  ·rename_i c hc
   split at k
   ·rename_i hp; exact ⟨c, hc, hp, _, k⟩
   ·exact k.elim
  ·exact k.elim
 | .s h, k => by
  obtain ⟨l, k1, k2⟩ := qg k
  split at k2
  ·rename_i hp; exact ⟨l, k1, hp, _, k2⟩
  ·exact k2.elim
 | .b _ _, k => by simp [oZ] at k
 | .r _ _, k => by simp [oZ] at k
def uH {α : Type} (es : List α) (i : Nat) (K : H -> α -> Prop) : H -> Prop
 | .auto => (match es[i]? with | some c => K .auto c | none => False)
 | .n 0 h => uH es i K h
 | .n (k + 1) h => (match es[i]? with | some c => K (.n k h) c | none => False)
 | .s h => ∃ c, es[i]? = some c /\ K h c
 | .b _ _ => False
 | .r _ _ => False
theorem uI {α : Type} {es : List α} {i : Nat} {K : H -> α -> Prop} : ∀ {h : H}, uH es i K h -> ∃ c, es[i]? = some c /\ ∃ h', K h' c
 | .auto, k => by
  simp only [uH] at k
  split at k
  ·rename_i c hc; exact ⟨c, hc, _, k⟩
  ·exact k.elim
 | .n 0 h, k => uI (h := h) (by simpa only [uH] using k)
 | .n (j + 1) h, k => by
  simp only [uH] at k
  split at k
  ·rename_i c hc; exact ⟨c, hc, _, k⟩
  ·exact k.elim
 | .s h, k => by
  obtain ⟨c, k1, k2⟩ := k
  exact ⟨c, k1, _, k2⟩
 | .b _ _, k => by simp [uH] at k
 | .r _ _, k => by simp [uH] at k
abbrev Alts := List (Prop × RT)
abbrev Specs := FuncId -> Option (List TV -> Option Alts)
def aK (C : Cx) (S : Specs) : Prop := ∀ f g, S f = some g -> ∀ as l, g as = some l -> ∀ a ∈ l, a.1 -> Ev C f as a.2
def H.fst : H -> H
 | .b x _ => x
 | .n 0 h => h.fst
 | h => h
def H.snd : H -> H
 | .b _ y => y
 | .n 0 h => h.snd
 | h => h
def aA : Alts -> Prop
 | [] => False
 | [a] => a.1
 | a :: r => a.1 ∨ aA r
def tF (K : H -> QT) : Alts -> H -> Prop
 | [], _ => True
 | a :: r, h => (a.1 -> K h.fst a.2) /\ tF K r h.snd
def C4 (K : H -> QT) : Alts -> H -> Prop
 | [a], h => a.1 /\ K h a.2
 | l, h => aA l /\ tF K l h
theorem sK : ∀ {l : Alts}, aA l -> ∃ a ∈ l, a.1
 | [], h => by simp [aA] at h
 | [a], h => ⟨a, by simp, h⟩
 | a :: b :: r, h => by
  simp only [aA] at h
  rcases h with h | h
  ·exact ⟨a, by simp, h⟩
  ·obtain ⟨c, h1, h2⟩ := sK (l := b :: r) h
   exact ⟨c, by simp [h1], h2⟩
theorem oG {K : H -> QT} : ∀ {l : Alts} {h : H}, tF K l h -> ∀ a ∈ l, a.1 -> ∃ h', K h' a.2
 | [], h, _, a, ha => by simp at ha
 | b :: r, h, k, a, ha => by
  rcases List.mem_cons.1 ha with rfl | ha
  ·exact fun p => ⟨_, k.1 p⟩
  ·exact oG k.2 a ha
theorem C5 {K : H -> QT} {l : Alts} {h : H} (k : C4 K l h) : ∃ a ∈ l, a.1 /\ ∃ h', K h' a.2 := by
 unfold C4 at k
 split at k
 ·exact ⟨_, by simp, k.1, _, k.2⟩
 ·obtain ⟨a, h1, h2⟩ := sK k.1
  exact ⟨a, h1, h2, oG k.2 a h1 h2⟩
section
variable (C : Cx) (S : Specs)
def C6 (f : FuncId) (as : List TV) (K : H -> QT) (h : H) : Prop :=
 match S f with
 | some g => (match g as with | some l => C4 K l h | none => False)
 | none => match cS C 100000 f as with | some r => K h r | none => False
def Gd (lent : List Nat) (rs fs : List TV) (K : H -> List Nat -> Prop) (h : H) : Prop :=
 match lent with
 | [] => K h []
 | l => rE (flatTVs rs && flatTVs fs) (fun h b => K h (if b then [] else l)) h
def xR (d : Nat) (c : Call) (st : View) (K : H -> Made -> Prop) (h : H) : Prop :=
 match g8 st c.callee, cU st c.args.toList with
 | some (f, first, caps), some as => (match C.P.funcs[f]? with
  | some fn => (match iO C.P st (C.modes f) fn.params.toList (first ++ as ++ caps) with
   | some g => if nodup (g.dels ++ Back.idsL g.bs) && nR g.lent (g.dels ++ Back.idsL g.bs) then
     C6 C S f g.vs (fun h r => match bZ g.bs r.2 with
      | some (ws, os) => Gd g.lent r.1 r.2 (fun h fz => K h ⟨(dQ d r.1).1, (dQ d r.1).2 ++ os, ws, [], g.dels, fz⟩) h
      | none => False) h else False
   | none => False)
  | none => False)
 | _, _ => False
def xu : FuncId -> List TV -> Option (RT) := fun _ _ => none
def Bd (o : Oper) (V : View) (K : H -> Made -> Prop) (h : H) : Prop := match fC C xu o V with | some m => K h m | none => False
def jl (lo hi : Option AV) (len : Nat) (K : H -> Nat -> Nat -> Prop) (h : H) : Prop :=
 match (match hi with | none => some (Int.ofNat len) | some h => asInt h), (match lo with | none => some 0 | some l => asInt l) with
 | some b, some a => my (0 <= a /\ a <= b /\ b <= Int.ofNat len) (fun h => K h a.toNat b.toNat) h
 | _, _ => False
def Dj (c a b : Operand) (V : View) (K : H -> Made -> Prop) (h : H) : Prop :=
 match V.eval c with
 | some (.pv (.bool t)) => rE t (fun h t => match V.eval (if t then a else b) with | some v => K h (.only v []) | none => False) h
 | _ => False
def MR (o : Oper) (t : TypeId) (a : Operand) (V : View) (K : H -> Made -> Prop) (h : H) : Prop :=
 match V.eval a with
 | some (.addr id i off) => (match V.obj id with
  | some (.buf _ es) => if iU C.P t = false then False else o5 C.P es i off (ar C.P t) (lg C.P 8 t) (fun h l => match iJ (dC C.P t) l with | some v => K h (.only v []) | none => False) h
  | _ => Bd C o V K h)
 | _ => Bd C o V K h
def IQ (o : Oper) (op : BinOp) (x y : Operand) (V : View) (K : H -> Made -> Prop) (h : H) : Prop :=
 match V.eval x, V.eval y with
 | some (.pv (.int k a)), some (.pv (.int k' b)) => (match op with
  | .quo => if k = k' then my (¬ b = 0) (fun h => K h (.only (.pv (.int k (k.wrap (a.tdiv b)))) [])) h else False
  | .rem => if k = k' then my (¬ b = 0) (fun h => K h (.only (.pv (.int k (a.tmod b))) [])) h else False
  | .shl => my (¬ b < 0) (fun h => K h (.only (.pv (.int k (k.wrap (a * 2 ^ min b.toNat k.bits)))) [])) h
  | .shr => my (¬ b < 0) (fun h => K h (.only (.pv (.int k (a.fdiv (2 ^ min b.toNat k.bits)))) [])) h
  | _ => Bd C o V K h)
 | some (.pv (.str a)), some (.pv (.str b)) => (match op with
  | .add => my (a.length + b.length <= bz) (fun h => K h (.only (.pv (.str (a ++ b))) [])) h
  | _ => Bd C o V K h)
 | _, _ => Bd C o V K h
def xV (t : TypeId) (x : Operand) (lo hi : Option Operand) (V : View) (K : H -> Made -> Prop) (h : H) : Prop :=
 match C.P.underlying t, V.eval x, eX V lo, eX V hi with
 | some .string, some (.pv (.str s)), some l, some r => jl l r s.length (fun h a b => K h (.only (.pv (.str ((s.drop a).take (b - a)))) [])) h
 | some (.slice e), some v, some l, some r => if iU C.P e = false then False else (match v with
  | .pv (.sl es) => my (cg (ar C.P e) es = true) (fun h => jl l r es.length (fun h a b => K h (.only (.pv (.sl ((es.drop a).take (b - a)))) [])) h) h
  | .nilSl => jl l r 0 (fun h a b => K h (.only .nilSl [])) h
  | .own id => (match V.obj id with
   | some (.buf sz es) => if sz = ar C.P e then jl l r es.length (fun h a b => K h (.only (.part id a (b - a)) [])) h else False
   | _ => False)
  | .part id lo n => (match V.obj id with
   | some (.buf sz _) => if sz = ar C.P e then jl l r n (fun h a b => K h (.only (.part id (lo + a) (b - a)) [])) h else False
   | _ => False)
  | _ => False)
 | _, _, _, _ => False
def IR (t : TypeId) (x ix : Operand) (V : View) (K : H -> Made -> Prop) (h : H) : Prop :=
 match ie C.P t, V.eval x, V.eval ix with
 | some e, some (.own id), some (.pv (.int _ i)) => (match V.obj id with
  | some (.buf sz es) => if sz = ar C.P e then my (0 <= i /\ i < es.length) (fun h => K h (.only (.addr id i.toNat 0) [])) h else False
  | _ => False)
 | some e, some (.part id lo n), some (.pv (.int _ i)) => (match V.obj id with
  | some (.buf sz es) => if sz = ar C.P e then my (0 <= i /\ i < n /\ lo + n <= es.length) (fun h => K h (.only (.addr id (lo + i.toNat) 0) [])) h else False
  | _ => False)
 | some e, some (.pv (.sl es)), some (.pv (.int _ i)) => my (0 <= i) (fun h => oZ C.P es i.toNat (ar C.P e) (lg C.P 8 e) (fun h c => K h (.only (.pv (.iptr c)) [])) h) h
 | _, _, _ => False
def MQ (t : TypeId) (x ix : Operand) (V : View) (K : H -> Made -> Prop) (h : H) : Prop :=
 match C.P.underlying t, V.eval x, V.eval ix with
 | some .string, some (.pv (.str s)), some (.pv (.int _ i)) => my (0 <= i) (fun h => uH s i.toNat (fun h b => K h (.only (.pv (.int .u8 b.toNat)) [])) h) h
 | _, _, _ => False
def xW (o : Oper) (t : TypeId) (a x : Operand) (V : View) (K : H -> Made -> Prop) (h : H) : Prop :=
 match V.eval a, V.eval x with
 | some (.addr id i off), some v => (match V.obj id with
  | some (.buf sz es) => if iU C.P t /\ v.fit /\ (cF v).length = ar C.P t then (match qT (cF v) with
   | some l => uH es i (fun h c => my (off + ar C.P t <= c.length) (fun h => K h ⟨.tup [], [], [.buf id sz (es.set i (setFrom off l c))], [], [], []⟩) h) h
   | none => False) else False
  | _ => Bd C o V K h)
 | _, _ => False
def uG (d : Nat) (as : Array Operand) (ts : Array TypeId) (V : View) (K : H -> Made -> Prop) (h : H) : Prop :=
 match as.toList, ts.toList with
 | [x, y], [t, u] => (match ie C.P t with
  | some e => (match sR (ar C.P e) V x, jp C.P u V y with
   | some (es, id), some l => if (eO C.P e).isSome then
     my ((es.length + l.length) * dM C.P e <= du /\ es.length + l.length <= bz) (fun h => my (cg (ar C.P e) l = true) (fun h => K h ⟨.own (aN d), [(aN d, .buf (ar C.P e) (es ++ l))], [], id.toList, [], []⟩) h) h else False
   | _, _ => False)
  | none => False)
 | _, _ => False
def xU (sz : Nat) (V : View) (K : H -> Nat -> Nat -> Nat -> LP -> Prop) : AV -> H -> Prop
 | .own id, h => (match V.obj id with | some (.buf n es) => if n = sz then K h id 0 es.length es else False | _ => False)
 | .part id lo n, h => (match V.obj id with | some (.buf k es) => if k = sz then my (lo + n <= es.length) (fun h => K h id lo n es) h else False | _ => False)
 | _, _ => False
def Da (as : Array Operand) (ts : Array TypeId) (V : View) (K : H -> Made -> Prop) (h : H) : Prop :=
 match as.toList, ts.toList with
 | [x, y], [t, u] => (match ie C.P t, V.eval x with
  | some e, some xv => (match jp C.P u V y with
   | some l => xU (ar C.P e) V (fun h id lo m es => my (cg (ar C.P e) l = true) (fun h => K h ⟨i64 (min l.length m : Nat), [], [.buf id (ar C.P e) (es.take lo ++ (l.take (min l.length m) ++ es.drop (lo + min l.length m)))], [], [], []⟩) h) xv h
   | none => False)
  | _, _ => False)
 | _, _ => False
def Dd (d : Nat) (t : TypeId) (l c : Operand) (V : View) (K : H -> Made -> Prop) (h : H) : Prop :=
 match ie C.P t, V.eval l, V.eval c with
 | some e, some (.pv (.int _ n)), some (.pv (.int _ m)) => (match eO C.P e with
  | some vs => (match iR vs with
   | some z => my (0 <= n /\ n <= m /\ m <= bz /\ m * dM C.P e <= du) (fun h => K h (.only (.own (aN d)) [(aN d, .buf (ar C.P e) (List.replicate n.toNat z))])) h
   | none => False)
  | none => False)
 | _, _, _ => False
def C8 (o : Oper) (s t : TypeId) (x : Operand) (V : View) (K : H -> Made -> Prop) (h : H) : Prop :=
 match V.eval x, C.P.underlying t, C.P.underlying s with
 | some v, some .string, some (.slice e) => (match C.P.underlying e, gl V v with
  | some (.int .u8), some es => my (yK es = true) (fun h => K h (.only (.pv (.str (qM es))) [])) h
  | _, _ => False)
 | _, _, _ => Bd C o V K h
def LO (o : Oper) (V : View) (K : H -> Made -> Prop) (h : H) : Prop :=
 match o.op with
 | .pick c a b => Dj c a b V K h
 | .load t a => MR C o t a V K h
 | .binOp op t x y _ => IQ C o op x y V K h
 | .slice t x lo hi none => xV C t x lo hi V K h
 | .indexAddr t x ix => IR C t x ix V K h
 | .index t x ix => MQ C t x ix V K h
 | .store t a x => xW C o t a x V K h
 | .makeSlice t l c => Dd C (o.dst.getD 499) t l c V K h
 | .convert s t x => C8 C o s t x V K h
 | .call c => (match c.callee with
  | .builtin .append => uG C (o.dst.getD 499) c.args c.argTypes V K h
  | .builtin .copy => Da C c.args c.argTypes V K h
  | .builtin _ => Bd C o V K h
  | _ => xR C S (o.dst.getD 499) c V K h)
 | _ => Bd C o V K h
end
end Go.Proofs.YtcoikmicjbppmaaGreat.Vm
namespace Go.Proofs.YtcoikmicjbppmaaGreat.Vm
open Go
set_option linter.unusedVariables false
set_option linter.unusedSimpArgs false
section
variable {C : Cx} {S : Specs}
theorem zh (call : FuncId -> List TV -> Option (RT)) : Le xu call := by
 intro f xs r h; simp [xu] at h
def iC (C : Cx) (o : Oper) (V : View) (K : H -> Made -> Prop) : Prop := ∃ k m, fC C (cS C k) o V = some m /\ ∃ h', K h' m
theorem ju {o : Oper} {V : View} {K : H -> Made -> Prop} {h : H} (k : Bd C o V K h) : iC C o V K := by
 unfold Bd at k
 split at k
 ·rename_i m hm
  exact ⟨0, m, pz (zh _) hm, _, k⟩
 ·exact k.elim
theorem Hy {call : FuncId -> List TV -> Option (RT)} {o : Oper} {V : View} {v : AV} {os : List (Nat × Obj)} (h1 : ki o.op = none) (h2 : dq C.P C.bldT (o.dst.getD 499) o.op V = some (v, os)) : fC C call o V = some (.only v os) := by
 unfold fC
 simp only [h1, h2]
theorem en {o : Oper} {V : View} {K : H -> Made -> Prop} {v : AV} {os : List (Nat × Obj)} (h1 : ki o.op = none) (h2 : dq C.P C.bldT (o.dst.getD 499) o.op V = some (v, os)) {h' : H} (k : K h' (.only v os)) : iC C o V K :=
 ⟨0, _, Hy h1 h2, _, k⟩
theorem C7 (hS : aK C S) {f : FuncId} {as : List TV} {K : H -> QT} {h : H} (k : C6 C S f as K h) : ∃ n r, cS C n f as = some r /\ ∃ h', K h' r := by
 unfold C6 at k
 split at k
 ·rename_i g hg
  split at k
  ·rename_i l hl
   obtain ⟨a, h1, h2, h', h3⟩ := C5 k
   obtain ⟨n, hn⟩ := (hS f g hg as l hl a h1 h2).get
   exact ⟨n, _, hn, h', h3⟩
  ·exact k.elim
 ·split at k
  ·rename_i r hr; exact ⟨_, r, hr, _, k⟩
  ·exact k.elim
theorem Dc {lent : List Nat} {rs fs : List TV} {K : H -> List Nat -> Prop} {h : H} (k : Gd lent rs fs K h) : (lent = [] /\ ∃ h', K h' []) ∨ ∃ a l, lent = a :: l /\ ∃ h', K h' (if flatTVs rs && flatTVs fs then [] else a :: l) := by
 cases lent with
 | nil => exact .inl ⟨rfl, _, k⟩
 | cons a l =>
  obtain ⟨h', k⟩ := kX (show rE _ _ _ from k)
  exact .inr ⟨a, l, rfl, h', k⟩
theorem zz (hS : aK C S) {d : Nat} {c : Call} {V : View} {K : H -> Made -> Prop} {h : H} (k : xR C S d c V K h) : ∃ n m, gw C (cS C n) d c V = some m /\ ∃ h', K h' m := by
 unfold xR at k
 split at k
 ·rename_i f first caps as e1 e2
  split at k
  ·rename_i fn e3
   split at k
   ·rename_i g e4
    split at k
    ·rename_i e5
     obtain ⟨n, r, e6, h1, k⟩ := C7 hS k
     split at k
     ·rename_i ws os e7
      rcases Dc k with ⟨e8, h2, k⟩ | ⟨a, l, e8, h2, k⟩
      ·refine ⟨n, _, ?_, h2, k⟩
       rw [e8] at e5
       unfold gw
       simp only [e1, e2, e3, e4, e8, e5, if_true, e6, e7]
      ·refine ⟨n, _, ?_, h2, k⟩
       rw [e8] at e5
       unfold gw
       simp only [e1, e2, e3, e4, e8, e5, if_true, e6, e7]
     ·exact k.elim
    ·exact k.elim
   ·exact k.elim
  ·exact k.elim
 ·exact k.elim
theorem gj {lo hi : Option AV} {len : Nat} {K : H -> Nat -> Nat -> Prop} {h : H} (k : jl lo hi len K h) : ∃ a b, iK lo hi len = some (a, b) /\ ∃ h', K h' a b := by
 have key : ∀ (x y : Option Int) (h : H), (match x, y with | some b, some a => my (0 <= a /\ a <= b /\ b <= Int.ofNat len) (fun h => K h a.toNat b.toNat) h | _, _ => False) →
   ∃ a b, (match (generalizing := false) x, y with | some h, some l => if 0 <= l /\ l <= h /\ h <= Int.ofNat len then some (l.toNat, h.toNat) else none | _, _ => none) = some (a, b) /\ ∃ h', K h' a b := by
  intro x y h k
  split at k
  ·rename_i b a
   obtain ⟨hp, h', k⟩ := dt k
   exact ⟨_, _, if_pos hp, h', k⟩
  ·exact k.elim
 exact key _ _ h k
theorem Dk {o : Oper} {c a b : Operand} (ho : o.op = .pick c a b) {V : View} {K : H -> Made -> Prop} {h : H} (k : Dj c a b V K h) : iC C o V K := by
 unfold Dj at k
 split at k
 ·rename_i t e1
  obtain ⟨h', k⟩ := kX k
  split at k
  ·rename_i v e2
   exact en (by rw [ho]; rfl) (by rw [ho]; simp only [dq, e1, e2]) k
  ·exact k.elim
 ·exact k.elim
theorem IU {o : Oper} {t : TypeId} {a : Operand} (ho : o.op = .load t a) {V : View} {K : H -> Made -> Prop} {h : H} (k : MR C o t a V K h) : iC C o V K := by
 unfold MR at k
 split at k
 ·rename_i id i off e1
  split at k
  ·rename_i sz es e2
   split at k
   ·exact k.elim
   ·rename_i e3
    obtain ⟨c, e4, e5, h', k⟩ := wM k
    split at k
    ·rename_i v e6
     exact en (by rw [ho]; rfl) (by rw [ho]; simp only [dq, e1, e2]; rw [if_neg e3]; simp only [e4]; rw [if_pos e5]; simp only [e6]) k
    ·exact k.elim
  ·exact ju k
 ·exact ju k
theorem E3 {o : Oper} {op : BinOp} {t u : TypeId} {x y : Operand} (ho : o.op = .binOp op t x y u) {V : View} {K : H -> Made -> Prop} {h : H} (k : IQ C o op x y V K h) : iC C o V K := by
 unfold IQ at k
 split at k
 ·rename_i kk a kk' b e1 e2
  split at k
  ·split at k
   ·rename_i e3
    obtain ⟨hp, h', k⟩ := dt k
    refine en (by rw [ho]; rfl) (by rw [ho]; simp only [dq, e1, e2, uF]; rw [if_pos e3]; simp only [mP]; rw [if_neg hp]) k
   ·exact k.elim
  ·split at k
   ·rename_i e3
    obtain ⟨hp, h', k⟩ := dt k
    refine en (by rw [ho]; rfl) (by rw [ho]; simp only [dq, e1, e2, uF]; rw [if_pos e3]; simp only [mP]; rw [if_neg hp]) k
   ·exact k.elim
  ·obtain ⟨hp, h', k⟩ := dt k
   refine en (by rw [ho]; rfl) (by rw [ho]; simp only [dq, e1, e2, uF, lu]; rw [if_neg hp]) k
  ·obtain ⟨hp, h', k⟩ := dt k
   refine en (by rw [ho]; rfl) (by rw [ho]; simp only [dq, e1, e2, uF, lu]; rw [if_neg hp]) k
  ·exact ju k
 ·rename_i a b e1 e2
  split at k
  ·obtain ⟨hp, h', k⟩ := dt k
   refine en (by rw [ho]; rfl) (by rw [ho]; simp only [dq, e1, e2, uF, yF]; rw [if_pos hp]) k
  ·exact ju k
 ·exact ju k
theorem zB {o : Oper} {t : TypeId} {x : Operand} {lo hi : Option Operand} (ho : o.op = .slice t x lo hi none) {V : View} {K : H -> Made -> Prop} {h : H} (k : xV C t x lo hi V K h) : iC C o V K := by
 unfold xV at k
 split at k
 ·rename_i s l r e1 e2 e3 e4
  obtain ⟨a, b, e5, h', k⟩ := gj k
  exact en (by rw [ho]; rfl) (by rw [ho]; simp only [dq, e1, e2, e3, e4, e5]) k
 ·rename_i e v l r e1 e2 e3 e4
  split at k
  ·exact k.elim
  ·rename_i e0
   split at k
   ·obtain ⟨hp, h1, k⟩ := dt k
    obtain ⟨a, b, e5, h', k⟩ := gj k
    exact en (by rw [ho]; rfl) (by rw [ho]; simp only [dq, e1, e2, e3, e4]; rw [if_neg e0, if_pos hp]; simp only [e5]) k
   ·obtain ⟨a, b, e5, h', k⟩ := gj k
    exact en (by rw [ho]; rfl) (by rw [ho]; simp only [dq, e1, e2, e3, e4]; rw [if_neg e0]; simp only [e5]) k
   ·split at k
    ·rename_i e6
     split at k
     ·rename_i e7
      obtain ⟨a, b, e5, h', k⟩ := gj k
      exact en (by rw [ho]; rfl) (by rw [ho]; simp only [dq, e1, e2, e3, e4]; rw [if_neg e0]; simp only [e6]; rw [if_pos e7]; simp only [e5]) k
     ·exact k.elim
    ·exact k.elim
   ·split at k
    ·rename_i e6
     split at k
     ·rename_i e7
      obtain ⟨a, b, e5, h', k⟩ := gj k
      exact en (by rw [ho]; rfl) (by rw [ho]; simp only [dq, e1, e2, e3, e4]; rw [if_neg e0]; simp only [e6]; rw [if_pos e7]; simp only [e5]) k
     ·exact k.elim
    ·exact k.elim
   ·exact k.elim
 ·exact k.elim
theorem E4 {o : Oper} {t : TypeId} {x ix : Operand} (ho : o.op = .indexAddr t x ix) {V : View} {K : H -> Made -> Prop} {h : H} (k : IR C t x ix V K h) : iC C o V K := by
 unfold IR at k
 split at k
 ·rename_i e id kk i e1 e2 e3
  split at k
  ·rename_i sz es e4
   split at k
   ·rename_i e5
    obtain ⟨hp, h', k⟩ := dt k
    exact en (by rw [ho]; rfl) (by rw [ho]; simp only [dq, e1, e2, e3, e4]; rw [if_pos ⟨hp.1, hp.2, e5⟩]) k
   ·exact k.elim
  ·exact k.elim
 ·rename_i e id lo n kk i e1 e2 e3
  split at k
  ·rename_i sz es e4
   split at k
   ·rename_i e5
    obtain ⟨hp, h', k⟩ := dt k
    exact en (by rw [ho]; rfl) (by rw [ho]; simp only [dq, e1, e2, e3, e4]; rw [if_pos ⟨hp.1, hp.2.1, hp.2.2, e5⟩]) k
   ·exact k.elim
  ·exact k.elim
 ·rename_i e es kk i e1 e2 e3
  obtain ⟨hp, h1, k⟩ := dt k
  obtain ⟨c, e4, e5, h', k⟩ := wL k
  exact en (by rw [ho]; rfl) (by rw [ho]; simp only [dq, e1, e2, e3]; rw [if_pos hp]; simp only [e4]; rw [if_pos e5]) k
 ·exact k.elim
theorem IS {o : Oper} {t : TypeId} {x ix : Operand} (ho : o.op = .index t x ix) {V : View} {K : H -> Made -> Prop} {h : H} (k : MQ C t x ix V K h) : iC C o V K := by
 unfold MQ at k
 split at k
 ·rename_i s kk i e1 e2 e3
  obtain ⟨hp, h1, k⟩ := dt k
  obtain ⟨c, e4, h', k⟩ := uI k
  exact en (by rw [ho]; rfl) (by rw [ho]; simp only [dq, e1, e2, e3]; rw [if_pos hp]; simp only [e4]) k
 ·exact k.elim
theorem De {o : Oper} {t : TypeId} {l c : Operand} (ho : o.op = .makeSlice t l c) {V : View} {K : H -> Made -> Prop} {h : H} (k : Dd C (o.dst.getD 499) t l c V K h) : iC C o V K := by
 unfold Dd at k
 split at k
 ·rename_i e kn n km m e1 e2 e3
  split at k
  ·rename_i vs e4
   split at k
   ·rename_i z e5
    obtain ⟨hp, h', k⟩ := dt k
    exact en (by rw [ho]; rfl) (by rw [ho]; simp only [dq, e1, e2, e3]; rw [if_pos hp]; simp only [e4, e5]) k
   ·exact k.elim
  ·exact k.elim
 ·exact k.elim
theorem C9 {o : Oper} {s t : TypeId} {x : Operand} (ho : o.op = .convert s t x) {V : View} {K : H -> Made -> Prop} {h : H} (k : C8 C o s t x V K h) : iC C o V K := by
 unfold C8 at k
 split at k
 ·rename_i v e e1 e2 e3
  split at k
  ·rename_i es e4 e5
   obtain ⟨hp, h', k⟩ := dt k
   exact en (by rw [ho]; rfl) (by rw [ho]; simp only [dq, e1, oX, e2, e3, e4, e5]; rw [if_pos hp]) k
  ·exact k.elim
 ·exact ju k
theorem BC {call : FuncId -> List TV -> Option (RT)} {o : Oper} {V : View} {m : Made} (h1 : ki o.op = none) (h2 : rJ C.P o.op V = some m) : fC C call o V = some m := by
 unfold fC
 obtain ⟨n1, n2⟩ := qP (W' := V) (bt := C.bldT) (d := o.dst.getD 499) h2
 simp only [h1, n1, n2, h2]
theorem Hx {call : FuncId -> List TV -> Option (RT)} {o : Oper} {V : View} {v : AV} {os : List (Nat × Obj)} {id : Option Nat} (h1 : ki o.op = none) (h2 : we C.P (o.dst.getD 499) o.op V = some (v, os, id)) : fC C call o V = some ⟨v, os, [], id.toList, [], []⟩ := by
 unfold fC
 have n1 := qO (W' := V) (bt := C.bldT) h2
 simp only [h1, n1, h2]
theorem zC {o : Oper} {t : TypeId} {a x : Operand} (ho : o.op = .store t a x) {V : View} {K : H -> Made -> Prop} {h : H} (k : xW C o t a x V K h) : iC C o V K := by
 unfold xW at k
 split at k
 ·rename_i id i off v e1 e2
  split at k
  ·rename_i sz es e3
   split at k
   ·rename_i e4
    split at k
    ·rename_i l e5
     obtain ⟨c, e6, h1, k⟩ := uI k
     obtain ⟨hp, h', k⟩ := dt k
     exact ⟨0, _, BC (by rw [ho]; rfl) (by rw [ho]; simp only [rJ, e1, e2]; rw [if_pos e4]; simp only [e3, e5, e6]; rw [if_pos hp]), h', k⟩
    ·exact k.elim
   ·exact k.elim
  ·exact ju k
 ·exact k.elim
theorem xQ {o : Oper} {as : Array Operand} {ts : Array TypeId} (ho : o.op = .call ⟨.builtin .append, as, ts⟩) {V : View} {K : H -> Made -> Prop} {h : H} (k : uG C (o.dst.getD 499) as ts V K h) : iC C o V K := by
 unfold uG at k
 split at k
 ·rename_i x y t u e1 e2
  split at k
  ·rename_i e e3
   split at k
   ·rename_i es id l e4 e5
    split at k
    ·rename_i e6
     obtain ⟨hp, h1, k⟩ := dt k
     obtain ⟨hq, h', k⟩ := dt k
     exact ⟨0, _, Hx (by rw [ho]; rfl) (by rw [ho]; simp only [we, e1, e2, e3, e4, e5]; rw [if_pos ⟨hp.1, hp.2, hq, e6⟩]), h', k⟩
    ·exact k.elim
   ·exact k.elim
  ·exact k.elim
 ·exact k.elim
theorem zA {sz : Nat} {V : View} {K : H -> Nat -> Nat -> Nat -> LP -> Prop} {xv : AV} {h : H} (k : xU sz V K xv h) : ∃ id lo m es, nf sz V xv = some (id, lo, m, es) /\ ∃ h', K h' id lo m es := by
 unfold xU at k
 split at k
 ·split at k
  ·rename_i n es e1
   split at k
   ·rename_i e2
    exact ⟨_, _, _, _, by simp only [nf, e1]; rw [if_pos e2], _, k⟩
   ·exact k.elim
  ·exact k.elim
 ·split at k
  ·rename_i k' es e1
   split at k
   ·rename_i e2
    obtain ⟨hp, h', k⟩ := dt k
    exact ⟨_, _, _, _, by simp only [nf, e1]; rw [if_pos ⟨e2, hp⟩], h', k⟩
   ·exact k.elim
  ·exact k.elim
 ·exact k.elim
theorem Db {o : Oper} {as : Array Operand} {ts : Array TypeId} (ho : o.op = .call ⟨.builtin .copy, as, ts⟩) {V : View} {K : H -> Made -> Prop} {h : H} (k : Da C as ts V K h) : iC C o V K := by
 unfold Da at k
 split at k
 ·rename_i x y t u e1 e2
  split at k
  ·rename_i e xv e3 e4
   split at k
   ·rename_i l e5
    obtain ⟨id, lo, m, es, e6, h1, k⟩ := zA k
    obtain ⟨hp, h', k⟩ := dt k
    exact ⟨0, _, BC (by rw [ho]; rfl) (by rw [ho]; simp only [rJ, e1, e2, e3, e4, e6, e5]; rw [if_pos hp]), h', k⟩
   ·exact k.elim
  ·exact k.elim
 ·exact k.elim
theorem Dg (hS : aK C S) {o : Oper} {V : View} {K : H -> Made -> Prop} {h : H} (k : LO C S o V K h) : iC C o V K := by
 unfold LO at k
 split at k
 ·rename_i ho; exact Dk ho k
 ·rename_i ho; exact IU ho k
 ·rename_i ho; exact E3 ho k
 ·rename_i ho; exact zB ho k
 ·rename_i ho; exact E4 ho k
 ·rename_i ho; exact IS ho k
 ·rename_i ho; exact zC ho k
 ·rename_i ho; exact De ho k
 ·rename_i ho; exact C9 ho k
 ·rename_i c ho
  obtain ⟨callee, as, ts⟩ := c
  simp only at k
  split at k
  ·exact xQ ho k
  ·exact Db ho k
  ·exact ju k
  ·rename_i n1 n2 n3
   obtain ⟨n, m, hm, h', k⟩ := zz hS k
   refine ⟨n, m, ?_, h', k⟩
   unfold fC
   have : ki o.op = some ⟨callee, as, ts⟩ := by
    rw [ho]
    cases callee with
    | builtin b => exact absurd rfl (n3 b)
    | value f => rfl
    | invoke r m => rfl
   simp only [this, hm]
 ·exact ju k
end
end Go.Proofs.YtcoikmicjbppmaaGreat.Vm
namespace Go.Proofs.YtcoikmicjbppmaaGreat.Vm
open Go
set_option linter.unusedVariables false
set_option linter.unusedSimpArgs false
def uy (t : Nat) (v : AV) : List (Nat × AV) -> List (Nat × AV)
 | [] => []
 | (m, a) :: r => if t = m then (m, v) :: r else (m, a) :: uy t v r
theorem oR {t : Nat} {v : AV} : ∀ {l : List (Nat × AV)}, cB t l = some v -> uy t v l = l
 | [], h => rfl
 | (m, a) :: r, h => by
  simp only [cB] at h
  simp only [uy]
  split at h
  ·rename_i e; rw [if_pos e]; simp only [Option.some.injEq] at h; rw [h]
  ·rename_i e; rw [if_neg e, oR h]
def St.setB (t : Nat) (b : Bool) (st : St) : St := ⟨uy t (.pv (.bool b)) st.tmps, st.objs⟩
theorem sY {t : Nat} {b : Bool} {st : St} (h : st.get t = .pv (.bool b)) : st.setB t b = st := by
 unfold St.get at h
 cases hl : cB t st.tmps with
 | none => rw [hl] at h; simp at h
 | some v =>
  rw [hl] at h
  simp only [Option.getD_some] at h
  subst h
  unfold St.setB
  rw [oR hl]
section
variable (C : Cx) (S : Specs)
def kK : List Patch -> St -> (H -> St -> Prop) -> H -> Prop
 | [], st, K, h => K h st
 | p :: r, st, K, h => match p, st.obj p.id with
  | .buf id sz es, some (.buf sz0 es0) => if sz = sz0 then my (es.length = es0.length) (fun h => kK r (st.upd id (.buf sz es)) K h) h else False
  | p, ob => match p.on ob with | some o => kK r (st.upd p.id o) K h | none => False
def IT (o : Oper) (m : Made) (st : St) (K : H -> St -> Prop) (h : H) : Prop :=
 match c7 m.frz st with
 | some s => kK m.ws (dW (m.dels ++ m.use) s) (fun h s => match s.add m.os with | some s => K h (gg o m.v s) | none => False) h
 | none => False
def Dh (pl : List Nat) (o : Oper) (st : St) (K : H -> St -> Prop) (h : H) : Prop :=
 match c7 (Er C.P o.op st.view) st with
 | some s => LO C S o s.view (fun h m => IT o (cR pl o s.obj m) s K h) h
 | none => False
def pJ (all : List Oper) (o : Oper) (st : St) (K : H -> Bool -> St -> Prop) (h : H) : Prop :=
 match o.guard with
 | none => K h true st
 | some (j, want) => match (all[j]?).bind (·.dst) with
  | some t => (match st.get t with
   | .pv (.bool b) => rE b (fun h b => K h (b == want) (st.setB t b)) h
   | .tup [] => K h false st
   | _ => False)
  | none => False
def ov (all : List Oper) (pl : List Nat) : List Oper -> St -> (H -> St -> Prop) -> H -> Prop
 | [], st, K, h => K h st
 | o :: r, st, K, h => pJ all o st (fun h w st => match w with
  | true => Dh C S pl o st (fun h s => ov all pl r s K h) h
  | false => ov all pl r (gg o (.tup []) st) K h) h
def Df (V : View) : List Patch -> (H -> Prop) -> H -> Prop
 | [], K, h => K h
 | p :: r, K, h => match p, V.obj p.id with
  | .buf id sz es, some (.buf sz0 es0) => if sz = sz0 then my (es.length = es0.length) (fun h => Df V r K h) h else False
  | p, ob => if (p.on ob).isSome then Df V r K h else False
def IV (V : View) (m : Made) (K : H -> Prop) (h : H) : Prop :=
 if m.frz.isEmpty && m.dead.all (fun i => (V.obj i).isSome) && m.ws.all (fun p => !m.dead.contains p.id) then Df V m.ws K h else False
def IY : List Patch -> List (Nat × Obj) -> (H -> List (Nat × Obj) -> Prop) -> H -> Prop
 | [], l, K, h => K h l
 | p :: r, l, K, h => match p, cB p.id l with
  | .buf id sz es, some (.buf sz0 es0) => if sz = sz0 then my (es.length = es0.length) (fun h => IY r ((id, .buf sz es) :: tE id l) K h) h else False
  | p, ob => match p.on ob with | some o => IY r ((p.id, o) :: tE p.id l) K h | none => False
def IW (o : Oper) (m : Made) (st : St) (K : H -> St -> Prop) (h : H) : Prop :=
 IY m.ws (j4 m.dead st.objs) (fun h l => K h (gg o m.v ⟨st.tmps, m.os ++ l⟩)) h
def wN (all : List Oper) (pl : List Nat) (ob : Nat -> Option Obj) : List Oper -> Nat -> List Done -> St -> (H -> List Done -> St -> Prop) -> H -> Prop
 | [], _, done, st, K, h => K h done st
 | o :: r, i, done, st, K, h =>
  if g7 (wU done) o < 2 ^ i then pJ all o st (fun h w st => match w with
   | true => if (Er C.P o.op st.view).isEmpty then LO C S o (st.view.only (pD o.op st)) (fun h m =>
     IV st.view (cR pl o ob m) (fun h => IW o (cR pl o ob m) st (fun h s =>
      wN all pl ob r (i + 1) (⟨i, g7 (wU done) o, o, cR pl o ob m, m.os.map (·.1), pD o.op st⟩ :: done) s K h) h) h) h else False
   | false => wN all pl ob r (i + 1) (⟨i, g7 (wU done) o, o, .only (.tup []) [], [], []⟩ :: done) (rj o (.only (.tup []) []) st) K h) h else False
def uK (ops : Array Oper) (pre : List Nat) (draw : Bool) (st : St) (K : H -> St -> Prop) (h : H) : Prop :=
 if draw then
  if xK ops.toList then wN C S ops.toList (pre ++ gU ops.toList) st.obj ops.toList 0 [] st (fun h done s =>
   if apart done done && nodup (done.flatMap Done.raw) && (done.flatMap Done.raw).all (fun i => (st.obj i).isNone) then K h (dv (done.flatMap fun x => x.m.dead) s) else False) h
  else False
 else ov C S ops.toList (pre ++ gU ops.toList) ops.toList st K h
end
section
variable {C : Cx} {S : Specs}
theorem kL : ∀ {ws : List Patch} {st : St} {K : H -> St -> Prop} {h : H}, kK ws st K h -> ∃ s, eB ws st = some s /\ ∃ h', K h' s
 | [], st, K, h, k => ⟨st, rfl, _, k⟩
 | p :: r, st, K, h, k => by
  simp only [kK] at k
  split at k
  ·rename_i id sz es sz0 es0 e1
   split at k
   ·rename_i e2
    obtain ⟨hp, h1, k⟩ := dt k
    obtain ⟨s, e3, k⟩ := kL k
    refine ⟨s, ?_, k⟩
    simp only [eB, e1, Patch.on]
    rw [if_pos ⟨e2, hp⟩]; exact e3
   ·exact k.elim
  ·split at k
   ·rename_i o e1
    obtain ⟨s, e3, k⟩ := kL k
    refine ⟨s, ?_, k⟩
    simp only [eB, e1]; exact e3
   ·exact k.elim
theorem E5 {o : Oper} {m : Made} {st : St} {K : H -> St -> Prop} {h : H} (k : IT o m st K h) : ∃ s, Dx o m st = some s /\ ∃ h', K h' s := by
 unfold IT at k
 split at k
 ·rename_i s e1
  obtain ⟨s2, e2, h1, k⟩ := kL k
  split at k
  ·rename_i s3 e3
   exact ⟨_, by unfold Dx; simp only [e1, e2, e3], _, k⟩
  ·exact k.elim
 ·exact k.elim
theorem Di (hS : aK C S) {pl : List Nat} {o : Oper} {st : St} {K : H -> St -> Prop} {h : H} (k : Dh C S pl o st K h) : ∃ n s, wh C (cS C n) pl o st = some s /\ ∃ h', K h' s := by
 unfold Dh at k
 split at k
 ·rename_i s e1
  obtain ⟨n, m, e2, h1, k⟩ := Dg hS k
  obtain ⟨s2, e3, k⟩ := E5 k
  exact ⟨n, s2, by unfold wh; simp only [e1, e2, e3], k⟩
 ·exact k.elim
theorem rn {all : List Oper} {o : Oper} {st : St} {K : H -> Bool -> St -> Prop} {h : H} (k : pJ all o st K h) : ∃ w, wanted all st.view o = some w /\ ∃ h', K h' w st := by
 unfold pJ at k
 unfold wanted
 split at k
 ·rename_i e1
  exact ⟨true, by simp only [e1], _, k⟩
 ·rename_i j want e1
  split at k
  ·rename_i t e2
   split at k
   ·rename_i b e3
    obtain ⟨h', k⟩ := kX k
    rw [sY e3] at k
    refine ⟨b == want, ?_, _, k⟩
    simp only [e1, e2, St.view, e3]
   ·rename_i e3
    refine ⟨false, ?_, _, k⟩
    simp only [e1, e2, St.view, e3]
   ·exact k.elim
  ·exact k.elim
theorem ow (hS : aK C S) {all : List Oper} {pl : List Nat} : ∀ {l : List Oper} {st : St} {K : H -> St -> Prop} {h : H}, ov C S all pl l st K h -> ∃ n s, i7 C (cS C n) all pl l st = some s /\ ∃ h', K h' s
 | [], st, K, h, k => ⟨0, st, rfl, _, k⟩
 | o :: r, st, K, h, k => by
  simp only [ov] at k
  obtain ⟨w, e1, h1, k⟩ := rn k
  cases w with
  | true =>
   obtain ⟨n, s, e2, h2, k⟩ := Di hS k
   obtain ⟨n', s', e3, k⟩ := ow hS k
   refine ⟨max n n', s', ?_, k⟩
   simp only [i7, e1, yv (ff (Nat.le_max_left n n')) e2]
   exact mW (ff (Nat.le_max_right n n')) e3
  | false =>
   obtain ⟨n, s, e2, k⟩ := ow hS k
   exact ⟨n, s, by simp only [i7, e1]; exact e2, k⟩
theorem uJ {V : View} {m : Made} : ∀ {ws : List Patch} {K : H -> Prop} {h : H}, Df V ws K h -> (ws.all fun p => (p.on (V.obj p.id)).isSome) = true /\ ∃ h', K h'
 | [], K, h, k => ⟨rfl, _, k⟩
 | p :: r, K, h, k => by
  simp only [Df] at k
  split at k
  ·rename_i id sz es sz0 es0 e1
   split at k
   ·rename_i e2
    obtain ⟨hp, h1, k⟩ := dt k
    obtain ⟨e3, k⟩ := uJ (m := m) k
    refine ⟨?_, k⟩
    have e4 : ((Patch.buf id sz es).on (V.obj (Patch.buf id sz es).id)).isSome = true := by
     rw [e1]; simp only [Patch.on]; rw [if_pos ⟨e2, hp⟩]; rfl
    rw [List.all_cons, e4, e3]; rfl
   ·exact k.elim
  ·split at k
   ·rename_i e1
    obtain ⟨e3, k⟩ := uJ (m := m) k
    exact ⟨by simp only [List.all_cons, e1, e3]; rfl, k⟩
   ·exact k.elim
theorem E6 {V : View} {m : Made} {K : H -> Prop} {h : H} (k : IV V m K h) : lZ V m = true /\ ∃ h', K h' := by
 unfold IV at k
 split at k
 ·rename_i e1
  obtain ⟨e2, k⟩ := uJ (m := m) k
  refine ⟨?_, k⟩
  simp only [Bool.and_eq_true, List.all_eq_true] at e1 e2
  unfold lZ
  simp only [Bool.and_eq_true, List.all_eq_true]
  exact ⟨e1.1, fun p hp => ⟨e1.2 p hp, e2 p hp⟩⟩
 ·exact k.elim
theorem xS : ∀ {ws : List Patch} {l : List (Nat × Obj)} {K : H -> List (Nat × Obj) -> Prop} {h : H}, IY ws l K h -> ∃ h', K h' (ee ws l)
 | [], l, K, h, k => ⟨_, k⟩
 | p :: r, l, K, h, k => by
  simp only [IY] at k
  split at k
  ·rename_i id sz es sz0 es0 e1
   split at k
   ·rename_i e2
    obtain ⟨hp, h1, k⟩ := dt k
    obtain ⟨h2, k⟩ := xS k
    refine ⟨h2, ?_⟩
    simp only [ee, e1, Patch.on]
    rw [if_pos ⟨e2, hp⟩]; exact k
   ·exact k.elim
  ·split at k
   ·rename_i o e1
    obtain ⟨h2, k⟩ := xS k
    exact ⟨h2, by simp only [ee, e1]; exact k⟩
   ·exact k.elim
theorem rm (hS : aK C S) {all : List Oper} {pl : List Nat} {ob : Nat -> Option Obj} : ∀ {l : List Oper} {i : Nat} {done : List Done} {st : St} {K : H -> List Done -> St -> Prop} {h : H}, wN C S all pl ob l i done st K h →
  ∃ n d s, iL C (cS C n) all pl ob l i done st = some (d, s) /\ ∃ h', K h' d s
 | [], i, done, st, K, h, k => ⟨0, done, st, rfl, _, k⟩
 | o :: r, i, done, st, K, h, k => by
  simp only [wN] at k
  split at k
  ·rename_i hb
   obtain ⟨w, e1, h1, k⟩ := rn k
   cases w with
   | true =>
    simp only at k
    split at k
    ·rename_i e2
     obtain ⟨n, m, e3, h2, k⟩ := Dg hS k
     obtain ⟨e4, h3, k⟩ := E6 k
     obtain ⟨h4, k⟩ := xS (show IY _ _ _ _ from k)
     obtain ⟨n', d, s, e5, k⟩ := rm hS k
     refine ⟨max n n', d, s, ?_, k⟩
     simp only [iL]
     rw [if_pos hb]
     simp only [e1]
     rw [if_pos e2]
     simp only [pz (ff (Nat.le_max_left n n')) e3]
     rw [if_pos e4]
     exact nq (ff (Nat.le_max_right n n')) e5
    ·exact k.elim
   | false =>
    obtain ⟨n, d, s, e2, k⟩ := rm hS k
    refine ⟨n, d, s, ?_, k⟩
    simp only [iL]
    rw [if_pos hb]
    simp only [e1]
    exact e2
  ·exact k.elim
theorem xT (hS : aK C S) {ops : Array Oper} {pre : List Nat} {draw : Bool} {st : St} {K : H -> St -> Prop} {h : H} (k : uK C S ops pre draw st K h) : ∃ n s, region C (cS C n) ops pre draw st = some s /\ ∃ h', K h' s := by
 unfold uK at k
 cases draw with
 | true =>
  simp only [if_true] at k
  split at k
  ·rename_i e1
   obtain ⟨n, d, s, e2, h1, k⟩ := rm hS k
   split at k
   ·rename_i e3
    refine ⟨n, _, ?_, h1, k⟩
    unfold region
    simp only [if_true]
    rw [if_pos e1]
    simp only [e2]
    rw [if_pos e3]
   ·exact k.elim
  ·exact k.elim
 | false =>
  obtain ⟨n, s, e, k⟩ := ow hS (show ov C S ops.toList (pre ++ gU ops.toList) ops.toList st K h from k)
  exact ⟨n, s, by unfold region; exact e, k⟩
end
inductive CP where
 | top
 | lab (p : CP) (l : Nat)
 | dn (p : CP) (i : Nat)
def oE : Code -> Nat -> Option Code
 | .seq a _, 0 => some a
 | .seq _ b, 1 => some b
 | .cond _ a _, 0 => some a
 | .cond _ _ b, 1 => some b
 | .block _ b, 0 => some b
 | .loop b, 0 => some b
 | .scope b, 0 => some b
 | _, _ => none
section
variable (C : Cx) (S : Specs) (f : FuncId)
def da : CP -> Option Code
 | .top => match C.P.funcs[f]? with | some fn => fn.body | none => none
 | .lab p l => match da p with | some (.scope b) => findLabel b l | _ => none
 | .dn p i => match da p with | some c => oE c i | none => none
abbrev KT := H -> Ex -> St -> Prop
def cA (K : KT) : Ex -> St -> Prop := fun e s => ∃ h, K h e s
def aQ (w : St -> KT -> H -> Prop) (K : KT) : KT := fun h e s => match e with | .normal => w s K h | e => K h e s
def au (id : Nat) (K : KT) : KT := fun h e s => match e with | .exit i => if i = id then K h .normal s else K h (.exit i) s | e => K h e s
def oD (call : FuncId -> List TV -> Option (RT)) (k : Nat) (b : Code) : St -> Option (Ex × St) := fun s => match od (C.loops f (DA b)) s with | some s => code C call f k (eP C call f k k) b s | none => none
def gF (k : Nat) (b : Code) (s : St) : Option (Ex × St) :=
 match code C (cS C k) f k (eP C (cS C k) f k k) b s with
 | some (.normal, s2) => jQ (oD C f (cS C k) k b) k s2
 | r => r
def bd (cp : CP) (s : St) (K : Ex -> St -> Prop) : Prop := ∃ b, da C f cp = some (.loop b) /\ ∃ k e s', gF C f k b s = some (e, s') /\ K e s'
def vX (cp : CP) (b : Code) (s : St) (K : KT) : H -> Prop
 | .r k h => (match gF C f k b s with | some (e, s') => K h e s' | none => False)
 | .n 0 h => vX cp b s K h
 | _ => bd C f cp s (cA K)
def DB (cp : CP) (l : Nat) (s : St) (K : Ex -> St -> Prop) : Prop :=
 ∃ b rest, da C f cp = some (.scope b) /\ findLabel b l = some rest /\ ∃ k e s', eP C (cS C k) f k k b rest s = some (e, s') /\ K e s'
def CB (cp : CP) (K : KT) : KT := fun h e s => match e with
 | .goto l => (match da C f cp with
  | some (.scope b) => (match findLabel b l, od (C.loops f (mR l)) s with
   | some _, some s' => DB C f cp l s' (cA K)
   | _, _ => False)
  | _ => False)
 | e => K h e s
def bO (cp : CP) (J : St -> Prop) (K : Ex -> St -> Prop) : KT := fun h e s => match e with
 | .normal => (match da C f cp with
  | some (.loop b) => (match od (C.loops f (DA b)) s with | some s1 => J s1 | none => False)
  | _ => False)
 | e => K e s
def aU (as : List TV) (Q : QT) : KT := fun h e s => match e with
 | .normal => (match C.P.funcs[f]? with | some fn => (match sA C f fn.results.toList as s with | some r => Q r | none => False) | none => False)
 | .ret => (match C.P.funcs[f]? with | some fn => (match sA C f fn.results.toList as s with | some r => Q r | none => False) | none => False)
 | _ => False
def bA : Nat -> CP -> St -> KT -> H -> Prop
 | 0, _, _, _, _ => False
 | n + 1, cp, st, K, h => match da C f cp with
  | some .skip => K h .normal st
  | some (.label l) => (match od (C.loops f (mR l)) st with | some s => K h .normal s | none => False)
  | some (.region id ops draw) => (match dS (C.pre f id) st with
   | some s => uK C S ops (C.pre f id) draw s (fun h s => K h .normal s) h
   | none => False)
  | some (.seq _ _) => bA n (.dn cp 0) st (aQ (bA n (.dn cp 1)) K) h
  | some (.cond c _ _) => (match c with
   | .tmp t => (match st.get t with
    | .pv (.bool b) => rE b (fun h b => bA n (.dn cp (if b then 0 else 1)) (st.setB t b) K h) h
    | _ => False)
   | c => (match st.view.eval c with
    | some (.pv (.bool b)) => rE b (fun h b => bA n (.dn cp (if b then 0 else 1)) st K h) h
    | _ => False))
  | some (.block id _) => bA n (.dn cp 0) st (au id K) h
  | some (.loop b) => (match od (C.loops f (DA b)) st with | some s => vX C f cp b s K h | none => False)
  | some (.scope _) => bA n (.dn cp 0) st (CB C f cp K) h
  | some (.exit id) => K h (.exit id) st
  | some (.goto l) => K h (.goto l) st
  | some .ret => K h .ret st
  | _ => False
def bq (as : List TV) (Q : QT) (h : H) : Prop :=
 match C.ext f with
 | some _ => False
 | none => match C.P.funcs[f]? with
  | some fn => if fn.body.isSome && decide (as.length <= fn.ntmps) then
    (match enter 0 as ⟨[], []⟩ with
    | some s => bA C S f 100000 .top s (aU C f as Q) h
    | none => False) else False
  | none => False
def wP (c : Code) (st : St) (K : Ex -> St -> Prop) : Prop := ∃ k e s, code C (cS C k) f k (eP C (cS C k) f k k) c st = some (e, s) /\ K e s
end
section
variable {C : Cx} {S : Specs} {f : FuncId}
theorem dN {k k' : Nat} (hk : k <= k') {c : Code} {st : St} {r : Ex × St} (h : code C (cS C k) f k (eP C (cS C k) f k k) c st = some r) : code C (cS C k') f k' (eP C (cS C k') f k' k') c st = some r :=
 eo (ff hk) hk (kM (ff hk) hk hk) c st r h
theorem p7 {k k' : Nat} (hk : k <= k') {b : Code} {s : St} {r : Ex × St} (h : oD C f (cS C k) k b s = some r) : oD C f (cS C k') k' b s = some r := by
 unfold oD at h ⊢
 split at h
 ·exact dN hk h
 ·exact absurd h (by simp)
theorem vY {cp : CP} {b : Code} {s : St} {K : KT} (hb : da C f cp = some (.loop b)) : ∀ {h : H}, vX C f cp b s K h -> bd C f cp s (cA K)
 | .r k h, w => by
  simp only [vX] at w
  split at w
  ·rename_i e s' hs
   exact ⟨b, hb, k, e, s', hs, h, w⟩
  ·exact w.elim
 | .auto, w => w
 | .n 0 h, w => vY hb (h := h) (by simpa only [vX] using w)
 | .n (_ + 1) _, w => w
 | .s _, w => w
 | .b _ _, w => w
theorem xp {k k' : Nat} (hk : k <= k') {b : Code} {s : St} {r : Ex × St} (h : gF C f k b s = some r) : gF C f k' b s = some r := by
 unfold gF at h ⊢
 split at h
 ·rename_i s2 hs
  rw [dN hk hs]
  exact ks (fun s r h => p7 hk h) hk h
 ·rename_i hne
  rw [dN hk h]
  obtain ⟨e, s⟩ := r
  cases e with
  | normal => exact absurd h (hne s)
  | _ => rfl
theorem wP.seq {a b : Code} {st : St} {K : Ex -> St -> Prop} (h : wP C f a st (fun e s => match e with | .normal => wP C f b s K | e => K e s)) : wP C f (.seq a b) st K := by
 obtain ⟨k, e, s, h1, h2⟩ := h
 cases e with
 | normal =>
  obtain ⟨k', e', s', h3, h4⟩ := h2
  refine ⟨max k k', e', s', ?_, h4⟩
  simp only [code]
  rw [dN (Nat.le_max_left k k') h1]
  exact dN (Nat.le_max_right k k') h3
 | _ => exact ⟨k, _, s, by simp only [code]; rw [h1], h2⟩
theorem mm (hS : aK C S) : ∀ {n : Nat} {cp : CP} {st : St} {K : KT} {h : H}, bA C S f n cp st K h -> ∃ c, da C f cp = some c /\ wP C f c st (cA K)
 | 0, cp, st, K, h, k => by simp [bA] at k
 | n + 1, cp, st, K, h, k => by
  simp only [bA] at k
  split at k
  ·rename_i e1
   exact ⟨_, e1, 0, _, st, by simp only [code], _, k⟩
  ·rename_i l e1
   split at k
   ·rename_i s e2
    exact ⟨_, e1, 0, _, s, by simp only [code, e2], _, k⟩
   ·exact k.elim
  ·rename_i id ops draw e1
   split at k
   ·rename_i s e2
    obtain ⟨m, s', e3, h', k⟩ := xT hS k
    exact ⟨_, e1, m, _, s', by simp only [code, e2, e3], h', k⟩
   ·exact k.elim
  ·rename_i a b e1
   refine ⟨_, e1, wP.seq ?_⟩
   obtain ⟨c, e2, m, e, s, e3, h', k⟩ := mm hS k
   have : da C f (.dn cp 0) = some a := by simp only [da, e1, oE]
   rw [this] at e2; simp only [Option.some.injEq] at e2; subst e2
   refine ⟨m, e, s, e3, ?_⟩
   cases e with
   | normal =>
    obtain ⟨c, e2, k⟩ := mm hS (show bA C S f n (.dn cp 1) s K h' from k)
    have : da C f (.dn cp 1) = some b := by simp only [da, e1, oE]
    rw [this] at e2; simp only [Option.some.injEq] at e2; subst e2
    exact k
   | _ => exact ⟨_, k⟩
  ·rename_i c a b e1
   refine ⟨_, e1, ?_⟩
   have key : ∀ (t : Bool) (h : H), st.view.eval c = some (.pv (.bool t)) -> bA C S f n (.dn cp (if t then 0 else 1)) st K h -> wP C f (.cond c a b) st (cA K) := by
    intro t h e2 k
    obtain ⟨c', e3, m, e, s, e4, k2⟩ := mm hS k
    clear k
    cases t with
    | true =>
     have : da C f (.dn cp (if true then 0 else 1)) = some a := by simp only [da, e1, oE, if_true]
     rw [this] at e3; simp only [Option.some.injEq] at e3; subst e3
     exact ⟨m, e, s, by simp only [code, e2, if_true]; exact e4, k2⟩
    | false =>
     have : da C f (.dn cp (if false then 0 else 1)) = some b := by simp [da, e1, oE]
     rw [this] at e3; simp only [Option.some.injEq] at e3; subst e3
     exact ⟨m, e, s, by simp only [code, e2]; exact e4, k2⟩
   split at k
   ·rename_i t
    split at k
    ·rename_i v e2
     obtain ⟨h', k⟩ := kX k
     rw [sY e2] at k
     exact key v h' (by show some (st.get t) = _; rw [e2]) k
    ·exact k.elim
   ·split at k
    ·rename_i v e2
     obtain ⟨h', k⟩ := kX k
     exact key v h' e2 k
    ·exact k.elim
  ·rename_i id b e1
   refine ⟨_, e1, ?_⟩
   obtain ⟨c, e2, m, e, s, e3, h', k⟩ := mm hS k
   have : da C f (.dn cp 0) = some b := by simp only [da, e1, oE]
   rw [this] at e2; simp only [Option.some.injEq] at e2; subst e2
   cases e with
   | exit i =>
    simp only [au] at k
    by_cases hi : i = id
    ·rw [if_pos hi] at k
     exact ⟨m, .normal, s, by simp only [code, e3, hi, if_true], h', k⟩
    ·rw [if_neg hi] at k
     exact ⟨m, .exit i, s, by simp only [code, e3]; rw [if_neg hi], h', k⟩
   | _ => exact ⟨m, _, s, by simp only [code, e3], h', k⟩
  ·rename_i b e1
   split at k
   ·rename_i s e2
    obtain ⟨b', e3, m, e, s', e4, k⟩ := vY e1 k
    rw [e1] at e3; simp only [Option.some.injEq, Code.loop.injEq] at e3; subst e3
    refine ⟨_, e1, m + 1, e, s', ?_, k⟩
    simp only [code]
    have e4' := xp (Nat.le_succ m) e4
    unfold gF at e4
    simp only [jQ, e2]
    split at e4
    ·rename_i s2 hs
     rw [dN (Nat.le_succ m) hs]
     exact ks (fun s r h => p7 (Nat.le_succ m) h) (Nat.le_refl _) e4
    ·rename_i hne
     rw [dN (Nat.le_succ m) e4]
     cases e with
     | normal => exact absurd e4 (hne s')
     | _ => rfl
   ·exact k.elim
  ·rename_i b e1
   refine ⟨_, e1, ?_⟩
   obtain ⟨c, e2, m, e, s, e3, h', k⟩ := mm hS k
   have : da C f (.dn cp 0) = some b := by simp only [da, e1, oE]
   rw [this] at e2; simp only [Option.some.injEq] at e2; subst e2
   cases e with
   | goto l =>
    simp only [CB, e1] at k
    split at k
    ·rename_i x1 x2 rest s1 e4 e5
     obtain ⟨b', rest', e6, e7, m', e', s', e8, k⟩ := k
     rw [e1] at e6; simp only [Option.some.injEq, Code.scope.injEq] at e6; subst e6
     rw [e4] at e7; simp only [Option.some.injEq] at e7; subst e7
     refine ⟨max m m', e', s', ?_, k⟩
     simp only [code, kh]
     rw [dN (Nat.le_max_left m m') e3]
     simp only [e4, e5]
     exact kM (ff (Nat.le_max_right m m')) (Nat.le_max_right m m') (Nat.le_max_right m m') _ _ _ _ e8
    ·exact k.elim
   | _ => exact ⟨m, _, s, by simp only [code, kh, e3], h', k⟩
  ·rename_i id e1
   exact ⟨_, e1, 0, _, st, by simp only [code], _, k⟩
  ·rename_i l e1
   exact ⟨_, e1, 0, _, st, by simp only [code], _, k⟩
  ·rename_i e1
   exact ⟨_, e1, 0, _, st, by simp only [code], _, k⟩
  ·exact k.elim
def Bk (C : Cx) (f : FuncId) (cp : CP) : Bool := match da C f cp with | some (.loop _) => true | _ => false
theorem aJ (hS : aK C S) {cp : CP} {K : Ex -> St -> Prop} (hlp : Bk C f cp = true) (N : Nat) (I : Nat -> St -> Prop) (hstep : ∀ n s, I n s -> ∃ h, bA C S f N (.dn cp 0) s (bO C f cp (fun s' => ∃ m, m < n /\ I m s') K) h) {n : Nat} {s : St} (h : I n s) : bd C f cp s K := by
 induction n using Nat.strongRecOn generalizing s with
 | _ n ih =>
  obtain ⟨hh, k⟩ := hstep n s h
  obtain ⟨c, e1, m, e, s2, e2, h', k⟩ := mm hS k
  have hb : da C f cp = some (.loop c) := by
   unfold Bk at hlp
   simp only [da] at e1
   split at hlp
   ·rename_i b e3
    simp only [e3, oE, Option.some.injEq] at e1; subst e1; exact e3
   ·exact absurd hlp (by simp)
  by_cases he : e = .normal
  ·subst he
   simp only [bO, hb] at k
   split at k
   ·rename_i s1 e3
    obtain ⟨m', hm', k⟩ := k
    obtain ⟨b', e4, n2, e', s', e5, k⟩ := ih m' hm' k
    rw [hb] at e4; simp only [Option.some.injEq, Code.loop.injEq] at e4; subst e4
    refine ⟨c, hb, max m n2 + 1, e', s', ?_, k⟩
    have le1 : m <= max m n2 + 1 := by omega
    have le2 : n2 <= max m n2 + 1 := by omega
    unfold gF
    rw [dN le1 e2]
    simp only [jQ]
    unfold gF at e5
    split at e5
    ·rename_i s3 e6
     have : oD C f (cS C (max m n2 + 1)) (max m n2 + 1) c s2 = some (.normal, s3) := by
      unfold oD; simp only [e3]; exact dN le2 e6
     rw [this]
     exact ks (fun s r h => p7 le2 h) (by omega) e5
    ·rename_i hne
     have : oD C f (cS C (max m n2 + 1)) (max m n2 + 1) c s2 = some (e', s') := by
      unfold oD; simp only [e3]; exact dN le2 e5
     rw [this]
     cases e' with
     | normal => exact absurd e5 (hne s')
     | _ => rfl
   ·exact k.elim
  ·refine ⟨c, hb, m, e, s2, ?_, ?_⟩
   ·unfold gF
    rw [e2]
    cases e with
    | normal => exact absurd rfl he
    | _ => rfl
   ·cases e with
    | normal => exact absurd rfl he
    | _ => exact k
theorem vt (hS : aK C S) {ag : List TV} {Q : QT} {h : H} (k : bq C S f ag Q h) : ∃ r, Ev C f ag r /\ Q r := by
 unfold bq at k
 split at k
 ·exact k.elim
 ·rename_i e0
  split at k
  ·rename_i fn e1
   split at k
   ·rename_i e2
    simp only [Bool.and_eq_true, decide_eq_true_eq] at e2
    obtain ⟨c, e3⟩ := Option.isSome_iff_exists.1 e2.1
    split at k
    ·rename_i s e4
     obtain ⟨c', e5, m, e, s', e6, h', k⟩ := mm hS k
     simp only [da, e1, e3, Option.some.injEq] at e5; subst e5
     have key : (e = .normal ∨ e = .ret) -> (match sA C f fn.results.toList ag s' with | some r => Q r | none => False) -> ∃ r, Ev C f ag r /\ Q r := by
      intro he k
      split at k
      ·rename_i r e7
       refine ⟨r, Ev.of (k := m + 1) ?_, k⟩
       simp only [cS, e0, e1, e3, e2.2, if_true, e4, p8, e6, he, e7]
      ·exact k.elim
     cases e with
     | normal => simp only [aU, e1] at k; exact key (.inl rfl) k
     | ret => simp only [aU, e1] at k; exact key (.inr rfl) k
     | _ => exact k.elim
    ·exact k.elim
   ·exact k.elim
  ·exact k.elim
end
abbrev d0 (c : CP) : CP := CP.dn c 0
abbrev u1 (c : CP) : CP := CP.dn c 1
abbrev u2 (c : CP) : CP := u1 (u1 c)
abbrev u3 (c : CP) : CP := u1 (u2 c)
abbrev u4 (c : CP) : CP := u1 (u3 c)
abbrev u5 (c : CP) : CP := u1 (u4 c)
abbrev u6 (c : CP) : CP := u1 (u5 c)
abbrev u7 (c : CP) : CP := u1 (u6 c)
abbrev u8 (c : CP) : CP := u1 (u7 c)
abbrev u9 (c : CP) : CP := u1 (u8 c)
end Go.Proofs.YtcoikmicjbppmaaGreat.Vm
