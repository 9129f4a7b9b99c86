/-
  A call in the model, where the abstract machine says what it does.
-/
import Derived.Test.YtmjkdghcfihfiaaVmCall
namespace Go.Proofs.Ytmjkdghcfihfiaa.Vm
open Go
set_option linter.unusedVariables false
set_option linter.unusedSimpArgs false

section
variable {w w' : World} {M M' : Cells}

mutual
theorem flatPV_ok : ∀ {x : PV} {c : Value}, flatPV x = true → Rep w M x c → Rep w' M' x c
  | .int _ _, _, _, k => by simpa only [Rep] using k
  | .bool _, _, _, k => by simpa only [Rep] using k
  | .str _, _, _, k => by simpa only [Rep] using k
  | .nilIface, _, _, k => by simpa only [Rep] using k
  | .nilPtr, _, _, k => by simpa only [Rep] using k
  | .nilFn, _, _, k => by simpa only [Rep] using k
  | .nilSlc, _, _, k => by simpa only [Rep] using k
  | .agg fs, c, h, k => by
    simp only [flatPV] at h
    simp only [Rep] at k ⊢
    obtain ⟨cs, h1, h2⟩ := k
    exact ⟨cs, h1, flatPVs_ok h h2⟩
  | .fn f caps, c, h, k => by
    simp only [flatPV] at h
    simp only [Rep] at k ⊢
    obtain ⟨cs, h1, h2⟩ := k
    exact ⟨cs, h1, flatPVs_ok h h2⟩
  | .sl _, c, h, k => by simp [flatPV] at h
  | .iptr _, c, h, k => by simp [flatPV] at h
theorem flatPVs_ok : ∀ {xs : List PV} {vs : List Value}, flatPVs xs = true → RepS w M xs vs → RepS w' M' xs vs
  | [], vs, _, k => by simpa only [RepS] using k
  | x :: xs, vs, h, k => by
    simp only [flatPVs, Bool.and_eq_true] at h
    simp only [RepS] at k ⊢
    obtain ⟨c, r, h1, h2, h3, h4⟩ := k
    exact ⟨c, r, h1, h2, flatPV_ok h.1 h3, flatPVs_ok h.2 h4⟩
end

mutual
theorem flatTV_ok : ∀ {v : TV} {t : LT} {c : Value}, flatTV v = true → TVL w M v t c → TVL w M' v t c
  | .pv x, t, c, h, k => by
    simp only [flatTV] at h
    simp only [TVL] at k ⊢
    exact ⟨k.1, flatPV_ok h k.2⟩
  | .own sz es, t, c, h, k => by
    simp only [flatTV] at h
    simp only [TVL] at k ⊢
    obtain ⟨l, h1, h2, q1, q2, q3, q4, q5, q6, q7, q8, q9⟩ := k
    refine ⟨l, h1, h2, q1, q2, q3, q4, q5, q6, q7, q8, fun b o hb => ?_⟩
    obtain ⟨r1, r2⟩ := q9 b o hb
    refine ⟨r1, fun i e he => ?_⟩
    obtain ⟨vs, s1, s2⟩ := r2 i e he
    exact ⟨vs, flatPVs_ok (List.all_eq_true.1 h e (List.mem_of_getElem? he)) s1, s2⟩
  | .bld bs, t, c, h, k => by simpa only [TVL] using k
  | .ptr cells, t, c, h, k => by
    simp only [flatTV] at h
    simp only [TVL] at k ⊢
    obtain ⟨l, subs, b, o, h1, h2, h3, h4, h5, h6⟩ := k
    exact ⟨l, subs, b, o, h1, h2, h3, h4, h5, flatTVs_ok h h6⟩
theorem flatTVs_ok : ∀ {vs : List TV} {ts : List LT} {b o : Nat}, flatTVs vs = true → TVLs w M vs ts b o → TVLs w M' vs ts b o
  | [], ts, b, o, _, k => by simpa only [TVLs] using k
  | v :: vs, ts, b, o, h, k => by
    simp only [flatTVs, Bool.and_eq_true] at h
    simp only [TVLs] at k ⊢
    obtain ⟨t, r, c, h1, h2, h3, h4, h5, h6⟩ := k
    exact ⟨t, r, c, h1, h2, h3, h4, flatTV_ok h.1 h5, flatTVs_ok h.2 h6⟩
end

/-- What was handed over, under other eyes. -/
theorem TVAll.imp : ∀ {vs : List TV} {ts : List LT} {cs : List Value}, (∀ v ∈ vs, ∀ t c, TVL w M v t c → TVL w M' v t c) → TVAll w M vs ts cs → TVAll w M' vs ts cs
  | [], ts, cs, _, h => h
  | v :: vs, ts, cs, hi, h => by
    simp only [TVAll] at h ⊢
    obtain ⟨t, r, c, d, h1, h2, h3, h4⟩ := h
    exact ⟨t, r, c, d, h1, h2, hi v (by simp) t c h3, TVAll.imp (fun x hx => hi x (by simp [hx])) h4⟩

theorem FinR.imp : ∀ {vs : List TV} {ms : List Mode} {ts : List LT} {cs : List Value} {fs : List TV} {lfs : List LT}, (∀ v ∈ fs, ∀ t c, TVL w M v t c → TVL w M' v t c) → FinR w M ms vs ts cs fs lfs → FinR w M' ms vs ts cs fs lfs
  | [], ms, ts, cs, fs, lfs, _, h => by simpa only [FinR] using h
  | .pv x :: vs, ms, ts, cs, fs, lfs, hi, h => by
    simp only [FinR] at h ⊢
    obtain ⟨t, r, c, d, h1, h2, h3⟩ := h
    exact ⟨t, r, c, d, h1, h2, FinR.imp hi h3⟩
  | .own sz es :: vs, ms, ts, cs, fs, lfs, hi, h => by
    simp only [FinR] at h ⊢
    obtain ⟨t, r, c, d, h1, h2, h3⟩ := h
    refine ⟨t, r, c, d, h1, h2, ?_⟩
    split at h3
    · rename_i hm
      rw [if_pos hm]
      obtain ⟨es', fr, lr, rfl, h5, h6, h7⟩ := h3
      exact ⟨es', fr, lr, rfl, h5, hi _ (by simp) _ _ h6, FinR.imp (fun x hx => hi x (by simp [hx])) h7⟩
    · rename_i hm
      rw [if_neg hm]
      exact FinR.imp hi h3
  | .bld s :: vs, ms, ts, cs, fs, lfs, hi, h => by
    simp only [FinR] at h ⊢
    obtain ⟨t, r, c, d, h1, h2, f, fr, lf, lr, rfl, h4, h5, h6, h7⟩ := h
    exact ⟨t, r, c, d, h1, h2, f, fr, lf, lr, rfl, h4, hi _ (by simp) _ _ h5, h6, FinR.imp (fun x hx => hi x (by simp [hx])) h7⟩
  | .ptr s :: vs, ms, ts, cs, fs, lfs, hi, h => by
    simp only [FinR] at h ⊢
    obtain ⟨t, r, c, d, h1, h2, f, fr, lf, lr, rfl, h4, h5, h6, h7⟩ := h
    exact ⟨t, r, c, d, h1, h2, f, fr, lf, lr, rfl, h4, hi _ (by simp) _ _ h5, h6, FinR.imp (fun x hx => hi x (by simp [hx])) h7⟩

theorem flatTVs_mem : ∀ {vs : List TV}, flatTVs vs = true → ∀ v ∈ vs, flatTV v = true
  | [], _, v, hv => by simp at hv
  | x :: vs, h, v, hv => by
    simp only [flatTVs, Bool.and_eq_true] at h
    rcases List.mem_cons.1 hv with rfl | hv
    · exact h.1
    · exact flatTVs_mem h.2 v hv

theorem TVAll.length : ∀ {vs : List TV} {ts : List LT} {cs : List Value}, TVAll w M vs ts cs → cs.length = vs.length
  | [], ts, cs, h => by simp only [TVAll] at h; simp [h.2]
  | v :: vs, ts, cs, h => by
    simp only [TVAll] at h
    obtain ⟨t, r, c, d, rfl, rfl, _, h4⟩ := h
    simp [TVAll.length h4]

/-- Values that are handed over, under numbers. -/
theorem placeAll_ok {β : Nat → Loc} (g : Nat → Nat → Nat) : ∀ (vs : List TV) (id j : Nat) (ts : List LT) (cs : List Value), TVAll w M vs ts cs → (∀ p ∈ asgs g id j ts, β p.1 = p.2) →
    AVRs β w M (places g id j vs).1 cs ∧ (∀ p ∈ (places g id j vs).2, ObjR β w M (β p.1) p.2) ∧ (places g id j vs).2.map (·.1) = (asgs g id j ts).map (·.1)
  | [], id, j, ts, cs, h, hb => by
    simp only [TVAll] at h
    obtain ⟨rfl, rfl⟩ := h
    simp [places, asgs, AVRs]
  | v :: vs, id, j, ts, cs, h, hb => by
    simp only [TVAll] at h
    obtain ⟨t, r, c, d, rfl, rfl, h1, h2⟩ := h
    obtain ⟨p1, p2⟩ := place_ok g v (g id j) t c h1 (fun p hp => hb p (by simp only [asgs, List.mem_append]; exact .inl hp))
    obtain ⟨q1, q2, q3⟩ := placeAll_ok g vs id (j + 1) r d h2 (fun p hp => hb p (by simp only [asgs, List.mem_append]; exact .inr hp))
    refine ⟨?_, fun p hp => ?_, ?_⟩
    · simp only [places, AVRs]; exact ⟨c, d, rfl, p1, q1⟩
    · simp only [places, List.mem_append] at hp
      exact hp.elim (p2 p) (q2 p)
    · simp only [places, asgs, List.map_append, place_ids g v (g id j) t c h1, q3]

/-- The places of results. -/
def resAsg (d : Nat) : List LT → List (Nat × Loc)
  | [t] => asg cellId (dstId d) t
  | ts => asgs cellId (dstId d) 0 ts

theorem res_ok {β : Nat → Loc} {d : Nat} {rs : List TV} {ts : List LT} {cs : List Value} (h : TVAll w M rs ts cs) (hb : ∀ p ∈ resAsg d ts, β p.1 = p.2) :
    AVR β w M (resTV d rs).1 (wrapV cs) ∧ (∀ p ∈ (resTV d rs).2, ObjR β w M (β p.1) p.2) ∧ (resTV d rs).2.map (·.1) = (resAsg d ts).map (·.1) ∧ (resAsg d ts).map (·.2) = LT.locsL ts ∧
    (∀ i ∈ (resTV d rs).1.refs, i ∈ (resTV d rs).2.map (·.1)) ∧ ∀ p ∈ (resTV d rs).2, ∀ i ∈ p.2.refs, i ∈ (resTV d rs).2.map (·.1) := by
  have many : ∀ rs ts cs, TVAll w M rs ts cs → (∀ p ∈ asgs cellId (dstId d) 0 ts, β p.1 = p.2) → AVR β w M (.tup (places cellId (dstId d) 0 rs).1) (.tuple cs.toArray) ∧ (∀ p ∈ (places cellId (dstId d) 0 rs).2, ObjR β w M (β p.1) p.2) ∧
      (places cellId (dstId d) 0 rs).2.map (·.1) = (asgs cellId (dstId d) 0 ts).map (·.1) ∧ (asgs cellId (dstId d) 0 ts).map (·.2) = LT.locsL ts ∧
      (∀ i ∈ (AV.tup (places cellId (dstId d) 0 rs).1).refs, i ∈ (places cellId (dstId d) 0 rs).2.map (·.1)) ∧ ∀ p ∈ (places cellId (dstId d) 0 rs).2, ∀ i ∈ p.2.refs, i ∈ (places cellId (dstId d) 0 rs).2.map (·.1) := by
    intro rs ts cs h hb
    obtain ⟨q1, q2, q3⟩ := placeAll_ok cellId rs (dstId d) 0 ts cs h hb
    obtain ⟨r1, r2⟩ := places_refs cellId rs (dstId d) 0
    exact ⟨by simp only [AVR]; exact ⟨_, rfl, by simpa using q1⟩, q2, q3, asgs_locs _ _ _ _, by simpa only [AV.refs] using r1, r2⟩
  cases rs with
  | nil =>
    have h' := h
    simp only [TVAll] at h
    obtain ⟨rfl, rfl⟩ := h
    exact many [] [] [] h' hb
  | cons v rs =>
    cases rs with
    | nil =>
      simp only [TVAll] at h
      obtain ⟨t, r, c, d', rfl, rfl, h1, rfl, rfl⟩ := h
      obtain ⟨p1, p2⟩ := place_ok cellId v (dstId d) t c h1 hb
      obtain ⟨r1, r2⟩ := place_refs cellId v (dstId d)
      exact ⟨p1, p2, place_ids cellId v (dstId d) t c h1, by simp only [resAsg, LT.locsL, asg_locs, List.append_nil], r1, r2⟩
    | cons v' rs =>
      have h' := h
      simp only [TVAll] at h
      obtain ⟨t, r, c, d', rfl, rfl, h1, t', r', c', d'', rfl, rfl, h2, h3⟩ := h
      exact many _ _ _ h' hb

theorem placeAll_ids (g : Nat → Nat → Nat) : ∀ (vs : List TV) (id j : Nat) (ts : List LT) (cs : List Value), TVAll w M vs ts cs → (places g id j vs).2.map (·.1) = (asgs g id j ts).map (·.1)
  | [], id, j, ts, cs, h => by
    simp only [TVAll] at h
    obtain ⟨rfl, rfl⟩ := h
    simp [places, asgs]
  | v :: vs, id, j, ts, cs, h => by
    simp only [TVAll] at h
    obtain ⟨t, r, c, d, rfl, rfl, h1, h2⟩ := h
    simp only [places, asgs, List.map_append, place_ids g v (g id j) t c h1, placeAll_ids g vs id (j + 1) r d h2]
theorem res_ids {d : Nat} {rs : List TV} {ts : List LT} {cs : List Value} (h : TVAll w M rs ts cs) : (resTV d rs).2.map (·.1) = (resAsg d ts).map (·.1) := by
  cases rs with
  | nil =>
    have h' := h
    simp only [TVAll] at h
    obtain ⟨rfl, rfl⟩ := h
    exact placeAll_ids cellId [] (dstId d) 0 [] [] h'
  | cons v rs =>
    cases rs with
    | nil =>
      simp only [TVAll] at h
      obtain ⟨t, r, c, d', rfl, rfl, h1, rfl, rfl⟩ := h
      exact place_ids cellId v (dstId d) t c h1
    | cons v' rs =>
      have h' := h
      simp only [TVAll] at h
      obtain ⟨t, r, c, d', rfl, rfl, h1, t', r', c', d'', rfl, rfl, h2, h3⟩ := h
      exact placeAll_ids cellId _ (dstId d) 0 _ _ h'
theorem resAsg_locs (d : Nat) (ts : List LT) : (resAsg d ts).map (·.2) = LT.locsL ts := by
  cases ts with
  | nil => rfl
  | cons t r =>
    cases r with
    | nil => simp only [resAsg, LT.locsL, asg_locs, List.append_nil]
    | cons t' r => simp only [resAsg, asgs_locs]
theorem locsL_append : ∀ (a b : List LT), LT.locsL (a ++ b) = LT.locsL a ++ LT.locsL b
  | [], b => rfl
  | t :: r, b => by simp only [List.cons_append, LT.locsL, locsL_append r b, List.append_assoc]

/-- Every place of an argument is loose, or still there. -/
theorem fin_cover {w0 : World} {M0 : Cells} : ∀ {vs : List TV} {ms : List Mode} {ts : List LT} {cs cs' : List Value} {fs : List TV} {lfs : List LT}, TVAll w0 M0 vs ts cs' → FinR w M ms vs ts cs fs lfs →
    ∀ l ∈ LT.locsL ts, l ∈ LooseA ms vs ts ∨ (l ∈ FixA ms vs ts ∧ ∃ l' ∈ LT.locsL lfs, ∀ b j, l.F b j ↔ l'.F b j)
  | [], ms, ts, cs, cs', fs, lfs, hT, h, l, hl => by
    simp only [TVAll] at hT
    obtain ⟨rfl, _⟩ := hT
    simp [LT.locsL] at hl
  | .pv x :: vs, ms, ts, cs, cs', fs, lfs, hT, h, l, hl => by
    simp only [FinR] at h
    obtain ⟨t, r, c, d, rfl, rfl, h⟩ := h
    simp only [TVAll, TVL] at hT
    obtain ⟨t', r', c', d', e, rfl, ⟨ht, _⟩, hT⟩ := hT
    injection e with e1 e2; subst e1; subst e2; subst ht
    simp only [LT.locsL, LT.locs, List.nil_append] at hl
    simp only [LooseA, LT.loose, FixA, List.nil_append]
    exact fin_cover hT h l hl
  | .own sz es :: vs, ms, ts, cs, cs', fs, lfs, hT, h, l, hl => by
    simp only [FinR] at h
    obtain ⟨t, r, c, d, rfl, rfl, h⟩ := h
    simp only [TVAll] at hT
    obtain ⟨t', r', c', d', e, rfl, _, hT⟩ := hT
    injection e with e1 e2; subst e1; subst e2
    simp only [LT.locsL, List.mem_append] at hl
    by_cases hm : ms.headD .borrow = .mut
    · rw [if_pos hm] at h
      obtain ⟨es', fr, lr, rfl, rfl, _, h⟩ := h
      simp only [LooseA, FixA, if_pos hm, List.nil_append, List.mem_append, LT.locsL]
      rcases hl with hl | hl
      · exact .inr ⟨.inl hl, l, .inl hl, fun _ _ => Iff.rfl⟩
      · rcases fin_cover hT h l hl with k | ⟨k1, l', k2, k3⟩
        · exact .inl k
        · exact .inr ⟨.inr k1, l', .inr k2, k3⟩
    · rw [if_neg hm] at h
      simp only [LooseA, FixA, if_neg hm, List.nil_append, List.mem_append]
      rcases hl with hl | hl
      · exact .inl (.inl hl)
      · exact (fin_cover hT h l hl).imp .inr (fun h => h)
  | .bld s :: vs, ms, ts, cs, cs', fs, lfs, hT, h, l, hl => by
    simp only [FinR] at h
    obtain ⟨t, r, c, d, rfl, rfl, f, fr, lf, lr, rfl, rfl, _, hL, h⟩ := h
    simp only [TVAll] at hT
    obtain ⟨t', r', c', d', e, rfl, _, hT⟩ := hT
    injection e with e1 e2; subst e1; subst e2
    simp only [LT.locsL, List.mem_append] at hl ⊢
    simp only [LooseA, FixA, List.mem_append]
    rcases hl with hl | hl
    · rcases (LT.mem_locs t l).1 hl with hl | hl
      · exact .inl (.inl hl)
      · obtain ⟨l', k1, k2⟩ := like_fixed hL l hl
        exact .inr ⟨.inl hl, l', .inl ((LT.mem_locs lf l').2 (.inr k1)), k2⟩
    · rcases fin_cover hT h l hl with k | ⟨k1, l', k2, k3⟩
      · exact .inl (.inr k)
      · exact .inr ⟨.inr k1, l', .inr k2, k3⟩
  | .ptr s :: vs, ms, ts, cs, cs', fs, lfs, hT, h, l, hl => by
    simp only [FinR] at h
    obtain ⟨t, r, c, d, rfl, rfl, f, fr, lf, lr, rfl, rfl, _, hL, h⟩ := h
    simp only [TVAll] at hT
    obtain ⟨t', r', c', d', e, rfl, _, hT⟩ := hT
    injection e with e1 e2; subst e1; subst e2
    simp only [LT.locsL, List.mem_append] at hl ⊢
    simp only [LooseA, FixA, List.mem_append]
    rcases hl with hl | hl
    · rcases (LT.mem_locs t l).1 hl with hl | hl
      · exact .inl (.inl hl)
      · obtain ⟨l', k1, k2⟩ := like_fixed hL l hl
        exact .inr ⟨.inl hl, l', .inl ((LT.mem_locs lf l').2 (.inr k1)), k2⟩
    · rcases fin_cover hT h l hl with k | ⟨k1, l', k2, k3⟩
      · exact .inl (.inr k)
      · exact .inr ⟨.inr k1, l', .inr k2, k3⟩

mutual
theorem backLeaf_ids : ∀ (ob : Option Back) (id j : Nat) (f : TV) (a : AV) (ps : List Patch) (os : List (Nat × Obj)), backLeaf id j ob f = some (a, ps, os) → (ps.map Patch.id).Perm (oids ob) ∧ (∀ i ∈ oblds ob, ∃ s, Patch.bld i s ∈ ps) ∧ ∀ i s, Patch.bld i s ∈ ps → i ∈ oblds ob
  | some (.box i off bs), id, j, f, a, ps, os, h => by
    cases f <;> simp only [backLeaf] at h <;> try (cases h; done)
    rename_i cells
    split at h
    · rename_i l ps' os' hl
      injection h with h; injection h with h1 h; injection h with h2 h3; subst h1; subst h2; subst h3
      obtain ⟨k1, k2, k5⟩ := backLeaves_ids bs i off cells l ps' os' hl
      refine ⟨?_, fun i' hi' => (k2 i' (by simpa only [oblds, Back.blds] using hi')).imp fun _ h => List.mem_append.2 (.inl h), fun i' s hs => ?_⟩
      rotate_left
      · simp only [oblds, Back.blds]
        rcases List.mem_append.1 hs with hs | hs
        · exact k5 i' s hs
        · simp at hs
      simp only [List.map_append, List.map_cons, List.map_nil, Patch.id, oids, Back.ids]
      exact (List.perm_append_comm.trans (List.Perm.cons i k1))
    · exact absurd h (by simp)
  | some (.own i), id, j, f, a, ps, os, h => by cases f <;> simp only [backLeaf] at h <;> cases h
  | some .nilSl, id, j, f, a, ps, os, h => by cases f <;> simp only [backLeaf] at h <;> cases h
  | some (.bld i), id, j, f, a, ps, os, h => by
    cases f <;> simp only [backLeaf] at h <;> try (cases h; done)
    rename_i bs
    injection h with h; injection h with h1 h; injection h with h2 h3; subst h1; subst h2; subst h3
    refine ⟨by simp [oids, Back.ids, Patch.id], fun i' hi' => ?_, fun i' s hs => by simp at hs; simp [oblds, Back.blds, hs.1]⟩
    simp [oblds, Back.blds] at hi'; subst hi'; exact ⟨bs, by simp⟩
  | none, id, j, f, a, ps, os, h => by
    cases f <;> simp only [backLeaf] at h <;> try (cases h; done)
    · injection h with h; injection h with h1 h; injection h with h2 h3; subst h1; subst h2; subst h3
      simp [oids, oblds]
    · injection h with h; injection h with h1 h; injection h with h2 h3; subst h1; subst h2; subst h3
      simp [oids, oblds]
theorem backLeaves_ids : ∀ (bs : List (Option Back)) (id j : Nat) (fs : List TV) (l : List AV) (ps : List Patch) (os : List (Nat × Obj)), backLeaves id j bs fs = some (l, ps, os) → (ps.map Patch.id).Perm (Back.idsO bs) ∧ (∀ i ∈ Back.bldsO bs, ∃ s, Patch.bld i s ∈ ps) ∧ ∀ i s, Patch.bld i s ∈ ps → i ∈ Back.bldsO bs
  | [], id, j, fs, l, ps, os, h => by
    cases fs <;> simp only [backLeaves] at h <;> try (cases h; done)
    injection h with h; injection h with h1 h; injection h with h2 h3; subst h1; subst h2; subst h3
    simp [Back.idsO, Back.bldsO]
  | ob :: bs, id, j, fs, l, ps, os, h => by
    cases fs <;> simp only [backLeaves] at h <;> try (cases h; done)
    rename_i f fs
    split at h
    · rename_i a p os1 l' ps' os' h1 h2
      injection h with h; injection h with e1 h; injection h with e2 e3; subst e1; subst e2; subst e3
      obtain ⟨k1, k2, k5⟩ := backLeaf_ids ob id j f a p os1 h1
      obtain ⟨k3, k4, k6⟩ := backLeaves_ids bs id (j + 1) fs l' ps' os' h2
      rw [idsO_cons, bldsO_cons, List.map_append]
      refine ⟨List.Perm.append k1 k3, fun i hi => ?_, fun i s hs => (List.mem_append.1 hs).elim (fun hs => List.mem_append.2 (.inl (k5 i s hs))) (fun hs => List.mem_append.2 (.inr (k6 i s hs)))⟩
      rcases List.mem_append.1 hi with hi | hi
      · exact (k2 i hi).imp fun _ h => List.mem_append.2 (.inl h)
      · exact (k4 i hi).imp fun _ h => List.mem_append.2 (.inr h)
    · exact absurd h (by simp)
end
theorem backTV_ids : ∀ (bs : List Back) (fs : List TV) (ws : List Patch) (os : List (Nat × Obj)), backTV bs fs = some (ws, os) → (ws.map Patch.id).Perm (Back.idsL bs) ∧ (∀ i ∈ Back.bldsL bs, ∃ s, Patch.bld i s ∈ ws) ∧ ∀ i s, Patch.bld i s ∈ ws → i ∈ Back.bldsL bs
  | [], fs, ws, os, h => by
    cases fs <;> simp only [backTV] at h <;> try (cases h; done)
    injection h with h; injection h with h1 h2; subst h1; subst h2
    simp [Back.idsL, Back.bldsL]
  | b :: bs, [], ws, os, h => by cases b <;> simp only [backTV] at h <;> cases h
  | b :: bs, f :: fs, ws, os, h => by
    have two : ((∃ i, b = .bld i) ∨ ∃ i off l, b = .box i off l) → (ws.map Patch.id).Perm (Back.idsL (b :: bs)) ∧ (∀ i ∈ Back.bldsL (b :: bs), ∃ s, Patch.bld i s ∈ ws) ∧ ∀ i s, Patch.bld i s ∈ ws → i ∈ Back.bldsL (b :: bs) := by
      intro hb
      obtain ⟨a, p, o, q, r, h1, h2, rfl, rfl⟩ := backTV_cons hb h
      obtain ⟨k1, k2, k5⟩ := backLeaf_ids _ _ _ _ _ _ _ h1
      obtain ⟨k3, k4, k6⟩ := backTV_ids bs fs q r h2
      simp only [Back.idsL, Back.bldsL, List.flatMap_cons, List.map_append]
      refine ⟨List.Perm.append k1 k3, fun i hi => ?_, fun i s hs => (List.mem_append.1 hs).elim (fun hs => List.mem_append.2 (.inl (k5 i s hs))) (fun hs => List.mem_append.2 (.inr (k6 i s hs)))⟩
      rcases List.mem_append.1 hi with hi | hi
      · exact (k2 i hi).imp fun _ h => List.mem_append.2 (.inl h)
      · exact (k4 i hi).imp fun _ h => List.mem_append.2 (.inr h)
    cases b with
    | box i off l => exact two (.inr ⟨i, off, l, rfl⟩)
    | bld i => exact two (.inl ⟨i, rfl⟩)
    | nilSl =>
      cases f <;> (try simp only [backTV] at h) <;> try (cases h; done)
      rename_i sz es
      cases es with
      | cons e es => (try simp only [backTV] at h); cases h
      | nil =>
        (try simp only [backTV] at h)
        have := backTV_ids bs fs ws os h
        simpa [Back.idsL, Back.bldsL, Back.ids, Back.blds] using this
    | own i =>
      cases f <;> simp only [backTV] at h <;> try (cases h; done)
      split at h
      · rename_i q r hr
        injection h with h; injection h with h1 h2; subst h1; subst h2
        obtain ⟨k3, k4, k6⟩ := backTV_ids bs fs q r hr
        simp only [Back.idsL, Back.bldsL, List.flatMap_cons, Back.ids, Back.blds, List.map_cons, Patch.id, List.singleton_append, List.nil_append]
        exact ⟨List.Perm.cons i k3, fun i' hi' => (k4 i' hi').imp fun _ h => List.mem_cons_of_mem _ h, fun i' s hs => k6 i' s (by simpa using hs)⟩
      · exact absurd h (by simp)

theorem nodup_ok : ∀ {l : List Nat}, nodup l = true → l.Nodup
  | [], _ => List.nodup_nil
  | a :: r, h => by
    simp only [nodup, Bool.and_eq_true, Bool.not_eq_true', List.contains_eq_mem, decide_eq_false_iff_not] at h
    exact List.nodup_cons.2 ⟨h.1, nodup_ok h.2⟩
theorem freeOf_ok : ∀ {l r : List Nat}, freeOf l r = true → ∀ i ∈ l, i ∉ r
  | [], _, _, i, hi => by simp at hi
  | a :: l, r, h, i, hi => by
    simp only [freeOf, Bool.and_eq_true, Bool.not_eq_true', List.contains_eq_mem, decide_eq_false_iff_not] at h
    rcases List.mem_cons.1 hi with rfl | hi
    · exact h.1
    · exact freeOf_ok h.2 i hi

mutual
theorem blds_sub : ∀ (b : Back), b.blds.Sublist b.ids
  | .box id _ leaf => by simp only [Back.blds, Back.ids]; exact (bldsO_sub leaf).cons id
  | .own _ => by simp [Back.blds, Back.ids]
  | .nilSl => by simp [Back.blds, Back.ids]
  | .bld _ => by simp [Back.blds, Back.ids]
theorem bldsO_sub : ∀ (bs : List (Option Back)), (Back.bldsO bs).Sublist (Back.idsO bs)
  | [] => by simp [Back.bldsO, Back.idsO]
  | none :: r => by simp only [Back.bldsO, Back.idsO]; exact bldsO_sub r
  | some b :: r => by simp only [Back.bldsO, Back.idsO]; exact (blds_sub b).append (bldsO_sub r)
end
theorem bldsL_sub : ∀ (bs : List Back), (Back.bldsL bs).Sublist (Back.idsL bs)
  | [] => by simp [Back.bldsL, Back.idsL]
  | b :: r => by simp only [Back.bldsL, Back.idsL, List.flatMap_cons]; exact (blds_sub b).append (bldsL_sub r)

end

theorem Invokes.mono {P : Program} {f : FuncId} {args : Array Value} {w : World} {R R' : Value → World → Prop} (h : Invokes P f args w R) (hr : ∀ v w', R v w' → R' v w') : Invokes P f args w R' := by
  unfold Invokes at h ⊢
  split at h
  · exact hr _ _ h
  · exact h.mono fun e w'' ⟨v, h1, h2⟩ => ⟨v, h1, hr _ _ h2⟩
  · exact h.elim

theorem AVRs.append {β : Nat → Loc} {w : World} {M : Cells} : ∀ {xs ys : List AV} {vs us : List Value}, AVRs β w M xs vs → AVRs β w M ys us → AVRs β w M (xs ++ ys) (vs ++ us)
  | [], _, _, _, h, k => by simp only [AVRs] at h; subst h; exact k
  | x :: xs, ys, _, us, h, k => by
    simp only [AVRs] at h
    obtain ⟨c, r, rfl, h1, h2⟩ := h
    simp only [List.cons_append, AVRs]
    exact ⟨c, r ++ us, rfl, h1, AVRs.append h2 k⟩
theorem RepS.avrs {β : Nat → Loc} {w : World} {M : Cells} : ∀ {xs : List PV} {vs : List Value}, RepS w M xs vs → AVRs β w M (xs.map .pv) vs
  | [], _, h => by simp only [RepS] at h; subst h; simp [AVRs]
  | x :: xs, _, h => by
    simp only [RepS] at h
    obtain ⟨c, r, rfl, _, h1, h2⟩ := h
    simp only [List.map_cons, AVRs]
    exact ⟨c, r, rfl, by simp only [AVR]; exact h1, RepS.avrs h2⟩

section
variable {C : Cx} {call : FuncId → List TV → Option (List TV × List TV)} {M0 M : Cells} {β : Nat → Loc} {V : View} {a : Act} {w : World} {R : Nat → Prop}

/-- Whom a call calls, and with what. -/
theorem callee_ok (hV : VR M0 M β V a.tmps w) {callee : Callee} {args : Array Operand} {ts : Array TypeId} {f : FuncId} {first caps as : List AV} (h : calleeOf V callee = some (f, first, caps)) (ha : evalAll V args.toList = some as) :
    ∃ cs : List Value, AVRs β w M (first ++ as ++ caps) cs ∧ ∀ oo : Oper, oo.op = .call { callee := callee, args := args, argTypes := ts } → execOp a.eval oo = callFunc f cs.toArray := by
  have has := evalAll_ok hV ha
  unfold calleeOf at h
  split at h
  · injection h with h; injection h with h1 h; injection h with h2 h3; subst h1; subst h2; subst h3
    refine ⟨args.toList.map a.eval, by simpa using has, fun oo ho => ?_⟩
    simp [execOp, ho, resolve, Deferred.ofValue, invoke, Act.eval]
    congr 1
    apply Array.ext'; simp
  · rename_i x
    split at h
    · rename_i f' caps' hx
      injection h with h; injection h with h1 h; injection h with h2 h3; subst h1; subst h2; subst h3
      have ex := eval_ok hV hx
      simp only [AVR, Rep] at ex
      obtain ⟨cs, hc, hr⟩ := ex
      refine ⟨args.toList.map a.eval ++ cs.toList, by simpa using AVRs.append has hr.avrs, fun oo ho => ?_⟩
      simp [execOp, ho, resolve, Deferred.ofValue, invoke, hc]
      congr 1
      apply Array.ext'; simp
    · rename_i f' first' caps' hx
      injection h with h; injection h with h1 h; injection h with h2 h3; subst h1; subst h2; subst h3
      have ex := eval_ok hV hx
      simp only [AVR] at ex
      obtain ⟨p, q, hc, hp, hq⟩ := ex
      refine ⟨p.toList ++ args.toList.map a.eval ++ q.toList, AVRs.append (AVRs.append hp has) hq, fun oo ho => ?_⟩
      simp [execOp, ho, resolve, Deferred.ofValue, invoke, hc]
      congr 1
      apply Array.ext'; simp
    · exact absurd h (by simp)
  · exact absurd h (by simp)

/-- What a call leaves behind. -/
theorem took_post (hV : VR M0 M β V a.tmps w) {ms : List Mode} {g : Given} {lts : List LT} {js : List Nat} {cs : List Value} {rs fs : List TV} {d : Nat} {ws : List Patch} {os : List (Nat × Obj)} {frz : List Nat} {v : Value} {w' : World}
    (hjs : js.Perm (g.dels ++ Back.idsL g.bs)) (hOwn : OwnL V β (LT.locsL lts) js) (hA : ArgsR β ms g.vs lts g.bs) (hLo : LooseR V β (LooseA ms g.vs lts) g.dels (Back.bldsL g.bs))
    (hnd : (g.dels ++ Back.idsL g.bs).Nodup) (hlent : ∀ i ∈ g.lent, i ∉ g.dels ++ Back.idsL g.bs)
    {Ml : Cells} (hMl : ∀ b j, Ml b j ↔ M b j ∧ ¬ ∃ i ∈ g.lent, (∃ o, V.obj i = some o) ∧ (β i).F b j) (hT : TVAll w Ml g.vs lts cs)
    (hfrz : frz = g.lent ∨ (frz = [] ∧ (flatTVs rs = true ∧ flatTVs fs = true)))
    (hback : backTV g.bs fs = some (ws, os))
    (hos : (((resTV d rs).2 ++ os).map (·.1)).Nodup) (hfresh : ∀ id ∈ ((resTV d rs).2 ++ os).map (·.1), ∀ o, V.obj id = some o → id ∈ g.dels ∨ id ∈ frz)
    (htook : Took ms (fun b j => Ml b j ∧ ¬ ∃ l ∈ LT.locsL lts, l.F b j) w g.vs lts cs rs fs v w') :
    ∃ M' β', Post (fun b j => M b j ∧ ¬ ∃ i ∈ frz, (∃ o, V.obj i = some o) ∧ (β i).F b j) β w (fun id => ∃ o, V.obj id = some o) ⟨(resTV d rs).1, (resTV d rs).2 ++ os, ws, [], g.dels, frz⟩ M' β' w' v ∧
      ∀ R : Nat → Prop, (∀ id o, V.obj id = some o → id ∉ g.dels → id ∉ frz → R id) → MRefs R ⟨(resTV d rs).1, (resTV d rs).2 ++ os, ws, [], g.dels, frz⟩ := by
  obtain ⟨vs, lrs, lfs, hv, hTr, hFin, hap, hout, hloose, hfr⟩ := htook
  generalize hm : (⟨(resTV d rs).1, (resTV d rs).2 ++ os, ws, [], g.dels, frz⟩ : Made) = m
  generalize hM1 : (fun b j => M b j ∧ ¬ ∃ i ∈ frz, (∃ o, V.obj i = some o) ∧ (β i).F b j) = M1
  have m1 : ∀ b j, M1 b j ↔ M b j ∧ ¬ ∃ i ∈ frz, (∃ o, V.obj i = some o) ∧ (β i).F b j := fun b j => by rw [← hM1]
  let D0 : Cells := fun b j => ∃ l ∈ LT.locsL lts, l.F b j
  let NL : Cells := fun b j => ∃ l ∈ LT.locsL (lrs ++ lfs), l.F b j
  let M' : Cells := fun b j => (M1 b j ∧ ¬ D0 b j) ∨ NL b j
  let dom : Nat → Prop := fun id => ∃ o, V.obj id = some o
  let G := Gone β dom m
  have locs_app := locsL_append lrs lfs
  -- the places that were handed over
  have hjn : js.Nodup := hjs.symm.nodup hnd
  have hD : ∀ b j, D0 b j → ∃ i ∈ js, (∃ o, V.obj i = some o) ∧ (β i).F b j := by
    rintro b j ⟨l, hl, hF⟩
    exact hOwn.mem l hl b j hF
  have hDM : ∀ b j, D0 b j → Ml b j := by
    intro b j h
    obtain ⟨i, hi, ⟨o, ho⟩, hF⟩ := hD b j h
    refine (hMl b j).2 ⟨(hV.own i o ho b j hF).1, ?_⟩
    rintro ⟨k, hk, ⟨o', ho'⟩, hF'⟩
    have hne : i ≠ k := fun e => hlent k hk (e ▸ hjs.subset hi)
    exact hV.disj i k o o' ho ho' hne b j hF hF'
  have hMl1 : ∀ b j, Ml b j → M1 b j := by
    intro b j h
    obtain ⟨h1, h2⟩ := (hMl b j).1 h
    refine (m1 b j).2 ⟨h1, ?_⟩
    rintro ⟨k, hk, hk2⟩
    rcases hfrz with e | ⟨e, _⟩
    · exact h2 ⟨k, e ▸ hk, hk2⟩
    · rw [e] at hk; simp at hk
  have hM1M : ∀ b j, M1 b j → M b j := fun b j h => ((m1 b j).1 h).1
  have hNL : ∀ b j, NL b j → M1 b j ∨ w.heap.size ≤ b := by
    rintro b j ⟨l, hl, hF⟩
    rcases (hout l hl b j hF).2.2 with h | h
    · exact .inr h
    · exact .inl (hMl1 b j (hDM b j h))
  -- how the callee's eyes and the caller's agree
  have hsub : frz = g.lent → ∀ b j, M' b j → cellsOf (fun b j => Ml b j ∧ ¬ ∃ l ∈ LT.locsL lts, l.F b j) (LT.locsL (lrs ++ lfs)) b j := by
    rintro e b j (⟨h1, h2⟩ | h)
    · refine .inl ⟨(hMl b j).2 ?_, h2⟩
      have := (m1 b j).1 h1
      rw [e] at this; exact this
    · exact .inr h
  have hTr' : TVAll w' M' rs lrs vs := by
    rcases hfrz with e | ⟨_, hf, _⟩
    · exact TVAll.imp (fun x hx t c h => TVL.sub (hsub e) h) hTr
    · exact TVAll.imp (fun x hx t c h => flatTV_ok (flatTVs_mem hf x hx) h) hTr
  have hFin' : FinR w' M' ms g.vs lts cs fs lfs := by
    rcases hfrz with e | ⟨_, _, hf⟩
    · exact FinR.imp (fun x hx t c h => TVL.sub (hsub e) h) hFin
    · exact FinR.imp (fun x hx t c h => flatTV_ok (flatTVs_mem hf x hx) h) hFin
  -- the new numbers
  have hTO := tops_out (β := β) g.vs ms lts cs g.bs fs lfs ws os hA hFin' hback
  have hresIds := res_ids (d := d) hTr'
  have hno : ∀ i, i ∈ ((resTV d rs).2 ++ os).map (·.1) → ∀ o, V.obj i = some o → i ∈ Back.idsL g.bs → False := by
    intro i hi o ho hb
    rcases hfresh i hi o ho with h | h
    · exact (List.nodup_append.1 hnd).2.2 i h i hb rfl
    · rcases hfrz with e | ⟨e, _⟩
      · exact hlent i (e ▸ h) (List.mem_append.2 (.inr hb))
      · rw [e] at h; simp at h
  generalize hba : resAsg d lrs ++ tops β g.bs lfs = ba
  have hbaN : (ba.map (·.1)).Nodup := by
    have hp : (ba.map (·.1)).Perm (((resTV d rs).2 ++ os).map (·.1) ++ Back.bldsL g.bs) := by
      rw [← hba, List.map_append, List.map_append, ← hresIds, List.append_assoc]
      exact List.Perm.append_left _ hTO.perm
    refine hp.symm.nodup (List.nodup_append.2 ⟨hos, (bldsL_sub g.bs).nodup (List.nodup_append.1 hnd).2.1, fun x hx y hy e => ?_⟩)
    subst e
    have hxi := (bldsL_sub g.bs).subset hy
    obtain ⟨o, ho⟩ := hOwn.ids x (hjs.symm.subset (List.mem_append.2 (.inr hxi)))
    exact hno x hx o ho hxi
  generalize hβ' : (fun i => match lkp i ba with | some l => l | none => β i) = β'
  have b1 : ∀ p ∈ ba, β' p.1 = p.2 := fun p hp => by
    rw [← hβ']
    have := lkp_of_mem (n := p.1) (a := p.2) hbaN hp
    simp only [this]
  have b2 : ∀ i, i ∉ ba.map (·.1) → β' i = β i := fun i hi => by
    rw [← hβ']
    cases hl : lkp i ba with
    | none => simp only [hl]
    | some l => exact absurd (List.mem_map_of_mem (f := (·.1)) (lkp_mem hl)) hi
  have hresB : ∀ p ∈ resAsg d lrs, β' p.1 = p.2 := fun p hp => b1 p (by rw [← hba]; exact List.mem_append.2 (.inl hp))
  have htopB : ∀ p ∈ tops β g.bs lfs, β' p.1 = p.2 := fun p hp => b1 p (by rw [← hba]; exact List.mem_append.2 (.inr hp))
  -- what numbers are in the list
  have hbaM : ∀ i, i ∈ ba.map (·.1) ↔ i ∈ ((resTV d rs).2 ++ os).map (·.1) ∨ i ∈ Back.bldsL g.bs := by
    intro i
    rw [← hba, List.map_append, List.map_append, ← hresIds, List.mem_append, List.mem_append, or_assoc]
    have := hTO.perm.mem_iff (a := i)
    rw [this, List.mem_append]
  have hidx : ∀ i ∈ Back.idsL g.bs, (∃ o, V.obj i = some o) ∧ i ∉ ((resTV d rs).2 ++ os).map (·.1) := by
    intro i hi
    obtain ⟨o, ho⟩ := hOwn.ids i (hjs.symm.subset (List.mem_append.2 (.inr hi)))
    exact ⟨⟨o, ho⟩, fun hx => hno i hx o ho hi⟩
  obtain ⟨hwsP, hwsB, hwsC⟩ := backTV_ids g.bs fs ws os hback
  have hwsN : (ws.map Patch.id).Nodup := hwsP.symm.nodup (List.nodup_append.1 hnd).2.1
  have hone : ∀ p ∈ ws, ∀ q ∈ ws, p.id = q.id → p = q := by
    intro p hp q hq he
    obtain ⟨k, hk⟩ := List.mem_iff_getElem?.1 hp
    obtain ⟨k', hk'⟩ := List.mem_iff_getElem?.1 hq
    have n1 : (ws.map Patch.id)[k]? = some p.id := by rw [List.getElem?_map, hk]; rfl
    have n2 : (ws.map Patch.id)[k']? = some p.id := by rw [List.getElem?_map, hk', he]; rfl
    have hkk := (List.getElem?_inj (List.getElem?_eq_some_iff.1 n1).1 hwsN).1 (n1.trans n2.symm)
    subst hkk
    rw [hk] at hk'; injection hk'
  have hwsid : ∀ p ∈ ws, p.id ∈ Back.idsL g.bs := fun p hp => hwsP.subset (List.mem_map_of_mem (f := Patch.id) hp)
  have hkeep : ∀ p ∈ ws, (∀ bs, p ≠ .bld p.id bs) → β' p.id = β p.id := by
    intro p hp hnb
    refine b2 _ (fun hx => ?_)
    rcases (hbaM _).1 hx with hx | hx
    · exact (hidx _ (hwsid p hp)).2 hx
    · obtain ⟨s, hs⟩ := hwsB _ hx
      exact hnb s (hone p hp _ hs rfl)
  have hmw : m.ws = ws := by rw [← hm]
  have hmd : m.dels = g.dels := by rw [← hm]
  have hmo : m.os = (resTV d rs).2 ++ os := by rw [← hm]
  have hmu : m.use = [] := by rw [← hm]
  have hG : ∀ l ∈ LooseA ms g.vs lts, ∀ b j, l.F b j → G b j := by
    intro l hl b j hF
    rcases hLo l hl b j hF with ⟨i, hi, ho, hF'⟩ | ⟨i, hi, hF'⟩
    · exact .inl ⟨i, by rw [hmd, hmu]; simpa using hi, ho, hF'⟩
    · obtain ⟨s, hs⟩ := hwsB i hi
      exact .inr ⟨i, s, by rw [hmw]; exact hs, hF'⟩
  have hFl : ∀ l ∈ LT.locsL lrs ++ LooseF fs lfs, ∀ b j, l.F b j → M' b j ∧ (w.heap.size ≤ b ∨ G b j) := by
    intro l hl b j hF
    refine ⟨.inr ⟨l, ?_, hF⟩, ?_⟩
    · rw [locs_app]
      exact (List.mem_append.1 hl).elim (fun h => List.mem_append.2 (.inl h)) (fun h => List.mem_append.2 (.inr (looseF_locs _ _ l h)))
    · rcases hloose l hl b j hF with h | ⟨l0, h1, h2⟩
      · exact .inl h
      · exact .inr (hG l0 h1 b j h2)
  have hBO := backs_ok (β := β) (β' := β') (G := G) (w := w) (w' := w') (M' := M') g.vs ms lts cs g.bs fs lfs ws os hA hFin' hback (fun l hl => hFl l (List.mem_append.2 (.inr hl))) htopB
    (fun i off cells hm' => hkeep _ hm' (fun bs e => by cases e)) (fun i sz es hm' => hkeep _ hm' (fun bs e => by cases e))
  obtain ⟨r1, r2, r3, r4, r5, r6⟩ := res_ok (β := β') (d := d) hTr' hresB
  -- places of numbers
  have hbaF : ∀ p ∈ ba, ∃ l ∈ LT.locsL lrs ++ LooseF fs lfs, ∀ b j, p.2.F b j ↔ l.F b j := by
    intro p hp
    rw [← hba] at hp
    rcases List.mem_append.1 hp with hp | hp
    · exact ⟨p.2, List.mem_append.2 (.inl (by rw [← r4]; exact List.mem_map_of_mem (f := (·.2)) hp)), fun _ _ => Iff.rfl⟩
    · obtain ⟨l, l1, l2⟩ := hTO.mem p hp
      exact ⟨l, List.mem_append.2 (.inr l1), l2⟩
  have hap' : Apart (LT.locsL lrs ++ LT.locsL lfs) := by rw [← locs_app]; exact hap
  have hbaD : ba.Pairwise (fun p q => ∀ b j, p.2.F b j → ¬ q.2.F b j) := by
    rw [← hba]
    refine List.pairwise_append.2 ⟨?_, hTO.pair hap'.right, fun p hp q hq b j hF hF' => ?_⟩
    · have := hap'.left
      rw [Apart, ← r4, List.pairwise_map] at this
      exact this
    · obtain ⟨l, l1, l2⟩ := hTO.mem q hq
      refine (List.pairwise_append.1 hap').2.2 p.2 (by rw [← r4]; exact List.mem_map_of_mem (f := (·.2)) hp) l (looseF_locs _ _ l l1) b j hF ((l2 b j).1 hF')
  have hpair : ∀ p ∈ ba, ∀ q ∈ ba, p.1 ≠ q.1 → ∀ b j, p.2.F b j → ¬ q.2.F b j := by
    intro p hp q hq hne b j hF hF'
    obtain ⟨x, hx⟩ := List.mem_iff_getElem?.1 hp
    obtain ⟨y, hy⟩ := List.mem_iff_getElem?.1 hq
    obtain ⟨hx1, hx2⟩ := List.getElem?_eq_some_iff.1 hx
    obtain ⟨hy1, hy2⟩ := List.getElem?_eq_some_iff.1 hy
    have hxy : x ≠ y := fun e => by subst e; rw [hx] at hy; injection hy with hy; exact hne (by rw [hy])
    rw [List.pairwise_iff_getElem] at hbaD
    rcases Nat.lt_or_gt_of_ne hxy with hlt | hgt
    · have := hbaD x y hx1 hy1 hlt b j
      rw [hx2, hy2] at this; exact this hF hF'
    · have := hbaD y x hy1 hx1 hgt b j
      rw [hx2, hy2] at this; exact this hF' hF
  have entry : ∀ i, i ∈ ba.map (·.1) → ∃ p ∈ ba, p.1 = i ∧ β' i = p.2 := by
    intro i hi
    obtain ⟨p, hp, rfl⟩ := List.mem_map.1 hi
    exact ⟨p, hp, rfl, b1 p hp⟩
  have newB : ∀ i, i ∈ m.os.map (·.1) → i ∈ ba.map (·.1) := fun i hi => (hbaM i).2 (.inl (by rw [← hmo]; exact hi))
  have newF : ∀ i, i ∈ m.os.map (·.1) → ∀ b j, (β' i).F b j → M' b j ∧ (w.heap.size ≤ b ∨ G b j) := by
    intro i hi b j hF
    obtain ⟨p, hp, rfl, e⟩ := entry i (newB i hi)
    rw [e] at hF
    obtain ⟨l, l1, l2⟩ := hbaF p hp
    exact hFl l l1 b j ((l2 b j).1 hF)
  refine ⟨M', β', ⟨fun id hid => ?_, fun id hid hid' => ?_, fun b j h => ?_, fun b j h => ?_, fun b j h => ?_, fun p hp => ⟨?_, ?_⟩, fun p hp => ?_, by rw [hmw]; exact hwsN, fun id id' h h' hne => ?_, ?_, ?_⟩, fun R hR => ?_⟩
  · by_cases hb : id ∈ ba.map (·.1)
    · obtain ⟨p, hp, rfl, e⟩ := entry id hb
      rw [e]
      rw [← hba] at hp
      rcases List.mem_append.1 hp with hp | hp
      · exact absurd (by rw [hmo, List.map_append, hresIds]; exact List.mem_append.2 (.inl (List.mem_map_of_mem (f := (·.1)) hp))) hid
      · rcases hTO.same p hp with h | h
        · exact absurd (by rw [hmo, List.map_append]; exact List.mem_append.2 (.inr h)) hid
        · exact h
    · exact Loc.same_of (b2 id hb)
  · refine b2 id (fun hx => ?_)
    rcases (hbaM id).1 hx with hx | hx
    · exact hid (by rw [hmo]; exact hx)
    · obtain ⟨s, hs⟩ := hwsB id hx
      exact hid' (by rw [hmw]; exact List.mem_map_of_mem (f := Patch.id) hs)
  · by_cases hd : D0 b j
    · obtain ⟨l, hl, hF⟩ := hd
      rcases fin_cover hT hFin' l hl with h1 | ⟨h1, l', h2, h3⟩
      · exact .inr (hG l h1 b j hF)
      · exact .inl (.inr ⟨l', by rw [locs_app]; exact List.mem_append.2 (.inr h2), (h3 b j).1 hF⟩)
    · exact .inl (.inl ⟨h, hd⟩)
  · rcases h with h | h
    · exact .inl h.1
    · exact hNL b j h
  · rcases h with h | ⟨l, hl, hF⟩
    · have := hV.old b j (hM1M b j h.1)
      have := hfr.size
      omega
    · exact (hout l hl b j hF).2.1
  · rw [hmo] at hp
    rcases List.mem_append.1 hp with hp | hp
    · exact r2 p hp
    · exact hBO.objs p hp
  · exact newF p.1 (List.mem_map_of_mem (f := (·.1)) hp)
  · rw [hmw] at hp; exact hBO.patch p hp
  · have inB : ∀ x, (x ∈ m.os.map (·.1) ∨ ∃ bs, Patch.bld x bs ∈ m.ws) → x ∈ ba.map (·.1) := by
      rintro x (h | ⟨bs, h⟩)
      · exact newB x h
      · refine (hbaM x).2 (.inr ?_)
        rw [hmw] at h
        exact hwsC x bs h
    intro b j hF hF'
    obtain ⟨p, hp, rfl, e⟩ := entry id (inB id h)
    obtain ⟨q, hq, rfl, e'⟩ := entry id' (inB id' h')
    rw [e] at hF; rw [e'] at hF'
    exact hpair p hp q hq hne b j hF hF'
  · refine hfr.mono (fun b j h => ?_)
    obtain ⟨l, hl, hF⟩ := h
    rcases fin_cover hT hFin' l hl with h1 | ⟨h1, _⟩
    · rcases hLo l h1 b j hF with ⟨i, hi, ho, hF'⟩ | ⟨i, hi, hF'⟩
      · exact .inl ⟨i, by rw [hmd, hmu]; simpa using hi, ho, hF'⟩
      · obtain ⟨s, hs⟩ := hwsB i hi
        exact .inr ⟨.bld i s, by rw [hmw]; exact hs, (hidx i ((bldsL_sub g.bs).subset hi)).1, hF'⟩
    · obtain ⟨p, hp, ht⟩ := hBO.touch l h1 b j hF
      exact .inr ⟨p, by rw [hmw]; exact hp, (hidx _ (hwsid p hp)).1, ht⟩
  · have : m.v = (resTV d rs).1 := by rw [← hm]
    rw [this, hv]; exact r1
  · have hmv : m.v = (resTV d rs).1 := by rw [← hm]
    refine ⟨fun i hi => .inr ?_, fun p hp i hi => .inr ?_, fun id off cells hc i hi => ?_⟩
    · rw [hmv] at hi; rw [hmo, List.map_append]; exact List.mem_append.2 (.inl (r5 i hi))
    · rw [hmo] at hp
      rw [hmo, List.map_append]
      rcases List.mem_append.1 hp with hp | hp
      · exact List.mem_append.2 (.inl (r6 p hp i hi))
      · rw [hBO.refs p hp] at hi; simp at hi
    · rw [hmw] at hc
      rw [hmo, List.map_append]
      rcases hBO.prefs id off cells hc i hi with h | h
      · obtain ⟨o, ho⟩ := (hidx i h).1
        refine .inl (hR i o ho (fun hd => (List.nodup_append.1 hnd).2.2 i hd i h rfl) (fun hz => ?_))
        rcases hfrz with e | ⟨e, _⟩
        · exact hlent i (e ▸ hz) (List.mem_append.2 (.inr h))
        · rw [e] at hz; simp at hz
      · exact .inr (List.mem_append.2 (.inr h))

/-- A CALL. -/
theorem callM_ok (hcall : ∀ f as rs fs, call f as = some (rs, fs) → Contract C.P (C.modes f) f as rs fs) (hV : VR M0 M β V a.tmps w) {d : Nat} {c : Call} {m : Made} (h : callM C call d c V = some m)
    (hos : (m.os.map (·.1)).Nodup) (hfresh : ∀ id ∈ m.os.map (·.1), ∀ o, V.obj id = some o → id ∈ m.dels ∨ id ∈ m.frz) :
    ∃ (f : FuncId) (cs : List Value), (∀ oo : Oper, oo.op = .call c → execOp a.eval oo = callFunc f cs.toArray) ∧ Invokes C.P f cs.toArray w fun v w' =>
      ∃ M' β', Post (fun b j => M b j ∧ ¬ ∃ i ∈ m.frz, (∃ o, V.obj i = some o) ∧ (β i).F b j) β w (fun id => ∃ o, V.obj id = some o) m M' β' w' v ∧ ∀ R : Nat → Prop, (∀ id o, V.obj id = some o → id ∉ m.dels → id ∉ m.frz → R id) → MRefs R m := by
  obtain ⟨callee, args, ats⟩ := c
  unfold callM at h
  split at h
  · rename_i f first caps as hcal has
    split at h
    · rename_i fn hfn
      split at h
      · rename_i g hg
        split at h
        · rename_i hchk
          simp only [Bool.and_eq_true] at hchk
          split at h
          · rename_i rs fs hc
            split at h
            · rename_i ws os hback
              injection h with h; subst h
              obtain ⟨cs, hcs, hex⟩ := callee_ok (ts := ats) hV hcal has
              let Ml : Cells := fun b j => M b j ∧ ¬ ∃ i ∈ g.lent, (∃ o, V.obj i = some o) ∧ (β i).F b j
              obtain ⟨lts, js, hT, hjs, hOwn, hA, hLo⟩ := args_ok (Ml := Ml) hV (fun b j h => h.1) _ cs (C.modes f) _ g hcs hg (fun i hi ho b j hF hM => hM.2 ⟨i, hi, ho, hF⟩)
              have hnd := nodup_ok hchk.1
              have hlent := freeOf_ok hchk.2
              have hjn : js.Nodup := hjs.symm.nodup hnd
              have hD : ∀ l ∈ LT.locsL lts, ∀ b j, l.F b j → Ml b j := by
                intro l hl b j hF
                obtain ⟨i, hi, ⟨o, ho⟩, hF'⟩ := hOwn.mem l hl b j hF
                refine ⟨(hV.own i o ho b j hF').1, ?_⟩
                rintro ⟨k, hk, ⟨o', ho'⟩, hF''⟩
                exact hV.disj i k o o' ho ho' (fun e => hlent k hk (e ▸ hjs.subset hi)) b j hF' hF''
              have hHanded : Handed (fun b j => Ml b j ∧ ¬ ∃ l ∈ LT.locsL lts, l.F b j) w g.vs lts cs := by
                refine ⟨TVAll.imp (fun v _ t c h => TVL.sub (fun b j hx => ?_) h) hT, OwnL.pairwise hV hOwn hjn, fun l hl b j hF => ⟨fun hx => hx.2 ⟨l, hl, hF⟩, hV.old b j (hD l hl b j hF).1⟩, fun b j hx => hV.old b j hx.1.1⟩
                rcases hx with hx | ⟨l, hl, hF⟩
                · exact hx.1
                · exact hD l hl b j hF
              refine ⟨f, cs, hex, (hcall f g.vs rs fs hc _ w lts cs hHanded).mono fun v w' htook => ?_⟩
              refine took_post hV hjs hOwn hA hLo hnd hlent (fun b j => Iff.rfl) hT ?_ hback hos hfresh htook
              split
              · rename_i hl; exact .inl hl.symm
              · rename_i l hl
                split
                · rename_i hf
                  simp only [Bool.and_eq_true] at hf
                  exact .inr ⟨rfl, hf⟩
                · exact .inl rfl
            · exact absurd h (by simp)
          · exact absurd h (by simp)
        · exact absurd h (by simp)
      · exact absurd h (by simp)
    · exact absurd h (by simp)
  · exact absurd h (by simp)

end
end Go.Proofs.Ytmjkdghcfihfiaa.Vm
