/-
  The machine: VmTV, VmArg, VmCall, VmCallM, VmSt.
-/
import Derived.Test.YtbnjbianobdleaaGreatVmWr

/-
  What is handed over at a call: where it lies.
-/
namespace Go.Proofs.YtbnjbianobdleaaGreat.Vm
open Go
set_option linter.unusedVariables false
set_option linter.unusedSimpArgs false

/-- Where a value that is handed over lies. -/
inductive LT where
  | none
  | one (l : Loc)
  | bld (l : Loc)
  | box (l : Loc) (subs : List LT)

mutual
def LT.locs : LT → List Loc
  | .none => []
  | .one l => [l]
  | .bld l => [l]
  | .box l subs => l :: LT.locsL subs
def LT.locsL : List LT → List Loc
  | [] => []
  | t :: r => LT.locs t ++ LT.locsL r
end

mutual
/-- Places that need not stay: rows and Builders. -/
def LT.loose : LT → List Loc
  | .none => []
  | .one l => [l]
  | .bld l => [l]
  | .box _ subs => LT.looseL subs
def LT.looseL : List LT → List Loc
  | [] => []
  | t :: r => LT.loose t ++ LT.looseL r
end
mutual
/-- Places that stay: variables. -/
def LT.fixed : LT → List Loc
  | .none => []
  | .one _ => []
  | .bld _ => []
  | .box l subs => l :: LT.fixedL subs
def LT.fixedL : List LT → List Loc
  | [] => []
  | t :: r => LT.fixed t ++ LT.fixedL r
end
mutual
theorem LT.mem_locs : ∀ (t : LT) (l : Loc), l ∈ t.locs ↔ l ∈ t.loose ∨ l ∈ t.fixed
  | .none, l => by simp [LT.locs, LT.loose, LT.fixed]
  | .one _, l => by simp [LT.locs, LT.loose, LT.fixed]
  | .bld _, l => by simp [LT.locs, LT.loose, LT.fixed]
  | .box l0 subs, l => by
    simp only [LT.locs, LT.loose, LT.fixed, List.mem_cons, LT.mem_locsL subs l]
    constructor
    · rintro (h | h | h)
      · exact .inr (.inl h)
      · exact .inl h
      · exact .inr (.inr h)
    · rintro (h | h | h)
      · exact .inr (.inl h)
      · exact .inl h
      · exact .inr (.inr h)
theorem LT.mem_locsL : ∀ (ts : List LT) (l : Loc), l ∈ LT.locsL ts ↔ l ∈ LT.looseL ts ∨ l ∈ LT.fixedL ts
  | [], l => by simp [LT.locsL, LT.looseL, LT.fixedL]
  | t :: r, l => by
    simp only [LT.locsL, LT.looseL, LT.fixedL, List.mem_append, LT.mem_locs t l, LT.mem_locsL r l]
    constructor
    · rintro ((h | h) | h | h)
      · exact .inl (.inl h)
      · exact .inr (.inl h)
      · exact .inl (.inr h)
      · exact .inr (.inr h)
    · rintro ((h | h) | h | h)
      · exact .inl (.inl h)
      · exact .inr (.inl h)
      · exact .inl (.inr h)
      · exact .inr (.inr h)
end

mutual
def TVL (w : World) (M : Cells) : TV → LT → Value → Prop
  | .pv x, t, c => t = .none ∧ Rep w M x c
  | .own sz es, t, c => ∃ l, t = .one l ∧ c = l.hdr ∧ ObjR (fun _ => l) w M l (.buf sz es)
  | .bld bs, t, c => ∃ l b o, t = .bld l ∧ l.base = some (b, o) ∧ c = .pointer (some ⟨b, o, none⟩) ∧ BldR w l bs
  | .ptr cells, t, c => ∃ l subs b o, t = .box l subs ∧ l.base = some (b, o) ∧ l.k = cells.length ∧ l.ext = none ∧ c = .pointer (some ⟨b, o, none⟩) ∧ TVLs w M cells subs b o
def TVLs (w : World) (M : Cells) : List TV → List LT → Nat → Nat → Prop
  | [], ts, _, _ => ts = []
  | v :: vs, ts, b, o => ∃ t r c, ts = t :: r ∧ at_ w b o = some c ∧ frz_ w b o = false ∧ c.oneCell' = true ∧ TVL w M v t c ∧ TVLs w M vs r b (o + 1)
end

mutual
/-- Which number gets which place. -/
def asg (g : Nat → Nat → Nat) (id : Nat) : LT → List (Nat × Loc)
  | .none => []
  | .one l => [(id, l)]
  | .bld l => [(id, l)]
  | .box l subs => (id, l) :: asgs g id 0 subs
def asgs (g : Nat → Nat → Nat) (id j : Nat) : List LT → List (Nat × Loc)
  | [] => []
  | t :: r => asg g (g id j) t ++ asgs g id (j + 1) r
end

mutual
theorem asg_locs (g : Nat → Nat → Nat) : ∀ (id : Nat) (t : LT), (asg g id t).map (·.2) = t.locs
  | _, .none => rfl
  | _, .one l => rfl
  | _, .bld l => rfl
  | id, .box l subs => by simp only [asg, List.map_cons, LT.locs, asgs_locs g id 0 subs]
theorem asgs_locs (g : Nat → Nat → Nat) : ∀ (id j : Nat) (ts : List LT), (asgs g id j ts).map (·.2) = LT.locsL ts
  | _, _, [] => rfl
  | id, j, t :: r => by simp only [asgs, List.map_append, LT.locsL, asg_locs g (g id j) t, asgs_locs g id (j + 1) r]
end

section
variable {w : World} {M : Cells}

mutual
theorem place_ids (g : Nat → Nat → Nat) : ∀ (v : TV) (id : Nat) (t : LT) (c : Value), TVL w M v t c → (place g id v).2.map (·.1) = (asg g id t).map (·.1)
  | .pv x, id, t, c, h => by simp only [TVL] at h; rw [h.1]; rfl
  | .own sz es, id, t, c, h => by simp only [TVL] at h; obtain ⟨l, rfl, _⟩ := h; rfl
  | .bld bs, id, t, c, h => by simp only [TVL] at h; obtain ⟨l, _, _, rfl, _⟩ := h; rfl
  | .ptr cells, id, t, c, h => by
    simp only [TVL] at h
    obtain ⟨l, subs, b, o, rfl, _, _, _, _, h⟩ := h
    simp only [place, asg, List.map_cons, places_ids g cells id 0 subs b o h]
theorem places_ids (g : Nat → Nat → Nat) : ∀ (vs : List TV) (id j : Nat) (ts : List LT) (b o : Nat), TVLs w M vs ts b o → (places g id j vs).2.map (·.1) = (asgs g id j ts).map (·.1)
  | [], id, j, ts, b, o, h => by simp only [TVLs] at h; subst h; rfl
  | v :: vs, id, j, ts, b, o, h => by
    simp only [TVLs] at h
    obtain ⟨t, r, c, rfl, _, _, _, h1, h2⟩ := h
    simp only [places, asgs, List.map_append, place_ids g v (g id j) t c h1, places_ids g vs id (j + 1) r b (o + 1) h2]
end

mutual
theorem place_refs (g : Nat → Nat → Nat) : ∀ (v : TV) (id : Nat), (∀ i ∈ (place g id v).1.refs, i ∈ (place g id v).2.map (·.1)) ∧ ∀ p ∈ (place g id v).2, ∀ i ∈ p.2.refs, i ∈ (place g id v).2.map (·.1)
  | .pv x, id => by simp [place, AV.refs]
  | .own sz es, id => by simp [place, AV.refs, Obj.refs]
  | .bld bs, id => by simp [place, AV.refs, Obj.refs]
  | .ptr cells, id => by
    obtain ⟨h1, h2⟩ := places_refs g cells id 0
    refine ⟨by simp [place, AV.refs], fun p hp i hi => ?_⟩
    simp only [place, List.mem_cons] at hp
    simp only [place, List.map_cons, List.mem_cons]
    rcases hp with rfl | hp
    · exact .inr (h1 i (by simpa only [Obj.refs] using hi))
    · exact .inr (h2 p hp i hi)
theorem places_refs (g : Nat → Nat → Nat) : ∀ (vs : List TV) (id j : Nat), (∀ i ∈ AV.refsL (places g id j vs).1, i ∈ (places g id j vs).2.map (·.1)) ∧ ∀ p ∈ (places g id j vs).2, ∀ i ∈ p.2.refs, i ∈ (places g id j vs).2.map (·.1)
  | [], id, j => by simp [places, AV.refsL]
  | v :: vs, id, j => by
    obtain ⟨h1, h2⟩ := place_refs g v (g id j)
    obtain ⟨h3, h4⟩ := places_refs g vs id (j + 1)
    refine ⟨fun i hi => ?_, fun p hp i hi => ?_⟩
    · simp only [places, AV.refsL, List.mem_append] at hi
      simp only [places, List.map_append, List.mem_append]
      exact hi.imp (h1 i) (h3 i)
    · simp only [places, List.mem_append] at hp
      simp only [places, List.map_append, List.mem_append]
      exact hp.imp (fun hp => h2 p hp i hi) (fun hp => h4 p hp i hi)
end

mutual
/-- Under numbers: as a slot and objects. -/
theorem place_ok {β : Nat → Loc} (g : Nat → Nat → Nat) : ∀ (v : TV) (id : Nat) (t : LT) (c : Value), TVL w M v t c → (∀ p ∈ asg g id t, β p.1 = p.2) →
    AVR β w M (place g id v).1 c ∧ ∀ p ∈ (place g id v).2, ObjR β w M (β p.1) p.2
  | .pv x, id, t, c, h, hb => by simp only [TVL] at h; exact ⟨by simp only [place, AVR]; exact h.2, by simp [place]⟩
  | .own sz es, id, t, c, h, hb => by
    simp only [TVL] at h
    obtain ⟨l, rfl, h1, h2⟩ := h
    have e := hb (id, l) (by simp [asg])
    simp only at e
    refine ⟨by simp only [place, AVR]; rw [e]; exact h1, fun p hp => ?_⟩
    simp only [place, List.mem_singleton] at hp; subst hp
    simp only; rw [e]; exact h2
  | .bld bs, id, t, c, h, hb => by
    simp only [TVL] at h
    obtain ⟨l, b, o, rfl, h1, h2, h3⟩ := h
    have e := hb (id, l) (by simp [asg])
    simp only at e
    refine ⟨by simp only [place, AVR]; rw [e]; exact ⟨b, o, h1, by simpa using h2⟩, fun p hp => ?_⟩
    simp only [place, List.mem_singleton] at hp; subst hp
    simp only; rw [e]; exact h3
  | .ptr cells, id, t, c, h, hb => by
    simp only [TVL] at h
    obtain ⟨l, subs, b, o, rfl, h1, h2, h3, h4, h5⟩ := h
    have e := hb (id, l) (by simp [asg])
    simp only at e
    obtain ⟨k1, k2, k3⟩ := places_ok g cells id 0 subs b o h5 (fun p hp => hb p (by simp only [asg, List.mem_cons]; exact .inr hp))
    refine ⟨by simp only [place, AVR]; rw [e]; exact ⟨b, o, h1, by simpa using h4⟩, fun p hp => ?_⟩
    simp only [place, List.mem_cons] at hp
    rcases hp with rfl | hp
    · simp only; rw [e]
      exact ⟨b, o, h1, by rw [h2, k1], h3, k2⟩
    · exact k3 p hp
theorem places_ok {β : Nat → Loc} (g : Nat → Nat → Nat) : ∀ (vs : List TV) (id j : Nat) (ts : List LT) (b o : Nat), TVLs w M vs ts b o → (∀ p ∈ asgs g id j ts, β p.1 = p.2) →
    (places g id j vs).1.length = vs.length ∧ (∀ (k : Nat) (v : AV), (places g id j vs).1[k]? = some v → ∃ c, at_ w b (o + k) = some c ∧ frz_ w b (o + k) = false ∧ c.oneCell' = true ∧ AVR β w M v c) ∧
    ∀ p ∈ (places g id j vs).2, ObjR β w M (β p.1) p.2
  | [], id, j, ts, b, o, h, hb => by simp [places]
  | v :: vs, id, j, ts, b, o, h, hb => by
    simp only [TVLs] at h
    obtain ⟨t, r, c, rfl, a1, a2, a3, h1, h2⟩ := h
    obtain ⟨p1, p2⟩ := place_ok g v (g id j) t c h1 (fun p hp => hb p (by simp only [asgs, List.mem_append]; exact .inl hp))
    obtain ⟨q1, q2, q3⟩ := places_ok g vs id (j + 1) r b (o + 1) h2 (fun p hp => hb p (by simp only [asgs, List.mem_append]; exact .inr hp))
    refine ⟨by simp only [places, List.length_cons, q1], fun k x hx => ?_, fun p hp => ?_⟩
    · cases k with
      | zero => simp only [places, List.getElem?_cons_zero, Option.some.injEq] at hx; subst hx; exact ⟨c, a1, a2, a3, p1⟩
      | succ k =>
        simp only [places, List.getElem?_cons_succ] at hx
        have := q2 k x hx
        rwa [show o + (k + 1) = o + 1 + k by omega]
    · simp only [places, List.mem_append] at hp
      exact hp.elim (p2 p) (q3 p)
end

mutual
/-- A change elsewhere leaves what was handed over as it was. -/
theorem TVL.mono {w' : World} {M' : Cells} (hs : w' = w) (hk : ∀ b o v, at_ w b o = some v → ¬ M b o → at_ w' b o = some v ∧ ¬ M' b o) : ∀ (v : TV) (t : LT) (c : Value),
    (∀ l ∈ t.locs, ∀ b j u, l.F b j → at_ w b j = some u → at_ w' b j = some u ∧ frz_ w' b j = frz_ w b j) → TVL w M v t c → TVL w' M' v t c
  | .pv x, t, c, hF, h => by simp only [TVL] at h ⊢; exact ⟨h.1, Rep.mono hk x c h.2⟩
  | .own sz es, t, c, hF, h => by
    simp only [TVL] at h ⊢
    obtain ⟨l, rfl, h1, h2⟩ := h
    exact ⟨l, rfl, h1, ObjR.mono hk (hF l (by simp [LT.locs])) (by subst hs; exact fun _ _ h => h) (by subst hs; exact fun _ _ _ => rfl) (by subst hs; exact fun _ h => h) (by simp [Obj.refs]) h2⟩
  | .bld bs, t, c, hF, h => by
    simp only [TVL] at h ⊢
    obtain ⟨l, b, o, rfl, h1, h2, h3⟩ := h
    exact ⟨l, b, o, rfl, h1, h2, ObjR.mono (β := fun _ => l) (β' := fun _ => l) (o := .bld bs) hk (hF l (by simp [LT.locs])) (by subst hs; exact fun _ _ h => h) (by subst hs; exact fun _ _ _ => rfl) (by subst hs; exact fun _ h => h) (by simp [Obj.refs]) h3⟩
  | .ptr cells, t, c, hF, h => by
    simp only [TVL] at h ⊢
    obtain ⟨l, subs, b, o, rfl, h1, h2, h3, h4, h5⟩ := h
    refine ⟨l, subs, b, o, rfl, h1, h2, h3, h4, TVLs.mono hs hk cells subs b o (fun l' hl => hF l' (by simp only [LT.locs, List.mem_cons]; exact .inr hl)) (fun j hj u hu => ?_) h5⟩
    exact hF l (by simp [LT.locs]) b (o + j) u (.inl ⟨o, h1, by omega, by omega⟩) hu
theorem TVLs.mono {w' : World} {M' : Cells} (hs : w' = w) (hk : ∀ b o v, at_ w b o = some v → ¬ M b o → at_ w' b o = some v ∧ ¬ M' b o) : ∀ (vs : List TV) (ts : List LT) (b o : Nat),
    (∀ l ∈ LT.locsL ts, ∀ b j u, l.F b j → at_ w b j = some u → at_ w' b j = some u ∧ frz_ w' b j = frz_ w b j) → (∀ j, j < vs.length → ∀ u, at_ w b (o + j) = some u → at_ w' b (o + j) = some u ∧ frz_ w' b (o + j) = frz_ w b (o + j)) →
    TVLs w M vs ts b o → TVLs w' M' vs ts b o
  | [], ts, b, o, _, _, h => by simpa only [TVLs] using h
  | v :: vs, ts, b, o, hF, hc, h => by
    simp only [TVLs] at h ⊢
    obtain ⟨t, r, c, rfl, a1, a2, a3, h1, h2⟩ := h
    have k := hc 0 (by simp) c (by simpa using a1)
    simp only [Nat.add_zero] at k
    refine ⟨t, r, c, rfl, k.1, k.2.trans a2, a3, TVL.mono hs hk v t c (fun l hl => hF l (by simp only [LT.locsL, List.mem_append]; exact .inl hl)) h1, TVLs.mono hs hk vs r b (o + 1) (fun l hl => hF l (by simp only [LT.locsL, List.mem_append]; exact .inr hl)) (fun j hj u hu => ?_) h2⟩
    have := hc (j + 1) (by simp; omega) u (by rwa [show o + (j + 1) = o + 1 + j by omega])
    rwa [show o + (j + 1) = o + 1 + j by omega] at this
end

end
end Go.Proofs.YtbnjbianobdleaaGreat.Vm

/-
  Arguments: how they are handed over.
-/
namespace Go.Proofs.YtbnjbianobdleaaGreat.Vm
open Go
set_option linter.unusedVariables false
set_option linter.unusedSimpArgs false

mutual
/-- Where what comes back goes: to the places that it had. -/
def BackR (β : Nat → Loc) : Back → LT → Prop
  | .box i off bs, t => ∃ l subs b o, t = .box l subs ∧ (β i).base = some (b, o) ∧ l.base = some (b, o + off) ∧ l.k = bs.length ∧ off + bs.length ≤ (β i).k ∧ l.ext = none ∧ BackRs β bs subs
  | .own i, t => t = .one (β i)
  | .nilSl, t => ∃ l, t = .one l ∧ l.base = none ∧ l.ext = none
  | .bld i, t => t = .bld (β i) ∧ (β i).k = 2
def BackRs (β : Nat → Loc) : List (Option Back) → List LT → Prop
  | [], ts => ts = []
  | none :: bs, ts => ∃ t r, ts = t :: r ∧ t.fixed = [] ∧ BackRs β bs r
  | some x :: bs, ts => ∃ t r, ts = t :: r ∧ BackR β x t ∧ (∀ i off l, x = .box i off l → off = 0) ∧ BackRs β bs r
end

def oids : Option Back → List Nat
  | none => []
  | some b => b.ids
theorem idsO_cons (b : Option Back) (bs : List (Option Back)) : Back.idsO (b :: bs) = oids b ++ Back.idsO bs := by
  cases b <;> simp [Back.idsO, oids]

/-- Places that are handed over, and the objects whose they are. -/
def OwnL (V : View) (β : Nat → Loc) : List Loc → List Nat → Prop
  | [], js => js = []
  | l :: ls, js => ((∀ b j, ¬ l.F b j) ∧ OwnL V β ls js) ∨ ∃ i r, js = i :: r ∧ ((∃ o, V.obj i = some o) ∧ ∀ b j, l.F b j → (β i).F b j) ∧ OwnL V β ls r

theorem OwnL.append {V : View} {β : Nat → Loc} : ∀ {ls ls' : List Loc} {js js' : List Nat}, OwnL V β ls js → OwnL V β ls' js' → OwnL V β (ls ++ ls') (js ++ js')
  | [], ls', js, js', h, k => by simp only [OwnL] at h; subst h; exact k
  | l :: ls, ls', js, js', h, k => by
    simp only [OwnL] at h
    simp only [List.cons_append, OwnL]
    rcases h with ⟨h1, h2⟩ | ⟨i, r, rfl, h1, h2⟩
    · exact .inl ⟨h1, OwnL.append h2 k⟩
    · exact .inr ⟨i, r ++ js', rfl, h1, OwnL.append h2 k⟩
theorem OwnL.nil {V : View} {β : Nat → Loc} : OwnL V β [] [] := by simp only [OwnL]
theorem OwnL.cons {V : View} {β : Nat → Loc} {i : Nat} {l : Loc} {js : List Nat} {ls : List Loc} (h : (∃ o, V.obj i = some o) ∧ ∀ b j, l.F b j → (β i).F b j) (k : OwnL V β ls js) : OwnL V β (l :: ls) (i :: js) := by simp only [OwnL]; exact .inr ⟨i, js, rfl, h, k⟩
theorem OwnL.mem {V : View} {β : Nat → Loc} : ∀ {ls : List Loc} {js : List Nat}, OwnL V β ls js → ∀ l ∈ ls, ∀ b j, l.F b j → ∃ i ∈ js, (∃ o, V.obj i = some o) ∧ (β i).F b j
  | [], _, _, l, hl => by simp at hl
  | l0 :: ls, js, h, l, hl => by
    intro b j hF
    simp only [OwnL] at h
    rcases h with ⟨h1, h2⟩ | ⟨i, r, rfl, h1, h2⟩
    · rcases List.mem_cons.1 hl with rfl | hl
      · exact absurd hF (h1 b j)
      · exact OwnL.mem h2 l hl b j hF
    · rcases List.mem_cons.1 hl with rfl | hl
      · exact ⟨i, by simp, h1.1, h1.2 b j hF⟩
      · obtain ⟨i', k1, k2⟩ := OwnL.mem h2 l hl b j hF
        exact ⟨i', by simp [k1], k2⟩
theorem OwnL.ids {V : View} {β : Nat → Loc} : ∀ {ls : List Loc} {js : List Nat}, OwnL V β ls js → ∀ i ∈ js, ∃ o, V.obj i = some o
  | [], js, h, i, hi => by simp only [OwnL] at h; subst h; simp at hi
  | l0 :: ls, js, h, i', hi => by
    simp only [OwnL] at h
    rcases h with ⟨h1, h2⟩ | ⟨i, r, rfl, h1, h2⟩
    · exact OwnL.ids h2 i' hi
    · rcases List.mem_cons.1 hi with rfl | hi
      · exact h1.1
      · exact OwnL.ids h2 i' hi
/-- Places of distinct objects lie apart. -/
theorem OwnL.pairwise {M0 M : Cells} {V : View} {β : Nat → Loc} {tm : Array Value} {w : World} (hV : VR M0 M β V tm w) : ∀ {ls : List Loc} {js : List Nat}, OwnL V β ls js → js.Nodup → ls.Pairwise (fun l l' => ∀ b j, l.F b j → ¬ l'.F b j)
  | [], _, _, _ => List.Pairwise.nil
  | l0 :: ls, js, h, hn => by
    simp only [OwnL] at h
    rcases h with ⟨h1, h2⟩ | ⟨i, r, rfl, h1, h2⟩
    · exact List.Pairwise.cons (fun l hl b j hF _ => h1 b j hF) (OwnL.pairwise hV h2 hn)
    · rw [List.nodup_cons] at hn
      refine List.Pairwise.cons (fun l hl b j hF hF' => ?_) (OwnL.pairwise hV h2 hn.2)
      obtain ⟨i', k1, ⟨o', ho'⟩, k3⟩ := h2.mem l hl b j hF'
      obtain ⟨⟨o, ho⟩, k2⟩ := h1
      exact hV.disj i i' o o' ho ho' (fun e => hn.1 (e ▸ k1)) b j (k2 b j hF) k3

theorem perm4 (a b c d : List Nat) : ((a ++ b) ++ (c ++ d)).Perm ((a ++ c) ++ (b ++ d)) := by
  rw [List.append_assoc, List.append_assoc]
  refine List.Perm.append_left a ?_
  rw [← List.append_assoc, ← List.append_assoc]
  exact List.Perm.append_right d List.perm_append_comm

section
variable {M0 M : Cells} {β : Nat → Loc} {V : View} {tm : Array Value} {w : World}

def oblds : Option Back → List Nat
  | none => []
  | some b => b.blds
theorem bldsO_cons (b : Option Back) (bs : List (Option Back)) : Back.bldsO (b :: bs) = oblds b ++ Back.bldsO bs := by
  cases b <;> simp [Back.bldsO, oblds]
/-- Cells of loose places are those of objects that go along, or of Builders. -/
def LooseR (V : View) (β : Nat → Loc) (ls : List Loc) (ids blds : List Nat) : Prop :=
  ∀ l ∈ ls, ∀ b j, l.F b j → (∃ i ∈ ids, (∃ o, V.obj i = some o) ∧ (β i).F b j) ∨ ∃ i ∈ blds, (β i).F b j
theorem LooseR.append {V : View} {β : Nat → Loc} {ls ls' : List Loc} {a b a' b' : List Nat} (h : LooseR V β ls a b) (k : LooseR V β ls' a' b') : LooseR V β (ls ++ ls') (a ++ a') (b ++ b') := by
  intro l hl x j hF
  rcases List.mem_append.1 hl with hl | hl
  · rcases h l hl x j hF with ⟨i, h1, h2⟩ | ⟨i, h1, h2⟩
    · exact .inl ⟨i, by simp [h1], h2⟩
    · exact .inr ⟨i, by simp [h1], h2⟩
  · rcases k l hl x j hF with ⟨i, h1, h2⟩ | ⟨i, h1, h2⟩
    · exact .inl ⟨i, by simp [h1], h2⟩
    · exact .inr ⟨i, by simp [h1], h2⟩

def LeafOK (V : View) (β : Nat → Loc) (w : World) (M : Cells) (x : TV) (ids : List Nat) (ob : Option Back) (c : Value) : Prop :=
  ∃ t js, TVL w M x t c ∧ js.Perm (ids ++ oids ob) ∧ OwnL V β t.locs js ∧ (∀ b, ob = some b → BackR β b t ∧ ∀ i off l, b = .box i off l → off = 0) ∧ LooseR V β t.loose ids (oblds ob) ∧ (ob = none → t.fixed = [])

theorem leafs_of (n : Nat) (hleaf : ∀ (v : AV) (c : Value) (x : TV) (ids : List Nat) (ob : Option Back), AVR β w M v c → leafTV V n v = some (x, ids, ob) → LeafOK V β w M x ids ob c) :
    ∀ (cs : List AV) (b o : Nat) (l : List TV) (ids : List Nat) (bs : List (Option Back)),
      (∀ (j : Nat) (v : AV), cs[j]? = some v → ∃ c, at_ w b (o + j) = some c ∧ frz_ w b (o + j) = false ∧ c.oneCell' = true ∧ AVR β w M v c) → leafTVs (leafTV V n) cs = some (l, ids, bs) →
      l.length = cs.length ∧ bs.length = cs.length ∧ ∃ ts js, TVLs w M l ts b o ∧ js.Perm (ids ++ Back.idsO bs) ∧ OwnL V β (LT.locsL ts) js ∧ BackRs β bs ts ∧ LooseR V β (LT.looseL ts) ids (Back.bldsO bs)
  | [], b, o, l, ids, bs, hc, h => by
    simp only [leafTVs, Option.some.injEq, Prod.mk.injEq] at h
    obtain ⟨rfl, rfl, rfl⟩ := h
    exact ⟨rfl, rfl, [], [], by simp only [TVLs], by simp [Back.idsO], OwnL.nil, by simp only [BackRs], by simp [LooseR, LT.looseL]⟩
  | v :: cs, b, o, l, ids, bs, hc, h => by
    simp only [leafTVs] at h
    split at h
    · rename_i x i ob l' is bs' hx hl
      injection h with h; injection h with h1 h; injection h with h2 h3; subst h1; subst h2; subst h3
      obtain ⟨c, a1, a2, a3, a4⟩ := hc 0 v rfl
      obtain ⟨t, js, k1, k2, k3, k4, k5, k6⟩ := hleaf v c x i ob a4 hx
      obtain ⟨q1, q2, ts, js', q3, q4, q5, q6, q7⟩ := leafs_of n hleaf cs b (o + 1) l' is bs' (fun j v hj => by
        have := hc (j + 1) v (by simpa using hj)
        rwa [show o + (j + 1) = o + 1 + j by omega] at this) hl
      refine ⟨by simp [q1], by simp [q2], t :: ts, js ++ js', ?_, ?_, ?_, ?_, by rw [bldsO_cons]; simp only [LT.looseL]; exact k5.append q7⟩
      · simp only [TVLs]; exact ⟨t, ts, c, rfl, by simpa using a1, by simpa using a2, a3, k1, q3⟩
      · rw [idsO_cons]; exact (List.Perm.append k2 q4).trans (perm4 _ _ _ _)
      · simp only [LT.locsL]; exact k3.append q5
      · cases ob with
        | none => simp only [BackRs]; exact ⟨t, ts, rfl, k6 rfl, q6⟩
        | some ob => simp only [BackRs]; exact ⟨t, ts, rfl, (k4 ob rfl).1, (k4 ob rfl).2, q6⟩
    · exact absurd h (by simp)

theorem leaf_ok (hV : VR M0 M β V tm w) : ∀ (n : Nat) (v : AV) (c : Value) (x : TV) (ids : List Nat) (ob : Option Back), AVR β w M v c → leafTV V n v = some (x, ids, ob) → LeafOK V β w M x ids ob c := by
  have ownCase : ∀ (id : Nat) (c : Value) (x : TV) (ids : List Nat) (ob : Option Back), AVR β w M (.own id) c → (match V.obj id with | some (.buf sz es) => some (TV.own sz es, [id], (none : Option Back)) | _ => none) = some (x, ids, ob) → LeafOK V β w M x ids ob c := by
    intro id c x ids ob hc h
    split at h
    · rename_i sz es ho
      injection h with h; injection h with h1 h; injection h with h2 h3; subst h1; subst h2; subst h3
      simp only [AVR] at hc
      refine ⟨.one (β id), [id], by simp only [TVL]; exact ⟨β id, rfl, hc, hV.objs id _ ho⟩, by simp [oids], ?_, by simp, fun l hl b j hF => .inl ⟨id, by simp, ⟨_, ho⟩, by simp [LT.loose] at hl; subst hl; exact hF⟩, fun _ => rfl⟩
      exact OwnL.cons ⟨⟨_, ho⟩, fun _ _ h => h⟩ OwnL.nil
    · exact absurd h (by simp)
  have pvCase : ∀ (y : PV) (c : Value) (x : TV) (ids : List Nat) (ob : Option Back), Rep w M y c → some (TV.pv y, ([] : List Nat), (none : Option Back)) = some (x, ids, ob) → LeafOK V β w M x ids ob c := by
    intro y c x ids ob hc h
    injection h with h; injection h with h1 h; injection h with h2 h3; subst h1; subst h2; subst h3
    exact ⟨.none, [], by simp only [TVL]; exact ⟨trivial, hc⟩, by simp [oids], OwnL.nil, by simp, by simp [LooseR, LT.loose], fun _ => rfl⟩
  have nilRep : Rep w M (.sl []) (.slice none 0 0) := by
    simp only [Rep]
    exact ⟨none, 0, rfl, Nat.le_refl _, fun _ => rfl, fun a ha => by simp at ha, 1, by simp only [RepRow]⟩
  intro n
  induction n with
  | zero =>
    intro v c x ids ob hc h
    simp only [leafTV] at h
    split at h
    · simp only [AVR] at hc; exact pvCase _ _ _ _ _ hc h
    · simp only [AVR] at hc; subst hc; exact pvCase _ _ _ _ _ nilRep h
    · exact ownCase _ _ _ _ _ hc h
    · exact absurd h (by simp)
  | succ n ih =>
    intro v c x ids ob hc h
    simp only [leafTV] at h
    split at h
    · simp only [AVR] at hc; exact pvCase _ _ _ _ _ hc h
    · simp only [AVR] at hc; subst hc; exact pvCase _ _ _ _ _ nilRep h
    · exact ownCase _ _ _ _ _ hc h
    · rename_i id
      simp only [AVR] at hc
      obtain ⟨b, o, hb, hc⟩ := hc
      simp only [Nat.zero_mul, Nat.add_zero] at hc
      split at h
      · rename_i cs ho
        split at h
        · rename_i l ids' bs hl
          injection h with h; injection h with h1 h; injection h with h2 h3; subst h1; subst h2; subst h3
          obtain ⟨b', o', q1, q2, q3, q4⟩ := hV.objs id _ ho
          rw [hb] at q1; injection q1 with q1; injection q1 with e1 e2; subst e1; subst e2
          obtain ⟨k1, k2, ts, js, k3, k4, k5, k6, k7⟩ := leafs_of n ih cs b o l ids' bs q4 hl
          refine ⟨.box (β id) ts, id :: js, ?_, ?_, ?_, ?_, by simpa only [oblds, Back.blds, LT.loose] using k7, fun h => by cases h⟩
          · simp only [TVL]; exact ⟨β id, ts, b, o, rfl, hb, by rw [q2, k1], q3, hc, k3⟩
          · simp only [oids, Back.ids]
            exact (List.Perm.cons id k4).trans (List.perm_middle.symm)
          · simp only [LT.locs]; exact OwnL.cons ⟨⟨_, ho⟩, fun _ _ h => h⟩ k5
          · intro b' hb'; injection hb' with hb'; subst hb'
            refine ⟨by simp only [BackR]; exact ⟨β id, ts, b, o, rfl, hb, by simpa using hb, by rw [q2, k2], by rw [q2, k2]; omega, q3, k6⟩, fun i off l e => by injection e with _ e _; exact e.symm⟩
        · exact absurd h (by simp)
      · rename_i bs ho
        have hbk : (β id).k = 2 := by
          obtain ⟨_, _, _, _, _, _, a2, _⟩ := hV.objs id _ ho
          exact a2.1
        injection h with h; injection h with h1 h; injection h with h2 h3; subst h1; subst h2; subst h3
        refine ⟨.bld (β id), [id], ?_, by simp [oids, Back.ids], OwnL.cons ⟨⟨_, ho⟩, fun _ _ h => h⟩ OwnL.nil, ?_, fun l hl b j hF => .inr ⟨id, by simp [oblds, Back.blds], by simp [LT.loose] at hl; subst hl; exact hF⟩, fun _ => rfl⟩
        · simp only [TVL]; exact ⟨β id, b, o, rfl, hb, hc, hV.objs id _ ho⟩
        · intro b' hb'; injection hb' with hb'; subst hb'; exact ⟨by simp only [BackR]; exact ⟨trivial, hbk⟩, fun i off l e => by cases e⟩
      · exact absurd h (by simp)
    · exact absurd h (by simp)

/-- An owned slice's elements, as a plain value's: where its cells are no longer written. -/
theorem own_rep (hV : VR M0 M β V tm w) {Ml : Cells} (hMl : ∀ b j, Ml b j → M b j) {id sz : Nat} {es : List (List PV)} (ho : V.obj id = some (.buf sz es)) (hF : ∀ b j, (β id).F b j → ¬ Ml b j) :
    (∀ c, c = (β id).hdr → Rep w Ml (.sl es) c) ∧ ∀ lo n c, AVR β w M (.part id lo n) c → Rep w Ml (.sl ((es.drop lo).take n)) c := by
  have hk : ∀ b o v, at_ w b o = some v → ¬ M b o → at_ w b o = some v ∧ ¬ Ml b o := fun b o v h1 h2 => ⟨h1, fun h => h2 (hMl _ _ h)⟩
  obtain ⟨q1, q2, q3, q4, q5, q6, q7, q8, q9⟩ := hV.objs id _ ho
  have row : ∀ b o, (β id).base = some (b, o) → RepRow w Ml (some ⟨b, o, none⟩) sz 0 es := by
    intro b o hb
    refine RepRow.of fun i e he => ?_
    obtain ⟨vs, k1, k2⟩ := (q9 b o hb).2 i e he
    refine ⟨_, vs, rfl, q8 e (List.mem_of_getElem? he), RepS.mono hk _ _ k1, fun j c hj => ?_⟩
    show at_ w b (o + (0 + i) * sz + j) = some c ∧ ¬ Ml b (o + (0 + i) * sz + j)
    rw [Nat.zero_add]
    refine ⟨k2 j c hj, hF _ _ (.inl ⟨o, hb, by omega, ?_⟩)⟩
    have hj' : j < sz := by
      have := (List.getElem?_eq_some_iff.1 hj).1
      rw [k1.length, q8 e (List.mem_of_getElem? he)] at this; exact this
    have hi := (List.getElem?_eq_some_iff.1 he).1
    have : (i + 1) * sz ≤ (β id).cap * sz := Nat.mul_le_mul_right _ (by omega)
    rw [Nat.add_mul] at this
    omega
  constructor
  · intro c hc
    subst hc
    simp only [Rep, Loc.hdr]
    cases hb : (β id).base with
    | none =>
      have hcap := q7 hb
      have he : es = [] := List.length_eq_zero_iff.1 (by omega)
      subst he
      exact ⟨none, 0, rfl, Nat.le_refl _, fun _ => rfl, fun p hp => by simp at hp, sz, by simp only [RepRow]⟩
    | some bo =>
      obtain ⟨b, o⟩ := bo
      exact ⟨_, (β id).cap, by rw [q3], by omega, fun h => by simp at h, fun p hp _ => by injection hp with hp; subst hp; rfl, sz, row b o hb⟩
  · intro lo n c hc
    simp only [AVR] at hc
    obtain ⟨A, cap, h1, h2, h3, h4, h5, h6⟩ := hc
    have hlen : ((es.drop lo).take n).length = n := by simp; omega
    simp only [Rep]
    refine ⟨A, cap, by rw [hlen]; exact h1, by rw [hlen]; exact h2, h3, fun p hp _ => h4 p hp, sz, ?_⟩
    by_cases hn : n = 0
    · subst hn; simp [RepRow]
    · obtain ⟨b, o, hb, hA⟩ := h6 (by omega)
      exact RepRow.cut (row b o hb) lo n A (fun _ => ⟨_, rfl, by rw [hA, q1]⟩)

/-- How each argument that is handed over by reference comes back. -/
def ArgsR (β : Nat → Loc) : List Mode → List TV → List LT → List Back → Prop
  | _, [], ts, bs => ts = [] ∧ bs = []
  | ms, .pv _ :: vs, ts, bs => ∃ t r, ts = t :: r ∧ ArgsR β ms.tail vs r bs
  | ms, .own _ _ :: vs, ts, bs => ∃ t r, ts = t :: r ∧ if ms.headD .borrow = .mut then ∃ b bs', bs = b :: bs' ∧ BackR β b t ∧ ((∃ i, b = .own i) ∨ b = .nilSl) ∧ ArgsR β ms.tail vs r bs' else ArgsR β ms.tail vs r bs
  | ms, .bld _ :: vs, ts, bs => ∃ t r, ts = t :: r ∧ ∃ b bs', bs = b :: bs' ∧ BackR β b t ∧ (∃ i, b = .bld i) ∧ ArgsR β ms.tail vs r bs'
  | ms, .ptr _ :: vs, ts, bs => ∃ t r, ts = t :: r ∧ ∃ b bs', bs = b :: bs' ∧ BackR β b t ∧ (∃ i off l, b = .box i off l) ∧ ArgsR β ms.tail vs r bs'

def TVAll (w : World) (M : Cells) : List TV → List LT → List Value → Prop
  | [], ts, cs => ts = [] ∧ cs = []
  | v :: vs, ts, cs => ∃ t r c d, ts = t :: r ∧ cs = c :: d ∧ TVL w M v t c ∧ TVAll w M vs r d

theorem TVL.sub {Ml : Cells} (hMl : ∀ b j, Ml b j → M b j) {v : TV} {t : LT} {c : Value} (h : TVL w M v t c) : TVL w Ml v t c :=
  TVL.mono rfl (fun _ _ _ h1 h2 => ⟨h1, fun h => h2 (hMl _ _ h)⟩) v t c (fun _ _ _ _ _ _ h => ⟨h, rfl⟩) h

theorem rep_one {x : PV} {c : Value} (h : Rep w M x c) (ho : oneLeaf x = true) : c.oneCell' = true := by
  cases x with
  | agg fs => simp [oneLeaf] at ho
  | sl es => simp only [Rep] at h; obtain ⟨_, _, rfl, _⟩ := h; rfl
  | fn f caps => simp only [Rep] at h; obtain ⟨_, rfl, _⟩ := h; rfl
  | iptr cs => simp only [Rep] at h; obtain ⟨_, _, _, rfl, _⟩ := h; rfl
  | int _ _ => simp only [Rep] at h; subst h; rfl
  | bool _ => simp only [Rep] at h; subst h; rfl
  | str _ => simp only [Rep] at h; subst h; rfl
  | nilIface => simp only [Rep] at h; subst h; rfl
  | nilPtr => simp only [Rep] at h; subst h; rfl
  | nilFn => simp only [Rep] at h; subst h; rfl
  | nilSlc => simp only [Rep] at h; subst h; rfl

theorem caps_rep : ∀ {l : List AV} {vs : List Value} {xs : List PV}, AVRs β w M l vs → pvs l = some xs → xs.all oneLeaf = true → RepS w M xs vs
  | [], vs, xs, h, hp, _ => by
    simp only [pvs, Option.some.injEq] at hp; subst hp
    simp only [AVRs] at h; subst h; simp only [RepS]
  | v :: l, vs, xs, h, hp, ha => by
    simp only [AVRs] at h
    obtain ⟨c, r, rfl, h1, h2⟩ := h
    cases v <;> simp only [pvs] at hp <;> try (cases hp; done)
    · split at hp
      · rename_i y l' hl
        injection hp with hp; subst hp
        rw [List.all_cons, Bool.and_eq_true] at ha
        simp only [AVR] at h1
        simp only [RepS]
        exact ⟨c, r, rfl, rep_one h1 ha.1, h1, caps_rep h2 hl ha.2⟩
      · exact absurd hp (by simp)
    · split at hp
      · rename_i l' hl
        injection hp with hp; subst hp
        rw [List.all_cons, Bool.and_eq_true] at ha
        simp only [AVR] at h1
        subst h1
        simp only [RepS]
        refine ⟨_, r, rfl, rfl, ?_, caps_rep h2 hl ha.2⟩
        simp only [Rep]
        exact ⟨none, 0, rfl, Nat.le_refl _, fun _ => rfl, fun a ha => by simp at ha, 1, by simp only [RepRow]⟩
      · exact absurd hp (by simp)

theorem lent_ok (hV : VR M0 M β V tm w) {Ml : Cells} (hMl : ∀ b j, Ml b j → M b j) {v : AV} {c : Value} {x : TV} {l : List Nat} (hc : AVR β w M v c) (h : lentTV V v = some (x, l)) (hF : ∀ i ∈ l, (∃ o, V.obj i = some o) → ∀ b j, (β i).F b j → ¬ Ml b j) :
    ∃ y, x = .pv y ∧ Rep w Ml y c := by
  have hk : ∀ b o v, at_ w b o = some v → ¬ M b o → at_ w b o = some v ∧ ¬ Ml b o := fun b o v h1 h2 => ⟨h1, fun h => h2 (hMl _ _ h)⟩
  unfold lentTV at h
  split at h
  · injection h with h; injection h with h1 h2; subst h1; subst h2
    simp only [AVR] at hc
    exact ⟨_, rfl, Rep.mono hk _ _ hc⟩
  · injection h with h; injection h with h1 h2; subst h1; subst h2
    simp only [AVR] at hc; subst hc
    refine ⟨_, rfl, ?_⟩
    simp only [Rep]
    exact ⟨none, 0, rfl, Nat.le_refl _, fun _ => rfl, fun a ha => by simp at ha, 1, by simp only [RepRow]⟩
  · split at h
    · rename_i id n es ho
      injection h with h; injection h with h1 h2; subst h1; subst h2
      simp only [AVR] at hc
      exact ⟨_, rfl, (own_rep hV hMl ho (hF _ (by simp) ⟨_, ho⟩)).1 c hc⟩
    · exact absurd h (by simp)
  · split at h
    · rename_i id lo n k es ho
      injection h with h; injection h with h1 h2; subst h1; subst h2
      exact ⟨_, rfl, (own_rep hV hMl ho (hF _ (by simp) ⟨_, ho⟩)).2 _ _ c hc⟩
    · exact absurd h (by simp)
  · split at h
    · rename_i fs _ l' hp
      injection h with h; injection h with h1 h2; subst h1; subst h2
      simp only [AVR] at hc
      obtain ⟨cs, rfl, hr, hone⟩ := hc
      have hs : AVS β w M fs cs.toList := ⟨(AVRs.length hr).symm, fun j x v hx hv => ⟨hone v (List.mem_of_getElem? hv), AVRs.get hr j x v hx hv⟩⟩
      refine ⟨_, rfl, ?_⟩
      simp only [Rep]
      exact ⟨cs, rfl, RepS.mono hk _ _ (pvs_ok hs hp)⟩
    · exact absurd h (by simp)
  · split at h
    · rename_i f caps _ l' hp
      split at h
      · rename_i hall
        injection h with h; injection h with h1 h2; subst h1; subst h2
        simp only [AVR] at hc
        obtain ⟨x, y, rfl, hx, hy⟩ := hc
        simp only [AVRs] at hx
        have hx0 : x = #[] := by apply Array.ext'; simpa using hx
        subst hx0
        refine ⟨_, rfl, ?_⟩
        simp only [Rep]
        exact ⟨y, rfl, RepS.mono hk _ _ (caps_rep hy hp hall)⟩
      · exact absurd h (by simp)
    · exact absurd h (by simp)
  · exact absurd h (by simp)

theorem ptrT_eq {P : Program} {t e : TypeId} (h : ptrT P t = some e) : P.underlying t = some (.pointer e) := by
  unfold ptrT at h
  split at h
  · injection h with h; subst h; assumption
  · exact absurd h (by simp)

/-- The loose places of arguments. -/
def LooseA : List Mode → List TV → List LT → List Loc
  | ms, .own _ _ :: vs, t :: ts => (if ms.headD .borrow = .mut then [] else t.locs) ++ LooseA ms.tail vs ts
  | ms, _ :: vs, t :: ts => t.loose ++ LooseA ms.tail vs ts
  | _, _, _ => []

/-- The places of arguments that stay. -/
def FixA : List Mode → List TV → List LT → List Loc
  | ms, .pv _ :: vs, _ :: ts => FixA ms.tail vs ts
  | ms, .own _ _ :: vs, t :: ts => (if ms.headD .borrow = .mut then t.locs else []) ++ FixA ms.tail vs ts
  | ms, _ :: vs, t :: ts => t.fixed ++ FixA ms.tail vs ts
  | _, _, _ => []

def ArgOK (V : View) (β : Nat → Loc) (w : World) (Ml : Cells) (m : Mode) (g : Given) (c : Value) : Prop :=
  ∃ x t js, g.vs = [x] ∧ TVL w Ml x t c ∧ js.Perm (g.dels ++ Back.idsL g.bs) ∧ OwnL V β t.locs js ∧
    (∀ ms, ms.headD .borrow = m → ∀ vs ts bs, ArgsR β ms.tail vs ts bs → ArgsR β ms (x :: vs) (t :: ts) (g.bs ++ bs)) ∧
    (∀ ms, ms.headD .borrow = m → ∀ vs ts, ∃ ls, LooseA ms (x :: vs) (t :: ts) = ls ++ LooseA ms.tail vs ts ∧ LooseR V β ls g.dels (Back.bldsL g.bs))

theorem idsL_nil : Back.idsL [] = [] := rfl
theorem idsL_one (b : Back) : Back.idsL [b] = b.ids := by simp [Back.idsL]
theorem idsL_append (a b : List Back) : Back.idsL (a ++ b) = Back.idsL a ++ Back.idsL b := by simp [Back.idsL]

theorem arg_ok {P : Program} (hV : VR M0 M β V tm w) {Ml : Cells} (hMl : ∀ b j, Ml b j → M b j) {m : Mode} {t : TypeId} {v : AV} {c : Value} {g : Given} (hc : AVR β w M v c) (h : argTV P m t V v = some g)
    (hF : ∀ i ∈ g.lent, (∃ o, V.obj i = some o) → ∀ b j, (β i).F b j → ¬ Ml b j) : ArgOK V β w Ml m g c := by
  have pvOK : ∀ (y : PV) (l : List Nat), Rep w Ml y c → ArgOK V β w Ml m ⟨[.pv y], [], [], l⟩ c := by
    intro y l hy
    refine ⟨.pv y, .none, [], rfl, by simp only [TVL]; exact ⟨trivial, hy⟩, by simp [Back.idsL], OwnL.nil, fun ms hm vs ts bs hh => ?_, fun ms hm vs ts => ⟨[], by simp [LooseA, LT.loose], by simp [LooseR]⟩⟩
    simp only [ArgsR, List.nil_append]
    exact ⟨.none, ts, rfl, hh⟩
  unfold argTV at h
  split at h
  · rename_i id i off
    split at h
    · rename_i hi0
      subst hi0
      simp only [AVR] at hc
      obtain ⟨b, o, hb, hc⟩ := hc
      rw [Nat.zero_mul, Nat.add_zero] at hc
      split at h
      · rename_i cs ho
        split at h
        · rename_i e he
          split at h
          · rename_i hle
            split at h
            · rename_i l ids bs hl
              injection h with h; subst h
              obtain ⟨b', o', q1, q2, q3, q4⟩ := hV.objs id _ ho
              rw [hb] at q1; injection q1 with q1; injection q1 with e1 e2; subst e1; subst e2
              obtain ⟨k1, k2, ts, js, k3, k4, k5, k6, k7⟩ := leafs_of 4 (leaf_ok hV 4) ((cs.drop off).take (sizeT P e)) b (o + off) l ids bs (fun j v hj => by
                rw [List.getElem?_take] at hj
                split at hj
                · rw [List.getElem?_drop] at hj
                  have := q4 (off + j) v hj
                  rwa [← Nat.add_assoc] at this
                · exact absurd hj (by simp)) hl
              have hlen : ((cs.drop off).take (sizeT P e)).length = sizeT P e := by simp; omega
              let l0 : Loc := { base := some (b, o + off), len := 0, cap := 0, sz := 0, k := sizeT P e, ext := none }
              have h5 : TVL w M (.ptr l) (.box l0 ts) c := by
                simp only [TVL]; exact ⟨l0, ts, b, o + off, rfl, rfl, by rw [k1, hlen], rfl, hc, k3⟩
              refine ⟨.ptr l, .box l0 ts, id :: js, rfl, TVL.sub hMl h5, ?_, ?_, fun ms hm vs ts' bs' hh => ?_, fun ms hm vs ts' => ⟨LT.looseL ts, by simp [LooseA, LT.loose], by simpa [Back.bldsL, Back.blds] using k7⟩⟩
              · rw [idsL_one]
                simp only [Back.ids]
                exact (List.Perm.cons id k4).trans (List.perm_middle.symm)
              · simp only [LT.locs]
                refine OwnL.cons ⟨⟨_, ho⟩, fun b' j hF' => ?_⟩ k5
                rcases hF' with ⟨o', h1, h2, h3⟩ | ⟨n, h1, _⟩
                · simp only [l0, Option.some.injEq, Prod.mk.injEq] at h1
                  obtain ⟨rfl, rfl⟩ := h1
                  exact .inl ⟨o, hb, by omega, by simp only [l0] at h3; omega⟩
                · simp [l0] at h1
              · simp only [ArgsR]
                exact ⟨_, _, rfl, _, _, rfl, by
                  simp only [BackR]
                  exact ⟨l0, ts, b, o, rfl, hb, rfl, by rw [k2, hlen], by rw [k2, hlen, q2]; exact hle, rfl, k6⟩, ⟨id, off, bs, rfl⟩, hh⟩
            · exact absurd h (by simp)
          · exact absurd h (by simp)
        · exact absurd h (by simp)
      · rename_i bs ho
        split at h
        · rename_i hoff
          subst hoff
          injection h with h; subst h
          have h5 : TVL w M (.bld bs) (.bld (β id)) c := by
            simp only [TVL]; exact ⟨β id, b, o, rfl, hb, by simpa using hc, hV.objs id _ ho⟩
          refine ⟨.bld bs, .bld (β id), [id], rfl, TVL.sub hMl h5, by rw [idsL_one]; simp [Back.ids], OwnL.cons ⟨⟨_, ho⟩, fun _ _ h => h⟩ OwnL.nil, fun ms hm vs ts' bs' hh => ?_, fun ms hm vs ts' => ⟨[β id], by simp [LooseA, LT.loose], fun l hl b j hF => .inr ⟨id, by simp [Back.bldsL, Back.blds], by simp at hl; subst hl; exact hF⟩⟩⟩
          simp only [ArgsR]
          have hbk : (β id).k = 2 := by
            obtain ⟨_, _, _, _, _, _, a2, _⟩ := hV.objs id _ ho
            exact a2.1
          exact ⟨_, _, rfl, _, _, rfl, by simp only [BackR]; exact ⟨trivial, hbk⟩, ⟨id, rfl⟩, hh⟩
        · exact absurd h (by simp)
      · exact absurd h (by simp)
    · exact absurd h (by simp)
  · simp only [AVR] at hc
    have nilOK : ∀ sz, 0 < sz → TVL w Ml (.own sz []) (.one { base := none, len := 0, cap := 0, sz := sz, k := 0, ext := none }) c := by
      intro sz h0
      simp only [TVL]
      exact ⟨_, rfl, by rw [hc]; rfl, rfl, h0, rfl, Nat.le_refl _, by simp, ⟨rfl, fun b o hb => by simp at hb⟩, fun _ => rfl, by simp, fun b o hb => by simp at hb⟩
    have noF : ∀ sz b j, ¬ ({ base := none, len := 0, cap := 0, sz := sz, k := 0, ext := none } : Loc).F b j := by
      rintro sz b j (⟨o, h1, _⟩ | ⟨n, h1, _⟩)
      · simp at h1
      · simp at h1
    split at h
    · rename_i e he
      injection h with h; subst h
      refine ⟨_, _, [], rfl, nilOK _ (elemT_eq he).2.2, by simp [Back.idsL], by simp only [LT.locs, OwnL]; exact .inl ⟨noF _, trivial⟩, fun ms hm vs ts bs hh => ?_, fun ms hm vs ts => ⟨_, by simp only [LooseA, hm]; rfl, fun l hl b j hF => by simp [LT.locs] at hl; subst hl; exact absurd hF (noF _ b j)⟩⟩
      simp only [ArgsR, hm]
      exact ⟨_, _, rfl, by simpa using hh⟩
    · rename_i e he
      injection h with h; subst h
      refine ⟨_, _, [], rfl, nilOK _ (elemT_eq he).2.2, by simp [Back.idsL, Back.ids], by simp only [LT.locs, OwnL]; exact .inl ⟨noF _, trivial⟩, fun ms hm vs ts bs hh => ?_, fun ms hm vs ts => ⟨[], by simp only [LooseA, hm, if_true], by simp [LooseR]⟩⟩
      simp only [ArgsR, hm]
      exact ⟨_, _, rfl, by rw [if_pos trivial]; exact ⟨_, _, rfl, by simp only [BackR]; exact ⟨_, rfl, rfl, rfl⟩, .inr rfl, hh⟩⟩
    · injection h with h; subst h
      subst hc
      refine pvOK _ _ ?_
      simp only [Rep]
      exact ⟨none, 0, rfl, Nat.le_refl _, fun _ => rfl, fun a ha => by simp at ha, 1, by simp only [RepRow]⟩
    · injection h with h; subst h
      subst hc
      exact pvOK _ _ (by simp only [Rep])
    · exact absurd h (by simp)
  · rename_i id
    have hc' := hc
    simp only [AVR] at hc
    split at h
    · rename_i sz es ho
      injection h with h; subst h
      refine ⟨.own sz es, .one (β id), [id], rfl, TVL.sub hMl (by simp only [TVL]; exact ⟨β id, rfl, hc, hV.objs id _ ho⟩), by simp [Back.idsL], OwnL.cons ⟨⟨_, ho⟩, fun _ _ h => h⟩ OwnL.nil, fun ms hm vs ts bs hh => ?_, fun ms hm vs ts => ⟨_, by simp only [LooseA, hm]; rfl, fun l hl b j hF => .inl ⟨id, by simp, ⟨_, ho⟩, by simp [LT.locs] at hl; subst hl; exact hF⟩⟩⟩
      simp only [ArgsR, hm]
      exact ⟨_, _, rfl, by simpa using hh⟩
    · rename_i sz es ho
      injection h with h; subst h
      refine ⟨.own sz es, .one (β id), [id], rfl, TVL.sub hMl (by simp only [TVL]; exact ⟨β id, rfl, hc, hV.objs id _ ho⟩), by rw [idsL_one]; simp [Back.ids], OwnL.cons ⟨⟨_, ho⟩, fun _ _ h => h⟩ OwnL.nil, fun ms hm vs ts bs hh => ?_, fun ms hm vs ts => ⟨[], by simp only [LooseA, hm, if_true], by simp [LooseR]⟩⟩
      simp only [ArgsR, hm]
      exact ⟨_, _, rfl, by rw [if_pos trivial]; exact ⟨_, _, rfl, by simp only [BackR], .inl ⟨id, rfl⟩, hh⟩⟩
    · rename_i sz es ho
      injection h with h; subst h
      exact pvOK _ _ ((own_rep hV hMl ho (hF id (by simp) ⟨_, ho⟩)).1 c hc)
    · exact absurd h (by simp)
  · split at h
    · rename_i x l hl
      injection h with h; subst h
      obtain ⟨y, rfl, hy⟩ := lent_ok hV hMl hc hl hF
      exact pvOK y _ hy
    · exact absurd h (by simp)

theorem args_ok {P : Program} (hV : VR M0 M β V tm w) {Ml : Cells} (hMl : ∀ b j, Ml b j → M b j) : ∀ (vs : List AV) (cs : List Value) (ms : List Mode) (ts : List TypeId) (g : Given), AVRs β w M vs cs → argsTV P V ms ts vs = some g →
    (∀ i ∈ g.lent, (∃ o, V.obj i = some o) → ∀ b j, (β i).F b j → ¬ Ml b j) → ∃ lts js, TVAll w Ml g.vs lts cs ∧ js.Perm (g.dels ++ Back.idsL g.bs) ∧ OwnL V β (LT.locsL lts) js ∧ ArgsR β ms g.vs lts g.bs ∧ LooseR V β (LooseA ms g.vs lts) g.dels (Back.bldsL g.bs)
  | [], cs, ms, ts, g, hc, h, hF => by
    unfold argsTV at h
    injection h with h; subst h
    simp only [AVRs] at hc; subst hc
    exact ⟨[], [], by simp [TVAll], by simp [Back.idsL], OwnL.nil, by simp [ArgsR], by simp [LooseR, LooseA]⟩
  | v :: vs, cs, ms, ts, g, hc, h, hF => by
    unfold argsTV at h
    split at h
    · rename_i g1 g2 h1 h2
      injection h with h; subst h
      simp only [AVRs] at hc
      obtain ⟨c, r, rfl, hc1, hc2⟩ := hc
      obtain ⟨x, t, js, a1, a2, a3, a4, a5, a6⟩ := arg_ok hV hMl hc1 h1 (fun i hi => hF i (by simp only [List.mem_append]; exact .inl hi))
      obtain ⟨lts, js', b1, b2, b3, b4, b5⟩ := args_ok hV hMl vs r ms.tail ts.tail g2 hc2 h2 (fun i hi => hF i (by simp only [List.mem_append]; exact .inr hi))
      refine ⟨t :: lts, js ++ js', ?_, ?_, ?_, ?_, ?_⟩
      · rw [a1]; simp only [List.singleton_append, TVAll]; exact ⟨t, lts, c, r, rfl, rfl, a2, b1⟩
      · rw [idsL_append]
        exact (List.Perm.append a3 b2).trans (perm4 _ _ _ _)
      · simp only [LT.locsL]; exact a4.append b3
      · rw [a1]; exact a5 ms rfl _ _ _ b4
      · obtain ⟨ls, e, hl⟩ := a6 ms rfl g2.vs lts
        rw [a1]
        simp only [List.singleton_append, e]
        have : Back.bldsL (g1.bs ++ g2.bs) = Back.bldsL g1.bs ++ Back.bldsL g2.bs := by simp [Back.bldsL]
        rw [this]
        exact hl.append b5
    · exact absurd h (by simp)

end
end Go.Proofs.YtbnjbianobdleaaGreat.Vm

/-
  What a call is: contracts; how what comes back stands to the world.
-/
namespace Go.Proofs.YtbnjbianobdleaaGreat.Vm
open Go
set_option linter.unusedVariables false
set_option linter.unusedSimpArgs false

mutual
/-- Variables are where they were. -/
def like : LT → LT → Prop
  | .none, _ => True
  | .one _, _ => True
  | .bld l, t' => ∃ l', t' = .bld l' ∧ l'.base = l.base
  | .box l ss, t' => ∃ l' ss', t' = .box l' ss' ∧ l'.base = l.base ∧ l'.k = l.k ∧ l'.ext = l.ext ∧ likes ss ss'
def likes : List LT → List LT → Prop
  | [], ts => ts = []
  | t :: r, ts => ∃ t' r', ts = t' :: r' ∧ like t t' ∧ likes r r'
end

theorem Loc.F_of {l l' : Loc} (h1 : l'.base = l.base) (h2 : l'.k = l.k) (h3 : l'.ext = l.ext) (b j : Nat) : l.F b j ↔ l'.F b j := by
  simp only [Loc.F, h1, h2, h3]

mutual
theorem like_fixed : ∀ {t t' : LT}, like t t' → ∀ l ∈ t.fixed, ∃ l' ∈ t'.fixed, ∀ b j, l.F b j ↔ l'.F b j
  | .none, t', _, l, hl => by simp [LT.fixed] at hl
  | .one _, t', _, l, hl => by simp [LT.fixed] at hl
  | .bld _, t', _, l, hl => by simp [LT.fixed] at hl
  | .box l0 ss, t', h, l, hl => by
    simp only [like] at h
    obtain ⟨l', ss', rfl, h1, h2, h3, h4⟩ := h
    simp only [LT.fixed, List.mem_cons] at hl
    rcases hl with rfl | hl
    · exact ⟨l', by simp [LT.fixed], Loc.F_of h1 h2 h3⟩
    · obtain ⟨l1, k1, k2⟩ := likes_fixed h4 l hl
      exact ⟨l1, by simp [LT.fixed, k1], k2⟩
theorem likes_fixed : ∀ {ts ts' : List LT}, likes ts ts' → ∀ l ∈ LT.fixedL ts, ∃ l' ∈ LT.fixedL ts', ∀ b j, l.F b j ↔ l'.F b j
  | [], ts', _, l, hl => by simp [LT.fixedL] at hl
  | t :: r, ts', h, l, hl => by
    simp only [likes] at h
    obtain ⟨t', r', rfl, h1, h2⟩ := h
    simp only [LT.fixedL, List.mem_append] at hl
    rcases hl with hl | hl
    · obtain ⟨l1, k1, k2⟩ := like_fixed h1 l hl
      exact ⟨l1, by simp [LT.fixedL, k1], k2⟩
    · obtain ⟨l1, k1, k2⟩ := likes_fixed h2 l hl
      exact ⟨l1, by simp [LT.fixedL, k1], k2⟩
end

def cellsOf (M0 : Cells) (ls : List Loc) : Cells := fun b j => M0 b j ∨ ∃ l ∈ ls, l.F b j

def Apart (ls : List Loc) : Prop := ls.Pairwise (fun l l' => ∀ b j, l.F b j → ¬ l'.F b j)

/-- Arguments, in a callee's hands. M0: cells that others may write. -/
structure Handed (M0 : Cells) (w : World) (as : List TV) (ts : List LT) (args : List Value) : Prop where
  tv : TVAll w (cellsOf M0 (LT.locsL ts)) as ts args
  apart : Apart (LT.locsL ts)
  out : ∀ l ∈ LT.locsL ts, ∀ b j, l.F b j → ¬ M0 b j ∧ b < w.heap.size
  old : ∀ b j, M0 b j → b < w.heap.size

/-- What comes back of the arguments that are handed over by reference. -/
def FinR (w : World) (M : Cells) : List Mode → List TV → List LT → List Value → List TV → List LT → Prop
  | _, [], _, _, fs, lfs => fs = [] ∧ lfs = []
  | ms, .pv _ :: vs, ts, cs, fs, lfs => ∃ t r c d, ts = t :: r ∧ cs = c :: d ∧ FinR w M ms.tail vs r d fs lfs
  | ms, .own sz es :: vs, ts, cs, fs, lfs => ∃ t r c d, ts = t :: r ∧ cs = c :: d ∧ if ms.headD .borrow = .mut then
      ∃ es' fr lr, fs = .own sz es' :: fr ∧ lfs = t :: lr ∧ TVL w M (.own sz es') t c ∧ FinR w M ms.tail vs r d fr lr else FinR w M ms.tail vs r d fs lfs
  | ms, .bld _ :: vs, ts, cs, fs, lfs => ∃ t r c d, ts = t :: r ∧ cs = c :: d ∧ ∃ f fr lf lr, fs = f :: fr ∧ lfs = lf :: lr ∧ TVL w M f lf c ∧ like t lf ∧ FinR w M ms.tail vs r d fr lr
  | ms, .ptr _ :: vs, ts, cs, fs, lfs => ∃ t r c d, ts = t :: r ∧ cs = c :: d ∧ ∃ f fr lf lr, fs = f :: fr ∧ lfs = lf :: lr ∧ TVL w M f lf c ∧ like t lf ∧ FinR w M ms.tail vs r d fr lr

/-- The loose places of what comes back. -/
def LooseF : List TV → List LT → List Loc
  | .own _ _ :: fs, _ :: ts => LooseF fs ts
  | _ :: fs, t :: ts => t.loose ++ LooseF fs ts
  | _, _ => []

def wrapV : List Value → Value
  | [v] => v
  | vs => .tuple vs.toArray

/-- What a call has done. -/
def Took (ms : List Mode) (M0 : Cells) (w : World) (as : List TV) (ts : List LT) (args : List Value) (rs fs : List TV) (v : Value) (w' : World) : Prop :=
  ∃ (vs : List Value) (lrs lfs : List LT), v = wrapV vs ∧ TVAll w' (cellsOf M0 (LT.locsL (lrs ++ lfs))) rs lrs vs ∧ FinR w' (cellsOf M0 (LT.locsL (lrs ++ lfs))) ms as ts args fs lfs ∧
    Apart (LT.locsL (lrs ++ lfs)) ∧ (∀ l ∈ LT.locsL (lrs ++ lfs), ∀ b j, l.F b j → ¬ M0 b j ∧ b < w'.heap.size ∧ (w.heap.size ≤ b ∨ ∃ l0 ∈ LT.locsL ts, l0.F b j)) ∧
    (∀ l ∈ LT.locsL lrs ++ LooseF fs lfs, ∀ b j, l.F b j → w.heap.size ≤ b ∨ ∃ l0 ∈ LooseA ms as ts, l0.F b j) ∧
    Fr (fun b j => ∃ l ∈ LT.locsL ts, l.F b j) w w'

/-- A function is called. -/
def Invokes (P : Program) (f : FuncId) (args : Array Value) (w : World) (R : Value → World → Prop) : Prop :=
  match (callFunc f args).run P w with
  | .ok (.value v) w' => R v w'
  | .ok (.enter g as) w' => Calls P g as w' fun e w'' => ∃ v, e = .returned v ∧ R v w''
  | _ => False

def Contract (P : Program) (ms : List Mode) (f : FuncId) (as rs fs : List TV) : Prop :=
  ∀ M0 w ts args, Handed M0 w as ts args → Invokes P f args.toArray w (Took ms M0 w as ts args rs fs)

mutual
/-- New places of leaves; new blocks of Builders. -/
def basg (β : Nat → Loc) (id j : Nat) : Option Back → LT → List (Nat × Loc)
  | some (.box i off bs), .box _ subs => basgs β i off bs subs
  | some (.bld i), .bld l => [(i, { β i with ext := l.ext })]
  | none, .one l => [(cellId id j, l)]
  | _, _ => []
def basgs (β : Nat → Loc) (id j : Nat) : List (Option Back) → List LT → List (Nat × Loc)
  | b :: bs, t :: ts => basg β id j b t ++ basgs β id (j + 1) bs ts
  | _, _ => []
end

theorem BldR.congr {w : World} {l l' : Loc} (h1 : l'.base = l.base) (h2 : l'.k = l.k) (h3 : l'.ext = l.ext) {bs : List UInt8} (h : BldR w l bs) : BldR w l' bs := by
  obtain ⟨b, o, A, cap, p, a1, a2, a3, a4, a5, a6, a7, a8⟩ := h
  exact ⟨b, o, A, cap, p, by rw [h1]; exact a1, ⟨by rw [h2]; exact a2.1, a2.2⟩, a3, a4, a5, a6, a7, by rw [h3]; exact a8⟩
theorem BldR.k2 {w : World} {l : Loc} {bs : List UInt8} (h : BldR w l bs) : l.k = 2 := by
  obtain ⟨_, _, _, _, _, _, a2, _⟩ := h; exact a2.1

/-- What is known of what came back of a leaf, or of leaves. -/
structure BackOut (β β' : Nat → Loc) (G : Cells) (w w' : World) (M' : Cells) (ps : List Patch) (os : List (Nat × Obj)) (ba : List (Nat × Loc)) (ids blds : List Nat) (fx : List Loc) : Prop where
  patch : ∀ p ∈ ps, PatchR β β' G w w' M' p
  objs : ∀ p ∈ os, ObjR β' w' M' (β' p.1) p.2
  pids : (ps.map Patch.id).Perm ids
  pblds : ∀ i ∈ blds, ∃ bs, Patch.bld i bs ∈ ps
  asg : ∀ p ∈ ba, p.1 ∈ os.map (·.1) ∨ ∃ bs, Patch.bld p.1 bs ∈ ps
  osas : ∀ i ∈ os.map (·.1), i ∈ ba.map (·.1)
  refs : ∀ p ∈ os, p.2.refs = []
  prefs : ∀ id off cells, Patch.box id off cells ∈ ps → ∀ i ∈ AV.refsL cells, i ∈ ids ∨ i ∈ os.map (·.1)
  touch : ∀ l ∈ fx, ∀ b j, l.F b j → ∃ p ∈ ps, p.touch (β p.id) b j

theorem BackOut.append {β β' : Nat → Loc} {G : Cells} {w w' : World} {M' : Cells} {ps ps' : List Patch} {os os' : List (Nat × Obj)} {ba ba' : List (Nat × Loc)} {ids ids' blds blds' : List Nat} {fx fx' : List Loc}
    (h : BackOut β β' G w w' M' ps os ba ids blds fx) (k : BackOut β β' G w w' M' ps' os' ba' ids' blds' fx') : BackOut β β' G w w' M' (ps ++ ps') (os ++ os') (ba ++ ba') (ids ++ ids') (blds ++ blds') (fx ++ fx') where
  patch p hp := (List.mem_append.1 hp).elim (h.patch p) (k.patch p)
  objs p hp := (List.mem_append.1 hp).elim (h.objs p) (k.objs p)
  pids := by rw [List.map_append]; exact List.Perm.append h.pids k.pids
  pblds i hi := (List.mem_append.1 hi).elim (fun hi => (h.pblds i hi).imp fun _ h => List.mem_append.2 (.inl h)) (fun hi => (k.pblds i hi).imp fun _ h => List.mem_append.2 (.inr h))
  asg p hp := by
    rcases List.mem_append.1 hp with hp | hp
    · rcases h.asg p hp with h | ⟨bs, h⟩
      · exact .inl (by rw [List.map_append]; exact List.mem_append.2 (.inl h))
      · exact .inr ⟨bs, List.mem_append.2 (.inl h)⟩
    · rcases k.asg p hp with h | ⟨bs, h⟩
      · exact .inl (by rw [List.map_append]; exact List.mem_append.2 (.inr h))
      · exact .inr ⟨bs, List.mem_append.2 (.inr h)⟩
  osas i hi := by
    rw [List.map_append] at hi ⊢
    exact List.mem_append.2 ((List.mem_append.1 hi).imp (h.osas i) (k.osas i))
  refs p hp := (List.mem_append.1 hp).elim (h.refs p) (k.refs p)
  prefs id off cells hm i hi := by
    rw [List.map_append]
    rcases List.mem_append.1 hm with hm | hm
    · exact (h.prefs id off cells hm i hi).imp (fun h => List.mem_append.2 (.inl h)) (fun h => List.mem_append.2 (.inl h))
    · exact (k.prefs id off cells hm i hi).imp (fun h => List.mem_append.2 (.inr h)) (fun h => List.mem_append.2 (.inr h))
  touch l hl b j hF := by
    rcases List.mem_append.1 hl with hl | hl
    · obtain ⟨p, h1, h2⟩ := h.touch l hl b j hF
      exact ⟨p, List.mem_append.2 (.inl h1), h2⟩
    · obtain ⟨p, h1, h2⟩ := k.touch l hl b j hF
      exact ⟨p, List.mem_append.2 (.inr h1), h2⟩

theorem BackOut.none {β β' : Nat → Loc} {G : Cells} {w w' : World} {M' : Cells} : BackOut β β' G w w' M' [] [] [] [] [] [] :=
  ⟨by simp, by simp, by simp, by simp, by simp, by simp, by simp, by simp, by simp⟩

section
variable {β β' : Nat → Loc} {G : Cells} {w w' : World} {M' : Cells}

mutual
theorem backLeaf_ok : ∀ (ob : Option Back) (id j : Nat) (t lf : LT) (f : TV) (c : Value) (a : AV) (ps : List Patch) (os : List (Nat × Obj)), backLeaf id j ob f = some (a, ps, os) → TVL w' M' f lf c →
    (∀ b, ob = some b → BackR β b t) → (ob = none → t.fixed = []) → like t lf → (∀ l ∈ lf.loose, ∀ b j, l.F b j → M' b j ∧ (w.heap.size ≤ b ∨ G b j)) → (∀ p ∈ basg β id j ob lf, β' p.1 = p.2) → (∀ i off cells, Patch.box i off cells ∈ ps → β' i = β i) →
    ((∀ i off l, ob = some (.box i off l) → off = 0) → AVR β' w' M' a c) ∧ (∀ i ∈ a.refs, i ∈ oids ob ∨ i ∈ os.map (·.1)) ∧ BackOut β β' G w w' M' ps os (basg β id j ob lf) (oids ob) (oblds ob) t.fixed
  | some (.box i off bs), id, j, t, lf, f, c, a, ps, os, h, hT, hB, hB0, hL, hF, hβ, hk => by
    cases f <;> simp only [backLeaf] at h <;> try (cases h; done)
    rename_i cells
    split at h
    · rename_i l ps' os' hl
      injection h with h; injection h with h1 h; injection h with h2 h3; subst h1; subst h2; subst h3
      have hb := hB _ rfl
      simp only [BackR] at hb
      obtain ⟨l0, subs, b, o, rfl, hb1, hb2, hb3, hb4, hb5, hb6⟩ := hb
      simp only [like] at hL
      obtain ⟨l1, subs1, rfl, e1, e2, e3, hL⟩ := hL
      simp only [TVL] at hT
      obtain ⟨l2, subs2, b2, o2, e, h21, h22, h23, h24, hT⟩ := hT
      injection e with e4 e5; subst e4; subst e5
      rw [e1, hb2] at h21; injection h21 with h21; injection h21 with x1 x2; subst x1; subst x2
      have hbi : β' i = β i := hk i off l (by simp)
      simp only [basg] at hβ ⊢
      obtain ⟨k1, k2, k3, k4⟩ := backLeaves_ok bs i off subs subs1 cells b (o + off) l ps' os' hl hT hb6 hL (fun l' hl' => hF l' (by simpa only [LT.loose] using hl')) hβ (fun i' off' cs' hm => hk i' off' cs' (List.mem_append.2 (.inl hm)))
      refine ⟨fun h0 => ?_, fun i' hi' => ?_, ?_⟩
      · simp only [AVR]; rw [hbi]
        have := h0 i off bs rfl
        subst this
        exact ⟨b, o, hb1, by simpa using h24⟩
      · simp [AV.refs] at hi'; subst hi'; exact .inl (by simp [oids, Back.ids])
      · refine ⟨fun p hp => ?_, k4.objs, ?_, fun i' hi' => ?_, fun p hp => ?_, k4.osas, k4.refs, fun id' off' cs' hm i' hi' => ?_, fun l' hl' x y hF' => ?_⟩
        · rcases List.mem_append.1 hp with hp | hp
          · exact k4.patch p hp
          · simp at hp; subst hp
            exact ⟨hbi, b, o, hb1, k2⟩
        · simp only [List.map_append, List.map_cons, List.map_nil, Patch.id, oids, Back.ids]
          exact (List.perm_append_comm.trans (List.Perm.cons i k4.pids))
        · simp only [oblds, Back.blds] at hi'
          exact (k4.pblds i' hi').imp fun _ h => List.mem_append.2 (.inl h)
        · exact (k4.asg p hp).imp (fun h => h) (fun ⟨bs, h⟩ => ⟨bs, List.mem_append.2 (.inl h)⟩)
        · simp only [oids, Back.ids, List.mem_cons]
          rcases List.mem_append.1 hm with hm | hm
          · exact (k4.prefs id' off' cs' hm i' hi').imp (fun h => .inr h) (fun h => h)
          · simp at hm; obtain ⟨rfl, rfl, rfl⟩ := hm
            exact (k3 i' hi').imp (fun h => .inr h) (fun h => h)
        · simp only [LT.fixed, List.mem_cons] at hl'
          rcases hl' with rfl | hl'
          · refine ⟨.box i off l, by simp, ?_⟩
            rcases hF' with ⟨o', t1, t2, t3⟩ | ⟨n, t1, _⟩
            · rw [hb2] at t1; injection t1 with t1; injection t1 with t4 t5; subst t4; subst t5
              exact ⟨o, hb1, by omega, by rw [k1]; omega⟩
            · rw [hb5] at t1; simp at t1
          · obtain ⟨p, p1, p2⟩ := k4.touch l' hl' x y hF'
            exact ⟨p, List.mem_append.2 (.inl p1), p2⟩
    · exact absurd h (by simp)
  | some (.own i), id, j, t, lf, f, c, a, ps, os, h, hT, hB, hB0, hL, hF, hβ, hk => by
    cases f <;> simp only [backLeaf] at h <;> cases h
  | some .nilSl, id, j, t, lf, f, c, a, ps, os, h, hT, hB, hB0, hL, hF, hβ, hk => by
    cases f <;> simp only [backLeaf] at h <;> cases h
  | some (.bld i), id, j, t, lf, f, c, a, ps, os, h, hT, hB, hB0, hL, hF, hβ, hk => by
    cases f <;> simp only [backLeaf] at h <;> try (cases h; done)
    rename_i bs
    injection h with h; injection h with h1 h; injection h with h2 h3; subst h1; subst h2; subst h3
    have hb := hB _ rfl
    simp only [BackR] at hb
    obtain ⟨rfl, hb2⟩ := hb
    simp only [like] at hL
    obtain ⟨l1, rfl, e1⟩ := hL
    simp only [TVL] at hT
    obtain ⟨l2, b2, o2, e, h21, h22, h23⟩ := hT
    injection e with e4; subst e4
    have hbi := hβ (i, { β i with ext := l1.ext }) (by simp [basg])
    simp only at hbi
    have hFF : ∀ b j, (β' i).F b j ↔ l1.F b j := fun b j => Loc.F_of (by rw [hbi]; exact e1) (by rw [hbi, h23.k2]; exact hb2.symm) (by rw [hbi]) b j
    refine ⟨fun _ => ?_, fun i' hi' => ?_, ?_⟩
    · simp only [AVR]; rw [hbi]
      exact ⟨b2, o2, by rw [← e1]; exact h21, by simpa using h22⟩
    · simp [AV.refs] at hi'; subst hi'; exact .inl (by simp [oids, Back.ids])
    · refine ⟨fun p hp => ?_, by simp, by simp [oids, Back.ids, Patch.id], fun i' hi' => ?_, fun p hp => ?_, by simp, by simp, by simp, by simp [LT.fixed]⟩
      · simp at hp; subst hp
        refine ⟨?_, fun b j hFb => hF l1 (by simp [LT.loose]) b j ((hFF b j).1 hFb)⟩
        show BldR w' (β' i) bs
        exact BldR.congr (by rw [hbi]; exact e1.symm) (by rw [hbi, h23.k2]; exact hb2) (by rw [hbi]) h23
      · simp [oblds, Back.blds] at hi'; subst hi'; exact ⟨bs, by simp⟩
      · simp [basg] at hp; subst hp; exact .inr ⟨bs, by simp⟩
  | none, id, j, t, lf, f, c, a, ps, os, h, hT, hB, hB0, hL, hF, hβ, hk => by
    cases f <;> simp only [backLeaf] at h <;> try (cases h; done)
    · injection h with h; injection h with h1 h; injection h with h2 h3; subst h1; subst h2; subst h3
      simp only [TVL] at hT
      obtain ⟨rfl, hT⟩ := hT
      exact ⟨fun _ => by simp only [AVR]; exact hT, by simp [AV.refs], by rw [hB0 rfl]; simp only [basg, oids, oblds]; exact BackOut.none⟩
    · rename_i sz es
      injection h with h; injection h with h1 h; injection h with h2 h3; subst h1; subst h2; subst h3
      simp only [TVL] at hT
      obtain ⟨l, rfl, h1, h2⟩ := hT
      have e := hβ (cellId id j, l) (by simp [basg])
      simp only at e
      refine ⟨fun _ => by simp only [AVR]; rw [e]; exact h1, fun i hi => .inr (by simpa [AV.refs] using hi), ?_⟩
      refine ⟨by simp, fun p hp => ?_, by simp [oids], by simp [oblds], fun p hp => .inl ?_, by simp [basg], by simp [Obj.refs], by simp, by rw [hB0 rfl]; simp⟩
      · simp at hp; subst hp; simp only; rw [e]; exact h2
      · simp [basg] at hp; subst hp; simp
theorem backLeaves_ok : ∀ (bs : List (Option Back)) (id j : Nat) (ts lfs : List LT) (fs : List TV) (b o : Nat) (l : List AV) (ps : List Patch) (os : List (Nat × Obj)), backLeaves id j bs fs = some (l, ps, os) → TVLs w' M' fs lfs b o →
    BackRs β bs ts → likes ts lfs → (∀ l ∈ LT.looseL lfs, ∀ b j, l.F b j → M' b j ∧ (w.heap.size ≤ b ∨ G b j)) → (∀ p ∈ basgs β id j bs lfs, β' p.1 = p.2) → (∀ i off cells, Patch.box i off cells ∈ ps → β' i = β i) →
    l.length = bs.length ∧ (∀ (k : Nat) (v : AV), l[k]? = some v → ∃ c, at_ w' b (o + k) = some c ∧ frz_ w' b (o + k) = false ∧ c.oneCell' = true ∧ AVR β' w' M' v c) ∧
    (∀ i ∈ AV.refsL l, i ∈ Back.idsO bs ∨ i ∈ os.map (·.1)) ∧ BackOut β β' G w w' M' ps os (basgs β id j bs lfs) (Back.idsO bs) (Back.bldsO bs) (LT.fixedL ts)
  | [], id, j, ts, lfs, fs, b, o, l, ps, os, h, hT, hB, hL, hF, hβ, hk => by
    cases fs <;> simp only [backLeaves] at h <;> try (cases h; done)
    injection h with h; injection h with h1 h; injection h with h2 h3; subst h1; subst h2; subst h3
    exact ⟨rfl, by simp, by simp [AV.refsL], by simp only [BackRs] at hB; subst hB; simp only [basgs, Back.idsO, Back.bldsO, LT.fixedL]; exact BackOut.none⟩
  | ob :: bs, id, j, ts, lfs, fs, b, o, l, ps, os, h, hT, hB, hL, hF, hβ, hk => by
    cases fs <;> simp only [backLeaves] at h <;> try (cases h; done)
    rename_i f fs
    split at h
    · rename_i a p os1 l' ps' os' h1 h2
      injection h with h; injection h with e1 h; injection h with e2 e3; subst e1; subst e2; subst e3
      simp only [TVLs] at hT
      obtain ⟨lf, lr, c, rfl, a1, a2, a3, hT1, hT2⟩ := hT
      have hts : ∃ t r, ts = t :: r ∧ (∀ b, ob = some b → BackR β b t) ∧ (ob = none → t.fixed = []) ∧ (∀ i off l, ob = some (.box i off l) → off = 0) ∧ BackRs β bs r := by
        cases ob with
        | none =>
          simp only [BackRs] at hB
          obtain ⟨t, r, rfl, hB0, hB⟩ := hB
          exact ⟨t, r, rfl, by simp, fun _ => hB0, by simp, hB⟩
        | some x =>
          simp only [BackRs] at hB
          obtain ⟨t, r, rfl, hB1, hB2, hB3⟩ := hB
          exact ⟨t, r, rfl, fun b hb => by injection hb with hb; subst hb; exact hB1, by simp, fun i off l hb => by injection hb with hb; exact hB2 i off l hb, hB3⟩
      obtain ⟨t, r, rfl, hB1, hB0, hB2, hB3⟩ := hts
      simp only [likes] at hL
      obtain ⟨t', r', e, hL1, hL2⟩ := hL
      injection e with e1 e2; subst e1; subst e2
      obtain ⟨p1, p2, p3⟩ := backLeaf_ok ob id j t lf f c a p os1 h1 hT1 hB1 hB0 hL1 (fun l hl => hF l (by simp only [LT.looseL, List.mem_append]; exact .inl hl)) (fun q hq => hβ q (by simp only [basgs, List.mem_append]; exact .inl hq))
        (fun i off cs hm => hk i off cs (List.mem_append.2 (.inl hm)))
      obtain ⟨q1, q2, q3, q4⟩ := backLeaves_ok bs id (j + 1) r lr fs b (o + 1) l' ps' os' h2 hT2 hB3 hL2 (fun l hl => hF l (by simp only [LT.looseL, List.mem_append]; exact .inr hl)) (fun q hq => hβ q (by simp only [basgs, List.mem_append]; exact .inr hq))
        (fun i off cs hm => hk i off cs (List.mem_append.2 (.inr hm)))
      refine ⟨by simp [q1], fun k v hv => ?_, fun i hi => ?_, ?_⟩
      · cases k with
        | zero => simp at hv; subst hv; exact ⟨c, by simpa using a1, by simpa using a2, a3, p1 hB2⟩
        | succ k =>
          have := q2 k v (by simpa using hv)
          rwa [show o + (k + 1) = o + 1 + k by omega]
      · rw [idsO_cons, List.map_append]
        simp only [AV.refsL, List.mem_append] at hi ⊢
        rcases hi with hi | hi
        · exact (p2 i hi).imp .inl .inl
        · exact (q3 i hi).imp .inr .inr
      · rw [idsO_cons, bldsO_cons]
        simp only [basgs, LT.fixedL]
        exact p3.append q4
    · exact absurd h (by simp)
end

/-- New places of all that comes back. -/
def tops (β : Nat → Loc) : List Back → List LT → List (Nat × Loc)
  | b :: bs, t :: ts => basg β 0 0 (some b) t ++ tops β bs ts
  | _, _ => []

theorem backTV_cons {b : Back} {bs : List Back} {f : TV} {fs : List TV} {ws : List Patch} {os : List (Nat × Obj)} (hb : (∃ i, b = .bld i) ∨ ∃ i off l, b = .box i off l) (h : backTV (b :: bs) (f :: fs) = some (ws, os)) :
    ∃ a p o q r, backLeaf 0 0 (some b) f = some (a, p, o) ∧ backTV bs fs = some (q, r) ∧ ws = p ++ q ∧ os = o ++ r := by
  rcases hb with ⟨i, rfl⟩ | ⟨i, off, l, rfl⟩
  · cases f <;> simp only [backTV] at h <;> try (cases h; done)
    split at h
    · rename_i q r hr
      injection h with h; injection h with h1 h2; subst h1; subst h2
      exact ⟨_, _, _, q, r, rfl, hr, rfl, rfl⟩
    · exact absurd h (by simp)
  · cases f <;> simp only [backTV] at h <;> try (cases h; done)
    split at h
    · rename_i l' ps os' q r h1 h2
      injection h with h; injection h with e1 e2; subst e1; subst e2
      exact ⟨.addr i 0 0, ps ++ [.box i off l'], os', q, r, by simp only [backLeaf, h1], h2, by simp, rfl⟩
    · exact absurd h (by simp)

theorem backs_ok : ∀ (vs : List TV) (ms : List Mode) (ts : List LT) (cs : List Value) (bs : List Back) (fs : List TV) (lfs : List LT) (ws : List Patch) (os : List (Nat × Obj)), ArgsR β ms vs ts bs → FinR w' M' ms vs ts cs fs lfs → backTV bs fs = some (ws, os) →
    (∀ l ∈ LooseF fs lfs, ∀ b j, l.F b j → M' b j ∧ (w.heap.size ≤ b ∨ G b j)) → (∀ p ∈ tops β bs lfs, β' p.1 = p.2) → (∀ i off cells, Patch.box i off cells ∈ ws → β' i = β i) → (∀ i sz es, Patch.buf i sz es ∈ ws → β' i = β i) →
    BackOut β β' G w w' M' ws os (tops β bs lfs) (Back.idsL bs) (Back.bldsL bs) (FixA ms vs ts)
  | [], ms, ts, cs, bs, fs, lfs, ws, os, hA, hFin, h, hF, hβ, hk, hk2 => by
    simp only [ArgsR] at hA
    obtain ⟨rfl, rfl⟩ := hA
    simp only [FinR] at hFin
    obtain ⟨rfl, rfl⟩ := hFin
    simp only [backTV] at h
    injection h with h; injection h with h1 h2; subst h1; subst h2
    simp only [tops, Back.idsL, Back.bldsL, List.flatMap_nil, FixA]
    exact BackOut.none
  | .pv x :: vs, ms, ts, cs, bs, fs, lfs, ws, os, hA, hFin, h, hF, hβ, hk, hk2 => by
    simp only [ArgsR] at hA
    obtain ⟨t, r, rfl, hA⟩ := hA
    simp only [FinR] at hFin
    obtain ⟨t', r', c, d, e, rfl, hFin⟩ := hFin
    injection e with e1 e2; subst e1; subst e2
    simp only [FixA]
    exact backs_ok vs ms.tail r d bs fs lfs ws os hA hFin h hF hβ hk hk2
  | .own sz0 es0 :: vs, ms, ts, cs, bs, fs, lfs, ws, os, hA, hFin, h, hF, hβ, hk, hk2 => by
    simp only [ArgsR] at hA
    obtain ⟨t, r, rfl, hA⟩ := hA
    simp only [FinR] at hFin
    obtain ⟨t', r', c, d, e, rfl, hFin⟩ := hFin
    injection e with e1 e2; subst e1; subst e2
    by_cases hm : ms.headD .borrow = .mut
    · rw [if_pos hm] at hA hFin
      obtain ⟨b, bs', rfl, hB, hkind, hA⟩ := hA
      obtain ⟨es', fr, lr, rfl, rfl, hT, hFin⟩ := hFin
      rcases hkind with ⟨i, rfl⟩ | rfl
      · simp only [backTV] at h
        split at h
        · rename_i q rr hr
          injection h with h; injection h with h1 h2; subst h1; subst h2
          have ih := backs_ok vs ms.tail r d bs' fr lr q rr hA hFin hr (fun l hl => hF l (by simp only [LooseF]; exact hl)) (fun p hp => hβ p (by simp only [tops, basg, List.nil_append]; exact hp)) (fun i off cells hm => hk i off cells (List.mem_cons_of_mem _ hm)) (fun i sz es hm => hk2 i sz es (List.mem_cons_of_mem _ hm))
          simp only [BackR] at hB
          subst hB
          simp only [TVL] at hT
          obtain ⟨l, e, _, hO⟩ := hT
          injection e with e; subst e
          have hbi := hk2 i sz0 es' (by simp)
          refine ⟨fun p hp => ?_, ih.objs, ?_, fun i' hi' => ?_, fun p hp => ?_, fun i' hi' => ?_, ih.refs, fun id off cs hm i' hi' => ?_, fun l hl x y hFl => ?_⟩
          · rcases List.mem_cons.1 hp with rfl | hp
            · refine ⟨hbi, ?_⟩
              rw [hbi]
              exact ObjR.mono (β := fun _ => β i) (o := .buf sz0 es') (fun _ _ _ h1 h2 => ⟨h1, h2⟩) (fun _ _ _ _ h => ⟨h, rfl⟩) (fun _ _ h => h) (fun _ _ _ => rfl) (fun _ h => h) (by simp [Obj.refs]) hO
            · exact ih.patch p hp
          · simp only [List.map_cons, Patch.id, Back.idsL, List.flatMap_cons, Back.ids, List.singleton_append]
            exact List.Perm.cons i ih.pids
          · have : i' ∈ Back.bldsL bs' := by simpa [Back.bldsL, Back.blds] using hi'
            exact (ih.pblds i' this).imp fun _ h => List.mem_cons_of_mem _ h
          · simp only [tops, basg, List.nil_append] at hp
            exact (ih.asg p hp).imp (fun h => h) (fun ⟨x, h⟩ => ⟨x, List.mem_cons_of_mem _ h⟩)
          · simp only [tops, basg, List.nil_append]; exact ih.osas i' hi'
          · rcases List.mem_cons.1 hm with hm | hm
            · cases hm
            · exact (ih.prefs id off cs hm i' hi').imp (fun h => by simp only [Back.idsL, List.flatMap_cons]; exact List.mem_append.2 (.inr h)) (fun h => h)
          · simp only [FixA, if_pos hm, LT.locs, List.singleton_append, List.mem_cons] at hl
            rcases hl with rfl | hl
            · exact ⟨_, List.mem_cons_self, hFl⟩
            · obtain ⟨p, p1, p2⟩ := ih.touch l hl x y hFl
              exact ⟨p, List.mem_cons_of_mem _ p1, p2⟩
        · exact absurd h (by simp)
      · cases es' with
        | cons e es => simp only [backTV] at h; exact absurd h (by simp)
        | nil =>
          simp only [backTV] at h
          have ih := backs_ok vs ms.tail r d bs' fr lr ws os hA hFin h (fun l hl => hF l (by simp only [LooseF]; exact hl)) (fun p hp => hβ p (by simp only [tops, basg, List.nil_append]; exact hp)) hk hk2
          have e1 : tops β (Back.nilSl :: bs') (t :: lr) = tops β bs' lr := by simp only [tops, basg, List.nil_append]
          have e2 : Back.idsL (Back.nilSl :: bs') = Back.idsL bs' := by simp [Back.idsL, Back.ids]
          have e3 : Back.bldsL (Back.nilSl :: bs') = Back.bldsL bs' := by simp [Back.bldsL, Back.blds]
          rw [e1, e2, e3]
          refine { ih with touch := fun l hl x y hFl => ?_ }
          simp only [FixA, if_pos hm] at hl
          rcases List.mem_append.1 hl with hl | hl
          · simp only [BackR] at hB
            obtain ⟨l0, rfl, hb1, hb2⟩ := hB
            simp [LT.locs] at hl; subst hl
            rcases hFl with ⟨o', t1, _⟩ | ⟨n, t1, _⟩
            · rw [hb1] at t1; simp at t1
            · rw [hb2] at t1; simp at t1
          · exact ih.touch l hl x y hFl
    · rw [if_neg hm] at hA hFin
      simp only [FixA, if_neg hm, List.nil_append]
      exact backs_ok vs ms.tail r d bs fs lfs ws os hA hFin h hF hβ hk hk2
  | .bld s0 :: vs, ms, ts, cs, bs, fs, lfs, ws, os, hA, hFin, h, hF, hβ, hk, hk2 => by
    simp only [ArgsR] at hA
    obtain ⟨t, r, rfl, b, bs', rfl, hB, hkind, hA⟩ := hA
    simp only [FinR] at hFin
    obtain ⟨t', r', c, d, e, rfl, f, fr, lf, lr, rfl, rfl, hT, hL, hFin⟩ := hFin
    injection e with e1 e2; subst e1; subst e2
    obtain ⟨a, p, o, q, rr, h1, h2, rfl, rfl⟩ := backTV_cons (.inl hkind) h
    have hlo : LooseF (f :: fr) (lf :: lr) = lf.loose ++ LooseF fr lr := by
      obtain ⟨i, rfl⟩ := hkind
      cases f <;> simp only [backLeaf] at h1 <;> first | (cases h1; done) | simp only [LooseF]
    obtain ⟨_, _, k⟩ := backLeaf_ok (some b) 0 0 t lf f c a p o h1 hT (fun b' hb' => by injection hb' with hb'; subst hb'; exact hB) (by simp) hL (fun l hl => hF l (by rw [hlo]; exact List.mem_append.2 (.inl hl))) (fun x hx => hβ x (by simp only [tops]; exact List.mem_append.2 (.inl hx))) (fun i off cs hm => hk i off cs (List.mem_append.2 (.inl hm)))
    have ih := backs_ok vs ms.tail r d bs' fr lr q rr hA hFin h2 (fun l hl => hF l (by rw [hlo]; exact List.mem_append.2 (.inr hl))) (fun x hx => hβ x (by simp only [tops]; exact List.mem_append.2 (.inr hx))) (fun i off cs hm => hk i off cs (List.mem_append.2 (.inr hm))) (fun i sz es hm => hk2 i sz es (List.mem_append.2 (.inr hm)))
    simp only [tops, Back.idsL, Back.bldsL, List.flatMap_cons, FixA]
    exact k.append ih
  | .ptr s0 :: vs, ms, ts, cs, bs, fs, lfs, ws, os, hA, hFin, h, hF, hβ, hk, hk2 => by
    simp only [ArgsR] at hA
    obtain ⟨t, r, rfl, b, bs', rfl, hB, hkind, hA⟩ := hA
    simp only [FinR] at hFin
    obtain ⟨t', r', c, d, e, rfl, f, fr, lf, lr, rfl, rfl, hT, hL, hFin⟩ := hFin
    injection e with e1 e2; subst e1; subst e2
    obtain ⟨a, p, o, q, rr, h1, h2, rfl, rfl⟩ := backTV_cons (.inr hkind) h
    have hlo : LooseF (f :: fr) (lf :: lr) = lf.loose ++ LooseF fr lr := by
      obtain ⟨i, off, l, rfl⟩ := hkind
      cases f <;> simp only [backLeaf] at h1 <;> first | (cases h1; done) | simp only [LooseF]
    obtain ⟨_, _, k⟩ := backLeaf_ok (some b) 0 0 t lf f c a p o h1 hT (fun b' hb' => by injection hb' with hb'; subst hb'; exact hB) (by simp) hL (fun l hl => hF l (by rw [hlo]; exact List.mem_append.2 (.inl hl))) (fun x hx => hβ x (by simp only [tops]; exact List.mem_append.2 (.inl hx))) (fun i off cs hm => hk i off cs (List.mem_append.2 (.inl hm)))
    have ih := backs_ok vs ms.tail r d bs' fr lr q rr hA hFin h2 (fun l hl => hF l (by rw [hlo]; exact List.mem_append.2 (.inr hl))) (fun x hx => hβ x (by simp only [tops]; exact List.mem_append.2 (.inr hx))) (fun i off cs hm => hk i off cs (List.mem_append.2 (.inr hm))) (fun i sz es hm => hk2 i sz es (List.mem_append.2 (.inr hm)))
    simp only [tops, Back.idsL, Back.bldsL, List.flatMap_cons, FixA]
    exact k.append ih

/-- What the new places are. -/
structure AsgOut (β : Nat → Loc) (os : List (Nat × Obj)) (ba : List (Nat × Loc)) (blds : List Nat) (ls loose : List Loc) : Prop where
  perm : (ba.map (·.1)).Perm (os.map (·.1) ++ blds)
  pair : Apart ls → ba.Pairwise (fun p q => ∀ b j, p.2.F b j → ¬ q.2.F b j)
  mem : ∀ p ∈ ba, ∃ l ∈ loose, ∀ b j, p.2.F b j ↔ l.F b j
  same : ∀ p ∈ ba, p.1 ∈ os.map (·.1) ∨ (β p.1).same p.2

theorem AsgOut.none {β : Nat → Loc} (ls loose : List Loc) : AsgOut β [] [] [] ls loose := ⟨by simp, fun _ => List.Pairwise.nil, by simp, by simp⟩

theorem Apart.left {ls ls' : List Loc} (h : Apart (ls ++ ls')) : Apart ls := (List.pairwise_append.1 h).1
theorem Apart.right {ls ls' : List Loc} (h : Apart (ls ++ ls')) : Apart ls' := (List.pairwise_append.1 h).2.1

theorem AsgOut.append {β : Nat → Loc} {os os' : List (Nat × Obj)} {ba ba' : List (Nat × Loc)} {blds blds' : List Nat} {ls ls' lo lo' : List Loc} (h : AsgOut β os ba blds ls lo) (k : AsgOut β os' ba' blds' ls' lo') (hl : ∀ l ∈ lo, l ∈ ls) (hl' : ∀ l ∈ lo', l ∈ ls') :
    AsgOut β (os ++ os') (ba ++ ba') (blds ++ blds') (ls ++ ls') (lo ++ lo') where
  perm := by
    rw [List.map_append, List.map_append]
    exact (List.Perm.append h.perm k.perm).trans (perm4 _ _ _ _)
  pair ha := by
    refine List.pairwise_append.2 ⟨h.pair ha.left, k.pair ha.right, fun p hp q hq b j hF hF' => ?_⟩
    obtain ⟨l, l1, l2⟩ := h.mem p hp
    obtain ⟨l', l3, l4⟩ := k.mem q hq
    exact (List.pairwise_append.1 ha).2.2 l (hl l l1) l' (hl' l' l3) b j ((l2 b j).1 hF) ((l4 b j).1 hF')
  mem p hp := by
    rcases List.mem_append.1 hp with hp | hp
    · obtain ⟨l, l1, l2⟩ := h.mem p hp; exact ⟨l, List.mem_append.2 (.inl l1), l2⟩
    · obtain ⟨l, l1, l2⟩ := k.mem p hp; exact ⟨l, List.mem_append.2 (.inr l1), l2⟩
  same p hp := by
    rw [List.map_append]
    rcases List.mem_append.1 hp with hp | hp
    · exact (h.same p hp).imp (fun h => List.mem_append.2 (.inl h)) (fun h => h)
    · exact (k.same p hp).imp (fun h => List.mem_append.2 (.inr h)) (fun h => h)

theorem loose_locs (t : LT) : ∀ l ∈ t.loose, l ∈ t.locs := fun l hl => (LT.mem_locs t l).2 (.inl hl)
theorem looseL_locs (ts : List LT) : ∀ l ∈ LT.looseL ts, l ∈ LT.locsL ts := fun l hl => (LT.mem_locsL ts l).2 (.inl hl)

mutual
theorem basg_out : ∀ (ob : Option Back) (id j : Nat) (t lf : LT) (f : TV) (c : Value) (a : AV) (ps : List Patch) (os : List (Nat × Obj)), backLeaf id j ob f = some (a, ps, os) → TVL w' M' f lf c →
    (∀ b, ob = some b → BackR β b t) → like t lf → AsgOut β os (basg β id j ob lf) (oblds ob) lf.locs lf.loose
  | some (.box i off bs), id, j, t, lf, f, c, a, ps, os, h, hT, hB, hL => by
    cases f <;> simp only [backLeaf] at h <;> try (cases h; done)
    rename_i cells
    split at h
    · rename_i l ps' os' hl
      injection h with h; injection h with h1 h; injection h with h2 h3; subst h1; subst h2; subst h3
      have hb := hB _ rfl
      simp only [BackR] at hb
      obtain ⟨l0, subs, b, o, rfl, hb1, hb2, hb3, hb4, hb5, hb6⟩ := hb
      simp only [like] at hL
      obtain ⟨l1, subs1, rfl, e1, e2, e3, hL⟩ := hL
      simp only [TVL] at hT
      obtain ⟨l2, subs2, b2, o2, e, h21, h22, h23, h24, hT⟩ := hT
      injection e with e4 e5; subst e4; subst e5
      have k := basgs_out bs i off subs subs1 cells b2 o2 l ps' os' hl hT hb6 hL
      simp only [basg, oblds, Back.blds, LT.locs, LT.loose]
      exact { k with pair := fun ha => k.pair (List.pairwise_cons.1 ha).2 }
    · exact absurd h (by simp)
  | some (.own i), id, j, t, lf, f, c, a, ps, os, h, hT, hB, hL => by cases f <;> simp only [backLeaf] at h <;> cases h
  | some .nilSl, id, j, t, lf, f, c, a, ps, os, h, hT, hB, hL => by cases f <;> simp only [backLeaf] at h <;> cases h
  | some (.bld i), id, j, t, lf, f, c, a, ps, os, h, hT, hB, hL => by
    cases f <;> simp only [backLeaf] at h <;> try (cases h; done)
    rename_i bs
    injection h with h; injection h with h1 h; injection h with h2 h3; subst h1; subst h2; subst h3
    have hb := hB _ rfl
    simp only [BackR] at hb
    obtain ⟨rfl, hb2⟩ := hb
    simp only [like] at hL
    obtain ⟨l1, rfl, e1⟩ := hL
    simp only [TVL] at hT
    obtain ⟨l2, b2, o2, e, h21, h22, h23⟩ := hT
    injection e with e4; subst e4
    simp only [basg, oblds, Back.blds, LT.locs, LT.loose]
    refine ⟨by simp, fun _ => List.pairwise_singleton _ _, fun p hp => ?_, fun p hp => .inr ?_⟩
    · simp at hp; subst hp
      exact ⟨l1, by simp, Loc.F_of e1 (by rw [h23.k2]; exact hb2.symm) rfl⟩
    · simp at hp; subst hp; exact ⟨rfl, rfl, rfl, rfl⟩
  | none, id, j, t, lf, f, c, a, ps, os, h, hT, hB, hL => by
    cases f <;> simp only [backLeaf] at h <;> try (cases h; done)
    · injection h with h; injection h with h1 h; injection h with h2 h3; subst h1; subst h2; subst h3
      simp only [TVL] at hT
      obtain ⟨rfl, hT⟩ := hT
      simp only [basg, oblds]; exact AsgOut.none _ _
    · rename_i sz es
      injection h with h; injection h with h1 h; injection h with h2 h3; subst h1; subst h2; subst h3
      simp only [TVL] at hT
      obtain ⟨l, rfl, h1, h2⟩ := hT
      simp only [basg, oblds, LT.locs, LT.loose]
      refine ⟨by simp, fun _ => List.pairwise_singleton _ _, fun p hp => ?_, fun p hp => .inl ?_⟩
      · simp at hp; subst hp; exact ⟨l, by simp, fun _ _ => Iff.rfl⟩
      · simp at hp; subst hp; simp
theorem basgs_out : ∀ (bs : List (Option Back)) (id j : Nat) (ts lfs : List LT) (fs : List TV) (b o : Nat) (l : List AV) (ps : List Patch) (os : List (Nat × Obj)), backLeaves id j bs fs = some (l, ps, os) → TVLs w' M' fs lfs b o →
    BackRs β bs ts → likes ts lfs → AsgOut β os (basgs β id j bs lfs) (Back.bldsO bs) (LT.locsL lfs) (LT.looseL lfs)
  | [], id, j, ts, lfs, fs, b, o, l, ps, os, h, hT, hB, hL => by
    cases fs <;> simp only [backLeaves] at h <;> try (cases h; done)
    injection h with h; injection h with h1 h; injection h with h2 h3; subst h1; subst h2; subst h3
    simp only [basgs, Back.bldsO]; exact AsgOut.none _ _
  | ob :: bs, id, j, ts, lfs, fs, b, o, l, ps, os, h, hT, hB, hL => by
    cases fs <;> simp only [backLeaves] at h <;> try (cases h; done)
    rename_i f fs
    split at h
    · rename_i a p os1 l' ps' os' h1 h2
      injection h with h; injection h with e1 h; injection h with e2 e3; subst e1; subst e2; subst e3
      simp only [TVLs] at hT
      obtain ⟨lf, lr, c, rfl, a1, a2, a3, hT1, hT2⟩ := hT
      have hts : ∃ t r, ts = t :: r ∧ (∀ b, ob = some b → BackR β b t) ∧ BackRs β bs r := by
        cases ob with
        | none =>
          simp only [BackRs] at hB
          obtain ⟨t, r, rfl, _, hB⟩ := hB
          exact ⟨t, r, rfl, by simp, hB⟩
        | some x =>
          simp only [BackRs] at hB
          obtain ⟨t, r, rfl, hB1, hB2, hB3⟩ := hB
          exact ⟨t, r, rfl, fun b hb => by injection hb with hb; subst hb; exact hB1, hB3⟩
      obtain ⟨t, r, rfl, hB1, hB3⟩ := hts
      simp only [likes] at hL
      obtain ⟨t', r', e, hL1, hL2⟩ := hL
      injection e with e1 e2; subst e1; subst e2
      rw [bldsO_cons]
      simp only [basgs, LT.locsL, LT.looseL]
      exact (basg_out ob id j t lf f c a p os1 h1 hT1 hB1 hL1).append (basgs_out bs id (j + 1) r lr fs b (o + 1) l' ps' os' h2 hT2 hB3 hL2) (loose_locs _) (looseL_locs _)
    · exact absurd h (by simp)
end

theorem AsgOut.skip {β : Nat → Loc} {os : List (Nat × Obj)} {ba : List (Nat × Loc)} {blds : List Nat} {ls lo : List Loc} (h : AsgOut β os ba blds ls lo) (t : List Loc) : AsgOut β os ba blds (t ++ ls) lo :=
  { h with pair := fun ha => h.pair ha.right }

theorem looseF_locs : ∀ (fs : List TV) (ts : List LT), ∀ l ∈ LooseF fs ts, l ∈ LT.locsL ts
  | [], ts, l, hl => by simp [LooseF] at hl
  | f :: fs, [], l, hl => by cases f <;> simp [LooseF] at hl
  | f :: fs, t :: ts, l, hl => by
    simp only [LT.locsL, List.mem_append]
    cases f <;> simp only [LooseF, List.mem_append] at hl
    case own => exact .inr (looseF_locs fs ts l hl)
    all_goals exact hl.imp (loose_locs t l) (looseF_locs fs ts l)

theorem tops_out : ∀ (vs : List TV) (ms : List Mode) (ts : List LT) (cs : List Value) (bs : List Back) (fs : List TV) (lfs : List LT) (ws : List Patch) (os : List (Nat × Obj)), ArgsR β ms vs ts bs → FinR w' M' ms vs ts cs fs lfs → backTV bs fs = some (ws, os) →
    AsgOut β os (tops β bs lfs) (Back.bldsL bs) (LT.locsL lfs) (LooseF fs lfs)
  | [], ms, ts, cs, bs, fs, lfs, ws, os, hA, hFin, h => by
    simp only [ArgsR] at hA
    obtain ⟨rfl, rfl⟩ := hA
    simp only [FinR] at hFin
    obtain ⟨rfl, rfl⟩ := hFin
    simp only [backTV] at h
    injection h with h; injection h with h1 h2; subst h1; subst h2
    simp only [tops, Back.bldsL, List.flatMap_nil]
    exact AsgOut.none _ _
  | .pv x :: vs, ms, ts, cs, bs, fs, lfs, ws, os, hA, hFin, h => by
    simp only [ArgsR] at hA
    obtain ⟨t, r, rfl, hA⟩ := hA
    simp only [FinR] at hFin
    obtain ⟨t', r', c, d, e, rfl, hFin⟩ := hFin
    injection e with e1 e2; subst e1; subst e2
    exact tops_out vs ms.tail r d bs fs lfs ws os hA hFin h
  | .own sz0 es0 :: vs, ms, ts, cs, bs, fs, lfs, ws, os, hA, hFin, h => by
    simp only [ArgsR] at hA
    obtain ⟨t, r, rfl, hA⟩ := hA
    simp only [FinR] at hFin
    obtain ⟨t', r', c, d, e, rfl, hFin⟩ := hFin
    injection e with e1 e2; subst e1; subst e2
    by_cases hm : ms.headD .borrow = .mut
    · rw [if_pos hm] at hA hFin
      obtain ⟨b, bs', rfl, hB, hkind, hA⟩ := hA
      obtain ⟨es', fr, lr, rfl, rfl, hT, hFin⟩ := hFin
      rcases hkind with ⟨i, rfl⟩ | rfl
      · simp only [backTV] at h
        split at h
        · rename_i q rr hr
          injection h with h; injection h with h1 h2; subst h1; subst h2
          have ih := tops_out vs ms.tail r d bs' fr lr q rr hA hFin hr
          simp only [tops, basg, List.nil_append, Back.bldsL, List.flatMap_cons, Back.blds, LT.locsL, LooseF]
          exact ih.skip _
        · exact absurd h (by simp)
      · cases es' with
        | cons e es => simp only [backTV] at h; exact absurd h (by simp)
        | nil =>
          simp only [backTV] at h
          have ih := tops_out vs ms.tail r d bs' fr lr ws os hA hFin h
          simp only [tops, basg, List.nil_append, Back.bldsL, List.flatMap_cons, Back.blds, LT.locsL, LooseF]
          exact ih.skip _
    · rw [if_neg hm] at hA hFin
      exact tops_out vs ms.tail r d bs fs lfs ws os hA hFin h
  | .bld s0 :: vs, ms, ts, cs, bs, fs, lfs, ws, os, hA, hFin, h => by
    simp only [ArgsR] at hA
    obtain ⟨t, r, rfl, b, bs', rfl, hB, hkind, hA⟩ := hA
    simp only [FinR] at hFin
    obtain ⟨t', r', c, d, e, rfl, f, fr, lf, lr, rfl, rfl, hT, hL, hFin⟩ := hFin
    injection e with e1 e2; subst e1; subst e2
    obtain ⟨a, p, o, q, rr, h1, h2, rfl, rfl⟩ := backTV_cons (.inl hkind) h
    have hlo : LooseF (f :: fr) (lf :: lr) = lf.loose ++ LooseF fr lr := by
      obtain ⟨i, rfl⟩ := hkind
      cases f <;> simp only [backLeaf] at h1 <;> first | (cases h1; done) | simp only [LooseF]
    rw [hlo]
    simp only [tops, Back.bldsL, List.flatMap_cons, LT.locsL]
    exact (basg_out (some b) 0 0 t lf f c a p o h1 hT (fun b' hb' => by injection hb' with hb'; subst hb'; exact hB) hL).append (tops_out vs ms.tail r d bs' fr lr q rr hA hFin h2) (loose_locs _) (looseF_locs _ _)
  | .ptr s0 :: vs, ms, ts, cs, bs, fs, lfs, ws, os, hA, hFin, h => by
    simp only [ArgsR] at hA
    obtain ⟨t, r, rfl, b, bs', rfl, hB, hkind, hA⟩ := hA
    simp only [FinR] at hFin
    obtain ⟨t', r', c, d, e, rfl, f, fr, lf, lr, rfl, rfl, hT, hL, hFin⟩ := hFin
    injection e with e1 e2; subst e1; subst e2
    obtain ⟨a, p, o, q, rr, h1, h2, rfl, rfl⟩ := backTV_cons (.inr hkind) h
    have hlo : LooseF (f :: fr) (lf :: lr) = lf.loose ++ LooseF fr lr := by
      obtain ⟨i, off, l, rfl⟩ := hkind
      cases f <;> simp only [backLeaf] at h1 <;> first | (cases h1; done) | simp only [LooseF]
    rw [hlo]
    simp only [tops, Back.bldsL, List.flatMap_cons, LT.locsL]
    exact (basg_out (some b) 0 0 t lf f c a p o h1 hT (fun b' hb' => by injection hb' with hb'; subst hb'; exact hB) hL).append (tops_out vs ms.tail r d bs' fr lr q rr hA hFin h2) (loose_locs _) (looseF_locs _ _)

end

end Go.Proofs.YtbnjbianobdleaaGreat.Vm

/-
  A call in the model, where the abstract machine says what it does.
-/
namespace Go.Proofs.YtbnjbianobdleaaGreat.Vm
open Go
set_option linter.unusedVariables false
set_option linter.unusedSimpArgs false

section
variable {w w' : World} {M M' : Cells}

mutual
theorem flatPV_ok : ∀ {x : PV} {c : Value}, flatPV x = true → Rep w M x c → Rep w' M' x c
  | .int _ _, _, _, k => by simpa only [Rep] using k
  | .bool _, _, _, k => by simpa only [Rep] using k
  | .str _, _, _, k => by simpa only [Rep] using k
  | .nilIface, _, _, k => by simpa only [Rep] using k
  | .nilPtr, _, _, k => by simpa only [Rep] using k
  | .nilFn, _, _, k => by simpa only [Rep] using k
  | .nilSlc, _, _, k => by simpa only [Rep] using k
  | .agg fs, c, h, k => by
    simp only [flatPV] at h
    simp only [Rep] at k ⊢
    obtain ⟨cs, h1, h2⟩ := k
    exact ⟨cs, h1, flatPVs_ok h h2⟩
  | .fn f caps, c, h, k => by
    simp only [flatPV] at h
    simp only [Rep] at k ⊢
    obtain ⟨cs, h1, h2⟩ := k
    exact ⟨cs, h1, flatPVs_ok h h2⟩
  | .sl _, c, h, k => by simp [flatPV] at h
  | .iptr _, c, h, k => by simp [flatPV] at h
theorem flatPVs_ok : ∀ {xs : List PV} {vs : List Value}, flatPVs xs = true → RepS w M xs vs → RepS w' M' xs vs
  | [], vs, _, k => by simpa only [RepS] using k
  | x :: xs, vs, h, k => by
    simp only [flatPVs, Bool.and_eq_true] at h
    simp only [RepS] at k ⊢
    obtain ⟨c, r, h1, h2, h3, h4⟩ := k
    exact ⟨c, r, h1, h2, flatPV_ok h.1 h3, flatPVs_ok h.2 h4⟩
end

mutual
theorem flatTV_ok : ∀ {v : TV} {t : LT} {c : Value}, flatTV v = true → TVL w M v t c → TVL w M' v t c
  | .pv x, t, c, h, k => by
    simp only [flatTV] at h
    simp only [TVL] at k ⊢
    exact ⟨k.1, flatPV_ok h k.2⟩
  | .own sz es, t, c, h, k => by
    simp only [flatTV] at h
    simp only [TVL] at k ⊢
    obtain ⟨l, h1, h2, q1, q2, q3, q4, q5, q6, q7, q8, q9⟩ := k
    refine ⟨l, h1, h2, q1, q2, q3, q4, q5, q6, q7, q8, fun b o hb => ?_⟩
    obtain ⟨r1, r2⟩ := q9 b o hb
    refine ⟨r1, fun i e he => ?_⟩
    obtain ⟨vs, s1, s2⟩ := r2 i e he
    exact ⟨vs, flatPVs_ok (List.all_eq_true.1 h e (List.mem_of_getElem? he)) s1, s2⟩
  | .bld bs, t, c, h, k => by simpa only [TVL] using k
  | .ptr cells, t, c, h, k => by
    simp only [flatTV] at h
    simp only [TVL] at k ⊢
    obtain ⟨l, subs, b, o, h1, h2, h3, h4, h5, h6⟩ := k
    exact ⟨l, subs, b, o, h1, h2, h3, h4, h5, flatTVs_ok h h6⟩
theorem flatTVs_ok : ∀ {vs : List TV} {ts : List LT} {b o : Nat}, flatTVs vs = true → TVLs w M vs ts b o → TVLs w M' vs ts b o
  | [], ts, b, o, _, k => by simpa only [TVLs] using k
  | v :: vs, ts, b, o, h, k => by
    simp only [flatTVs, Bool.and_eq_true] at h
    simp only [TVLs] at k ⊢
    obtain ⟨t, r, c, h1, h2, h3, h4, h5, h6⟩ := k
    exact ⟨t, r, c, h1, h2, h3, h4, flatTV_ok h.1 h5, flatTVs_ok h.2 h6⟩
end

/-- What was handed over, under other eyes. -/
theorem TVAll.imp : ∀ {vs : List TV} {ts : List LT} {cs : List Value}, (∀ v ∈ vs, ∀ t c, TVL w M v t c → TVL w M' v t c) → TVAll w M vs ts cs → TVAll w M' vs ts cs
  | [], ts, cs, _, h => h
  | v :: vs, ts, cs, hi, h => by
    simp only [TVAll] at h ⊢
    obtain ⟨t, r, c, d, h1, h2, h3, h4⟩ := h
    exact ⟨t, r, c, d, h1, h2, hi v (by simp) t c h3, TVAll.imp (fun x hx => hi x (by simp [hx])) h4⟩

theorem FinR.imp : ∀ {vs : List TV} {ms : List Mode} {ts : List LT} {cs : List Value} {fs : List TV} {lfs : List LT}, (∀ v ∈ fs, ∀ t c, TVL w M v t c → TVL w M' v t c) → FinR w M ms vs ts cs fs lfs → FinR w M' ms vs ts cs fs lfs
  | [], ms, ts, cs, fs, lfs, _, h => by simpa only [FinR] using h
  | .pv x :: vs, ms, ts, cs, fs, lfs, hi, h => by
    simp only [FinR] at h ⊢
    obtain ⟨t, r, c, d, h1, h2, h3⟩ := h
    exact ⟨t, r, c, d, h1, h2, FinR.imp hi h3⟩
  | .own sz es :: vs, ms, ts, cs, fs, lfs, hi, h => by
    simp only [FinR] at h ⊢
    obtain ⟨t, r, c, d, h1, h2, h3⟩ := h
    refine ⟨t, r, c, d, h1, h2, ?_⟩
    split at h3
    · rename_i hm
      rw [if_pos hm]
      obtain ⟨es', fr, lr, rfl, h5, h6, h7⟩ := h3
      exact ⟨es', fr, lr, rfl, h5, hi _ (by simp) _ _ h6, FinR.imp (fun x hx => hi x (by simp [hx])) h7⟩
    · rename_i hm
      rw [if_neg hm]
      exact FinR.imp hi h3
  | .bld s :: vs, ms, ts, cs, fs, lfs, hi, h => by
    simp only [FinR] at h ⊢
    obtain ⟨t, r, c, d, h1, h2, f, fr, lf, lr, rfl, h4, h5, h6, h7⟩ := h
    exact ⟨t, r, c, d, h1, h2, f, fr, lf, lr, rfl, h4, hi _ (by simp) _ _ h5, h6, FinR.imp (fun x hx => hi x (by simp [hx])) h7⟩
  | .ptr s :: vs, ms, ts, cs, fs, lfs, hi, h => by
    simp only [FinR] at h ⊢
    obtain ⟨t, r, c, d, h1, h2, f, fr, lf, lr, rfl, h4, h5, h6, h7⟩ := h
    exact ⟨t, r, c, d, h1, h2, f, fr, lf, lr, rfl, h4, hi _ (by simp) _ _ h5, h6, FinR.imp (fun x hx => hi x (by simp [hx])) h7⟩

theorem flatTVs_mem : ∀ {vs : List TV}, flatTVs vs = true → ∀ v ∈ vs, flatTV v = true
  | [], _, v, hv => by simp at hv
  | x :: vs, h, v, hv => by
    simp only [flatTVs, Bool.and_eq_true] at h
    rcases List.mem_cons.1 hv with rfl | hv
    · exact h.1
    · exact flatTVs_mem h.2 v hv

theorem TVAll.length : ∀ {vs : List TV} {ts : List LT} {cs : List Value}, TVAll w M vs ts cs → cs.length = vs.length
  | [], ts, cs, h => by simp only [TVAll] at h; simp [h.2]
  | v :: vs, ts, cs, h => by
    simp only [TVAll] at h
    obtain ⟨t, r, c, d, rfl, rfl, _, h4⟩ := h
    simp [TVAll.length h4]

/-- Values that are handed over, under numbers. -/
theorem placeAll_ok {β : Nat → Loc} (g : Nat → Nat → Nat) : ∀ (vs : List TV) (id j : Nat) (ts : List LT) (cs : List Value), TVAll w M vs ts cs → (∀ p ∈ asgs g id j ts, β p.1 = p.2) →
    AVRs β w M (places g id j vs).1 cs ∧ (∀ p ∈ (places g id j vs).2, ObjR β w M (β p.1) p.2) ∧ (places g id j vs).2.map (·.1) = (asgs g id j ts).map (·.1)
  | [], id, j, ts, cs, h, hb => by
    simp only [TVAll] at h
    obtain ⟨rfl, rfl⟩ := h
    simp [places, asgs, AVRs]
  | v :: vs, id, j, ts, cs, h, hb => by
    simp only [TVAll] at h
    obtain ⟨t, r, c, d, rfl, rfl, h1, h2⟩ := h
    obtain ⟨p1, p2⟩ := place_ok g v (g id j) t c h1 (fun p hp => hb p (by simp only [asgs, List.mem_append]; exact .inl hp))
    obtain ⟨q1, q2, q3⟩ := placeAll_ok g vs id (j + 1) r d h2 (fun p hp => hb p (by simp only [asgs, List.mem_append]; exact .inr hp))
    refine ⟨?_, fun p hp => ?_, ?_⟩
    · simp only [places, AVRs]; exact ⟨c, d, rfl, p1, q1⟩
    · simp only [places, List.mem_append] at hp
      exact hp.elim (p2 p) (q2 p)
    · simp only [places, asgs, List.map_append, place_ids g v (g id j) t c h1, q3]

/-- The places of results. -/
def resAsg (d : Nat) : List LT → List (Nat × Loc)
  | [t] => asg cellId (dstId d) t
  | ts => asgs cellId (dstId d) 0 ts

theorem res_ok {β : Nat → Loc} {d : Nat} {rs : List TV} {ts : List LT} {cs : List Value} (h : TVAll w M rs ts cs) (hb : ∀ p ∈ resAsg d ts, β p.1 = p.2) :
    AVR β w M (resTV d rs).1 (wrapV cs) ∧ (∀ p ∈ (resTV d rs).2, ObjR β w M (β p.1) p.2) ∧ (resTV d rs).2.map (·.1) = (resAsg d ts).map (·.1) ∧ (resAsg d ts).map (·.2) = LT.locsL ts ∧
    (∀ i ∈ (resTV d rs).1.refs, i ∈ (resTV d rs).2.map (·.1)) ∧ ∀ p ∈ (resTV d rs).2, ∀ i ∈ p.2.refs, i ∈ (resTV d rs).2.map (·.1) := by
  have many : ∀ rs ts cs, TVAll w M rs ts cs → (∀ p ∈ asgs cellId (dstId d) 0 ts, β p.1 = p.2) → AVR β w M (.tup (places cellId (dstId d) 0 rs).1) (.tuple cs.toArray) ∧ (∀ p ∈ (places cellId (dstId d) 0 rs).2, ObjR β w M (β p.1) p.2) ∧
      (places cellId (dstId d) 0 rs).2.map (·.1) = (asgs cellId (dstId d) 0 ts).map (·.1) ∧ (asgs cellId (dstId d) 0 ts).map (·.2) = LT.locsL ts ∧
      (∀ i ∈ (AV.tup (places cellId (dstId d) 0 rs).1).refs, i ∈ (places cellId (dstId d) 0 rs).2.map (·.1)) ∧ ∀ p ∈ (places cellId (dstId d) 0 rs).2, ∀ i ∈ p.2.refs, i ∈ (places cellId (dstId d) 0 rs).2.map (·.1) := by
    intro rs ts cs h hb
    obtain ⟨q1, q2, q3⟩ := placeAll_ok cellId rs (dstId d) 0 ts cs h hb
    obtain ⟨r1, r2⟩ := places_refs cellId rs (dstId d) 0
    exact ⟨by simp only [AVR]; exact ⟨_, rfl, by simpa using q1⟩, q2, q3, asgs_locs _ _ _ _, by simpa only [AV.refs] using r1, r2⟩
  cases rs with
  | nil =>
    have h' := h
    simp only [TVAll] at h
    obtain ⟨rfl, rfl⟩ := h
    exact many [] [] [] h' hb
  | cons v rs =>
    cases rs with
    | nil =>
      simp only [TVAll] at h
      obtain ⟨t, r, c, d', rfl, rfl, h1, rfl, rfl⟩ := h
      obtain ⟨p1, p2⟩ := place_ok cellId v (dstId d) t c h1 hb
      obtain ⟨r1, r2⟩ := place_refs cellId v (dstId d)
      exact ⟨p1, p2, place_ids cellId v (dstId d) t c h1, by simp only [resAsg, LT.locsL, asg_locs, List.append_nil], r1, r2⟩
    | cons v' rs =>
      have h' := h
      simp only [TVAll] at h
      obtain ⟨t, r, c, d', rfl, rfl, h1, t', r', c', d'', rfl, rfl, h2, h3⟩ := h
      exact many _ _ _ h' hb

theorem placeAll_ids (g : Nat → Nat → Nat) : ∀ (vs : List TV) (id j : Nat) (ts : List LT) (cs : List Value), TVAll w M vs ts cs → (places g id j vs).2.map (·.1) = (asgs g id j ts).map (·.1)
  | [], id, j, ts, cs, h => by
    simp only [TVAll] at h
    obtain ⟨rfl, rfl⟩ := h
    simp [places, asgs]
  | v :: vs, id, j, ts, cs, h => by
    simp only [TVAll] at h
    obtain ⟨t, r, c, d, rfl, rfl, h1, h2⟩ := h
    simp only [places, asgs, List.map_append, place_ids g v (g id j) t c h1, placeAll_ids g vs id (j + 1) r d h2]
theorem res_ids {d : Nat} {rs : List TV} {ts : List LT} {cs : List Value} (h : TVAll w M rs ts cs) : (resTV d rs).2.map (·.1) = (resAsg d ts).map (·.1) := by
  cases rs with
  | nil =>
    have h' := h
    simp only [TVAll] at h
    obtain ⟨rfl, rfl⟩ := h
    exact placeAll_ids cellId [] (dstId d) 0 [] [] h'
  | cons v rs =>
    cases rs with
    | nil =>
      simp only [TVAll] at h
      obtain ⟨t, r, c, d', rfl, rfl, h1, rfl, rfl⟩ := h
      exact place_ids cellId v (dstId d) t c h1
    | cons v' rs =>
      have h' := h
      simp only [TVAll] at h
      obtain ⟨t, r, c, d', rfl, rfl, h1, t', r', c', d'', rfl, rfl, h2, h3⟩ := h
      exact placeAll_ids cellId _ (dstId d) 0 _ _ h'
theorem resAsg_locs (d : Nat) (ts : List LT) : (resAsg d ts).map (·.2) = LT.locsL ts := by
  cases ts with
  | nil => rfl
  | cons t r =>
    cases r with
    | nil => simp only [resAsg, LT.locsL, asg_locs, List.append_nil]
    | cons t' r => simp only [resAsg, asgs_locs]
theorem locsL_append : ∀ (a b : List LT), LT.locsL (a ++ b) = LT.locsL a ++ LT.locsL b
  | [], b => rfl
  | t :: r, b => by simp only [List.cons_append, LT.locsL, locsL_append r b, List.append_assoc]

/-- Every place of an argument is loose, or still there. -/
theorem fin_cover {w0 : World} {M0 : Cells} : ∀ {vs : List TV} {ms : List Mode} {ts : List LT} {cs cs' : List Value} {fs : List TV} {lfs : List LT}, TVAll w0 M0 vs ts cs' → FinR w M ms vs ts cs fs lfs →
    ∀ l ∈ LT.locsL ts, l ∈ LooseA ms vs ts ∨ (l ∈ FixA ms vs ts ∧ ∃ l' ∈ LT.locsL lfs, ∀ b j, l.F b j ↔ l'.F b j)
  | [], ms, ts, cs, cs', fs, lfs, hT, h, l, hl => by
    simp only [TVAll] at hT
    obtain ⟨rfl, _⟩ := hT
    simp [LT.locsL] at hl
  | .pv x :: vs, ms, ts, cs, cs', fs, lfs, hT, h, l, hl => by
    simp only [FinR] at h
    obtain ⟨t, r, c, d, rfl, rfl, h⟩ := h
    simp only [TVAll, TVL] at hT
    obtain ⟨t', r', c', d', e, rfl, ⟨ht, _⟩, hT⟩ := hT
    injection e with e1 e2; subst e1; subst e2; subst ht
    simp only [LT.locsL, LT.locs, List.nil_append] at hl
    simp only [LooseA, LT.loose, FixA, List.nil_append]
    exact fin_cover hT h l hl
  | .own sz es :: vs, ms, ts, cs, cs', fs, lfs, hT, h, l, hl => by
    simp only [FinR] at h
    obtain ⟨t, r, c, d, rfl, rfl, h⟩ := h
    simp only [TVAll] at hT
    obtain ⟨t', r', c', d', e, rfl, _, hT⟩ := hT
    injection e with e1 e2; subst e1; subst e2
    simp only [LT.locsL, List.mem_append] at hl
    by_cases hm : ms.headD .borrow = .mut
    · rw [if_pos hm] at h
      obtain ⟨es', fr, lr, rfl, rfl, _, h⟩ := h
      simp only [LooseA, FixA, if_pos hm, List.nil_append, List.mem_append, LT.locsL]
      rcases hl with hl | hl
      · exact .inr ⟨.inl hl, l, .inl hl, fun _ _ => Iff.rfl⟩
      · rcases fin_cover hT h l hl with k | ⟨k1, l', k2, k3⟩
        · exact .inl k
        · exact .inr ⟨.inr k1, l', .inr k2, k3⟩
    · rw [if_neg hm] at h
      simp only [LooseA, FixA, if_neg hm, List.nil_append, List.mem_append]
      rcases hl with hl | hl
      · exact .inl (.inl hl)
      · exact (fin_cover hT h l hl).imp .inr (fun h => h)
  | .bld s :: vs, ms, ts, cs, cs', fs, lfs, hT, h, l, hl => by
    simp only [FinR] at h
    obtain ⟨t, r, c, d, rfl, rfl, f, fr, lf, lr, rfl, rfl, _, hL, h⟩ := h
    simp only [TVAll] at hT
    obtain ⟨t', r', c', d', e, rfl, _, hT⟩ := hT
    injection e with e1 e2; subst e1; subst e2
    simp only [LT.locsL, List.mem_append] at hl ⊢
    simp only [LooseA, FixA, List.mem_append]
    rcases hl with hl | hl
    · rcases (LT.mem_locs t l).1 hl with hl | hl
      · exact .inl (.inl hl)
      · obtain ⟨l', k1, k2⟩ := like_fixed hL l hl
        exact .inr ⟨.inl hl, l', .inl ((LT.mem_locs lf l').2 (.inr k1)), k2⟩
    · rcases fin_cover hT h l hl with k | ⟨k1, l', k2, k3⟩
      · exact .inl (.inr k)
      · exact .inr ⟨.inr k1, l', .inr k2, k3⟩
  | .ptr s :: vs, ms, ts, cs, cs', fs, lfs, hT, h, l, hl => by
    simp only [FinR] at h
    obtain ⟨t, r, c, d, rfl, rfl, f, fr, lf, lr, rfl, rfl, _, hL, h⟩ := h
    simp only [TVAll] at hT
    obtain ⟨t', r', c', d', e, rfl, _, hT⟩ := hT
    injection e with e1 e2; subst e1; subst e2
    simp only [LT.locsL, List.mem_append] at hl ⊢
    simp only [LooseA, FixA, List.mem_append]
    rcases hl with hl | hl
    · rcases (LT.mem_locs t l).1 hl with hl | hl
      · exact .inl (.inl hl)
      · obtain ⟨l', k1, k2⟩ := like_fixed hL l hl
        exact .inr ⟨.inl hl, l', .inl ((LT.mem_locs lf l').2 (.inr k1)), k2⟩
    · rcases fin_cover hT h l hl with k | ⟨k1, l', k2, k3⟩
      · exact .inl (.inr k)
      · exact .inr ⟨.inr k1, l', .inr k2, k3⟩

mutual
theorem backLeaf_ids : ∀ (ob : Option Back) (id j : Nat) (f : TV) (a : AV) (ps : List Patch) (os : List (Nat × Obj)), backLeaf id j ob f = some (a, ps, os) → (ps.map Patch.id).Perm (oids ob) ∧ (∀ i ∈ oblds ob, ∃ s, Patch.bld i s ∈ ps) ∧ ∀ i s, Patch.bld i s ∈ ps → i ∈ oblds ob
  | some (.box i off bs), id, j, f, a, ps, os, h => by
    cases f <;> simp only [backLeaf] at h <;> try (cases h; done)
    rename_i cells
    split at h
    · rename_i l ps' os' hl
      injection h with h; injection h with h1 h; injection h with h2 h3; subst h1; subst h2; subst h3
      obtain ⟨k1, k2, k5⟩ := backLeaves_ids bs i off cells l ps' os' hl
      refine ⟨?_, fun i' hi' => (k2 i' (by simpa only [oblds, Back.blds] using hi')).imp fun _ h => List.mem_append.2 (.inl h), fun i' s hs => ?_⟩
      rotate_left
      · simp only [oblds, Back.blds]
        rcases List.mem_append.1 hs with hs | hs
        · exact k5 i' s hs
        · simp at hs
      simp only [List.map_append, List.map_cons, List.map_nil, Patch.id, oids, Back.ids]
      exact (List.perm_append_comm.trans (List.Perm.cons i k1))
    · exact absurd h (by simp)
  | some (.own i), id, j, f, a, ps, os, h => by cases f <;> simp only [backLeaf] at h <;> cases h
  | some .nilSl, id, j, f, a, ps, os, h => by cases f <;> simp only [backLeaf] at h <;> cases h
  | some (.bld i), id, j, f, a, ps, os, h => by
    cases f <;> simp only [backLeaf] at h <;> try (cases h; done)
    rename_i bs
    injection h with h; injection h with h1 h; injection h with h2 h3; subst h1; subst h2; subst h3
    refine ⟨by simp [oids, Back.ids, Patch.id], fun i' hi' => ?_, fun i' s hs => by simp at hs; simp [oblds, Back.blds, hs.1]⟩
    simp [oblds, Back.blds] at hi'; subst hi'; exact ⟨bs, by simp⟩
  | none, id, j, f, a, ps, os, h => by
    cases f <;> simp only [backLeaf] at h <;> try (cases h; done)
    · injection h with h; injection h with h1 h; injection h with h2 h3; subst h1; subst h2; subst h3
      simp [oids, oblds]
    · injection h with h; injection h with h1 h; injection h with h2 h3; subst h1; subst h2; subst h3
      simp [oids, oblds]
theorem backLeaves_ids : ∀ (bs : List (Option Back)) (id j : Nat) (fs : List TV) (l : List AV) (ps : List Patch) (os : List (Nat × Obj)), backLeaves id j bs fs = some (l, ps, os) → (ps.map Patch.id).Perm (Back.idsO bs) ∧ (∀ i ∈ Back.bldsO bs, ∃ s, Patch.bld i s ∈ ps) ∧ ∀ i s, Patch.bld i s ∈ ps → i ∈ Back.bldsO bs
  | [], id, j, fs, l, ps, os, h => by
    cases fs <;> simp only [backLeaves] at h <;> try (cases h; done)
    injection h with h; injection h with h1 h; injection h with h2 h3; subst h1; subst h2; subst h3
    simp [Back.idsO, Back.bldsO]
  | ob :: bs, id, j, fs, l, ps, os, h => by
    cases fs <;> simp only [backLeaves] at h <;> try (cases h; done)
    rename_i f fs
    split at h
    · rename_i a p os1 l' ps' os' h1 h2
      injection h with h; injection h with e1 h; injection h with e2 e3; subst e1; subst e2; subst e3
      obtain ⟨k1, k2, k5⟩ := backLeaf_ids ob id j f a p os1 h1
      obtain ⟨k3, k4, k6⟩ := backLeaves_ids bs id (j + 1) fs l' ps' os' h2
      rw [idsO_cons, bldsO_cons, List.map_append]
      refine ⟨List.Perm.append k1 k3, fun i hi => ?_, fun i s hs => (List.mem_append.1 hs).elim (fun hs => List.mem_append.2 (.inl (k5 i s hs))) (fun hs => List.mem_append.2 (.inr (k6 i s hs)))⟩
      rcases List.mem_append.1 hi with hi | hi
      · exact (k2 i hi).imp fun _ h => List.mem_append.2 (.inl h)
      · exact (k4 i hi).imp fun _ h => List.mem_append.2 (.inr h)
    · exact absurd h (by simp)
end
theorem backTV_ids : ∀ (bs : List Back) (fs : List TV) (ws : List Patch) (os : List (Nat × Obj)), backTV bs fs = some (ws, os) → (ws.map Patch.id).Perm (Back.idsL bs) ∧ (∀ i ∈ Back.bldsL bs, ∃ s, Patch.bld i s ∈ ws) ∧ ∀ i s, Patch.bld i s ∈ ws → i ∈ Back.bldsL bs
  | [], fs, ws, os, h => by
    cases fs <;> simp only [backTV] at h <;> try (cases h; done)
    injection h with h; injection h with h1 h2; subst h1; subst h2
    simp [Back.idsL, Back.bldsL]
  | b :: bs, [], ws, os, h => by cases b <;> simp only [backTV] at h <;> cases h
  | b :: bs, f :: fs, ws, os, h => by
    have two : ((∃ i, b = .bld i) ∨ ∃ i off l, b = .box i off l) → (ws.map Patch.id).Perm (Back.idsL (b :: bs)) ∧ (∀ i ∈ Back.bldsL (b :: bs), ∃ s, Patch.bld i s ∈ ws) ∧ ∀ i s, Patch.bld i s ∈ ws → i ∈ Back.bldsL (b :: bs) := by
      intro hb
      obtain ⟨a, p, o, q, r, h1, h2, rfl, rfl⟩ := backTV_cons hb h
      obtain ⟨k1, k2, k5⟩ := backLeaf_ids _ _ _ _ _ _ _ h1
      obtain ⟨k3, k4, k6⟩ := backTV_ids bs fs q r h2
      simp only [Back.idsL, Back.bldsL, List.flatMap_cons, List.map_append]
      refine ⟨List.Perm.append k1 k3, fun i hi => ?_, fun i s hs => (List.mem_append.1 hs).elim (fun hs => List.mem_append.2 (.inl (k5 i s hs))) (fun hs => List.mem_append.2 (.inr (k6 i s hs)))⟩
      rcases List.mem_append.1 hi with hi | hi
      · exact (k2 i hi).imp fun _ h => List.mem_append.2 (.inl h)
      · exact (k4 i hi).imp fun _ h => List.mem_append.2 (.inr h)
    cases b with
    | box i off l => exact two (.inr ⟨i, off, l, rfl⟩)
    | bld i => exact two (.inl ⟨i, rfl⟩)
    | nilSl =>
      cases f <;> (try simp only [backTV] at h) <;> try (cases h; done)
      rename_i sz es
      cases es with
      | cons e es => (try simp only [backTV] at h); cases h
      | nil =>
        (try simp only [backTV] at h)
        have := backTV_ids bs fs ws os h
        simpa [Back.idsL, Back.bldsL, Back.ids, Back.blds] using this
    | own i =>
      cases f <;> simp only [backTV] at h <;> try (cases h; done)
      split at h
      · rename_i q r hr
        injection h with h; injection h with h1 h2; subst h1; subst h2
        obtain ⟨k3, k4, k6⟩ := backTV_ids bs fs q r hr
        simp only [Back.idsL, Back.bldsL, List.flatMap_cons, Back.ids, Back.blds, List.map_cons, Patch.id, List.singleton_append, List.nil_append]
        exact ⟨List.Perm.cons i k3, fun i' hi' => (k4 i' hi').imp fun _ h => List.mem_cons_of_mem _ h, fun i' s hs => k6 i' s (by simpa using hs)⟩
      · exact absurd h (by simp)

theorem nodup_ok : ∀ {l : List Nat}, nodup l = true → l.Nodup
  | [], _ => List.nodup_nil
  | a :: r, h => by
    simp only [nodup, Bool.and_eq_true, Bool.not_eq_true', List.contains_eq_mem, decide_eq_false_iff_not] at h
    exact List.nodup_cons.2 ⟨h.1, nodup_ok h.2⟩
theorem freeOf_ok : ∀ {l r : List Nat}, freeOf l r = true → ∀ i ∈ l, i ∉ r
  | [], _, _, i, hi => by simp at hi
  | a :: l, r, h, i, hi => by
    simp only [freeOf, Bool.and_eq_true, Bool.not_eq_true', List.contains_eq_mem, decide_eq_false_iff_not] at h
    rcases List.mem_cons.1 hi with rfl | hi
    · exact h.1
    · exact freeOf_ok h.2 i hi

mutual
theorem blds_sub : ∀ (b : Back), b.blds.Sublist b.ids
  | .box id _ leaf => by simp only [Back.blds, Back.ids]; exact (bldsO_sub leaf).cons id
  | .own _ => by simp [Back.blds, Back.ids]
  | .nilSl => by simp [Back.blds, Back.ids]
  | .bld _ => by simp [Back.blds, Back.ids]
theorem bldsO_sub : ∀ (bs : List (Option Back)), (Back.bldsO bs).Sublist (Back.idsO bs)
  | [] => by simp [Back.bldsO, Back.idsO]
  | none :: r => by simp only [Back.bldsO, Back.idsO]; exact bldsO_sub r
  | some b :: r => by simp only [Back.bldsO, Back.idsO]; exact (blds_sub b).append (bldsO_sub r)
end
theorem bldsL_sub : ∀ (bs : List Back), (Back.bldsL bs).Sublist (Back.idsL bs)
  | [] => by simp [Back.bldsL, Back.idsL]
  | b :: r => by simp only [Back.bldsL, Back.idsL, List.flatMap_cons]; exact (blds_sub b).append (bldsL_sub r)

end

theorem Invokes.mono {P : Program} {f : FuncId} {args : Array Value} {w : World} {R R' : Value → World → Prop} (h : Invokes P f args w R) (hr : ∀ v w', R v w' → R' v w') : Invokes P f args w R' := by
  unfold Invokes at h ⊢
  split at h
  · exact hr _ _ h
  · exact h.mono fun e w'' ⟨v, h1, h2⟩ => ⟨v, h1, hr _ _ h2⟩
  · exact h.elim

theorem AVRs.append {β : Nat → Loc} {w : World} {M : Cells} : ∀ {xs ys : List AV} {vs us : List Value}, AVRs β w M xs vs → AVRs β w M ys us → AVRs β w M (xs ++ ys) (vs ++ us)
  | [], _, _, _, h, k => by simp only [AVRs] at h; subst h; exact k
  | x :: xs, ys, _, us, h, k => by
    simp only [AVRs] at h
    obtain ⟨c, r, rfl, h1, h2⟩ := h
    simp only [List.cons_append, AVRs]
    exact ⟨c, r ++ us, rfl, h1, AVRs.append h2 k⟩
theorem RepS.avrs {β : Nat → Loc} {w : World} {M : Cells} : ∀ {xs : List PV} {vs : List Value}, RepS w M xs vs → AVRs β w M (xs.map .pv) vs
  | [], _, h => by simp only [RepS] at h; subst h; simp [AVRs]
  | x :: xs, _, h => by
    simp only [RepS] at h
    obtain ⟨c, r, rfl, _, h1, h2⟩ := h
    simp only [List.map_cons, AVRs]
    exact ⟨c, r, rfl, by simp only [AVR]; exact h1, RepS.avrs h2⟩

section
variable {C : Cx} {call : FuncId → List TV → Option (List TV × List TV)} {M0 M : Cells} {β : Nat → Loc} {V : View} {a : Act} {w : World} {R : Nat → Prop}

/-- Whom a call calls, and with what. -/
theorem callee_ok (hV : VR M0 M β V a.tmps w) {callee : Callee} {args : Array Operand} {ts : Array TypeId} {f : FuncId} {first caps as : List AV} (h : calleeOf V callee = some (f, first, caps)) (ha : evalAll V args.toList = some as) :
    ∃ cs : List Value, AVRs β w M (first ++ as ++ caps) cs ∧ ∀ oo : Oper, oo.op = .call { callee := callee, args := args, argTypes := ts } → execOp a.eval oo = callFunc f cs.toArray := by
  have has := evalAll_ok hV ha
  unfold calleeOf at h
  split at h
  · injection h with h; injection h with h1 h; injection h with h2 h3; subst h1; subst h2; subst h3
    refine ⟨args.toList.map a.eval, by simpa using has, fun oo ho => ?_⟩
    simp [execOp, ho, resolve, Deferred.ofValue, invoke, Act.eval]
    congr 1
    apply Array.ext'; simp
  · rename_i x
    split at h
    · rename_i f' caps' hx
      injection h with h; injection h with h1 h; injection h with h2 h3; subst h1; subst h2; subst h3
      have ex := eval_ok hV hx
      simp only [AVR, Rep] at ex
      obtain ⟨cs, hc, hr⟩ := ex
      refine ⟨args.toList.map a.eval ++ cs.toList, by simpa using AVRs.append has hr.avrs, fun oo ho => ?_⟩
      simp [execOp, ho, resolve, Deferred.ofValue, invoke, hc]
      congr 1
      apply Array.ext'; simp
    · rename_i f' first' caps' hx
      injection h with h; injection h with h1 h; injection h with h2 h3; subst h1; subst h2; subst h3
      have ex := eval_ok hV hx
      simp only [AVR] at ex
      obtain ⟨p, q, hc, hp, hq⟩ := ex
      refine ⟨p.toList ++ args.toList.map a.eval ++ q.toList, AVRs.append (AVRs.append hp has) hq, fun oo ho => ?_⟩
      simp [execOp, ho, resolve, Deferred.ofValue, invoke, hc]
      congr 1
      apply Array.ext'; simp
    · exact absurd h (by simp)
  · exact absurd h (by simp)

/-- What a call leaves behind. -/
theorem took_post (hV : VR M0 M β V a.tmps w) {ms : List Mode} {g : Given} {lts : List LT} {js : List Nat} {cs : List Value} {rs fs : List TV} {d : Nat} {ws : List Patch} {os : List (Nat × Obj)} {frz : List Nat} {v : Value} {w' : World}
    (hjs : js.Perm (g.dels ++ Back.idsL g.bs)) (hOwn : OwnL V β (LT.locsL lts) js) (hA : ArgsR β ms g.vs lts g.bs) (hLo : LooseR V β (LooseA ms g.vs lts) g.dels (Back.bldsL g.bs))
    (hnd : (g.dels ++ Back.idsL g.bs).Nodup) (hlent : ∀ i ∈ g.lent, i ∉ g.dels ++ Back.idsL g.bs)
    {Ml : Cells} (hMl : ∀ b j, Ml b j ↔ M b j ∧ ¬ ∃ i ∈ g.lent, (∃ o, V.obj i = some o) ∧ (β i).F b j) (hT : TVAll w Ml g.vs lts cs)
    (hfrz : frz = g.lent ∨ (frz = [] ∧ (flatTVs rs = true ∧ flatTVs fs = true)))
    (hback : backTV g.bs fs = some (ws, os))
    (hos : (((resTV d rs).2 ++ os).map (·.1)).Nodup) (hfresh : ∀ id ∈ ((resTV d rs).2 ++ os).map (·.1), ∀ o, V.obj id = some o → id ∈ g.dels ∨ id ∈ frz)
    (htook : Took ms (fun b j => Ml b j ∧ ¬ ∃ l ∈ LT.locsL lts, l.F b j) w g.vs lts cs rs fs v w') :
    ∃ M' β', Post (fun b j => M b j ∧ ¬ ∃ i ∈ frz, (∃ o, V.obj i = some o) ∧ (β i).F b j) β w (fun id => ∃ o, V.obj id = some o) ⟨(resTV d rs).1, (resTV d rs).2 ++ os, ws, [], g.dels, frz⟩ M' β' w' v ∧
      ∀ R : Nat → Prop, (∀ id o, V.obj id = some o → id ∉ g.dels → id ∉ frz → R id) → MRefs R ⟨(resTV d rs).1, (resTV d rs).2 ++ os, ws, [], g.dels, frz⟩ := by
  obtain ⟨vs, lrs, lfs, hv, hTr, hFin, hap, hout, hloose, hfr⟩ := htook
  generalize hm : (⟨(resTV d rs).1, (resTV d rs).2 ++ os, ws, [], g.dels, frz⟩ : Made) = m
  generalize hM1 : (fun b j => M b j ∧ ¬ ∃ i ∈ frz, (∃ o, V.obj i = some o) ∧ (β i).F b j) = M1
  have m1 : ∀ b j, M1 b j ↔ M b j ∧ ¬ ∃ i ∈ frz, (∃ o, V.obj i = some o) ∧ (β i).F b j := fun b j => by rw [← hM1]
  let D0 : Cells := fun b j => ∃ l ∈ LT.locsL lts, l.F b j
  let NL : Cells := fun b j => ∃ l ∈ LT.locsL (lrs ++ lfs), l.F b j
  let M' : Cells := fun b j => (M1 b j ∧ ¬ D0 b j) ∨ NL b j
  let dom : Nat → Prop := fun id => ∃ o, V.obj id = some o
  let G := Gone β dom m
  have locs_app := locsL_append lrs lfs
  -- the places that were handed over
  have hjn : js.Nodup := hjs.symm.nodup hnd
  have hD : ∀ b j, D0 b j → ∃ i ∈ js, (∃ o, V.obj i = some o) ∧ (β i).F b j := by
    rintro b j ⟨l, hl, hF⟩
    exact hOwn.mem l hl b j hF
  have hDM : ∀ b j, D0 b j → Ml b j := by
    intro b j h
    obtain ⟨i, hi, ⟨o, ho⟩, hF⟩ := hD b j h
    refine (hMl b j).2 ⟨(hV.own i o ho b j hF).1, ?_⟩
    rintro ⟨k, hk, ⟨o', ho'⟩, hF'⟩
    have hne : i ≠ k := fun e => hlent k hk (e ▸ hjs.subset hi)
    exact hV.disj i k o o' ho ho' hne b j hF hF'
  have hMl1 : ∀ b j, Ml b j → M1 b j := by
    intro b j h
    obtain ⟨h1, h2⟩ := (hMl b j).1 h
    refine (m1 b j).2 ⟨h1, ?_⟩
    rintro ⟨k, hk, hk2⟩
    rcases hfrz with e | ⟨e, _⟩
    · exact h2 ⟨k, e ▸ hk, hk2⟩
    · rw [e] at hk; simp at hk
  have hM1M : ∀ b j, M1 b j → M b j := fun b j h => ((m1 b j).1 h).1
  have hNL : ∀ b j, NL b j → M1 b j ∨ w.heap.size ≤ b := by
    rintro b j ⟨l, hl, hF⟩
    rcases (hout l hl b j hF).2.2 with h | h
    · exact .inr h
    · exact .inl (hMl1 b j (hDM b j h))
  -- how the callee's eyes and the caller's agree
  have hsub : frz = g.lent → ∀ b j, M' b j → cellsOf (fun b j => Ml b j ∧ ¬ ∃ l ∈ LT.locsL lts, l.F b j) (LT.locsL (lrs ++ lfs)) b j := by
    rintro e b j (⟨h1, h2⟩ | h)
    · refine .inl ⟨(hMl b j).2 ?_, h2⟩
      have := (m1 b j).1 h1
      rw [e] at this; exact this
    · exact .inr h
  have hTr' : TVAll w' M' rs lrs vs := by
    rcases hfrz with e | ⟨_, hf, _⟩
    · exact TVAll.imp (fun x hx t c h => TVL.sub (hsub e) h) hTr
    · exact TVAll.imp (fun x hx t c h => flatTV_ok (flatTVs_mem hf x hx) h) hTr
  have hFin' : FinR w' M' ms g.vs lts cs fs lfs := by
    rcases hfrz with e | ⟨_, _, hf⟩
    · exact FinR.imp (fun x hx t c h => TVL.sub (hsub e) h) hFin
    · exact FinR.imp (fun x hx t c h => flatTV_ok (flatTVs_mem hf x hx) h) hFin
  -- the new numbers
  have hTO := tops_out (β := β) g.vs ms lts cs g.bs fs lfs ws os hA hFin' hback
  have hresIds := res_ids (d := d) hTr'
  have hno : ∀ i, i ∈ ((resTV d rs).2 ++ os).map (·.1) → ∀ o, V.obj i = some o → i ∈ Back.idsL g.bs → False := by
    intro i hi o ho hb
    rcases hfresh i hi o ho with h | h
    · exact (List.nodup_append.1 hnd).2.2 i h i hb rfl
    · rcases hfrz with e | ⟨e, _⟩
      · exact hlent i (e ▸ h) (List.mem_append.2 (.inr hb))
      · rw [e] at h; simp at h
  generalize hba : resAsg d lrs ++ tops β g.bs lfs = ba
  have hbaN : (ba.map (·.1)).Nodup := by
    have hp : (ba.map (·.1)).Perm (((resTV d rs).2 ++ os).map (·.1) ++ Back.bldsL g.bs) := by
      rw [← hba, List.map_append, List.map_append, ← hresIds, List.append_assoc]
      exact List.Perm.append_left _ hTO.perm
    refine hp.symm.nodup (List.nodup_append.2 ⟨hos, (bldsL_sub g.bs).nodup (List.nodup_append.1 hnd).2.1, fun x hx y hy e => ?_⟩)
    subst e
    have hxi := (bldsL_sub g.bs).subset hy
    obtain ⟨o, ho⟩ := hOwn.ids x (hjs.symm.subset (List.mem_append.2 (.inr hxi)))
    exact hno x hx o ho hxi
  generalize hβ' : (fun i => match lkp i ba with | some l => l | none => β i) = β'
  have b1 : ∀ p ∈ ba, β' p.1 = p.2 := fun p hp => by
    rw [← hβ']
    have := lkp_of_mem (n := p.1) (a := p.2) hbaN hp
    simp only [this]
  have b2 : ∀ i, i ∉ ba.map (·.1) → β' i = β i := fun i hi => by
    rw [← hβ']
    cases hl : lkp i ba with
    | none => simp only [hl]
    | some l => exact absurd (List.mem_map_of_mem (f := (·.1)) (lkp_mem hl)) hi
  have hresB : ∀ p ∈ resAsg d lrs, β' p.1 = p.2 := fun p hp => b1 p (by rw [← hba]; exact List.mem_append.2 (.inl hp))
  have htopB : ∀ p ∈ tops β g.bs lfs, β' p.1 = p.2 := fun p hp => b1 p (by rw [← hba]; exact List.mem_append.2 (.inr hp))
  -- what numbers are in the list
  have hbaM : ∀ i, i ∈ ba.map (·.1) ↔ i ∈ ((resTV d rs).2 ++ os).map (·.1) ∨ i ∈ Back.bldsL g.bs := by
    intro i
    rw [← hba, List.map_append, List.map_append, ← hresIds, List.mem_append, List.mem_append, or_assoc]
    have := hTO.perm.mem_iff (a := i)
    rw [this, List.mem_append]
  have hidx : ∀ i ∈ Back.idsL g.bs, (∃ o, V.obj i = some o) ∧ i ∉ ((resTV d rs).2 ++ os).map (·.1) := by
    intro i hi
    obtain ⟨o, ho⟩ := hOwn.ids i (hjs.symm.subset (List.mem_append.2 (.inr hi)))
    exact ⟨⟨o, ho⟩, fun hx => hno i hx o ho hi⟩
  obtain ⟨hwsP, hwsB, hwsC⟩ := backTV_ids g.bs fs ws os hback
  have hwsN : (ws.map Patch.id).Nodup := hwsP.symm.nodup (List.nodup_append.1 hnd).2.1
  have hone : ∀ p ∈ ws, ∀ q ∈ ws, p.id = q.id → p = q := by
    intro p hp q hq he
    obtain ⟨k, hk⟩ := List.mem_iff_getElem?.1 hp
    obtain ⟨k', hk'⟩ := List.mem_iff_getElem?.1 hq
    have n1 : (ws.map Patch.id)[k]? = some p.id := by rw [List.getElem?_map, hk]; rfl
    have n2 : (ws.map Patch.id)[k']? = some p.id := by rw [List.getElem?_map, hk', he]; rfl
    have hkk := (List.getElem?_inj (List.getElem?_eq_some_iff.1 n1).1 hwsN).1 (n1.trans n2.symm)
    subst hkk
    rw [hk] at hk'; injection hk'
  have hwsid : ∀ p ∈ ws, p.id ∈ Back.idsL g.bs := fun p hp => hwsP.subset (List.mem_map_of_mem (f := Patch.id) hp)
  have hkeep : ∀ p ∈ ws, (∀ bs, p ≠ .bld p.id bs) → β' p.id = β p.id := by
    intro p hp hnb
    refine b2 _ (fun hx => ?_)
    rcases (hbaM _).1 hx with hx | hx
    · exact (hidx _ (hwsid p hp)).2 hx
    · obtain ⟨s, hs⟩ := hwsB _ hx
      exact hnb s (hone p hp _ hs rfl)
  have hmw : m.ws = ws := by rw [← hm]
  have hmd : m.dels = g.dels := by rw [← hm]
  have hmo : m.os = (resTV d rs).2 ++ os := by rw [← hm]
  have hmu : m.use = [] := by rw [← hm]
  have hG : ∀ l ∈ LooseA ms g.vs lts, ∀ b j, l.F b j → G b j := by
    intro l hl b j hF
    rcases hLo l hl b j hF with ⟨i, hi, ho, hF'⟩ | ⟨i, hi, hF'⟩
    · exact .inl ⟨i, by rw [hmd, hmu]; simpa using hi, ho, hF'⟩
    · obtain ⟨s, hs⟩ := hwsB i hi
      exact .inr ⟨i, s, by rw [hmw]; exact hs, hF'⟩
  have hFl : ∀ l ∈ LT.locsL lrs ++ LooseF fs lfs, ∀ b j, l.F b j → M' b j ∧ (w.heap.size ≤ b ∨ G b j) := by
    intro l hl b j hF
    refine ⟨.inr ⟨l, ?_, hF⟩, ?_⟩
    · rw [locs_app]
      exact (List.mem_append.1 hl).elim (fun h => List.mem_append.2 (.inl h)) (fun h => List.mem_append.2 (.inr (looseF_locs _ _ l h)))
    · rcases hloose l hl b j hF with h | ⟨l0, h1, h2⟩
      · exact .inl h
      · exact .inr (hG l0 h1 b j h2)
  have hBO := backs_ok (β := β) (β' := β') (G := G) (w := w) (w' := w') (M' := M') g.vs ms lts cs g.bs fs lfs ws os hA hFin' hback (fun l hl => hFl l (List.mem_append.2 (.inr hl))) htopB
    (fun i off cells hm' => hkeep _ hm' (fun bs e => by cases e)) (fun i sz es hm' => hkeep _ hm' (fun bs e => by cases e))
  obtain ⟨r1, r2, r3, r4, r5, r6⟩ := res_ok (β := β') (d := d) hTr' hresB
  -- places of numbers
  have hbaF : ∀ p ∈ ba, ∃ l ∈ LT.locsL lrs ++ LooseF fs lfs, ∀ b j, p.2.F b j ↔ l.F b j := by
    intro p hp
    rw [← hba] at hp
    rcases List.mem_append.1 hp with hp | hp
    · exact ⟨p.2, List.mem_append.2 (.inl (by rw [← r4]; exact List.mem_map_of_mem (f := (·.2)) hp)), fun _ _ => Iff.rfl⟩
    · obtain ⟨l, l1, l2⟩ := hTO.mem p hp
      exact ⟨l, List.mem_append.2 (.inr l1), l2⟩
  have hap' : Apart (LT.locsL lrs ++ LT.locsL lfs) := by rw [← locs_app]; exact hap
  have hbaD : ba.Pairwise (fun p q => ∀ b j, p.2.F b j → ¬ q.2.F b j) := by
    rw [← hba]
    refine List.pairwise_append.2 ⟨?_, hTO.pair hap'.right, fun p hp q hq b j hF hF' => ?_⟩
    · have := hap'.left
      rw [Apart, ← r4, List.pairwise_map] at this
      exact this
    · obtain ⟨l, l1, l2⟩ := hTO.mem q hq
      refine (List.pairwise_append.1 hap').2.2 p.2 (by rw [← r4]; exact List.mem_map_of_mem (f := (·.2)) hp) l (looseF_locs _ _ l l1) b j hF ((l2 b j).1 hF')
  have hpair : ∀ p ∈ ba, ∀ q ∈ ba, p.1 ≠ q.1 → ∀ b j, p.2.F b j → ¬ q.2.F b j := by
    intro p hp q hq hne b j hF hF'
    obtain ⟨x, hx⟩ := List.mem_iff_getElem?.1 hp
    obtain ⟨y, hy⟩ := List.mem_iff_getElem?.1 hq
    obtain ⟨hx1, hx2⟩ := List.getElem?_eq_some_iff.1 hx
    obtain ⟨hy1, hy2⟩ := List.getElem?_eq_some_iff.1 hy
    have hxy : x ≠ y := fun e => by subst e; rw [hx] at hy; injection hy with hy; exact hne (by rw [hy])
    rw [List.pairwise_iff_getElem] at hbaD
    rcases Nat.lt_or_gt_of_ne hxy with hlt | hgt
    · have := hbaD x y hx1 hy1 hlt b j
      rw [hx2, hy2] at this; exact this hF hF'
    · have := hbaD y x hy1 hx1 hgt b j
      rw [hx2, hy2] at this; exact this hF' hF
  have entry : ∀ i, i ∈ ba.map (·.1) → ∃ p ∈ ba, p.1 = i ∧ β' i = p.2 := by
    intro i hi
    obtain ⟨p, hp, rfl⟩ := List.mem_map.1 hi
    exact ⟨p, hp, rfl, b1 p hp⟩
  have newB : ∀ i, i ∈ m.os.map (·.1) → i ∈ ba.map (·.1) := fun i hi => (hbaM i).2 (.inl (by rw [← hmo]; exact hi))
  have newF : ∀ i, i ∈ m.os.map (·.1) → ∀ b j, (β' i).F b j → M' b j ∧ (w.heap.size ≤ b ∨ G b j) := by
    intro i hi b j hF
    obtain ⟨p, hp, rfl, e⟩ := entry i (newB i hi)
    rw [e] at hF
    obtain ⟨l, l1, l2⟩ := hbaF p hp
    exact hFl l l1 b j ((l2 b j).1 hF)
  refine ⟨M', β', ⟨fun id hid => ?_, fun id hid hid' => ?_, fun b j h => ?_, fun b j h => ?_, fun b j h => ?_, fun p hp => ⟨?_, ?_⟩, fun p hp => ?_, by rw [hmw]; exact hwsN, fun id id' h h' hne => ?_, ?_, ?_⟩, fun R hR => ?_⟩
  · by_cases hb : id ∈ ba.map (·.1)
    · obtain ⟨p, hp, rfl, e⟩ := entry id hb
      rw [e]
      rw [← hba] at hp
      rcases List.mem_append.1 hp with hp | hp
      · exact absurd (by rw [hmo, List.map_append, hresIds]; exact List.mem_append.2 (.inl (List.mem_map_of_mem (f := (·.1)) hp))) hid
      · rcases hTO.same p hp with h | h
        · exact absurd (by rw [hmo, List.map_append]; exact List.mem_append.2 (.inr h)) hid
        · exact h
    · exact Loc.same_of (b2 id hb)
  · refine b2 id (fun hx => ?_)
    rcases (hbaM id).1 hx with hx | hx
    · exact hid (by rw [hmo]; exact hx)
    · obtain ⟨s, hs⟩ := hwsB id hx
      exact hid' (by rw [hmw]; exact List.mem_map_of_mem (f := Patch.id) hs)
  · by_cases hd : D0 b j
    · obtain ⟨l, hl, hF⟩ := hd
      rcases fin_cover hT hFin' l hl with h1 | ⟨h1, l', h2, h3⟩
      · exact .inr (hG l h1 b j hF)
      · exact .inl (.inr ⟨l', by rw [locs_app]; exact List.mem_append.2 (.inr h2), (h3 b j).1 hF⟩)
    · exact .inl (.inl ⟨h, hd⟩)
  · rcases h with h | h
    · exact .inl h.1
    · exact hNL b j h
  · rcases h with h | ⟨l, hl, hF⟩
    · have := hV.old b j (hM1M b j h.1)
      have := hfr.size
      omega
    · exact (hout l hl b j hF).2.1
  · rw [hmo] at hp
    rcases List.mem_append.1 hp with hp | hp
    · exact r2 p hp
    · exact hBO.objs p hp
  · exact newF p.1 (List.mem_map_of_mem (f := (·.1)) hp)
  · rw [hmw] at hp; exact hBO.patch p hp
  · have inB : ∀ x, (x ∈ m.os.map (·.1) ∨ ∃ bs, Patch.bld x bs ∈ m.ws) → x ∈ ba.map (·.1) := by
      rintro x (h | ⟨bs, h⟩)
      · exact newB x h
      · refine (hbaM x).2 (.inr ?_)
        rw [hmw] at h
        exact hwsC x bs h
    intro b j hF hF'
    obtain ⟨p, hp, rfl, e⟩ := entry id (inB id h)
    obtain ⟨q, hq, rfl, e'⟩ := entry id' (inB id' h')
    rw [e] at hF; rw [e'] at hF'
    exact hpair p hp q hq hne b j hF hF'
  · refine hfr.mono (fun b j h => ?_)
    obtain ⟨l, hl, hF⟩ := h
    rcases fin_cover hT hFin' l hl with h1 | ⟨h1, _⟩
    · rcases hLo l h1 b j hF with ⟨i, hi, ho, hF'⟩ | ⟨i, hi, hF'⟩
      · exact .inl ⟨i, by rw [hmd, hmu]; simpa using hi, ho, hF'⟩
      · obtain ⟨s, hs⟩ := hwsB i hi
        exact .inr ⟨.bld i s, by rw [hmw]; exact hs, (hidx i ((bldsL_sub g.bs).subset hi)).1, hF'⟩
    · obtain ⟨p, hp, ht⟩ := hBO.touch l h1 b j hF
      exact .inr ⟨p, by rw [hmw]; exact hp, (hidx _ (hwsid p hp)).1, ht⟩
  · have : m.v = (resTV d rs).1 := by rw [← hm]
    rw [this, hv]; exact r1
  · have hmv : m.v = (resTV d rs).1 := by rw [← hm]
    refine ⟨fun i hi => .inr ?_, fun p hp i hi => .inr ?_, fun id off cells hc i hi => ?_⟩
    · rw [hmv] at hi; rw [hmo, List.map_append]; exact List.mem_append.2 (.inl (r5 i hi))
    · rw [hmo] at hp
      rw [hmo, List.map_append]
      rcases List.mem_append.1 hp with hp | hp
      · exact List.mem_append.2 (.inl (r6 p hp i hi))
      · rw [hBO.refs p hp] at hi; simp at hi
    · rw [hmw] at hc
      rw [hmo, List.map_append]
      rcases hBO.prefs id off cells hc i hi with h | h
      · obtain ⟨o, ho⟩ := (hidx i h).1
        refine .inl (hR i o ho (fun hd => (List.nodup_append.1 hnd).2.2 i hd i h rfl) (fun hz => ?_))
        rcases hfrz with e | ⟨e, _⟩
        · exact hlent i (e ▸ hz) (List.mem_append.2 (.inr h))
        · rw [e] at hz; simp at hz
      · exact .inr (List.mem_append.2 (.inr h))

/-- A CALL. -/
theorem callM_ok (hcall : ∀ f as rs fs, call f as = some (rs, fs) → Contract C.P (C.modes f) f as rs fs) (hV : VR M0 M β V a.tmps w) {d : Nat} {c : Call} {m : Made} (h : callM C call d c V = some m)
    (hos : (m.os.map (·.1)).Nodup) (hfresh : ∀ id ∈ m.os.map (·.1), ∀ o, V.obj id = some o → id ∈ m.dels ∨ id ∈ m.frz) :
    ∃ (f : FuncId) (cs : List Value), (∀ oo : Oper, oo.op = .call c → execOp a.eval oo = callFunc f cs.toArray) ∧ Invokes C.P f cs.toArray w fun v w' =>
      ∃ M' β', Post (fun b j => M b j ∧ ¬ ∃ i ∈ m.frz, (∃ o, V.obj i = some o) ∧ (β i).F b j) β w (fun id => ∃ o, V.obj id = some o) m M' β' w' v ∧ ∀ R : Nat → Prop, (∀ id o, V.obj id = some o → id ∉ m.dels → id ∉ m.frz → R id) → MRefs R m := by
  obtain ⟨callee, args, ats⟩ := c
  unfold callM at h
  split at h
  · rename_i f first caps as hcal has
    split at h
    · rename_i fn hfn
      split at h
      · rename_i g hg
        split at h
        · rename_i hchk
          simp only [Bool.and_eq_true] at hchk
          split at h
          · rename_i rs fs hc
            split at h
            · rename_i ws os hback
              injection h with h; subst h
              obtain ⟨cs, hcs, hex⟩ := callee_ok (ts := ats) hV hcal has
              let Ml : Cells := fun b j => M b j ∧ ¬ ∃ i ∈ g.lent, (∃ o, V.obj i = some o) ∧ (β i).F b j
              obtain ⟨lts, js, hT, hjs, hOwn, hA, hLo⟩ := args_ok (Ml := Ml) hV (fun b j h => h.1) _ cs (C.modes f) _ g hcs hg (fun i hi ho b j hF hM => hM.2 ⟨i, hi, ho, hF⟩)
              have hnd := nodup_ok hchk.1
              have hlent := freeOf_ok hchk.2
              have hjn : js.Nodup := hjs.symm.nodup hnd
              have hD : ∀ l ∈ LT.locsL lts, ∀ b j, l.F b j → Ml b j := by
                intro l hl b j hF
                obtain ⟨i, hi, ⟨o, ho⟩, hF'⟩ := hOwn.mem l hl b j hF
                refine ⟨(hV.own i o ho b j hF').1, ?_⟩
                rintro ⟨k, hk, ⟨o', ho'⟩, hF''⟩
                exact hV.disj i k o o' ho ho' (fun e => hlent k hk (e ▸ hjs.subset hi)) b j hF' hF''
              have hHanded : Handed (fun b j => Ml b j ∧ ¬ ∃ l ∈ LT.locsL lts, l.F b j) w g.vs lts cs := by
                refine ⟨TVAll.imp (fun v _ t c h => TVL.sub (fun b j hx => ?_) h) hT, OwnL.pairwise hV hOwn hjn, fun l hl b j hF => ⟨fun hx => hx.2 ⟨l, hl, hF⟩, hV.old b j (hD l hl b j hF).1⟩, fun b j hx => hV.old b j hx.1.1⟩
                rcases hx with hx | ⟨l, hl, hF⟩
                · exact hx.1
                · exact hD l hl b j hF
              refine ⟨f, cs, hex, (hcall f g.vs rs fs hc _ w lts cs hHanded).mono fun v w' htook => ?_⟩
              refine took_post hV hjs hOwn hA hLo hnd hlent (fun b j => Iff.rfl) hT ?_ hback hos hfresh htook
              split
              · rename_i hl; exact .inl hl.symm
              · rename_i l hl
                split
                · rename_i hf
                  simp only [Bool.and_eq_true] at hf
                  exact .inr ⟨rfl, hf⟩
                · exact .inl rfl
            · exact absurd h (by simp)
          · exact absurd h (by simp)
        · exact absurd h (by simp)
      · exact absurd h (by simp)
    · exact absurd h (by simp)
  · exact absurd h (by simp)

end
end Go.Proofs.YtbnjbianobdleaaGreat.Vm

/-
  What is done to a state alone: an object is forgotten, frozen, given another number.
-/
namespace Go.Proofs.YtbnjbianobdleaaGreat.Vm
open Go
set_option linter.unusedVariables false
set_option linter.unusedSimpArgs false

theorem lkp_map {α γ : Type} (f : α → γ) (n : Nat) : ∀ (l : List (Nat × α)), lkp n (l.map fun p => (p.1, f p.2)) = (lkp n l).map f
  | [] => rfl
  | (m, a) :: r => by
    simp only [List.map_cons, lkp]
    split
    · rfl
    · exact lkp_map f n r
theorem lkp_del {α : Type} (n k : Nat) : ∀ (l : List (Nat × α)), lkp n (del k l) = if n = k then none else lkp n l
  | [] => by simp [del, lkp]
  | (m, a) :: r => by
    simp only [del]
    split
    · rename_i h
      subst h
      rw [lkp_del]
      split
      · rfl
      · rename_i h; simp only [lkp]; rw [if_neg h]
    · rename_i h
      simp only [lkp]
      split
      · rename_i h'; subst h'
        rw [if_neg (fun e => h e.symm)]
      · rw [lkp_del]

/-- A state stands to the world. -/
def SR (M0 M : Cells) (β : Nat → Loc) (st : St) (tm : Array Value) (w : World) : Prop :=
  VR M0 M β st.view tm w ∧ ClosedIn (fun id => ∃ o, st.obj id = some o) st.view

theorem map_get {f : AV → AV} (h : f .undef = .undef) (st : St) (t : Nat) (os : List (Nat × Obj)) : (St.mk (st.map f).tmps os).get t = f (st.get t) := by
  simp only [St.get, St.map, lkp_map]
  cases lkp t st.tmps <;> simp [h]
theorem map_obj (f : AV → AV) (st : St) (id k : Nat) (tms : List (Nat × AV)) : (St.mk tms (del k (st.map f).objs)).obj id = if id = k then none else (st.obj id).map (Obj.map f) := by
  simp only [St.obj, St.map, lkp_del, lkp_map]

section
variable {M0 M Ml : Cells} {β : Nat → Loc} {st : St} {tm : Array Value} {w : World}

/-- All values are turned to others that say less, and an object is forgotten. -/
theorem map_ok {f : AV → AV} {id : Nat} (hf0 : f .undef = .undef) (hf : ∀ v c, AVR β w M v c → AVR β w Ml (f v) c) (hr : ∀ v, ∀ i ∈ (f v).refs, i ∈ v.refs ∧ i ≠ id) (hMl : ∀ b j, Ml b j → M b j)
    (hMk : ∀ b j, M b j → Ml b j ∨ ∃ o, st.obj id = some o ∧ (β id).F b j) (h : SR M0 M β st tm w) : SR M0 Ml β ⟨(st.map f).tmps, del id (st.map f).objs⟩ tm w := by
  obtain ⟨hV, hC⟩ := h
  have hk : ∀ b o v, at_ w b o = some v → ¬ M b o → at_ w b o = some v ∧ ¬ Ml b o := fun b o v h1 h2 => ⟨h1, fun h => h2 (hMl _ _ h)⟩
  have hobj : ∀ i o, (St.mk (st.map f).tmps (del id (st.map f).objs)).obj i = some o → i ≠ id ∧ ∃ o0, st.obj i = some o0 ∧ o = o0.map f := by
    intro i o ho
    rw [map_obj] at ho
    split at ho
    · exact absurd ho (by simp)
    · rename_i hne
      simp only [Option.map_eq_some_iff] at ho
      obtain ⟨o0, h1, rfl⟩ := ho
      exact ⟨hne, o0, h1, rfl⟩
  have hsub : ∀ {o0 : Obj}, ∀ i ∈ (o0.map f).refs, i ∈ o0.refs ∧ i ≠ id := by
    intro o0 i hi
    cases o0 with
    | box cs =>
      simp only [Obj.map, Obj.refs] at hi ⊢
      obtain ⟨v, hv, hi⟩ := refsL_mem.1 hi
      obtain ⟨u, hu, rfl⟩ := List.mem_map.1 hv
      exact ⟨refsL_mem.2 ⟨u, hu, (hr u i hi).1⟩, (hr u i hi).2⟩
    | buf s es => simp [Obj.map, Obj.refs] at hi
    | bld bs => simp [Obj.map, Obj.refs] at hi
  refine ⟨⟨fun b j h0 => ?_, fun b j h => hV.old b j (hMl b j h), fun t => ?_, fun i o ho => ?_, fun i o ho b j hF => ?_, fun i i' o o' ho ho' hne => ?_⟩, ⟨fun t i hi => ?_, fun i o ho => ⟨⟨o, ho⟩, fun i' hi' => ?_⟩⟩⟩
  · rcases hMk b j (hV.sup b j h0) with h | ⟨o, ho, hF⟩
    · exact h
    · exact absurd h0 (hV.own id o ho b j hF).2
  · show AVR β w Ml ((St.mk (st.map f).tmps (del id (st.map f).objs)).get t) _
    rw [map_get hf0]
    exact hf _ _ (hV.slots t)
  · obtain ⟨hne, o0, h1, rfl⟩ := hobj i o ho
    have hO := hV.objs i o0 h1
    cases o0 with
    | box cs =>
      obtain ⟨b, o, q1, q2, q3, q4⟩ := hO
      refine ⟨b, o, q1, by simpa using q2, q3, fun j v hj => ?_⟩
      rw [List.getElem?_map] at hj
      simp only [Option.map_eq_some_iff] at hj
      obtain ⟨u, hu, rfl⟩ := hj
      obtain ⟨c, k1, k2, k3, k4⟩ := q4 j u hu
      exact ⟨c, k1, k2, k3, hf _ _ k4⟩
    | buf s es => exact ObjR.mono (o := .buf s es) hk (fun _ _ _ _ h => ⟨h, rfl⟩) (fun _ _ h => h) (fun _ _ _ => rfl) (fun _ h => h) (fun _ _ => Loc.same_of rfl) hO
    | bld bs => exact ObjR.mono (o := .bld bs) hk (fun _ _ _ _ h => ⟨h, rfl⟩) (fun _ _ h => h) (fun _ _ _ => rfl) (fun _ h => h) (fun _ _ => Loc.same_of rfl) hO
  · obtain ⟨hne, o0, h1, rfl⟩ := hobj i o ho
    have k := hV.own i o0 h1 b j hF
    refine ⟨?_, k.2⟩
    rcases hMk b j k.1 with h | ⟨o', ho', hF'⟩
    · exact h
    · exact absurd hF' (hV.disj i id o0 o' h1 ho' hne b j hF)
  · obtain ⟨_, o0, h1, rfl⟩ := hobj i o ho
    obtain ⟨_, o1, h2, rfl⟩ := hobj i' o' ho'
    exact hV.disj i i' o0 o1 h1 h2 hne
  · have hi' : i ∈ (f (st.get t)).refs := by
      have := map_get hf0 st t (del id (st.map f).objs)
      show i ∈ (f (st.get t)).refs
      rw [← this]; exact hi
    obtain ⟨k1, k2⟩ := hr _ i hi'
    obtain ⟨o, ho⟩ := hC.1 t i k1
    exact ⟨o.map f, by rw [map_obj, if_neg k2, ho]; rfl⟩
  · obtain ⟨hne, o0, h1, rfl⟩ := hobj i o ho
    obtain ⟨k1, k2⟩ := hsub i' hi'
    obtain ⟨o, ho⟩ := (hC.2 i o0 h1).2 i' k1
    exact ⟨o.map f, by rw [map_obj, if_neg k2, ho]; rfl⟩

/-! Forgetting. -/
def forget (id : Nat) : Nat → Option Nat := fun i => if i = id then none else some i
mutual
theorem sub_ok (id : Nat) : ∀ (v : AV) (c : Value), AVR β w M v c → AVR β w M (AV.sub (forget id) v) c
  | .undef, c, h => by simp only [AV.sub, AVR]
  | .pv x, c, h => by simpa only [AV.sub] using h
  | .nilSl, c, h => by simpa only [AV.sub] using h
  | .own i, c, h => by
    simp only [AV.sub, forget]
    by_cases e : i = id
    · simp [e, AVR]
    · simp only [e, if_false]; exact h
  | .part i lo n, c, h => by
    simp only [AV.sub, forget]
    by_cases e : i = id
    · simp [e, AVR]
    · simp only [e, if_false]; exact h
  | .addr i k o, c, h => by
    simp only [AV.sub, forget]
    by_cases e : i = id
    · simp [e, AVR]
    · simp only [e, if_false]; exact h
  | .tup vs, c, h => by
    simp only [AVR] at h
    obtain ⟨cs, h1, h2⟩ := h
    simp only [AV.sub, AVR]; exact ⟨cs, h1, subL_ok id vs _ h2⟩
  | .agg vs, c, h => by
    simp only [AVR] at h
    obtain ⟨cs, h1, h2, h3⟩ := h
    simp only [AV.sub, AVR]; exact ⟨cs, h1, subL_ok id vs _ h2, h3⟩
  | .clo f a b, c, h => by
    simp only [AVR] at h
    obtain ⟨x, y, h1, h2, h3⟩ := h
    simp only [AV.sub, AVR]; exact ⟨x, y, h1, subL_ok id a _ h2, subL_ok id b _ h3⟩
theorem subL_ok (id : Nat) : ∀ (vs : List AV) (cs : List Value), AVRs β w M vs cs → AVRs β w M (AV.subL (forget id) vs) cs
  | [], cs, h => by simpa only [AV.subL] using h
  | v :: vs, cs, h => by
    simp only [AVRs] at h
    obtain ⟨c, r, h1, h2, h3⟩ := h
    simp only [AV.subL, AVRs]; exact ⟨c, r, h1, sub_ok id v c h2, subL_ok id vs r h3⟩
end
mutual
theorem sub_refs (id : Nat) : ∀ (v : AV), ∀ i ∈ (AV.sub (forget id) v).refs, i ∈ v.refs ∧ i ≠ id
  | .undef, i, h => by simp [AV.sub, AV.refs] at h
  | .pv x, i, h => by simp [AV.sub, AV.refs] at h
  | .nilSl, i, h => by simp [AV.sub, AV.refs] at h
  | .own k, i, h => by
    simp only [AV.sub, forget] at h
    by_cases e : k = id
    · simp [e, AV.refs] at h
    · simp only [e, if_false, AV.refs, List.mem_singleton] at h; subst h; exact ⟨by simp [AV.refs], e⟩
  | .part k lo n, i, h => by
    simp only [AV.sub, forget] at h
    by_cases e : k = id
    · simp [e, AV.refs] at h
    · simp only [e, if_false, AV.refs, List.mem_singleton] at h; subst h; exact ⟨by simp [AV.refs], e⟩
  | .addr k x y, i, h => by
    simp only [AV.sub, forget] at h
    by_cases e : k = id
    · simp [e, AV.refs] at h
    · simp only [e, if_false, AV.refs, List.mem_singleton] at h; subst h; exact ⟨by simp [AV.refs], e⟩
  | .tup vs, i, h => by
    simp only [AV.sub, AV.refs] at h ⊢; exact subL_refs id vs i h
  | .agg vs, i, h => by
    simp only [AV.sub, AV.refs] at h ⊢; exact subL_refs id vs i h
  | .clo f a b, i, h => by
    simp only [AV.sub, AV.refs, List.mem_append] at h ⊢
    rcases h with h | h
    · exact ⟨.inl (subL_refs id a i h).1, (subL_refs id a i h).2⟩
    · exact ⟨.inr (subL_refs id b i h).1, (subL_refs id b i h).2⟩
theorem subL_refs (id : Nat) : ∀ (vs : List AV), ∀ i ∈ AV.refsL (AV.subL (forget id) vs), i ∈ AV.refsL vs ∧ i ≠ id
  | [], i, h => by simp [AV.subL, AV.refsL] at h
  | v :: vs, i, h => by
    simp only [AV.subL, AV.refsL, List.mem_append] at h ⊢
    rcases h with h | h
    · exact ⟨.inl (sub_refs id v i h).1, (sub_refs id v i h).2⟩
    · exact ⟨.inr (subL_refs id vs i h).1, (subL_refs id vs i h).2⟩
end

theorem kill_ok (id : Nat) (h : SR M0 M β st tm w) : SR M0 M β (st.kill id) tm w :=
  map_ok (f := AV.sub (forget id)) rfl (sub_ok id) (sub_refs id) (fun _ _ h => h) (fun _ _ h => .inl h) h
theorem kill_obj (id i : Nat) (st : St) : (st.kill id).obj i = if i = id then none else (st.obj i).map (Obj.map (AV.sub (forget id))) := map_obj _ _ _ _ _

/-! Freezing. -/
/-- What may be written still, when an object is frozen. -/
def lessF (M : Cells) (l : Loc) : Cells := fun b j => M b j ∧ ¬ l.F b j

theorem mono_less {l : Loc} : ∀ b o v, at_ w b o = some v → ¬ M b o → at_ w b o = some v ∧ ¬ lessF M l b o := fun b o v h1 h2 => ⟨h1, fun h => h2 h.1⟩

section frz
variable {id sz : Nat} {es : List (List PV)}
mutual
theorem frz_ok (hV : VR M0 M β st.view tm w) (ho : st.obj id = some (.buf sz es)) : ∀ (v : AV) (c : Value), AVR β w M v c → AVR β w (lessF M (β id)) (AV.frz id es v) c
  | .undef, c, h => by simp only [AV.frz, AVR]
  | .pv x, c, h => by simp only [AVR] at h; simp only [AV.frz, AVR]; exact Rep.mono mono_less x c h
  | .nilSl, c, h => by simpa only [AV.frz, AVR] using h
  | .own i, c, h => by
    simp only [AV.frz]
    by_cases e : i = id
    · subst e
      simp only [if_true, AVR] at h ⊢
      exact (own_rep hV (fun b j h => h.1) (V := st.view) ho (fun b j hF hM => hM.2 hF)).1 c h
    · simp only [e, if_false, AVR] at h ⊢; exact h
  | .part i lo n, c, h => by
    simp only [AV.frz]
    by_cases e : i = id
    · subst e
      simp only [if_true]
      have := (own_rep hV (fun b j h => h.1) (V := st.view) ho (fun b j hF hM => hM.2 hF) (Ml := lessF M (β i))).2 lo n c h
      simpa only [AVR] using this
    · simp only [e, if_false, AVR] at h ⊢; exact h
  | .addr i k o, c, h => by
    simp only [AV.frz]
    by_cases e : i = id
    · simp [e, AVR]
    · simp only [e, if_false, AVR] at h ⊢; exact h
  | .tup vs, c, h => by
    simp only [AVR] at h
    obtain ⟨cs, h1, h2⟩ := h
    simp only [AV.frz, AVR]; exact ⟨cs, h1, frzL_ok hV ho vs _ h2⟩
  | .agg vs, c, h => by
    simp only [AVR] at h
    obtain ⟨cs, h1, h2, h3⟩ := h
    simp only [AV.frz, AVR]; exact ⟨cs, h1, frzL_ok hV ho vs _ h2, h3⟩
  | .clo f a b, c, h => by
    simp only [AVR] at h
    obtain ⟨x, y, h1, h2, h3⟩ := h
    simp only [AV.frz, AVR]; exact ⟨x, y, h1, frzL_ok hV ho a _ h2, frzL_ok hV ho b _ h3⟩
theorem frzL_ok (hV : VR M0 M β st.view tm w) (ho : st.obj id = some (.buf sz es)) : ∀ (vs : List AV) (cs : List Value), AVRs β w M vs cs → AVRs β w (lessF M (β id)) (AV.frzL id es vs) cs
  | [], cs, h => by simpa only [AV.frzL, AVRs] using h
  | v :: vs, cs, h => by
    simp only [AVRs] at h
    obtain ⟨c, r, h1, h2, h3⟩ := h
    simp only [AV.frzL, AVRs]; exact ⟨c, r, h1, frz_ok hV ho v c h2, frzL_ok hV ho vs r h3⟩
end
mutual
theorem frz_refs : ∀ (v : AV), ∀ i ∈ (AV.frz id es v).refs, i ∈ v.refs ∧ i ≠ id
  | .undef, i, h => by simp [AV.frz, AV.refs] at h
  | .pv x, i, h => by simp [AV.frz, AV.refs] at h
  | .nilSl, i, h => by simp [AV.frz, AV.refs] at h
  | .own k, i, h => by
    simp only [AV.frz] at h
    by_cases e : k = id
    · simp [e, AV.refs] at h
    · simp only [e, if_false, AV.refs, List.mem_singleton] at h; subst h; exact ⟨by simp [AV.refs], e⟩
  | .part k lo n, i, h => by
    simp only [AV.frz] at h
    by_cases e : k = id
    · simp [e, AV.refs] at h
    · simp only [e, if_false, AV.refs, List.mem_singleton] at h; subst h; exact ⟨by simp [AV.refs], e⟩
  | .addr k x y, i, h => by
    simp only [AV.frz] at h
    by_cases e : k = id
    · simp [e, AV.refs] at h
    · simp only [e, if_false, AV.refs, List.mem_singleton] at h; subst h; exact ⟨by simp [AV.refs], e⟩
  | .tup vs, i, h => by
    simp only [AV.frz, AV.refs] at h ⊢; exact frzL_refs vs i h
  | .agg vs, i, h => by
    simp only [AV.frz, AV.refs] at h ⊢; exact frzL_refs vs i h
  | .clo f a b, i, h => by
    simp only [AV.frz, AV.refs, List.mem_append] at h ⊢
    rcases h with h | h
    · exact ⟨.inl (frzL_refs a i h).1, (frzL_refs a i h).2⟩
    · exact ⟨.inr (frzL_refs b i h).1, (frzL_refs b i h).2⟩
theorem frzL_refs : ∀ (vs : List AV), ∀ i ∈ AV.refsL (AV.frzL id es vs), i ∈ AV.refsL vs ∧ i ≠ id
  | [], i, h => by simp [AV.frzL, AV.refsL] at h
  | v :: vs, i, h => by
    simp only [AV.frzL, AV.refsL, List.mem_append] at h ⊢
    rcases h with h | h
    · exact ⟨.inl (frz_refs v i h).1, (frz_refs v i h).2⟩
    · exact ⟨.inr (frzL_refs vs i h).1, (frzL_refs vs i h).2⟩
end
end frz

theorem freeze_ok {id : Nat} {st' : St} (h : SR M0 M β st tm w) (hf : st.freeze id = some st') : SR M0 (lessF M (β id)) β st' tm w := by
  unfold St.freeze at hf
  split at hf
  · rename_i sz es ho
    injection hf with hf; subst hf
    refine map_ok (f := AV.frz id es) rfl (frz_ok h.1 ho) frz_refs (fun b j h => h.1) (fun b j hM => ?_) h
    by_cases hF : (β id).F b j
    · exact .inr ⟨_, ho, hF⟩
    · exact .inl ⟨hM, hF⟩
  · exact absurd hf (by simp)
theorem freeze_dom {id : Nat} {st' : St} (hf : st.freeze id = some st') (i : Nat) : (∃ o, st'.obj i = some o) ↔ i ≠ id ∧ ∃ o, st.obj i = some o := by
  unfold St.freeze at hf
  split at hf
  · injection hf with hf; subst hf
    rw [map_obj]
    by_cases e : i = id
    · simp [e]
    · simp only [e, if_false, Option.map_eq_some_iff, ne_eq, not_false_eq_true, true_and]
      exact ⟨fun ⟨o, a, h1, _⟩ => ⟨a, h1⟩, fun ⟨a, h1⟩ => ⟨_, a, h1, rfl⟩⟩
  · exact absurd hf (by simp)

/-- A box of plain leaves, as what a pointer of others sees. -/
theorem box_rep (hV : VR M0 M β st.view tm w) {id : Nat} {cs : List AV} {l : List PV} (ho : st.obj id = some (.box cs)) (hp : pvs cs = some l) {o : Nat} {c : Value} (hc : AVR β w M (.addr id 0 o) c) : Rep w (lessF M (β id)) (.iptr (l.drop o)) c := by
  simp only [AVR] at hc
  obtain ⟨b, p, hb, hc⟩ := hc
  rw [Nat.zero_mul, Nat.add_zero] at hc
  have hO := hV.objs id _ ho
  obtain ⟨b', p', vs, h1, h2, h3, h4⟩ := box_cells hO
  rw [hb] at h1; injection h1 with h1; injection h1 with e1 e2; subst e1; subst e2
  obtain ⟨_, _, _, _, hext, _⟩ := hO
  simp only [Rep]
  refine ⟨b, p + o, vs.drop o, hc, RepS.mono mono_less _ _ (RepS.drop o (pvs_ok h3 hp)), fun j d hj => ?_⟩
  rw [List.getElem?_drop] at hj
  have := (h4 _ _ hj).1
  rw [← Nat.add_assoc] at this
  refine ⟨this, fun hM => hM.2 (.inl ⟨p, hb, by omega, ?_⟩)⟩
  have hlt := (List.getElem?_eq_some_iff.1 hj).1
  rw [h2, h3.1]; omega

section frzBox
variable {id : Nat} {cs : List AV} {l : List PV}
mutual
theorem frzBox_ok (hV : VR M0 M β st.view tm w) (ho : st.obj id = some (.box cs)) (hp : pvs cs = some l) : ∀ (v : AV) (c : Value), AVR β w M v c → AVR β w (lessF M (β id)) (AV.frzBox id l v) c
  | .undef, c, h => by simp only [AV.frzBox, AVR]
  | .pv x, c, h => by simp only [AVR] at h; simp only [AV.frzBox, AVR]; exact Rep.mono mono_less x c h
  | .nilSl, c, h => by simpa only [AV.frzBox, AVR] using h
  | .own i, c, h => by
    simp only [AV.frzBox]
    by_cases e : i = id
    · simp [e, AVR]
    · simp only [e, if_false, AVR] at h ⊢; exact h
  | .part i lo n, c, h => by
    simp only [AV.frzBox]
    by_cases e : i = id
    · simp [e, AVR]
    · simp only [e, if_false, AVR] at h ⊢; exact h
  | .addr i k o, c, h => by
    simp only [AV.frzBox]
    by_cases e : i = id
    · subst e
      simp only [if_true]
      by_cases e0 : k = 0
      · subst e0
        simp only [if_true]
        have := box_rep hV ho hp h
        simpa only [AVR] using this
      · simp [e0, AVR]
    · simp only [e, if_false, AVR] at h ⊢; exact h
  | .tup vs, c, h => by
    simp only [AVR] at h
    obtain ⟨cs, h1, h2⟩ := h
    simp only [AV.frzBox, AVR]; exact ⟨cs, h1, frzBoxL_ok hV ho hp vs _ h2⟩
  | .agg vs, c, h => by
    simp only [AVR] at h
    obtain ⟨cs, h1, h2, h3⟩ := h
    simp only [AV.frzBox, AVR]; exact ⟨cs, h1, frzBoxL_ok hV ho hp vs _ h2, h3⟩
  | .clo f a b, c, h => by
    simp only [AVR] at h
    obtain ⟨x, y, h1, h2, h3⟩ := h
    simp only [AV.frzBox, AVR]; exact ⟨x, y, h1, frzBoxL_ok hV ho hp a _ h2, frzBoxL_ok hV ho hp b _ h3⟩
theorem frzBoxL_ok (hV : VR M0 M β st.view tm w) (ho : st.obj id = some (.box cs)) (hp : pvs cs = some l) : ∀ (vs : List AV) (ds : List Value), AVRs β w M vs ds → AVRs β w (lessF M (β id)) (AV.frzBoxL id l vs) ds
  | [], ds, h => by simpa only [AV.frzBoxL, AVRs] using h
  | v :: vs, ds, h => by
    simp only [AVRs] at h
    obtain ⟨c, r, h1, h2, h3⟩ := h
    simp only [AV.frzBoxL, AVRs]; exact ⟨c, r, h1, frzBox_ok hV ho hp v c h2, frzBoxL_ok hV ho hp vs r h3⟩
end
mutual
theorem frzBox_refs : ∀ (v : AV), ∀ i ∈ (AV.frzBox id l v).refs, i ∈ v.refs ∧ i ≠ id
  | .undef, i, h => by simp [AV.frzBox, AV.refs] at h
  | .pv x, i, h => by simp [AV.frzBox, AV.refs] at h
  | .nilSl, i, h => by simp [AV.frzBox, AV.refs] at h
  | .own k, i, h => by
    simp only [AV.frzBox] at h
    by_cases e : k = id
    · simp [e, AV.refs] at h
    · simp only [e, if_false, AV.refs, List.mem_singleton] at h; subst h; exact ⟨by simp [AV.refs], e⟩
  | .part k lo n, i, h => by
    simp only [AV.frzBox] at h
    by_cases e : k = id
    · simp [e, AV.refs] at h
    · simp only [e, if_false, AV.refs, List.mem_singleton] at h; subst h; exact ⟨by simp [AV.refs], e⟩
  | .addr k x y, i, h => by
    simp only [AV.frzBox] at h
    by_cases e : k = id
    · simp only [e, if_true] at h
      split at h <;> simp [AV.refs] at h
    · simp only [e, if_false, AV.refs, List.mem_singleton] at h; subst h; exact ⟨by simp [AV.refs], e⟩
  | .tup vs, i, h => by
    simp only [AV.frzBox, AV.refs] at h ⊢; exact frzBoxL_refs vs i h
  | .agg vs, i, h => by
    simp only [AV.frzBox, AV.refs] at h ⊢; exact frzBoxL_refs vs i h
  | .clo f a b, i, h => by
    simp only [AV.frzBox, AV.refs, List.mem_append] at h ⊢
    rcases h with h | h
    · exact ⟨.inl (frzBoxL_refs a i h).1, (frzBoxL_refs a i h).2⟩
    · exact ⟨.inr (frzBoxL_refs b i h).1, (frzBoxL_refs b i h).2⟩
theorem frzBoxL_refs : ∀ (vs : List AV), ∀ i ∈ AV.refsL (AV.frzBoxL id l vs), i ∈ AV.refsL vs ∧ i ≠ id
  | [], i, h => by simp [AV.frzBoxL, AV.refsL] at h
  | v :: vs, i, h => by
    simp only [AV.frzBoxL, AV.refsL, List.mem_append] at h ⊢
    rcases h with h | h
    · exact ⟨.inl (frzBox_refs v i h).1, (frzBox_refs v i h).2⟩
    · exact ⟨.inr (frzBoxL_refs vs i h).1, (frzBoxL_refs vs i h).2⟩
end
end frzBox

theorem freezeBox_ok {id : Nat} {cs : List AV} {l : List PV} (h : SR M0 M β st tm w) (ho : st.obj id = some (.box cs)) (hp : pvs cs = some l) : SR M0 (lessF M (β id)) β (st.freezeBox id l) tm w := by
  refine map_ok (f := AV.frzBox id l) rfl (frzBox_ok h.1 ho hp) frzBox_refs (fun b j h => h.1) (fun b j hM => ?_) h
  by_cases hF : (β id).F b j
  · exact .inr ⟨_, ho, hF⟩
  · exact .inl ⟨hM, hF⟩
theorem freezeBox_obj (id i : Nat) (l : List PV) (st : St) : (st.freezeBox id l).obj i = if i = id then none else (st.obj i).map (Obj.map (AV.frzBox id l)) := map_obj _ _ _ _ _

end
end Go.Proofs.YtbnjbianobdleaaGreat.Vm
