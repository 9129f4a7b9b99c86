/-
  What is handed over at a call: where it lies.
-/
import Derived.Test.YtmjkdghcfihfiaaVmWr
namespace Go.Proofs.Ytmjkdghcfihfiaa.Vm
open Go
set_option linter.unusedVariables false
set_option linter.unusedSimpArgs false

/-- Where a value that is handed over lies. -/
inductive LT where
  | none
  | one (l : Loc)
  | bld (l : Loc)
  | box (l : Loc) (subs : List LT)

mutual
def LT.locs : LT → List Loc
  | .none => []
  | .one l => [l]
  | .bld l => [l]
  | .box l subs => l :: LT.locsL subs
def LT.locsL : List LT → List Loc
  | [] => []
  | t :: r => LT.locs t ++ LT.locsL r
end

mutual
/-- Places that need not stay: rows and Builders. -/
def LT.loose : LT → List Loc
  | .none => []
  | .one l => [l]
  | .bld l => [l]
  | .box _ subs => LT.looseL subs
def LT.looseL : List LT → List Loc
  | [] => []
  | t :: r => LT.loose t ++ LT.looseL r
end
mutual
/-- Places that stay: variables. -/
def LT.fixed : LT → List Loc
  | .none => []
  | .one _ => []
  | .bld _ => []
  | .box l subs => l :: LT.fixedL subs
def LT.fixedL : List LT → List Loc
  | [] => []
  | t :: r => LT.fixed t ++ LT.fixedL r
end
mutual
theorem LT.mem_locs : ∀ (t : LT) (l : Loc), l ∈ t.locs ↔ l ∈ t.loose ∨ l ∈ t.fixed
  | .none, l => by simp [LT.locs, LT.loose, LT.fixed]
  | .one _, l => by simp [LT.locs, LT.loose, LT.fixed]
  | .bld _, l => by simp [LT.locs, LT.loose, LT.fixed]
  | .box l0 subs, l => by
    simp only [LT.locs, LT.loose, LT.fixed, List.mem_cons, LT.mem_locsL subs l]
    constructor
    · rintro (h | h | h)
      · exact .inr (.inl h)
      · exact .inl h
      · exact .inr (.inr h)
    · rintro (h | h | h)
      · exact .inr (.inl h)
      · exact .inl h
      · exact .inr (.inr h)
theorem LT.mem_locsL : ∀ (ts : List LT) (l : Loc), l ∈ LT.locsL ts ↔ l ∈ LT.looseL ts ∨ l ∈ LT.fixedL ts
  | [], l => by simp [LT.locsL, LT.looseL, LT.fixedL]
  | t :: r, l => by
    simp only [LT.locsL, LT.looseL, LT.fixedL, List.mem_append, LT.mem_locs t l, LT.mem_locsL r l]
    constructor
    · rintro ((h | h) | h | h)
      · exact .inl (.inl h)
      · exact .inr (.inl h)
      · exact .inl (.inr h)
      · exact .inr (.inr h)
    · rintro ((h | h) | h | h)
      · exact .inl (.inl h)
      · exact .inr (.inl h)
      · exact .inl (.inr h)
      · exact .inr (.inr h)
end

mutual
def TVL (w : World) (M : Cells) : TV → LT → Value → Prop
  | .pv x, t, c => t = .none ∧ Rep w M x c
  | .own sz es, t, c => ∃ l, t = .one l ∧ c = l.hdr ∧ ObjR (fun _ => l) w M l (.buf sz es)
  | .bld bs, t, c => ∃ l b o, t = .bld l ∧ l.base = some (b, o) ∧ c = .pointer (some ⟨b, o, none⟩) ∧ BldR w l bs
  | .ptr cells, t, c => ∃ l subs b o, t = .box l subs ∧ l.base = some (b, o) ∧ l.k = cells.length ∧ l.ext = none ∧ c = .pointer (some ⟨b, o, none⟩) ∧ TVLs w M cells subs b o
def TVLs (w : World) (M : Cells) : List TV → List LT → Nat → Nat → Prop
  | [], ts, _, _ => ts = []
  | v :: vs, ts, b, o => ∃ t r c, ts = t :: r ∧ at_ w b o = some c ∧ frz_ w b o = false ∧ c.oneCell' = true ∧ TVL w M v t c ∧ TVLs w M vs r b (o + 1)
end

mutual
/-- Which number gets which place. -/
def asg (g : Nat → Nat → Nat) (id : Nat) : LT → List (Nat × Loc)
  | .none => []
  | .one l => [(id, l)]
  | .bld l => [(id, l)]
  | .box l subs => (id, l) :: asgs g id 0 subs
def asgs (g : Nat → Nat → Nat) (id j : Nat) : List LT → List (Nat × Loc)
  | [] => []
  | t :: r => asg g (g id j) t ++ asgs g id (j + 1) r
end

mutual
theorem asg_locs (g : Nat → Nat → Nat) : ∀ (id : Nat) (t : LT), (asg g id t).map (·.2) = t.locs
  | _, .none => rfl
  | _, .one l => rfl
  | _, .bld l => rfl
  | id, .box l subs => by simp only [asg, List.map_cons, LT.locs, asgs_locs g id 0 subs]
theorem asgs_locs (g : Nat → Nat → Nat) : ∀ (id j : Nat) (ts : List LT), (asgs g id j ts).map (·.2) = LT.locsL ts
  | _, _, [] => rfl
  | id, j, t :: r => by simp only [asgs, List.map_append, LT.locsL, asg_locs g (g id j) t, asgs_locs g id (j + 1) r]
end

section
variable {w : World} {M : Cells}

mutual
theorem place_ids (g : Nat → Nat → Nat) : ∀ (v : TV) (id : Nat) (t : LT) (c : Value), TVL w M v t c → (place g id v).2.map (·.1) = (asg g id t).map (·.1)
  | .pv x, id, t, c, h => by simp only [TVL] at h; rw [h.1]; rfl
  | .own sz es, id, t, c, h => by simp only [TVL] at h; obtain ⟨l, rfl, _⟩ := h; rfl
  | .bld bs, id, t, c, h => by simp only [TVL] at h; obtain ⟨l, _, _, rfl, _⟩ := h; rfl
  | .ptr cells, id, t, c, h => by
    simp only [TVL] at h
    obtain ⟨l, subs, b, o, rfl, _, _, _, _, h⟩ := h
    simp only [place, asg, List.map_cons, places_ids g cells id 0 subs b o h]
theorem places_ids (g : Nat → Nat → Nat) : ∀ (vs : List TV) (id j : Nat) (ts : List LT) (b o : Nat), TVLs w M vs ts b o → (places g id j vs).2.map (·.1) = (asgs g id j ts).map (·.1)
  | [], id, j, ts, b, o, h => by simp only [TVLs] at h; subst h; rfl
  | v :: vs, id, j, ts, b, o, h => by
    simp only [TVLs] at h
    obtain ⟨t, r, c, rfl, _, _, _, h1, h2⟩ := h
    simp only [places, asgs, List.map_append, place_ids g v (g id j) t c h1, places_ids g vs id (j + 1) r b (o + 1) h2]
end

mutual
theorem place_refs (g : Nat → Nat → Nat) : ∀ (v : TV) (id : Nat), (∀ i ∈ (place g id v).1.refs, i ∈ (place g id v).2.map (·.1)) ∧ ∀ p ∈ (place g id v).2, ∀ i ∈ p.2.refs, i ∈ (place g id v).2.map (·.1)
  | .pv x, id => by simp [place, AV.refs]
  | .own sz es, id => by simp [place, AV.refs, Obj.refs]
  | .bld bs, id => by simp [place, AV.refs, Obj.refs]
  | .ptr cells, id => by
    obtain ⟨h1, h2⟩ := places_refs g cells id 0
    refine ⟨by simp [place, AV.refs], fun p hp i hi => ?_⟩
    simp only [place, List.mem_cons] at hp
    simp only [place, List.map_cons, List.mem_cons]
    rcases hp with rfl | hp
    · exact .inr (h1 i (by simpa only [Obj.refs] using hi))
    · exact .inr (h2 p hp i hi)
theorem places_refs (g : Nat → Nat → Nat) : ∀ (vs : List TV) (id j : Nat), (∀ i ∈ AV.refsL (places g id j vs).1, i ∈ (places g id j vs).2.map (·.1)) ∧ ∀ p ∈ (places g id j vs).2, ∀ i ∈ p.2.refs, i ∈ (places g id j vs).2.map (·.1)
  | [], id, j => by simp [places, AV.refsL]
  | v :: vs, id, j => by
    obtain ⟨h1, h2⟩ := place_refs g v (g id j)
    obtain ⟨h3, h4⟩ := places_refs g vs id (j + 1)
    refine ⟨fun i hi => ?_, fun p hp i hi => ?_⟩
    · simp only [places, AV.refsL, List.mem_append] at hi
      simp only [places, List.map_append, List.mem_append]
      exact hi.imp (h1 i) (h3 i)
    · simp only [places, List.mem_append] at hp
      simp only [places, List.map_append, List.mem_append]
      exact hp.imp (fun hp => h2 p hp i hi) (fun hp => h4 p hp i hi)
end

mutual
/-- Under numbers: as a slot and objects. -/
theorem place_ok {β : Nat → Loc} (g : Nat → Nat → Nat) : ∀ (v : TV) (id : Nat) (t : LT) (c : Value), TVL w M v t c → (∀ p ∈ asg g id t, β p.1 = p.2) →
    AVR β w M (place g id v).1 c ∧ ∀ p ∈ (place g id v).2, ObjR β w M (β p.1) p.2
  | .pv x, id, t, c, h, hb => by simp only [TVL] at h; exact ⟨by simp only [place, AVR]; exact h.2, by simp [place]⟩
  | .own sz es, id, t, c, h, hb => by
    simp only [TVL] at h
    obtain ⟨l, rfl, h1, h2⟩ := h
    have e := hb (id, l) (by simp [asg])
    simp only at e
    refine ⟨by simp only [place, AVR]; rw [e]; exact h1, fun p hp => ?_⟩
    simp only [place, List.mem_singleton] at hp; subst hp
    simp only; rw [e]; exact h2
  | .bld bs, id, t, c, h, hb => by
    simp only [TVL] at h
    obtain ⟨l, b, o, rfl, h1, h2, h3⟩ := h
    have e := hb (id, l) (by simp [asg])
    simp only at e
    refine ⟨by simp only [place, AVR]; rw [e]; exact ⟨b, o, h1, by simpa using h2⟩, fun p hp => ?_⟩
    simp only [place, List.mem_singleton] at hp; subst hp
    simp only; rw [e]; exact h3
  | .ptr cells, id, t, c, h, hb => by
    simp only [TVL] at h
    obtain ⟨l, subs, b, o, rfl, h1, h2, h3, h4, h5⟩ := h
    have e := hb (id, l) (by simp [asg])
    simp only at e
    obtain ⟨k1, k2, k3⟩ := places_ok g cells id 0 subs b o h5 (fun p hp => hb p (by simp only [asg, List.mem_cons]; exact .inr hp))
    refine ⟨by simp only [place, AVR]; rw [e]; exact ⟨b, o, h1, by simpa using h4⟩, fun p hp => ?_⟩
    simp only [place, List.mem_cons] at hp
    rcases hp with rfl | hp
    · simp only; rw [e]
      exact ⟨b, o, h1, by rw [h2, k1], h3, k2⟩
    · exact k3 p hp
theorem places_ok {β : Nat → Loc} (g : Nat → Nat → Nat) : ∀ (vs : List TV) (id j : Nat) (ts : List LT) (b o : Nat), TVLs w M vs ts b o → (∀ p ∈ asgs g id j ts, β p.1 = p.2) →
    (places g id j vs).1.length = vs.length ∧ (∀ (k : Nat) (v : AV), (places g id j vs).1[k]? = some v → ∃ c, at_ w b (o + k) = some c ∧ frz_ w b (o + k) = false ∧ c.oneCell' = true ∧ AVR β w M v c) ∧
    ∀ p ∈ (places g id j vs).2, ObjR β w M (β p.1) p.2
  | [], id, j, ts, b, o, h, hb => by simp [places]
  | v :: vs, id, j, ts, b, o, h, hb => by
    simp only [TVLs] at h
    obtain ⟨t, r, c, rfl, a1, a2, a3, h1, h2⟩ := h
    obtain ⟨p1, p2⟩ := place_ok g v (g id j) t c h1 (fun p hp => hb p (by simp only [asgs, List.mem_append]; exact .inl hp))
    obtain ⟨q1, q2, q3⟩ := places_ok g vs id (j + 1) r b (o + 1) h2 (fun p hp => hb p (by simp only [asgs, List.mem_append]; exact .inr hp))
    refine ⟨by simp only [places, List.length_cons, q1], fun k x hx => ?_, fun p hp => ?_⟩
    · cases k with
      | zero => simp only [places, List.getElem?_cons_zero, Option.some.injEq] at hx; subst hx; exact ⟨c, a1, a2, a3, p1⟩
      | succ k =>
        simp only [places, List.getElem?_cons_succ] at hx
        have := q2 k x hx
        rwa [show o + (k + 1) = o + 1 + k by omega]
    · simp only [places, List.mem_append] at hp
      exact hp.elim (p2 p) (q3 p)
end

mutual
/-- A change elsewhere leaves what was handed over as it was. -/
theorem TVL.mono {w' : World} {M' : Cells} (hs : w' = w) (hk : ∀ b o v, at_ w b o = some v → ¬ M b o → at_ w' b o = some v ∧ ¬ M' b o) : ∀ (v : TV) (t : LT) (c : Value),
    (∀ l ∈ t.locs, ∀ b j u, l.F b j → at_ w b j = some u → at_ w' b j = some u ∧ frz_ w' b j = frz_ w b j) → TVL w M v t c → TVL w' M' v t c
  | .pv x, t, c, hF, h => by simp only [TVL] at h ⊢; exact ⟨h.1, Rep.mono hk x c h.2⟩
  | .own sz es, t, c, hF, h => by
    simp only [TVL] at h ⊢
    obtain ⟨l, rfl, h1, h2⟩ := h
    exact ⟨l, rfl, h1, ObjR.mono hk (hF l (by simp [LT.locs])) (by subst hs; exact fun _ _ h => h) (by subst hs; exact fun _ _ _ => rfl) (by simp [Obj.refs]) h2⟩
  | .bld bs, t, c, hF, h => by
    simp only [TVL] at h ⊢
    obtain ⟨l, b, o, rfl, h1, h2, h3⟩ := h
    exact ⟨l, b, o, rfl, h1, h2, ObjR.mono (β := fun _ => l) (β' := fun _ => l) (o := .bld bs) hk (hF l (by simp [LT.locs])) (by subst hs; exact fun _ _ h => h) (by subst hs; exact fun _ _ _ => rfl) (by simp [Obj.refs]) h3⟩
  | .ptr cells, t, c, hF, h => by
    simp only [TVL] at h ⊢
    obtain ⟨l, subs, b, o, rfl, h1, h2, h3, h4, h5⟩ := h
    refine ⟨l, subs, b, o, rfl, h1, h2, h3, h4, TVLs.mono hs hk cells subs b o (fun l' hl => hF l' (by simp only [LT.locs, List.mem_cons]; exact .inr hl)) (fun j hj u hu => ?_) h5⟩
    exact hF l (by simp [LT.locs]) b (o + j) u (.inl ⟨o, h1, by omega, by omega⟩) hu
theorem TVLs.mono {w' : World} {M' : Cells} (hs : w' = w) (hk : ∀ b o v, at_ w b o = some v → ¬ M b o → at_ w' b o = some v ∧ ¬ M' b o) : ∀ (vs : List TV) (ts : List LT) (b o : Nat),
    (∀ l ∈ LT.locsL ts, ∀ b j u, l.F b j → at_ w b j = some u → at_ w' b j = some u ∧ frz_ w' b j = frz_ w b j) → (∀ j, j < vs.length → ∀ u, at_ w b (o + j) = some u → at_ w' b (o + j) = some u ∧ frz_ w' b (o + j) = frz_ w b (o + j)) →
    TVLs w M vs ts b o → TVLs w' M' vs ts b o
  | [], ts, b, o, _, _, h => by simpa only [TVLs] using h
  | v :: vs, ts, b, o, hF, hc, h => by
    simp only [TVLs] at h ⊢
    obtain ⟨t, r, c, rfl, a1, a2, a3, h1, h2⟩ := h
    have k := hc 0 (by simp) c (by simpa using a1)
    simp only [Nat.add_zero] at k
    refine ⟨t, r, c, rfl, k.1, k.2.trans a2, a3, TVL.mono hs hk v t c (fun l hl => hF l (by simp only [LT.locsL, List.mem_append]; exact .inl hl)) h1, TVLs.mono hs hk vs r b (o + 1) (fun l hl => hF l (by simp only [LT.locsL, List.mem_append]; exact .inr hl)) (fun j hj u hu => ?_) h2⟩
    have := hc (j + 1) (by simp; omega) u (by rwa [show o + (j + 1) = o + 1 + j by omega])
    rwa [show o + (j + 1) = o + 1 + j by omega] at this
end

end
end Go.Proofs.Ytmjkdghcfihfiaa.Vm
