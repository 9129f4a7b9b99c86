/-
  What a call is: contracts; how what comes back stands to the world.
-/
import Derived.Test.YtmjkdghcfihfiaaVmArg
namespace Go.Proofs.Ytmjkdghcfihfiaa.Vm
open Go
set_option linter.unusedVariables false
set_option linter.unusedSimpArgs false

mutual
/-- Variables are where they were. -/
def like : LT → LT → Prop
  | .none, _ => True
  | .one _, _ => True
  | .bld l, t' => ∃ l', t' = .bld l' ∧ l'.base = l.base
  | .box l ss, t' => ∃ l' ss', t' = .box l' ss' ∧ l'.base = l.base ∧ l'.k = l.k ∧ l'.ext = l.ext ∧ likes ss ss'
def likes : List LT → List LT → Prop
  | [], ts => ts = []
  | t :: r, ts => ∃ t' r', ts = t' :: r' ∧ like t t' ∧ likes r r'
end

theorem Loc.F_of {l l' : Loc} (h1 : l'.base = l.base) (h2 : l'.k = l.k) (h3 : l'.ext = l.ext) (b j : Nat) : l.F b j ↔ l'.F b j := by
  simp only [Loc.F, h1, h2, h3]

mutual
theorem like_fixed : ∀ {t t' : LT}, like t t' → ∀ l ∈ t.fixed, ∃ l' ∈ t'.fixed, ∀ b j, l.F b j ↔ l'.F b j
  | .none, t', _, l, hl => by simp [LT.fixed] at hl
  | .one _, t', _, l, hl => by simp [LT.fixed] at hl
  | .bld _, t', _, l, hl => by simp [LT.fixed] at hl
  | .box l0 ss, t', h, l, hl => by
    simp only [like] at h
    obtain ⟨l', ss', rfl, h1, h2, h3, h4⟩ := h
    simp only [LT.fixed, List.mem_cons] at hl
    rcases hl with rfl | hl
    · exact ⟨l', by simp [LT.fixed], Loc.F_of h1 h2 h3⟩
    · obtain ⟨l1, k1, k2⟩ := likes_fixed h4 l hl
      exact ⟨l1, by simp [LT.fixed, k1], k2⟩
theorem likes_fixed : ∀ {ts ts' : List LT}, likes ts ts' → ∀ l ∈ LT.fixedL ts, ∃ l' ∈ LT.fixedL ts', ∀ b j, l.F b j ↔ l'.F b j
  | [], ts', _, l, hl => by simp [LT.fixedL] at hl
  | t :: r, ts', h, l, hl => by
    simp only [likes] at h
    obtain ⟨t', r', rfl, h1, h2⟩ := h
    simp only [LT.fixedL, List.mem_append] at hl
    rcases hl with hl | hl
    · obtain ⟨l1, k1, k2⟩ := like_fixed h1 l hl
      exact ⟨l1, by simp [LT.fixedL, k1], k2⟩
    · obtain ⟨l1, k1, k2⟩ := likes_fixed h2 l hl
      exact ⟨l1, by simp [LT.fixedL, k1], k2⟩
end

def cellsOf (M0 : Cells) (ls : List Loc) : Cells := fun b j => M0 b j ∨ ∃ l ∈ ls, l.F b j

def Apart (ls : List Loc) : Prop := ls.Pairwise (fun l l' => ∀ b j, l.F b j → ¬ l'.F b j)

/-- Arguments, in a callee's hands. M0: cells that others may write. -/
structure Handed (M0 : Cells) (w : World) (as : List TV) (ts : List LT) (args : List Value) : Prop where
  tv : TVAll w (cellsOf M0 (LT.locsL ts)) as ts args
  apart : Apart (LT.locsL ts)
  out : ∀ l ∈ LT.locsL ts, ∀ b j, l.F b j → ¬ M0 b j ∧ b < w.heap.size
  old : ∀ b j, M0 b j → b < w.heap.size

/-- What comes back of the arguments that are handed over by reference. -/
def FinR (w : World) (M : Cells) : List Mode → List TV → List LT → List Value → List TV → List LT → Prop
  | _, [], _, _, fs, lfs => fs = [] ∧ lfs = []
  | ms, .pv _ :: vs, ts, cs, fs, lfs => ∃ t r c d, ts = t :: r ∧ cs = c :: d ∧ FinR w M ms.tail vs r d fs lfs
  | ms, .own sz es :: vs, ts, cs, fs, lfs => ∃ t r c d, ts = t :: r ∧ cs = c :: d ∧ if ms.headD .borrow = .mut then
      ∃ es' fr lr, fs = .own sz es' :: fr ∧ lfs = t :: lr ∧ TVL w M (.own sz es') t c ∧ FinR w M ms.tail vs r d fr lr else FinR w M ms.tail vs r d fs lfs
  | ms, .bld _ :: vs, ts, cs, fs, lfs => ∃ t r c d, ts = t :: r ∧ cs = c :: d ∧ ∃ f fr lf lr, fs = f :: fr ∧ lfs = lf :: lr ∧ TVL w M f lf c ∧ like t lf ∧ FinR w M ms.tail vs r d fr lr
  | ms, .ptr _ :: vs, ts, cs, fs, lfs => ∃ t r c d, ts = t :: r ∧ cs = c :: d ∧ ∃ f fr lf lr, fs = f :: fr ∧ lfs = lf :: lr ∧ TVL w M f lf c ∧ like t lf ∧ FinR w M ms.tail vs r d fr lr

/-- The loose places of what comes back. -/
def LooseF : List TV → List LT → List Loc
  | .own _ _ :: fs, _ :: ts => LooseF fs ts
  | _ :: fs, t :: ts => t.loose ++ LooseF fs ts
  | _, _ => []

def wrapV : List Value → Value
  | [v] => v
  | vs => .tuple vs.toArray

/-- What a call has done. -/
def Took (ms : List Mode) (M0 : Cells) (w : World) (as : List TV) (ts : List LT) (args : List Value) (rs fs : List TV) (v : Value) (w' : World) : Prop :=
  ∃ (vs : List Value) (lrs lfs : List LT), v = wrapV vs ∧ TVAll w' (cellsOf M0 (LT.locsL (lrs ++ lfs))) rs lrs vs ∧ FinR w' (cellsOf M0 (LT.locsL (lrs ++ lfs))) ms as ts args fs lfs ∧
    Apart (LT.locsL (lrs ++ lfs)) ∧ (∀ l ∈ LT.locsL (lrs ++ lfs), ∀ b j, l.F b j → ¬ M0 b j ∧ b < w'.heap.size ∧ (w.heap.size ≤ b ∨ ∃ l0 ∈ LT.locsL ts, l0.F b j)) ∧
    (∀ l ∈ LT.locsL lrs ++ LooseF fs lfs, ∀ b j, l.F b j → w.heap.size ≤ b ∨ ∃ l0 ∈ LooseA ms as ts, l0.F b j) ∧
    Fr (fun b j => ∃ l ∈ LT.locsL ts, l.F b j) w w'

/-- A function is called. -/
def Invokes (P : Program) (f : FuncId) (args : Array Value) (w : World) (R : Value → World → Prop) : Prop :=
  match (callFunc f args).run P w with
  | .ok (.value v) w' => R v w'
  | .ok (.enter g as) w' => Calls P g as w' fun e w'' => ∃ v, e = .returned v ∧ R v w''
  | _ => False

def Contract (P : Program) (ms : List Mode) (f : FuncId) (as rs fs : List TV) : Prop :=
  ∀ M0 w ts args, Handed M0 w as ts args → Invokes P f args.toArray w (Took ms M0 w as ts args rs fs)

mutual
/-- New places of leaves; new blocks of Builders. -/
def basg (β : Nat → Loc) (id j : Nat) : Option Back → LT → List (Nat × Loc)
  | some (.box i off bs), .box _ subs => basgs β i off bs subs
  | some (.bld i), .bld l => [(i, { β i with ext := l.ext })]
  | none, .one l => [(cellId id j, l)]
  | _, _ => []
def basgs (β : Nat → Loc) (id j : Nat) : List (Option Back) → List LT → List (Nat × Loc)
  | b :: bs, t :: ts => basg β id j b t ++ basgs β id (j + 1) bs ts
  | _, _ => []
end

theorem BldR.congr {w : World} {l l' : Loc} (h1 : l'.base = l.base) (h2 : l'.k = l.k) (h3 : l'.ext = l.ext) {bs : List UInt8} (h : BldR w l bs) : BldR w l' bs := by
  obtain ⟨b, o, A, cap, p, a1, a2, a3, a4, a5, a6, a7, a8⟩ := h
  exact ⟨b, o, A, cap, p, by rw [h1]; exact a1, ⟨by rw [h2]; exact a2.1, a2.2⟩, a3, a4, a5, a6, a7, by rw [h3]; exact a8⟩
theorem BldR.k2 {w : World} {l : Loc} {bs : List UInt8} (h : BldR w l bs) : l.k = 2 := by
  obtain ⟨_, _, _, _, _, _, a2, _⟩ := h; exact a2.1

/-- What is known of what came back of a leaf, or of leaves. -/
structure BackOut (β β' : Nat → Loc) (G : Cells) (w w' : World) (M' : Cells) (ps : List Patch) (os : List (Nat × Obj)) (ba : List (Nat × Loc)) (ids blds : List Nat) (fx : List Loc) : Prop where
  patch : ∀ p ∈ ps, PatchR β β' G w w' M' p
  objs : ∀ p ∈ os, ObjR β' w' M' (β' p.1) p.2
  pids : (ps.map Patch.id).Perm ids
  pblds : ∀ i ∈ blds, ∃ bs, Patch.bld i bs ∈ ps
  asg : ∀ p ∈ ba, p.1 ∈ os.map (·.1) ∨ ∃ bs, Patch.bld p.1 bs ∈ ps
  osas : ∀ i ∈ os.map (·.1), i ∈ ba.map (·.1)
  refs : ∀ p ∈ os, p.2.refs = []
  prefs : ∀ id off cells, Patch.box id off cells ∈ ps → ∀ i ∈ AV.refsL cells, i ∈ ids ∨ i ∈ os.map (·.1)
  touch : ∀ l ∈ fx, ∀ b j, l.F b j → ∃ p ∈ ps, p.touch (β p.id) b j

theorem BackOut.append {β β' : Nat → Loc} {G : Cells} {w w' : World} {M' : Cells} {ps ps' : List Patch} {os os' : List (Nat × Obj)} {ba ba' : List (Nat × Loc)} {ids ids' blds blds' : List Nat} {fx fx' : List Loc}
    (h : BackOut β β' G w w' M' ps os ba ids blds fx) (k : BackOut β β' G w w' M' ps' os' ba' ids' blds' fx') : BackOut β β' G w w' M' (ps ++ ps') (os ++ os') (ba ++ ba') (ids ++ ids') (blds ++ blds') (fx ++ fx') where
  patch p hp := (List.mem_append.1 hp).elim (h.patch p) (k.patch p)
  objs p hp := (List.mem_append.1 hp).elim (h.objs p) (k.objs p)
  pids := by rw [List.map_append]; exact List.Perm.append h.pids k.pids
  pblds i hi := (List.mem_append.1 hi).elim (fun hi => (h.pblds i hi).imp fun _ h => List.mem_append.2 (.inl h)) (fun hi => (k.pblds i hi).imp fun _ h => List.mem_append.2 (.inr h))
  asg p hp := by
    rcases List.mem_append.1 hp with hp | hp
    · rcases h.asg p hp with h | ⟨bs, h⟩
      · exact .inl (by rw [List.map_append]; exact List.mem_append.2 (.inl h))
      · exact .inr ⟨bs, List.mem_append.2 (.inl h)⟩
    · rcases k.asg p hp with h | ⟨bs, h⟩
      · exact .inl (by rw [List.map_append]; exact List.mem_append.2 (.inr h))
      · exact .inr ⟨bs, List.mem_append.2 (.inr h)⟩
  osas i hi := by
    rw [List.map_append] at hi ⊢
    exact List.mem_append.2 ((List.mem_append.1 hi).imp (h.osas i) (k.osas i))
  refs p hp := (List.mem_append.1 hp).elim (h.refs p) (k.refs p)
  prefs id off cells hm i hi := by
    rw [List.map_append]
    rcases List.mem_append.1 hm with hm | hm
    · exact (h.prefs id off cells hm i hi).imp (fun h => List.mem_append.2 (.inl h)) (fun h => List.mem_append.2 (.inl h))
    · exact (k.prefs id off cells hm i hi).imp (fun h => List.mem_append.2 (.inr h)) (fun h => List.mem_append.2 (.inr h))
  touch l hl b j hF := by
    rcases List.mem_append.1 hl with hl | hl
    · obtain ⟨p, h1, h2⟩ := h.touch l hl b j hF
      exact ⟨p, List.mem_append.2 (.inl h1), h2⟩
    · obtain ⟨p, h1, h2⟩ := k.touch l hl b j hF
      exact ⟨p, List.mem_append.2 (.inr h1), h2⟩

theorem BackOut.none {β β' : Nat → Loc} {G : Cells} {w w' : World} {M' : Cells} : BackOut β β' G w w' M' [] [] [] [] [] [] :=
  ⟨by simp, by simp, by simp, by simp, by simp, by simp, by simp, by simp, by simp⟩

section
variable {β β' : Nat → Loc} {G : Cells} {w w' : World} {M' : Cells}

mutual
theorem backLeaf_ok : ∀ (ob : Option Back) (id j : Nat) (t lf : LT) (f : TV) (c : Value) (a : AV) (ps : List Patch) (os : List (Nat × Obj)), backLeaf id j ob f = some (a, ps, os) → TVL w' M' f lf c →
    (∀ b, ob = some b → BackR β b t) → (ob = none → t.fixed = []) → like t lf → (∀ l ∈ lf.loose, ∀ b j, l.F b j → M' b j ∧ (w.heap.size ≤ b ∨ G b j)) → (∀ p ∈ basg β id j ob lf, β' p.1 = p.2) → (∀ i off cells, Patch.box i off cells ∈ ps → β' i = β i) →
    ((∀ i off l, ob = some (.box i off l) → off = 0) → AVR β' w' M' a c) ∧ (∀ i ∈ a.refs, i ∈ oids ob ∨ i ∈ os.map (·.1)) ∧ BackOut β β' G w w' M' ps os (basg β id j ob lf) (oids ob) (oblds ob) t.fixed
  | some (.box i off bs), id, j, t, lf, f, c, a, ps, os, h, hT, hB, hB0, hL, hF, hβ, hk => by
    cases f <;> simp only [backLeaf] at h <;> try (cases h; done)
    rename_i cells
    split at h
    · rename_i l ps' os' hl
      injection h with h; injection h with h1 h; injection h with h2 h3; subst h1; subst h2; subst h3
      have hb := hB _ rfl
      simp only [BackR] at hb
      obtain ⟨l0, subs, b, o, rfl, hb1, hb2, hb3, hb4, hb5, hb6⟩ := hb
      simp only [like] at hL
      obtain ⟨l1, subs1, rfl, e1, e2, e3, hL⟩ := hL
      simp only [TVL] at hT
      obtain ⟨l2, subs2, b2, o2, e, h21, h22, h23, h24, hT⟩ := hT
      injection e with e4 e5; subst e4; subst e5
      rw [e1, hb2] at h21; injection h21 with h21; injection h21 with x1 x2; subst x1; subst x2
      have hbi : β' i = β i := hk i off l (by simp)
      simp only [basg] at hβ ⊢
      obtain ⟨k1, k2, k3, k4⟩ := backLeaves_ok bs i off subs subs1 cells b (o + off) l ps' os' hl hT hb6 hL (fun l' hl' => hF l' (by simpa only [LT.loose] using hl')) hβ (fun i' off' cs' hm => hk i' off' cs' (List.mem_append.2 (.inl hm)))
      refine ⟨fun h0 => ?_, fun i' hi' => ?_, ?_⟩
      · simp only [AVR]; rw [hbi]
        have := h0 i off bs rfl
        subst this
        exact ⟨b, o, hb1, by simpa using h24⟩
      · simp [AV.refs] at hi'; subst hi'; exact .inl (by simp [oids, Back.ids])
      · refine ⟨fun p hp => ?_, k4.objs, ?_, fun i' hi' => ?_, fun p hp => ?_, k4.osas, k4.refs, fun id' off' cs' hm i' hi' => ?_, fun l' hl' x y hF' => ?_⟩
        · rcases List.mem_append.1 hp with hp | hp
          · exact k4.patch p hp
          · simp at hp; subst hp
            exact ⟨hbi, b, o, hb1, k2⟩
        · simp only [List.map_append, List.map_cons, List.map_nil, Patch.id, oids, Back.ids]
          exact (List.perm_append_comm.trans (List.Perm.cons i k4.pids))
        · simp only [oblds, Back.blds] at hi'
          exact (k4.pblds i' hi').imp fun _ h => List.mem_append.2 (.inl h)
        · exact (k4.asg p hp).imp (fun h => h) (fun ⟨bs, h⟩ => ⟨bs, List.mem_append.2 (.inl h)⟩)
        · simp only [oids, Back.ids, List.mem_cons]
          rcases List.mem_append.1 hm with hm | hm
          · exact (k4.prefs id' off' cs' hm i' hi').imp (fun h => .inr h) (fun h => h)
          · simp at hm; obtain ⟨rfl, rfl, rfl⟩ := hm
            exact (k3 i' hi').imp (fun h => .inr h) (fun h => h)
        · simp only [LT.fixed, List.mem_cons] at hl'
          rcases hl' with rfl | hl'
          · refine ⟨.box i off l, by simp, ?_⟩
            rcases hF' with ⟨o', t1, t2, t3⟩ | ⟨n, t1, _⟩
            · rw [hb2] at t1; injection t1 with t1; injection t1 with t4 t5; subst t4; subst t5
              exact ⟨o, hb1, by omega, by rw [k1]; omega⟩
            · rw [hb5] at t1; simp at t1
          · obtain ⟨p, p1, p2⟩ := k4.touch l' hl' x y hF'
            exact ⟨p, List.mem_append.2 (.inl p1), p2⟩
    · exact absurd h (by simp)
  | some (.own i), id, j, t, lf, f, c, a, ps, os, h, hT, hB, hB0, hL, hF, hβ, hk => by
    cases f <;> simp only [backLeaf] at h <;> cases h
  | some .nilSl, id, j, t, lf, f, c, a, ps, os, h, hT, hB, hB0, hL, hF, hβ, hk => by
    cases f <;> simp only [backLeaf] at h <;> cases h
  | some (.bld i), id, j, t, lf, f, c, a, ps, os, h, hT, hB, hB0, hL, hF, hβ, hk => by
    cases f <;> simp only [backLeaf] at h <;> try (cases h; done)
    rename_i bs
    injection h with h; injection h with h1 h; injection h with h2 h3; subst h1; subst h2; subst h3
    have hb := hB _ rfl
    simp only [BackR] at hb
    obtain ⟨rfl, hb2⟩ := hb
    simp only [like] at hL
    obtain ⟨l1, rfl, e1⟩ := hL
    simp only [TVL] at hT
    obtain ⟨l2, b2, o2, e, h21, h22, h23⟩ := hT
    injection e with e4; subst e4
    have hbi := hβ (i, { β i with ext := l1.ext }) (by simp [basg])
    simp only at hbi
    have hFF : ∀ b j, (β' i).F b j ↔ l1.F b j := fun b j => Loc.F_of (by rw [hbi]; exact e1) (by rw [hbi, h23.k2]; exact hb2.symm) (by rw [hbi]) b j
    refine ⟨fun _ => ?_, fun i' hi' => ?_, ?_⟩
    · simp only [AVR]; rw [hbi]
      exact ⟨b2, o2, by rw [← e1]; exact h21, by simpa using h22⟩
    · simp [AV.refs] at hi'; subst hi'; exact .inl (by simp [oids, Back.ids])
    · refine ⟨fun p hp => ?_, by simp, by simp [oids, Back.ids, Patch.id], fun i' hi' => ?_, fun p hp => ?_, by simp, by simp, by simp, by simp [LT.fixed]⟩
      · simp at hp; subst hp
        refine ⟨?_, fun b j hFb => hF l1 (by simp [LT.loose]) b j ((hFF b j).1 hFb)⟩
        show BldR w' (β' i) bs
        exact BldR.congr (by rw [hbi]; exact e1.symm) (by rw [hbi, h23.k2]; exact hb2) (by rw [hbi]) h23
      · simp [oblds, Back.blds] at hi'; subst hi'; exact ⟨bs, by simp⟩
      · simp [basg] at hp; subst hp; exact .inr ⟨bs, by simp⟩
  | none, id, j, t, lf, f, c, a, ps, os, h, hT, hB, hB0, hL, hF, hβ, hk => by
    cases f <;> simp only [backLeaf] at h <;> try (cases h; done)
    · injection h with h; injection h with h1 h; injection h with h2 h3; subst h1; subst h2; subst h3
      simp only [TVL] at hT
      obtain ⟨rfl, hT⟩ := hT
      exact ⟨fun _ => by simp only [AVR]; exact hT, by simp [AV.refs], by rw [hB0 rfl]; simp only [basg, oids, oblds]; exact BackOut.none⟩
    · rename_i sz es
      injection h with h; injection h with h1 h; injection h with h2 h3; subst h1; subst h2; subst h3
      simp only [TVL] at hT
      obtain ⟨l, rfl, h1, h2⟩ := hT
      have e := hβ (cellId id j, l) (by simp [basg])
      simp only at e
      refine ⟨fun _ => by simp only [AVR]; rw [e]; exact h1, fun i hi => .inr (by simpa [AV.refs] using hi), ?_⟩
      refine ⟨by simp, fun p hp => ?_, by simp [oids], by simp [oblds], fun p hp => .inl ?_, by simp [basg], by simp [Obj.refs], by simp, by rw [hB0 rfl]; simp⟩
      · simp at hp; subst hp; simp only; rw [e]; exact h2
      · simp [basg] at hp; subst hp; simp
theorem backLeaves_ok : ∀ (bs : List (Option Back)) (id j : Nat) (ts lfs : List LT) (fs : List TV) (b o : Nat) (l : List AV) (ps : List Patch) (os : List (Nat × Obj)), backLeaves id j bs fs = some (l, ps, os) → TVLs w' M' fs lfs b o →
    BackRs β bs ts → likes ts lfs → (∀ l ∈ LT.looseL lfs, ∀ b j, l.F b j → M' b j ∧ (w.heap.size ≤ b ∨ G b j)) → (∀ p ∈ basgs β id j bs lfs, β' p.1 = p.2) → (∀ i off cells, Patch.box i off cells ∈ ps → β' i = β i) →
    l.length = bs.length ∧ (∀ (k : Nat) (v : AV), l[k]? = some v → ∃ c, at_ w' b (o + k) = some c ∧ frz_ w' b (o + k) = false ∧ c.oneCell' = true ∧ AVR β' w' M' v c) ∧
    (∀ i ∈ AV.refsL l, i ∈ Back.idsO bs ∨ i ∈ os.map (·.1)) ∧ BackOut β β' G w w' M' ps os (basgs β id j bs lfs) (Back.idsO bs) (Back.bldsO bs) (LT.fixedL ts)
  | [], id, j, ts, lfs, fs, b, o, l, ps, os, h, hT, hB, hL, hF, hβ, hk => by
    cases fs <;> simp only [backLeaves] at h <;> try (cases h; done)
    injection h with h; injection h with h1 h; injection h with h2 h3; subst h1; subst h2; subst h3
    exact ⟨rfl, by simp, by simp [AV.refsL], by simp only [BackRs] at hB; subst hB; simp only [basgs, Back.idsO, Back.bldsO, LT.fixedL]; exact BackOut.none⟩
  | ob :: bs, id, j, ts, lfs, fs, b, o, l, ps, os, h, hT, hB, hL, hF, hβ, hk => by
    cases fs <;> simp only [backLeaves] at h <;> try (cases h; done)
    rename_i f fs
    split at h
    · rename_i a p os1 l' ps' os' h1 h2
      injection h with h; injection h with e1 h; injection h with e2 e3; subst e1; subst e2; subst e3
      simp only [TVLs] at hT
      obtain ⟨lf, lr, c, rfl, a1, a2, a3, hT1, hT2⟩ := hT
      have hts : ∃ t r, ts = t :: r ∧ (∀ b, ob = some b → BackR β b t) ∧ (ob = none → t.fixed = []) ∧ (∀ i off l, ob = some (.box i off l) → off = 0) ∧ BackRs β bs r := by
        cases ob with
        | none =>
          simp only [BackRs] at hB
          obtain ⟨t, r, rfl, hB0, hB⟩ := hB
          exact ⟨t, r, rfl, by simp, fun _ => hB0, by simp, hB⟩
        | some x =>
          simp only [BackRs] at hB
          obtain ⟨t, r, rfl, hB1, hB2, hB3⟩ := hB
          exact ⟨t, r, rfl, fun b hb => by injection hb with hb; subst hb; exact hB1, by simp, fun i off l hb => by injection hb with hb; exact hB2 i off l hb, hB3⟩
      obtain ⟨t, r, rfl, hB1, hB0, hB2, hB3⟩ := hts
      simp only [likes] at hL
      obtain ⟨t', r', e, hL1, hL2⟩ := hL
      injection e with e1 e2; subst e1; subst e2
      obtain ⟨p1, p2, p3⟩ := backLeaf_ok ob id j t lf f c a p os1 h1 hT1 hB1 hB0 hL1 (fun l hl => hF l (by simp only [LT.looseL, List.mem_append]; exact .inl hl)) (fun q hq => hβ q (by simp only [basgs, List.mem_append]; exact .inl hq))
        (fun i off cs hm => hk i off cs (List.mem_append.2 (.inl hm)))
      obtain ⟨q1, q2, q3, q4⟩ := backLeaves_ok bs id (j + 1) r lr fs b (o + 1) l' ps' os' h2 hT2 hB3 hL2 (fun l hl => hF l (by simp only [LT.looseL, List.mem_append]; exact .inr hl)) (fun q hq => hβ q (by simp only [basgs, List.mem_append]; exact .inr hq))
        (fun i off cs hm => hk i off cs (List.mem_append.2 (.inr hm)))
      refine ⟨by simp [q1], fun k v hv => ?_, fun i hi => ?_, ?_⟩
      · cases k with
        | zero => simp at hv; subst hv; exact ⟨c, by simpa using a1, by simpa using a2, a3, p1 hB2⟩
        | succ k =>
          have := q2 k v (by simpa using hv)
          rwa [show o + (k + 1) = o + 1 + k by omega]
      · rw [idsO_cons, List.map_append]
        simp only [AV.refsL, List.mem_append] at hi ⊢
        rcases hi with hi | hi
        · exact (p2 i hi).imp .inl .inl
        · exact (q3 i hi).imp .inr .inr
      · rw [idsO_cons, bldsO_cons]
        simp only [basgs, LT.fixedL]
        exact p3.append q4
    · exact absurd h (by simp)
end

/-- New places of all that comes back. -/
def tops (β : Nat → Loc) : List Back → List LT → List (Nat × Loc)
  | b :: bs, t :: ts => basg β 0 0 (some b) t ++ tops β bs ts
  | _, _ => []

theorem backTV_cons {b : Back} {bs : List Back} {f : TV} {fs : List TV} {ws : List Patch} {os : List (Nat × Obj)} (hb : (∃ i, b = .bld i) ∨ ∃ i off l, b = .box i off l) (h : backTV (b :: bs) (f :: fs) = some (ws, os)) :
    ∃ a p o q r, backLeaf 0 0 (some b) f = some (a, p, o) ∧ backTV bs fs = some (q, r) ∧ ws = p ++ q ∧ os = o ++ r := by
  rcases hb with ⟨i, rfl⟩ | ⟨i, off, l, rfl⟩
  · cases f <;> simp only [backTV] at h <;> try (cases h; done)
    split at h
    · rename_i q r hr
      injection h with h; injection h with h1 h2; subst h1; subst h2
      exact ⟨_, _, _, q, r, rfl, hr, rfl, rfl⟩
    · exact absurd h (by simp)
  · cases f <;> simp only [backTV] at h <;> try (cases h; done)
    split at h
    · rename_i l' ps os' q r h1 h2
      injection h with h; injection h with e1 e2; subst e1; subst e2
      exact ⟨.addr i 0 0, ps ++ [.box i off l'], os', q, r, by simp only [backLeaf, h1], h2, by simp, rfl⟩
    · exact absurd h (by simp)

theorem backs_ok : ∀ (vs : List TV) (ms : List Mode) (ts : List LT) (cs : List Value) (bs : List Back) (fs : List TV) (lfs : List LT) (ws : List Patch) (os : List (Nat × Obj)), ArgsR β ms vs ts bs → FinR w' M' ms vs ts cs fs lfs → backTV bs fs = some (ws, os) →
    (∀ l ∈ LooseF fs lfs, ∀ b j, l.F b j → M' b j ∧ (w.heap.size ≤ b ∨ G b j)) → (∀ p ∈ tops β bs lfs, β' p.1 = p.2) → (∀ i off cells, Patch.box i off cells ∈ ws → β' i = β i) → (∀ i sz es, Patch.buf i sz es ∈ ws → β' i = β i) →
    BackOut β β' G w w' M' ws os (tops β bs lfs) (Back.idsL bs) (Back.bldsL bs) (FixA ms vs ts)
  | [], ms, ts, cs, bs, fs, lfs, ws, os, hA, hFin, h, hF, hβ, hk, hk2 => by
    simp only [ArgsR] at hA
    obtain ⟨rfl, rfl⟩ := hA
    simp only [FinR] at hFin
    obtain ⟨rfl, rfl⟩ := hFin
    simp only [backTV] at h
    injection h with h; injection h with h1 h2; subst h1; subst h2
    simp only [tops, Back.idsL, Back.bldsL, List.flatMap_nil, FixA]
    exact BackOut.none
  | .pv x :: vs, ms, ts, cs, bs, fs, lfs, ws, os, hA, hFin, h, hF, hβ, hk, hk2 => by
    simp only [ArgsR] at hA
    obtain ⟨t, r, rfl, hA⟩ := hA
    simp only [FinR] at hFin
    obtain ⟨t', r', c, d, e, rfl, hFin⟩ := hFin
    injection e with e1 e2; subst e1; subst e2
    simp only [FixA]
    exact backs_ok vs ms.tail r d bs fs lfs ws os hA hFin h hF hβ hk hk2
  | .own sz0 es0 :: vs, ms, ts, cs, bs, fs, lfs, ws, os, hA, hFin, h, hF, hβ, hk, hk2 => by
    simp only [ArgsR] at hA
    obtain ⟨t, r, rfl, hA⟩ := hA
    simp only [FinR] at hFin
    obtain ⟨t', r', c, d, e, rfl, hFin⟩ := hFin
    injection e with e1 e2; subst e1; subst e2
    by_cases hm : ms.headD .borrow = .mut
    · rw [if_pos hm] at hA hFin
      obtain ⟨b, bs', rfl, hB, hkind, hA⟩ := hA
      obtain ⟨es', fr, lr, rfl, rfl, hT, hFin⟩ := hFin
      rcases hkind with ⟨i, rfl⟩ | rfl
      · simp only [backTV] at h
        split at h
        · rename_i q rr hr
          injection h with h; injection h with h1 h2; subst h1; subst h2
          have ih := backs_ok vs ms.tail r d bs' fr lr q rr hA hFin hr (fun l hl => hF l (by simp only [LooseF]; exact hl)) (fun p hp => hβ p (by simp only [tops, basg, List.nil_append]; exact hp)) (fun i off cells hm => hk i off cells (List.mem_cons_of_mem _ hm)) (fun i sz es hm => hk2 i sz es (List.mem_cons_of_mem _ hm))
          simp only [BackR] at hB
          subst hB
          simp only [TVL] at hT
          obtain ⟨l, e, _, hO⟩ := hT
          injection e with e; subst e
          have hbi := hk2 i sz0 es' (by simp)
          refine ⟨fun p hp => ?_, ih.objs, ?_, fun i' hi' => ?_, fun p hp => ?_, fun i' hi' => ?_, ih.refs, fun id off cs hm i' hi' => ?_, fun l hl x y hFl => ?_⟩
          · rcases List.mem_cons.1 hp with rfl | hp
            · refine ⟨hbi, ?_⟩
              rw [hbi]
              exact ObjR.mono (β := fun _ => β i) (o := .buf sz0 es') (fun _ _ _ h1 h2 => ⟨h1, h2⟩) (fun _ _ _ _ h => ⟨h, rfl⟩) (fun _ _ h => h) (fun _ _ _ => rfl) (by simp [Obj.refs]) hO
            · exact ih.patch p hp
          · simp only [List.map_cons, Patch.id, Back.idsL, List.flatMap_cons, Back.ids, List.singleton_append]
            exact List.Perm.cons i ih.pids
          · have : i' ∈ Back.bldsL bs' := by simpa [Back.bldsL, Back.blds] using hi'
            exact (ih.pblds i' this).imp fun _ h => List.mem_cons_of_mem _ h
          · simp only [tops, basg, List.nil_append] at hp
            exact (ih.asg p hp).imp (fun h => h) (fun ⟨x, h⟩ => ⟨x, List.mem_cons_of_mem _ h⟩)
          · simp only [tops, basg, List.nil_append]; exact ih.osas i' hi'
          · rcases List.mem_cons.1 hm with hm | hm
            · cases hm
            · exact (ih.prefs id off cs hm i' hi').imp (fun h => by simp only [Back.idsL, List.flatMap_cons]; exact List.mem_append.2 (.inr h)) (fun h => h)
          · simp only [FixA, if_pos hm, LT.locs, List.singleton_append, List.mem_cons] at hl
            rcases hl with rfl | hl
            · exact ⟨_, List.mem_cons_self, hFl⟩
            · obtain ⟨p, p1, p2⟩ := ih.touch l hl x y hFl
              exact ⟨p, List.mem_cons_of_mem _ p1, p2⟩
        · exact absurd h (by simp)
      · cases es' with
        | cons e es => simp only [backTV] at h; exact absurd h (by simp)
        | nil =>
          simp only [backTV] at h
          have ih := backs_ok vs ms.tail r d bs' fr lr ws os hA hFin h (fun l hl => hF l (by simp only [LooseF]; exact hl)) (fun p hp => hβ p (by simp only [tops, basg, List.nil_append]; exact hp)) hk hk2
          have e1 : tops β (Back.nilSl :: bs') (t :: lr) = tops β bs' lr := by simp only [tops, basg, List.nil_append]
          have e2 : Back.idsL (Back.nilSl :: bs') = Back.idsL bs' := by simp [Back.idsL, Back.ids]
          have e3 : Back.bldsL (Back.nilSl :: bs') = Back.bldsL bs' := by simp [Back.bldsL, Back.blds]
          rw [e1, e2, e3]
          refine { ih with touch := fun l hl x y hFl => ?_ }
          simp only [FixA, if_pos hm] at hl
          rcases List.mem_append.1 hl with hl | hl
          · simp only [BackR] at hB
            obtain ⟨l0, rfl, hb1, hb2⟩ := hB
            simp [LT.locs] at hl; subst hl
            rcases hFl with ⟨o', t1, _⟩ | ⟨n, t1, _⟩
            · rw [hb1] at t1; simp at t1
            · rw [hb2] at t1; simp at t1
          · exact ih.touch l hl x y hFl
    · rw [if_neg hm] at hA hFin
      simp only [FixA, if_neg hm, List.nil_append]
      exact backs_ok vs ms.tail r d bs fs lfs ws os hA hFin h hF hβ hk hk2
  | .bld s0 :: vs, ms, ts, cs, bs, fs, lfs, ws, os, hA, hFin, h, hF, hβ, hk, hk2 => by
    simp only [ArgsR] at hA
    obtain ⟨t, r, rfl, b, bs', rfl, hB, hkind, hA⟩ := hA
    simp only [FinR] at hFin
    obtain ⟨t', r', c, d, e, rfl, f, fr, lf, lr, rfl, rfl, hT, hL, hFin⟩ := hFin
    injection e with e1 e2; subst e1; subst e2
    obtain ⟨a, p, o, q, rr, h1, h2, rfl, rfl⟩ := backTV_cons (.inl hkind) h
    have hlo : LooseF (f :: fr) (lf :: lr) = lf.loose ++ LooseF fr lr := by
      obtain ⟨i, rfl⟩ := hkind
      cases f <;> simp only [backLeaf] at h1 <;> first | (cases h1; done) | simp only [LooseF]
    obtain ⟨_, _, k⟩ := backLeaf_ok (some b) 0 0 t lf f c a p o h1 hT (fun b' hb' => by injection hb' with hb'; subst hb'; exact hB) (by simp) hL (fun l hl => hF l (by rw [hlo]; exact List.mem_append.2 (.inl hl))) (fun x hx => hβ x (by simp only [tops]; exact List.mem_append.2 (.inl hx))) (fun i off cs hm => hk i off cs (List.mem_append.2 (.inl hm)))
    have ih := backs_ok vs ms.tail r d bs' fr lr q rr hA hFin h2 (fun l hl => hF l (by rw [hlo]; exact List.mem_append.2 (.inr hl))) (fun x hx => hβ x (by simp only [tops]; exact List.mem_append.2 (.inr hx))) (fun i off cs hm => hk i off cs (List.mem_append.2 (.inr hm))) (fun i sz es hm => hk2 i sz es (List.mem_append.2 (.inr hm)))
    simp only [tops, Back.idsL, Back.bldsL, List.flatMap_cons, FixA]
    exact k.append ih
  | .ptr s0 :: vs, ms, ts, cs, bs, fs, lfs, ws, os, hA, hFin, h, hF, hβ, hk, hk2 => by
    simp only [ArgsR] at hA
    obtain ⟨t, r, rfl, b, bs', rfl, hB, hkind, hA⟩ := hA
    simp only [FinR] at hFin
    obtain ⟨t', r', c, d, e, rfl, f, fr, lf, lr, rfl, rfl, hT, hL, hFin⟩ := hFin
    injection e with e1 e2; subst e1; subst e2
    obtain ⟨a, p, o, q, rr, h1, h2, rfl, rfl⟩ := backTV_cons (.inr hkind) h
    have hlo : LooseF (f :: fr) (lf :: lr) = lf.loose ++ LooseF fr lr := by
      obtain ⟨i, off, l, rfl⟩ := hkind
      cases f <;> simp only [backLeaf] at h1 <;> first | (cases h1; done) | simp only [LooseF]
    obtain ⟨_, _, k⟩ := backLeaf_ok (some b) 0 0 t lf f c a p o h1 hT (fun b' hb' => by injection hb' with hb'; subst hb'; exact hB) (by simp) hL (fun l hl => hF l (by rw [hlo]; exact List.mem_append.2 (.inl hl))) (fun x hx => hβ x (by simp only [tops]; exact List.mem_append.2 (.inl hx))) (fun i off cs hm => hk i off cs (List.mem_append.2 (.inl hm)))
    have ih := backs_ok vs ms.tail r d bs' fr lr q rr hA hFin h2 (fun l hl => hF l (by rw [hlo]; exact List.mem_append.2 (.inr hl))) (fun x hx => hβ x (by simp only [tops]; exact List.mem_append.2 (.inr hx))) (fun i off cs hm => hk i off cs (List.mem_append.2 (.inr hm))) (fun i sz es hm => hk2 i sz es (List.mem_append.2 (.inr hm)))
    simp only [tops, Back.idsL, Back.bldsL, List.flatMap_cons, FixA]
    exact k.append ih

/-- What the new places are. -/
structure AsgOut (β : Nat → Loc) (os : List (Nat × Obj)) (ba : List (Nat × Loc)) (blds : List Nat) (ls loose : List Loc) : Prop where
  perm : (ba.map (·.1)).Perm (os.map (·.1) ++ blds)
  pair : Apart ls → ba.Pairwise (fun p q => ∀ b j, p.2.F b j → ¬ q.2.F b j)
  mem : ∀ p ∈ ba, ∃ l ∈ loose, ∀ b j, p.2.F b j ↔ l.F b j
  same : ∀ p ∈ ba, p.1 ∈ os.map (·.1) ∨ (β p.1).same p.2

theorem AsgOut.none {β : Nat → Loc} (ls loose : List Loc) : AsgOut β [] [] [] ls loose := ⟨by simp, fun _ => List.Pairwise.nil, by simp, by simp⟩

theorem Apart.left {ls ls' : List Loc} (h : Apart (ls ++ ls')) : Apart ls := (List.pairwise_append.1 h).1
theorem Apart.right {ls ls' : List Loc} (h : Apart (ls ++ ls')) : Apart ls' := (List.pairwise_append.1 h).2.1

theorem AsgOut.append {β : Nat → Loc} {os os' : List (Nat × Obj)} {ba ba' : List (Nat × Loc)} {blds blds' : List Nat} {ls ls' lo lo' : List Loc} (h : AsgOut β os ba blds ls lo) (k : AsgOut β os' ba' blds' ls' lo') (hl : ∀ l ∈ lo, l ∈ ls) (hl' : ∀ l ∈ lo', l ∈ ls') :
    AsgOut β (os ++ os') (ba ++ ba') (blds ++ blds') (ls ++ ls') (lo ++ lo') where
  perm := by
    rw [List.map_append, List.map_append]
    exact (List.Perm.append h.perm k.perm).trans (perm4 _ _ _ _)
  pair ha := by
    refine List.pairwise_append.2 ⟨h.pair ha.left, k.pair ha.right, fun p hp q hq b j hF hF' => ?_⟩
    obtain ⟨l, l1, l2⟩ := h.mem p hp
    obtain ⟨l', l3, l4⟩ := k.mem q hq
    exact (List.pairwise_append.1 ha).2.2 l (hl l l1) l' (hl' l' l3) b j ((l2 b j).1 hF) ((l4 b j).1 hF')
  mem p hp := by
    rcases List.mem_append.1 hp with hp | hp
    · obtain ⟨l, l1, l2⟩ := h.mem p hp; exact ⟨l, List.mem_append.2 (.inl l1), l2⟩
    · obtain ⟨l, l1, l2⟩ := k.mem p hp; exact ⟨l, List.mem_append.2 (.inr l1), l2⟩
  same p hp := by
    rw [List.map_append]
    rcases List.mem_append.1 hp with hp | hp
    · exact (h.same p hp).imp (fun h => List.mem_append.2 (.inl h)) (fun h => h)
    · exact (k.same p hp).imp (fun h => List.mem_append.2 (.inr h)) (fun h => h)

theorem loose_locs (t : LT) : ∀ l ∈ t.loose, l ∈ t.locs := fun l hl => (LT.mem_locs t l).2 (.inl hl)
theorem looseL_locs (ts : List LT) : ∀ l ∈ LT.looseL ts, l ∈ LT.locsL ts := fun l hl => (LT.mem_locsL ts l).2 (.inl hl)

mutual
theorem basg_out : ∀ (ob : Option Back) (id j : Nat) (t lf : LT) (f : TV) (c : Value) (a : AV) (ps : List Patch) (os : List (Nat × Obj)), backLeaf id j ob f = some (a, ps, os) → TVL w' M' f lf c →
    (∀ b, ob = some b → BackR β b t) → like t lf → AsgOut β os (basg β id j ob lf) (oblds ob) lf.locs lf.loose
  | some (.box i off bs), id, j, t, lf, f, c, a, ps, os, h, hT, hB, hL => by
    cases f <;> simp only [backLeaf] at h <;> try (cases h; done)
    rename_i cells
    split at h
    · rename_i l ps' os' hl
      injection h with h; injection h with h1 h; injection h with h2 h3; subst h1; subst h2; subst h3
      have hb := hB _ rfl
      simp only [BackR] at hb
      obtain ⟨l0, subs, b, o, rfl, hb1, hb2, hb3, hb4, hb5, hb6⟩ := hb
      simp only [like] at hL
      obtain ⟨l1, subs1, rfl, e1, e2, e3, hL⟩ := hL
      simp only [TVL] at hT
      obtain ⟨l2, subs2, b2, o2, e, h21, h22, h23, h24, hT⟩ := hT
      injection e with e4 e5; subst e4; subst e5
      have k := basgs_out bs i off subs subs1 cells b2 o2 l ps' os' hl hT hb6 hL
      simp only [basg, oblds, Back.blds, LT.locs, LT.loose]
      exact { k with pair := fun ha => k.pair (List.pairwise_cons.1 ha).2 }
    · exact absurd h (by simp)
  | some (.own i), id, j, t, lf, f, c, a, ps, os, h, hT, hB, hL => by cases f <;> simp only [backLeaf] at h <;> cases h
  | some .nilSl, id, j, t, lf, f, c, a, ps, os, h, hT, hB, hL => by cases f <;> simp only [backLeaf] at h <;> cases h
  | some (.bld i), id, j, t, lf, f, c, a, ps, os, h, hT, hB, hL => by
    cases f <;> simp only [backLeaf] at h <;> try (cases h; done)
    rename_i bs
    injection h with h; injection h with h1 h; injection h with h2 h3; subst h1; subst h2; subst h3
    have hb := hB _ rfl
    simp only [BackR] at hb
    obtain ⟨rfl, hb2⟩ := hb
    simp only [like] at hL
    obtain ⟨l1, rfl, e1⟩ := hL
    simp only [TVL] at hT
    obtain ⟨l2, b2, o2, e, h21, h22, h23⟩ := hT
    injection e with e4; subst e4
    simp only [basg, oblds, Back.blds, LT.locs, LT.loose]
    refine ⟨by simp, fun _ => List.pairwise_singleton _ _, fun p hp => ?_, fun p hp => .inr ?_⟩
    · simp at hp; subst hp
      exact ⟨l1, by simp, Loc.F_of e1 (by rw [h23.k2]; exact hb2.symm) rfl⟩
    · simp at hp; subst hp; exact ⟨rfl, rfl, rfl, rfl⟩
  | none, id, j, t, lf, f, c, a, ps, os, h, hT, hB, hL => by
    cases f <;> simp only [backLeaf] at h <;> try (cases h; done)
    · injection h with h; injection h with h1 h; injection h with h2 h3; subst h1; subst h2; subst h3
      simp only [TVL] at hT
      obtain ⟨rfl, hT⟩ := hT
      simp only [basg, oblds]; exact AsgOut.none _ _
    · rename_i sz es
      injection h with h; injection h with h1 h; injection h with h2 h3; subst h1; subst h2; subst h3
      simp only [TVL] at hT
      obtain ⟨l, rfl, h1, h2⟩ := hT
      simp only [basg, oblds, LT.locs, LT.loose]
      refine ⟨by simp, fun _ => List.pairwise_singleton _ _, fun p hp => ?_, fun p hp => .inl ?_⟩
      · simp at hp; subst hp; exact ⟨l, by simp, fun _ _ => Iff.rfl⟩
      · simp at hp; subst hp; simp
theorem basgs_out : ∀ (bs : List (Option Back)) (id j : Nat) (ts lfs : List LT) (fs : List TV) (b o : Nat) (l : List AV) (ps : List Patch) (os : List (Nat × Obj)), backLeaves id j bs fs = some (l, ps, os) → TVLs w' M' fs lfs b o →
    BackRs β bs ts → likes ts lfs → AsgOut β os (basgs β id j bs lfs) (Back.bldsO bs) (LT.locsL lfs) (LT.looseL lfs)
  | [], id, j, ts, lfs, fs, b, o, l, ps, os, h, hT, hB, hL => by
    cases fs <;> simp only [backLeaves] at h <;> try (cases h; done)
    injection h with h; injection h with h1 h; injection h with h2 h3; subst h1; subst h2; subst h3
    simp only [basgs, Back.bldsO]; exact AsgOut.none _ _
  | ob :: bs, id, j, ts, lfs, fs, b, o, l, ps, os, h, hT, hB, hL => by
    cases fs <;> simp only [backLeaves] at h <;> try (cases h; done)
    rename_i f fs
    split at h
    · rename_i a p os1 l' ps' os' h1 h2
      injection h with h; injection h with e1 h; injection h with e2 e3; subst e1; subst e2; subst e3
      simp only [TVLs] at hT
      obtain ⟨lf, lr, c, rfl, a1, a2, a3, hT1, hT2⟩ := hT
      have hts : ∃ t r, ts = t :: r ∧ (∀ b, ob = some b → BackR β b t) ∧ BackRs β bs r := by
        cases ob with
        | none =>
          simp only [BackRs] at hB
          obtain ⟨t, r, rfl, _, hB⟩ := hB
          exact ⟨t, r, rfl, by simp, hB⟩
        | some x =>
          simp only [BackRs] at hB
          obtain ⟨t, r, rfl, hB1, hB2, hB3⟩ := hB
          exact ⟨t, r, rfl, fun b hb => by injection hb with hb; subst hb; exact hB1, hB3⟩
      obtain ⟨t, r, rfl, hB1, hB3⟩ := hts
      simp only [likes] at hL
      obtain ⟨t', r', e, hL1, hL2⟩ := hL
      injection e with e1 e2; subst e1; subst e2
      rw [bldsO_cons]
      simp only [basgs, LT.locsL, LT.looseL]
      exact (basg_out ob id j t lf f c a p os1 h1 hT1 hB1 hL1).append (basgs_out bs id (j + 1) r lr fs b (o + 1) l' ps' os' h2 hT2 hB3 hL2) (loose_locs _) (looseL_locs _)
    · exact absurd h (by simp)
end

theorem AsgOut.skip {β : Nat → Loc} {os : List (Nat × Obj)} {ba : List (Nat × Loc)} {blds : List Nat} {ls lo : List Loc} (h : AsgOut β os ba blds ls lo) (t : List Loc) : AsgOut β os ba blds (t ++ ls) lo :=
  { h with pair := fun ha => h.pair ha.right }

theorem looseF_locs : ∀ (fs : List TV) (ts : List LT), ∀ l ∈ LooseF fs ts, l ∈ LT.locsL ts
  | [], ts, l, hl => by simp [LooseF] at hl
  | f :: fs, [], l, hl => by cases f <;> simp [LooseF] at hl
  | f :: fs, t :: ts, l, hl => by
    simp only [LT.locsL, List.mem_append]
    cases f <;> simp only [LooseF, List.mem_append] at hl
    case own => exact .inr (looseF_locs fs ts l hl)
    all_goals exact hl.imp (loose_locs t l) (looseF_locs fs ts l)

theorem tops_out : ∀ (vs : List TV) (ms : List Mode) (ts : List LT) (cs : List Value) (bs : List Back) (fs : List TV) (lfs : List LT) (ws : List Patch) (os : List (Nat × Obj)), ArgsR β ms vs ts bs → FinR w' M' ms vs ts cs fs lfs → backTV bs fs = some (ws, os) →
    AsgOut β os (tops β bs lfs) (Back.bldsL bs) (LT.locsL lfs) (LooseF fs lfs)
  | [], ms, ts, cs, bs, fs, lfs, ws, os, hA, hFin, h => by
    simp only [ArgsR] at hA
    obtain ⟨rfl, rfl⟩ := hA
    simp only [FinR] at hFin
    obtain ⟨rfl, rfl⟩ := hFin
    simp only [backTV] at h
    injection h with h; injection h with h1 h2; subst h1; subst h2
    simp only [tops, Back.bldsL, List.flatMap_nil]
    exact AsgOut.none _ _
  | .pv x :: vs, ms, ts, cs, bs, fs, lfs, ws, os, hA, hFin, h => by
    simp only [ArgsR] at hA
    obtain ⟨t, r, rfl, hA⟩ := hA
    simp only [FinR] at hFin
    obtain ⟨t', r', c, d, e, rfl, hFin⟩ := hFin
    injection e with e1 e2; subst e1; subst e2
    exact tops_out vs ms.tail r d bs fs lfs ws os hA hFin h
  | .own sz0 es0 :: vs, ms, ts, cs, bs, fs, lfs, ws, os, hA, hFin, h => by
    simp only [ArgsR] at hA
    obtain ⟨t, r, rfl, hA⟩ := hA
    simp only [FinR] at hFin
    obtain ⟨t', r', c, d, e, rfl, hFin⟩ := hFin
    injection e with e1 e2; subst e1; subst e2
    by_cases hm : ms.headD .borrow = .mut
    · rw [if_pos hm] at hA hFin
      obtain ⟨b, bs', rfl, hB, hkind, hA⟩ := hA
      obtain ⟨es', fr, lr, rfl, rfl, hT, hFin⟩ := hFin
      rcases hkind with ⟨i, rfl⟩ | rfl
      · simp only [backTV] at h
        split at h
        · rename_i q rr hr
          injection h with h; injection h with h1 h2; subst h1; subst h2
          have ih := tops_out vs ms.tail r d bs' fr lr q rr hA hFin hr
          simp only [tops, basg, List.nil_append, Back.bldsL, List.flatMap_cons, Back.blds, LT.locsL, LooseF]
          exact ih.skip _
        · exact absurd h (by simp)
      · cases es' with
        | cons e es => simp only [backTV] at h; exact absurd h (by simp)
        | nil =>
          simp only [backTV] at h
          have ih := tops_out vs ms.tail r d bs' fr lr ws os hA hFin h
          simp only [tops, basg, List.nil_append, Back.bldsL, List.flatMap_cons, Back.blds, LT.locsL, LooseF]
          exact ih.skip _
    · rw [if_neg hm] at hA hFin
      exact tops_out vs ms.tail r d bs fs lfs ws os hA hFin h
  | .bld s0 :: vs, ms, ts, cs, bs, fs, lfs, ws, os, hA, hFin, h => by
    simp only [ArgsR] at hA
    obtain ⟨t, r, rfl, b, bs', rfl, hB, hkind, hA⟩ := hA
    simp only [FinR] at hFin
    obtain ⟨t', r', c, d, e, rfl, f, fr, lf, lr, rfl, rfl, hT, hL, hFin⟩ := hFin
    injection e with e1 e2; subst e1; subst e2
    obtain ⟨a, p, o, q, rr, h1, h2, rfl, rfl⟩ := backTV_cons (.inl hkind) h
    have hlo : LooseF (f :: fr) (lf :: lr) = lf.loose ++ LooseF fr lr := by
      obtain ⟨i, rfl⟩ := hkind
      cases f <;> simp only [backLeaf] at h1 <;> first | (cases h1; done) | simp only [LooseF]
    rw [hlo]
    simp only [tops, Back.bldsL, List.flatMap_cons, LT.locsL]
    exact (basg_out (some b) 0 0 t lf f c a p o h1 hT (fun b' hb' => by injection hb' with hb'; subst hb'; exact hB) hL).append (tops_out vs ms.tail r d bs' fr lr q rr hA hFin h2) (loose_locs _) (looseF_locs _ _)
  | .ptr s0 :: vs, ms, ts, cs, bs, fs, lfs, ws, os, hA, hFin, h => by
    simp only [ArgsR] at hA
    obtain ⟨t, r, rfl, b, bs', rfl, hB, hkind, hA⟩ := hA
    simp only [FinR] at hFin
    obtain ⟨t', r', c, d, e, rfl, f, fr, lf, lr, rfl, rfl, hT, hL, hFin⟩ := hFin
    injection e with e1 e2; subst e1; subst e2
    obtain ⟨a, p, o, q, rr, h1, h2, rfl, rfl⟩ := backTV_cons (.inr hkind) h
    have hlo : LooseF (f :: fr) (lf :: lr) = lf.loose ++ LooseF fr lr := by
      obtain ⟨i, off, l, rfl⟩ := hkind
      cases f <;> simp only [backLeaf] at h1 <;> first | (cases h1; done) | simp only [LooseF]
    rw [hlo]
    simp only [tops, Back.bldsL, List.flatMap_cons, LT.locsL]
    exact (basg_out (some b) 0 0 t lf f c a p o h1 hT (fun b' hb' => by injection hb' with hb'; subst hb'; exact hB) hL).append (tops_out vs ms.tail r d bs' fr lr q rr hA hFin h2) (loose_locs _) (looseF_locs _ _)

end

end Go.Proofs.Ytmjkdghcfihfiaa.Vm
