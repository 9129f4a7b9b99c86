/-
  Arguments: how they are handed over.
-/
import Derived.Test.YtmjkdghcfihfiaaVmTV
namespace Go.Proofs.Ytmjkdghcfihfiaa.Vm
open Go
set_option linter.unusedVariables false
set_option linter.unusedSimpArgs false

mutual
/-- Where what comes back goes: to the places that it had. -/
def BackR (β : Nat → Loc) : Back → LT → Prop
  | .box i off bs, t => ∃ l subs b o, t = .box l subs ∧ (β i).base = some (b, o) ∧ l.base = some (b, o + off) ∧ l.k = bs.length ∧ off + bs.length ≤ (β i).k ∧ l.ext = none ∧ BackRs β bs subs
  | .own i, t => t = .one (β i)
  | .nilSl, t => ∃ l, t = .one l ∧ l.base = none ∧ l.ext = none
  | .bld i, t => t = .bld (β i) ∧ (β i).k = 2
def BackRs (β : Nat → Loc) : List (Option Back) → List LT → Prop
  | [], ts => ts = []
  | none :: bs, ts => ∃ t r, ts = t :: r ∧ t.fixed = [] ∧ BackRs β bs r
  | some x :: bs, ts => ∃ t r, ts = t :: r ∧ BackR β x t ∧ (∀ i off l, x = .box i off l → off = 0) ∧ BackRs β bs r
end

def oids : Option Back → List Nat
  | none => []
  | some b => b.ids
theorem idsO_cons (b : Option Back) (bs : List (Option Back)) : Back.idsO (b :: bs) = oids b ++ Back.idsO bs := by
  cases b <;> simp [Back.idsO, oids]

/-- Places that are handed over, and the objects whose they are. -/
def OwnL (V : View) (β : Nat → Loc) : List Loc → List Nat → Prop
  | [], js => js = []
  | l :: ls, js => ((∀ b j, ¬ l.F b j) ∧ OwnL V β ls js) ∨ ∃ i r, js = i :: r ∧ ((∃ o, V.obj i = some o) ∧ ∀ b j, l.F b j → (β i).F b j) ∧ OwnL V β ls r

theorem OwnL.append {V : View} {β : Nat → Loc} : ∀ {ls ls' : List Loc} {js js' : List Nat}, OwnL V β ls js → OwnL V β ls' js' → OwnL V β (ls ++ ls') (js ++ js')
  | [], ls', js, js', h, k => by simp only [OwnL] at h; subst h; exact k
  | l :: ls, ls', js, js', h, k => by
    simp only [OwnL] at h
    simp only [List.cons_append, OwnL]
    rcases h with ⟨h1, h2⟩ | ⟨i, r, rfl, h1, h2⟩
    · exact .inl ⟨h1, OwnL.append h2 k⟩
    · exact .inr ⟨i, r ++ js', rfl, h1, OwnL.append h2 k⟩
theorem OwnL.nil {V : View} {β : Nat → Loc} : OwnL V β [] [] := by simp only [OwnL]
theorem OwnL.cons {V : View} {β : Nat → Loc} {i : Nat} {l : Loc} {js : List Nat} {ls : List Loc} (h : (∃ o, V.obj i = some o) ∧ ∀ b j, l.F b j → (β i).F b j) (k : OwnL V β ls js) : OwnL V β (l :: ls) (i :: js) := by simp only [OwnL]; exact .inr ⟨i, js, rfl, h, k⟩
theorem OwnL.mem {V : View} {β : Nat → Loc} : ∀ {ls : List Loc} {js : List Nat}, OwnL V β ls js → ∀ l ∈ ls, ∀ b j, l.F b j → ∃ i ∈ js, (∃ o, V.obj i = some o) ∧ (β i).F b j
  | [], _, _, l, hl => by simp at hl
  | l0 :: ls, js, h, l, hl => by
    intro b j hF
    simp only [OwnL] at h
    rcases h with ⟨h1, h2⟩ | ⟨i, r, rfl, h1, h2⟩
    · rcases List.mem_cons.1 hl with rfl | hl
      · exact absurd hF (h1 b j)
      · exact OwnL.mem h2 l hl b j hF
    · rcases List.mem_cons.1 hl with rfl | hl
      · exact ⟨i, by simp, h1.1, h1.2 b j hF⟩
      · obtain ⟨i', k1, k2⟩ := OwnL.mem h2 l hl b j hF
        exact ⟨i', by simp [k1], k2⟩
theorem OwnL.ids {V : View} {β : Nat → Loc} : ∀ {ls : List Loc} {js : List Nat}, OwnL V β ls js → ∀ i ∈ js, ∃ o, V.obj i = some o
  | [], js, h, i, hi => by simp only [OwnL] at h; subst h; simp at hi
  | l0 :: ls, js, h, i', hi => by
    simp only [OwnL] at h
    rcases h with ⟨h1, h2⟩ | ⟨i, r, rfl, h1, h2⟩
    · exact OwnL.ids h2 i' hi
    · rcases List.mem_cons.1 hi with rfl | hi
      · exact h1.1
      · exact OwnL.ids h2 i' hi
/-- Places of distinct objects lie apart. -/
theorem OwnL.pairwise {M0 M : Cells} {V : View} {β : Nat → Loc} {tm : Array Value} {w : World} (hV : VR M0 M β V tm w) : ∀ {ls : List Loc} {js : List Nat}, OwnL V β ls js → js.Nodup → ls.Pairwise (fun l l' => ∀ b j, l.F b j → ¬ l'.F b j)
  | [], _, _, _ => List.Pairwise.nil
  | l0 :: ls, js, h, hn => by
    simp only [OwnL] at h
    rcases h with ⟨h1, h2⟩ | ⟨i, r, rfl, h1, h2⟩
    · exact List.Pairwise.cons (fun l hl b j hF _ => h1 b j hF) (OwnL.pairwise hV h2 hn)
    · rw [List.nodup_cons] at hn
      refine List.Pairwise.cons (fun l hl b j hF hF' => ?_) (OwnL.pairwise hV h2 hn.2)
      obtain ⟨i', k1, ⟨o', ho'⟩, k3⟩ := h2.mem l hl b j hF'
      obtain ⟨⟨o, ho⟩, k2⟩ := h1
      exact hV.disj i i' o o' ho ho' (fun e => hn.1 (e ▸ k1)) b j (k2 b j hF) k3

theorem perm4 (a b c d : List Nat) : ((a ++ b) ++ (c ++ d)).Perm ((a ++ c) ++ (b ++ d)) := by
  rw [List.append_assoc, List.append_assoc]
  refine List.Perm.append_left a ?_
  rw [← List.append_assoc, ← List.append_assoc]
  exact List.Perm.append_right d List.perm_append_comm

section
variable {M0 M : Cells} {β : Nat → Loc} {V : View} {tm : Array Value} {w : World}

def oblds : Option Back → List Nat
  | none => []
  | some b => b.blds
theorem bldsO_cons (b : Option Back) (bs : List (Option Back)) : Back.bldsO (b :: bs) = oblds b ++ Back.bldsO bs := by
  cases b <;> simp [Back.bldsO, oblds]
/-- Cells of loose places are those of objects that go along, or of Builders. -/
def LooseR (V : View) (β : Nat → Loc) (ls : List Loc) (ids blds : List Nat) : Prop :=
  ∀ l ∈ ls, ∀ b j, l.F b j → (∃ i ∈ ids, (∃ o, V.obj i = some o) ∧ (β i).F b j) ∨ ∃ i ∈ blds, (β i).F b j
theorem LooseR.append {V : View} {β : Nat → Loc} {ls ls' : List Loc} {a b a' b' : List Nat} (h : LooseR V β ls a b) (k : LooseR V β ls' a' b') : LooseR V β (ls ++ ls') (a ++ a') (b ++ b') := by
  intro l hl x j hF
  rcases List.mem_append.1 hl with hl | hl
  · rcases h l hl x j hF with ⟨i, h1, h2⟩ | ⟨i, h1, h2⟩
    · exact .inl ⟨i, by simp [h1], h2⟩
    · exact .inr ⟨i, by simp [h1], h2⟩
  · rcases k l hl x j hF with ⟨i, h1, h2⟩ | ⟨i, h1, h2⟩
    · exact .inl ⟨i, by simp [h1], h2⟩
    · exact .inr ⟨i, by simp [h1], h2⟩

def LeafOK (V : View) (β : Nat → Loc) (w : World) (M : Cells) (x : TV) (ids : List Nat) (ob : Option Back) (c : Value) : Prop :=
  ∃ t js, TVL w M x t c ∧ js.Perm (ids ++ oids ob) ∧ OwnL V β t.locs js ∧ (∀ b, ob = some b → BackR β b t ∧ ∀ i off l, b = .box i off l → off = 0) ∧ LooseR V β t.loose ids (oblds ob) ∧ (ob = none → t.fixed = [])

theorem leafs_of (n : Nat) (hleaf : ∀ (v : AV) (c : Value) (x : TV) (ids : List Nat) (ob : Option Back), AVR β w M v c → leafTV V n v = some (x, ids, ob) → LeafOK V β w M x ids ob c) :
    ∀ (cs : List AV) (b o : Nat) (l : List TV) (ids : List Nat) (bs : List (Option Back)),
      (∀ (j : Nat) (v : AV), cs[j]? = some v → ∃ c, at_ w b (o + j) = some c ∧ frz_ w b (o + j) = false ∧ c.oneCell' = true ∧ AVR β w M v c) → leafTVs (leafTV V n) cs = some (l, ids, bs) →
      l.length = cs.length ∧ bs.length = cs.length ∧ ∃ ts js, TVLs w M l ts b o ∧ js.Perm (ids ++ Back.idsO bs) ∧ OwnL V β (LT.locsL ts) js ∧ BackRs β bs ts ∧ LooseR V β (LT.looseL ts) ids (Back.bldsO bs)
  | [], b, o, l, ids, bs, hc, h => by
    simp only [leafTVs, Option.some.injEq, Prod.mk.injEq] at h
    obtain ⟨rfl, rfl, rfl⟩ := h
    exact ⟨rfl, rfl, [], [], by simp only [TVLs], by simp [Back.idsO], OwnL.nil, by simp only [BackRs], by simp [LooseR, LT.looseL]⟩
  | v :: cs, b, o, l, ids, bs, hc, h => by
    simp only [leafTVs] at h
    split at h
    · rename_i x i ob l' is bs' hx hl
      injection h with h; injection h with h1 h; injection h with h2 h3; subst h1; subst h2; subst h3
      obtain ⟨c, a1, a2, a3, a4⟩ := hc 0 v rfl
      obtain ⟨t, js, k1, k2, k3, k4, k5, k6⟩ := hleaf v c x i ob a4 hx
      obtain ⟨q1, q2, ts, js', q3, q4, q5, q6, q7⟩ := leafs_of n hleaf cs b (o + 1) l' is bs' (fun j v hj => by
        have := hc (j + 1) v (by simpa using hj)
        rwa [show o + (j + 1) = o + 1 + j by omega] at this) hl
      refine ⟨by simp [q1], by simp [q2], t :: ts, js ++ js', ?_, ?_, ?_, ?_, by rw [bldsO_cons]; simp only [LT.looseL]; exact k5.append q7⟩
      · simp only [TVLs]; exact ⟨t, ts, c, rfl, by simpa using a1, by simpa using a2, a3, k1, q3⟩
      · rw [idsO_cons]; exact (List.Perm.append k2 q4).trans (perm4 _ _ _ _)
      · simp only [LT.locsL]; exact k3.append q5
      · cases ob with
        | none => simp only [BackRs]; exact ⟨t, ts, rfl, k6 rfl, q6⟩
        | some ob => simp only [BackRs]; exact ⟨t, ts, rfl, (k4 ob rfl).1, (k4 ob rfl).2, q6⟩
    · exact absurd h (by simp)

theorem leaf_ok (hV : VR M0 M β V tm w) : ∀ (n : Nat) (v : AV) (c : Value) (x : TV) (ids : List Nat) (ob : Option Back), AVR β w M v c → leafTV V n v = some (x, ids, ob) → LeafOK V β w M x ids ob c := by
  have ownCase : ∀ (id : Nat) (c : Value) (x : TV) (ids : List Nat) (ob : Option Back), AVR β w M (.own id) c → (match V.obj id with | some (.buf sz es) => some (TV.own sz es, [id], (none : Option Back)) | _ => none) = some (x, ids, ob) → LeafOK V β w M x ids ob c := by
    intro id c x ids ob hc h
    split at h
    · rename_i sz es ho
      injection h with h; injection h with h1 h; injection h with h2 h3; subst h1; subst h2; subst h3
      simp only [AVR] at hc
      refine ⟨.one (β id), [id], by simp only [TVL]; exact ⟨β id, rfl, hc, hV.objs id _ ho⟩, by simp [oids], ?_, by simp, fun l hl b j hF => .inl ⟨id, by simp, ⟨_, ho⟩, by simp [LT.loose] at hl; subst hl; exact hF⟩, fun _ => rfl⟩
      exact OwnL.cons ⟨⟨_, ho⟩, fun _ _ h => h⟩ OwnL.nil
    · exact absurd h (by simp)
  have pvCase : ∀ (y : PV) (c : Value) (x : TV) (ids : List Nat) (ob : Option Back), Rep w M y c → some (TV.pv y, ([] : List Nat), (none : Option Back)) = some (x, ids, ob) → LeafOK V β w M x ids ob c := by
    intro y c x ids ob hc h
    injection h with h; injection h with h1 h; injection h with h2 h3; subst h1; subst h2; subst h3
    exact ⟨.none, [], by simp only [TVL]; exact ⟨trivial, hc⟩, by simp [oids], OwnL.nil, by simp, by simp [LooseR, LT.loose], fun _ => rfl⟩
  have nilRep : Rep w M (.sl []) (.slice none 0 0) := by
    simp only [Rep]
    exact ⟨none, 0, rfl, Nat.le_refl _, fun _ => rfl, fun a ha => by simp at ha, 1, by simp only [RepRow]⟩
  intro n
  induction n with
  | zero =>
    intro v c x ids ob hc h
    simp only [leafTV] at h
    split at h
    · simp only [AVR] at hc; exact pvCase _ _ _ _ _ hc h
    · simp only [AVR] at hc; subst hc; exact pvCase _ _ _ _ _ nilRep h
    · exact ownCase _ _ _ _ _ hc h
    · exact absurd h (by simp)
  | succ n ih =>
    intro v c x ids ob hc h
    simp only [leafTV] at h
    split at h
    · simp only [AVR] at hc; exact pvCase _ _ _ _ _ hc h
    · simp only [AVR] at hc; subst hc; exact pvCase _ _ _ _ _ nilRep h
    · exact ownCase _ _ _ _ _ hc h
    · rename_i id
      simp only [AVR] at hc
      obtain ⟨b, o, hb, hc⟩ := hc
      simp only [Nat.zero_mul, Nat.add_zero] at hc
      split at h
      · rename_i cs ho
        split at h
        · rename_i l ids' bs hl
          injection h with h; injection h with h1 h; injection h with h2 h3; subst h1; subst h2; subst h3
          obtain ⟨b', o', q1, q2, q3, q4⟩ := hV.objs id _ ho
          rw [hb] at q1; injection q1 with q1; injection q1 with e1 e2; subst e1; subst e2
          obtain ⟨k1, k2, ts, js, k3, k4, k5, k6, k7⟩ := leafs_of n ih cs b o l ids' bs q4 hl
          refine ⟨.box (β id) ts, id :: js, ?_, ?_, ?_, ?_, by simpa only [oblds, Back.blds, LT.loose] using k7, fun h => by cases h⟩
          · simp only [TVL]; exact ⟨β id, ts, b, o, rfl, hb, by rw [q2, k1], q3, hc, k3⟩
          · simp only [oids, Back.ids]
            exact (List.Perm.cons id k4).trans (List.perm_middle.symm)
          · simp only [LT.locs]; exact OwnL.cons ⟨⟨_, ho⟩, fun _ _ h => h⟩ k5
          · intro b' hb'; injection hb' with hb'; subst hb'
            refine ⟨by simp only [BackR]; exact ⟨β id, ts, b, o, rfl, hb, by simpa using hb, by rw [q2, k2], by rw [q2, k2]; omega, q3, k6⟩, fun i off l e => by injection e with _ e _; exact e.symm⟩
        · exact absurd h (by simp)
      · rename_i bs ho
        have hbk : (β id).k = 2 := by
          obtain ⟨_, _, _, _, _, _, a2, _⟩ := hV.objs id _ ho
          exact a2.1
        injection h with h; injection h with h1 h; injection h with h2 h3; subst h1; subst h2; subst h3
        refine ⟨.bld (β id), [id], ?_, by simp [oids, Back.ids], OwnL.cons ⟨⟨_, ho⟩, fun _ _ h => h⟩ OwnL.nil, ?_, fun l hl b j hF => .inr ⟨id, by simp [oblds, Back.blds], by simp [LT.loose] at hl; subst hl; exact hF⟩, fun _ => rfl⟩
        · simp only [TVL]; exact ⟨β id, b, o, rfl, hb, hc, hV.objs id _ ho⟩
        · intro b' hb'; injection hb' with hb'; subst hb'; exact ⟨by simp only [BackR]; exact ⟨trivial, hbk⟩, fun i off l e => by cases e⟩
      · exact absurd h (by simp)
    · exact absurd h (by simp)

/-- An owned slice's elements, as a plain value's: where its cells are no longer written. -/
theorem own_rep (hV : VR M0 M β V tm w) {Ml : Cells} (hMl : ∀ b j, Ml b j → M b j) {id sz : Nat} {es : List (List PV)} (ho : V.obj id = some (.buf sz es)) (hF : ∀ b j, (β id).F b j → ¬ Ml b j) :
    (∀ c, c = (β id).hdr → Rep w Ml (.sl es) c) ∧ ∀ lo n c, AVR β w M (.part id lo n) c → Rep w Ml (.sl ((es.drop lo).take n)) c := by
  have hk : ∀ b o v, at_ w b o = some v → ¬ M b o → at_ w b o = some v ∧ ¬ Ml b o := fun b o v h1 h2 => ⟨h1, fun h => h2 (hMl _ _ h)⟩
  obtain ⟨q1, q2, q3, q4, q5, q6, q7, q8, q9⟩ := hV.objs id _ ho
  have row : ∀ b o, (β id).base = some (b, o) → RepRow w Ml (some ⟨b, o, none⟩) sz 0 es := by
    intro b o hb
    refine RepRow.of fun i e he => ?_
    obtain ⟨vs, k1, k2⟩ := (q9 b o hb).2 i e he
    refine ⟨_, vs, rfl, q8 e (List.mem_of_getElem? he), RepS.mono hk _ _ k1, fun j c hj => ?_⟩
    show at_ w b (o + (0 + i) * sz + j) = some c ∧ ¬ Ml b (o + (0 + i) * sz + j)
    rw [Nat.zero_add]
    refine ⟨k2 j c hj, hF _ _ (.inl ⟨o, hb, by omega, ?_⟩)⟩
    have hj' : j < sz := by
      have := (List.getElem?_eq_some_iff.1 hj).1
      rw [k1.length, q8 e (List.mem_of_getElem? he)] at this; exact this
    have hi := (List.getElem?_eq_some_iff.1 he).1
    have : (i + 1) * sz ≤ (β id).cap * sz := Nat.mul_le_mul_right _ (by omega)
    rw [Nat.add_mul] at this
    omega
  constructor
  · intro c hc
    subst hc
    simp only [Rep, Loc.hdr]
    cases hb : (β id).base with
    | none =>
      have hcap := q7 hb
      have he : es = [] := List.length_eq_zero_iff.1 (by omega)
      subst he
      exact ⟨none, 0, rfl, Nat.le_refl _, fun _ => rfl, fun p hp => by simp at hp, sz, by simp only [RepRow]⟩
    | some bo =>
      obtain ⟨b, o⟩ := bo
      exact ⟨_, (β id).cap, by rw [q3], by omega, fun h => by simp at h, fun p hp _ => by injection hp with hp; subst hp; rfl, sz, row b o hb⟩
  · intro lo n c hc
    simp only [AVR] at hc
    obtain ⟨A, cap, h1, h2, h3, h4, h5, h6⟩ := hc
    have hlen : ((es.drop lo).take n).length = n := by simp; omega
    simp only [Rep]
    refine ⟨A, cap, by rw [hlen]; exact h1, by rw [hlen]; exact h2, h3, fun p hp _ => h4 p hp, sz, ?_⟩
    by_cases hn : n = 0
    · subst hn; simp [RepRow]
    · obtain ⟨b, o, hb, hA⟩ := h6 (by omega)
      exact RepRow.cut (row b o hb) lo n A (fun _ => ⟨_, rfl, by rw [hA, q1]⟩)

/-- How each argument that is handed over by reference comes back. -/
def ArgsR (β : Nat → Loc) : List Mode → List TV → List LT → List Back → Prop
  | _, [], ts, bs => ts = [] ∧ bs = []
  | ms, .pv _ :: vs, ts, bs => ∃ t r, ts = t :: r ∧ ArgsR β ms.tail vs r bs
  | ms, .own _ _ :: vs, ts, bs => ∃ t r, ts = t :: r ∧ if ms.headD .borrow = .mut then ∃ b bs', bs = b :: bs' ∧ BackR β b t ∧ ((∃ i, b = .own i) ∨ b = .nilSl) ∧ ArgsR β ms.tail vs r bs' else ArgsR β ms.tail vs r bs
  | ms, .bld _ :: vs, ts, bs => ∃ t r, ts = t :: r ∧ ∃ b bs', bs = b :: bs' ∧ BackR β b t ∧ (∃ i, b = .bld i) ∧ ArgsR β ms.tail vs r bs'
  | ms, .ptr _ :: vs, ts, bs => ∃ t r, ts = t :: r ∧ ∃ b bs', bs = b :: bs' ∧ BackR β b t ∧ (∃ i off l, b = .box i off l) ∧ ArgsR β ms.tail vs r bs'

def TVAll (w : World) (M : Cells) : List TV → List LT → List Value → Prop
  | [], ts, cs => ts = [] ∧ cs = []
  | v :: vs, ts, cs => ∃ t r c d, ts = t :: r ∧ cs = c :: d ∧ TVL w M v t c ∧ TVAll w M vs r d

theorem TVL.sub {Ml : Cells} (hMl : ∀ b j, Ml b j → M b j) {v : TV} {t : LT} {c : Value} (h : TVL w M v t c) : TVL w Ml v t c :=
  TVL.mono rfl (fun _ _ _ h1 h2 => ⟨h1, fun h => h2 (hMl _ _ h)⟩) v t c (fun _ _ _ _ _ _ h => ⟨h, rfl⟩) h

theorem rep_one {x : PV} {c : Value} (h : Rep w M x c) (ho : oneLeaf x = true) : c.oneCell' = true := by
  cases x with
  | agg fs => simp [oneLeaf] at ho
  | sl es => simp only [Rep] at h; obtain ⟨_, _, rfl, _⟩ := h; rfl
  | fn f caps => simp only [Rep] at h; obtain ⟨_, rfl, _⟩ := h; rfl
  | iptr cs => simp only [Rep] at h; obtain ⟨_, _, _, rfl, _⟩ := h; rfl
  | int _ _ => simp only [Rep] at h; subst h; rfl
  | bool _ => simp only [Rep] at h; subst h; rfl
  | str _ => simp only [Rep] at h; subst h; rfl
  | nilIface => simp only [Rep] at h; subst h; rfl
  | nilPtr => simp only [Rep] at h; subst h; rfl
  | nilFn => simp only [Rep] at h; subst h; rfl
  | nilSlc => simp only [Rep] at h; subst h; rfl

theorem caps_rep : ∀ {l : List AV} {vs : List Value} {xs : List PV}, AVRs β w M l vs → pvs l = some xs → xs.all oneLeaf = true → RepS w M xs vs
  | [], vs, xs, h, hp, _ => by
    simp only [pvs, Option.some.injEq] at hp; subst hp
    simp only [AVRs] at h; subst h; simp only [RepS]
  | v :: l, vs, xs, h, hp, ha => by
    simp only [AVRs] at h
    obtain ⟨c, r, rfl, h1, h2⟩ := h
    cases v <;> simp only [pvs] at hp <;> try (cases hp; done)
    · split at hp
      · rename_i y l' hl
        injection hp with hp; subst hp
        rw [List.all_cons, Bool.and_eq_true] at ha
        simp only [AVR] at h1
        simp only [RepS]
        exact ⟨c, r, rfl, rep_one h1 ha.1, h1, caps_rep h2 hl ha.2⟩
      · exact absurd hp (by simp)
    · split at hp
      · rename_i l' hl
        injection hp with hp; subst hp
        rw [List.all_cons, Bool.and_eq_true] at ha
        simp only [AVR] at h1
        subst h1
        simp only [RepS]
        refine ⟨_, r, rfl, rfl, ?_, caps_rep h2 hl ha.2⟩
        simp only [Rep]
        exact ⟨none, 0, rfl, Nat.le_refl _, fun _ => rfl, fun a ha => by simp at ha, 1, by simp only [RepRow]⟩
      · exact absurd hp (by simp)

theorem lent_ok (hV : VR M0 M β V tm w) {Ml : Cells} (hMl : ∀ b j, Ml b j → M b j) {v : AV} {c : Value} {x : TV} {l : List Nat} (hc : AVR β w M v c) (h : lentTV V v = some (x, l)) (hF : ∀ i ∈ l, (∃ o, V.obj i = some o) → ∀ b j, (β i).F b j → ¬ Ml b j) :
    ∃ y, x = .pv y ∧ Rep w Ml y c := by
  have hk : ∀ b o v, at_ w b o = some v → ¬ M b o → at_ w b o = some v ∧ ¬ Ml b o := fun b o v h1 h2 => ⟨h1, fun h => h2 (hMl _ _ h)⟩
  unfold lentTV at h
  split at h
  · injection h with h; injection h with h1 h2; subst h1; subst h2
    simp only [AVR] at hc
    exact ⟨_, rfl, Rep.mono hk _ _ hc⟩
  · injection h with h; injection h with h1 h2; subst h1; subst h2
    simp only [AVR] at hc; subst hc
    refine ⟨_, rfl, ?_⟩
    simp only [Rep]
    exact ⟨none, 0, rfl, Nat.le_refl _, fun _ => rfl, fun a ha => by simp at ha, 1, by simp only [RepRow]⟩
  · split at h
    · rename_i id n es ho
      injection h with h; injection h with h1 h2; subst h1; subst h2
      simp only [AVR] at hc
      exact ⟨_, rfl, (own_rep hV hMl ho (hF _ (by simp) ⟨_, ho⟩)).1 c hc⟩
    · exact absurd h (by simp)
  · split at h
    · rename_i id lo n k es ho
      injection h with h; injection h with h1 h2; subst h1; subst h2
      exact ⟨_, rfl, (own_rep hV hMl ho (hF _ (by simp) ⟨_, ho⟩)).2 _ _ c hc⟩
    · exact absurd h (by simp)
  · split at h
    · rename_i fs _ l' hp
      injection h with h; injection h with h1 h2; subst h1; subst h2
      simp only [AVR] at hc
      obtain ⟨cs, rfl, hr, hone⟩ := hc
      have hs : AVS β w M fs cs.toList := ⟨(AVRs.length hr).symm, fun j x v hx hv => ⟨hone v (List.mem_of_getElem? hv), AVRs.get hr j x v hx hv⟩⟩
      refine ⟨_, rfl, ?_⟩
      simp only [Rep]
      exact ⟨cs, rfl, RepS.mono hk _ _ (pvs_ok hs hp)⟩
    · exact absurd h (by simp)
  · split at h
    · rename_i f caps _ l' hp
      split at h
      · rename_i hall
        injection h with h; injection h with h1 h2; subst h1; subst h2
        simp only [AVR] at hc
        obtain ⟨x, y, rfl, hx, hy⟩ := hc
        simp only [AVRs] at hx
        have hx0 : x = #[] := by apply Array.ext'; simpa using hx
        subst hx0
        refine ⟨_, rfl, ?_⟩
        simp only [Rep]
        exact ⟨y, rfl, RepS.mono hk _ _ (caps_rep hy hp hall)⟩
      · exact absurd h (by simp)
    · exact absurd h (by simp)
  · exact absurd h (by simp)

theorem ptrT_eq {P : Program} {t e : TypeId} (h : ptrT P t = some e) : P.underlying t = some (.pointer e) := by
  unfold ptrT at h
  split at h
  · injection h with h; subst h; assumption
  · exact absurd h (by simp)

/-- The loose places of arguments. -/
def LooseA : List Mode → List TV → List LT → List Loc
  | ms, .own _ _ :: vs, t :: ts => (if ms.headD .borrow = .mut then [] else t.locs) ++ LooseA ms.tail vs ts
  | ms, _ :: vs, t :: ts => t.loose ++ LooseA ms.tail vs ts
  | _, _, _ => []

/-- The places of arguments that stay. -/
def FixA : List Mode → List TV → List LT → List Loc
  | ms, .pv _ :: vs, _ :: ts => FixA ms.tail vs ts
  | ms, .own _ _ :: vs, t :: ts => (if ms.headD .borrow = .mut then t.locs else []) ++ FixA ms.tail vs ts
  | ms, _ :: vs, t :: ts => t.fixed ++ FixA ms.tail vs ts
  | _, _, _ => []

def ArgOK (V : View) (β : Nat → Loc) (w : World) (Ml : Cells) (m : Mode) (g : Given) (c : Value) : Prop :=
  ∃ x t js, g.vs = [x] ∧ TVL w Ml x t c ∧ js.Perm (g.dels ++ Back.idsL g.bs) ∧ OwnL V β t.locs js ∧
    (∀ ms, ms.headD .borrow = m → ∀ vs ts bs, ArgsR β ms.tail vs ts bs → ArgsR β ms (x :: vs) (t :: ts) (g.bs ++ bs)) ∧
    (∀ ms, ms.headD .borrow = m → ∀ vs ts, ∃ ls, LooseA ms (x :: vs) (t :: ts) = ls ++ LooseA ms.tail vs ts ∧ LooseR V β ls g.dels (Back.bldsL g.bs))

theorem idsL_nil : Back.idsL [] = [] := rfl
theorem idsL_one (b : Back) : Back.idsL [b] = b.ids := by simp [Back.idsL]
theorem idsL_append (a b : List Back) : Back.idsL (a ++ b) = Back.idsL a ++ Back.idsL b := by simp [Back.idsL]

theorem arg_ok {P : Program} (hV : VR M0 M β V tm w) {Ml : Cells} (hMl : ∀ b j, Ml b j → M b j) {m : Mode} {t : TypeId} {v : AV} {c : Value} {g : Given} (hc : AVR β w M v c) (h : argTV P m t V v = some g)
    (hF : ∀ i ∈ g.lent, (∃ o, V.obj i = some o) → ∀ b j, (β i).F b j → ¬ Ml b j) : ArgOK V β w Ml m g c := by
  have pvOK : ∀ (y : PV) (l : List Nat), Rep w Ml y c → ArgOK V β w Ml m ⟨[.pv y], [], [], l⟩ c := by
    intro y l hy
    refine ⟨.pv y, .none, [], rfl, by simp only [TVL]; exact ⟨trivial, hy⟩, by simp [Back.idsL], OwnL.nil, fun ms hm vs ts bs hh => ?_, fun ms hm vs ts => ⟨[], by simp [LooseA, LT.loose], by simp [LooseR]⟩⟩
    simp only [ArgsR, List.nil_append]
    exact ⟨.none, ts, rfl, hh⟩
  unfold argTV at h
  split at h
  · rename_i id i off
    split at h
    · rename_i hi0
      subst hi0
      simp only [AVR] at hc
      obtain ⟨b, o, hb, hc⟩ := hc
      rw [Nat.zero_mul, Nat.add_zero] at hc
      split at h
      · rename_i cs ho
        split at h
        · rename_i e he
          split at h
          · rename_i hle
            split at h
            · rename_i l ids bs hl
              injection h with h; subst h
              obtain ⟨b', o', q1, q2, q3, q4⟩ := hV.objs id _ ho
              rw [hb] at q1; injection q1 with q1; injection q1 with e1 e2; subst e1; subst e2
              obtain ⟨k1, k2, ts, js, k3, k4, k5, k6, k7⟩ := leafs_of 4 (leaf_ok hV 4) ((cs.drop off).take (sizeT P e)) b (o + off) l ids bs (fun j v hj => by
                rw [List.getElem?_take] at hj
                split at hj
                · rw [List.getElem?_drop] at hj
                  have := q4 (off + j) v hj
                  rwa [← Nat.add_assoc] at this
                · exact absurd hj (by simp)) hl
              have hlen : ((cs.drop off).take (sizeT P e)).length = sizeT P e := by simp; omega
              let l0 : Loc := { base := some (b, o + off), len := 0, cap := 0, sz := 0, k := sizeT P e, ext := none }
              have h5 : TVL w M (.ptr l) (.box l0 ts) c := by
                simp only [TVL]; exact ⟨l0, ts, b, o + off, rfl, rfl, by rw [k1, hlen], rfl, hc, k3⟩
              refine ⟨.ptr l, .box l0 ts, id :: js, rfl, TVL.sub hMl h5, ?_, ?_, fun ms hm vs ts' bs' hh => ?_, fun ms hm vs ts' => ⟨LT.looseL ts, by simp [LooseA, LT.loose], by simpa [Back.bldsL, Back.blds] using k7⟩⟩
              · rw [idsL_one]
                simp only [Back.ids]
                exact (List.Perm.cons id k4).trans (List.perm_middle.symm)
              · simp only [LT.locs]
                refine OwnL.cons ⟨⟨_, ho⟩, fun b' j hF' => ?_⟩ k5
                rcases hF' with ⟨o', h1, h2, h3⟩ | ⟨n, h1, _⟩
                · simp only [l0, Option.some.injEq, Prod.mk.injEq] at h1
                  obtain ⟨rfl, rfl⟩ := h1
                  exact .inl ⟨o, hb, by omega, by simp only [l0] at h3; omega⟩
                · simp [l0] at h1
              · simp only [ArgsR]
                exact ⟨_, _, rfl, _, _, rfl, by
                  simp only [BackR]
                  exact ⟨l0, ts, b, o, rfl, hb, rfl, by rw [k2, hlen], by rw [k2, hlen, q2]; exact hle, rfl, k6⟩, ⟨id, off, bs, rfl⟩, hh⟩
            · exact absurd h (by simp)
          · exact absurd h (by simp)
        · exact absurd h (by simp)
      · rename_i bs ho
        split at h
        · rename_i hoff
          subst hoff
          injection h with h; subst h
          have h5 : TVL w M (.bld bs) (.bld (β id)) c := by
            simp only [TVL]; exact ⟨β id, b, o, rfl, hb, by simpa using hc, hV.objs id _ ho⟩
          refine ⟨.bld bs, .bld (β id), [id], rfl, TVL.sub hMl h5, by rw [idsL_one]; simp [Back.ids], OwnL.cons ⟨⟨_, ho⟩, fun _ _ h => h⟩ OwnL.nil, fun ms hm vs ts' bs' hh => ?_, fun ms hm vs ts' => ⟨[β id], by simp [LooseA, LT.loose], fun l hl b j hF => .inr ⟨id, by simp [Back.bldsL, Back.blds], by simp at hl; subst hl; exact hF⟩⟩⟩
          simp only [ArgsR]
          have hbk : (β id).k = 2 := by
            obtain ⟨_, _, _, _, _, _, a2, _⟩ := hV.objs id _ ho
            exact a2.1
          exact ⟨_, _, rfl, _, _, rfl, by simp only [BackR]; exact ⟨trivial, hbk⟩, ⟨id, rfl⟩, hh⟩
        · exact absurd h (by simp)
      · exact absurd h (by simp)
    · exact absurd h (by simp)
  · simp only [AVR] at hc
    have nilOK : ∀ sz, 0 < sz → TVL w Ml (.own sz []) (.one { base := none, len := 0, cap := 0, sz := sz, k := 0, ext := none }) c := by
      intro sz h0
      simp only [TVL]
      exact ⟨_, rfl, by rw [hc]; rfl, rfl, h0, rfl, Nat.le_refl _, by simp, rfl, fun _ => rfl, by simp, fun b o hb => by simp at hb⟩
    have noF : ∀ sz b j, ¬ ({ base := none, len := 0, cap := 0, sz := sz, k := 0, ext := none } : Loc).F b j := by
      rintro sz b j (⟨o, h1, _⟩ | ⟨n, h1, _⟩)
      · simp at h1
      · simp at h1
    split at h
    · rename_i e he
      injection h with h; subst h
      refine ⟨_, _, [], rfl, nilOK _ (elemT_eq he).2.2, by simp [Back.idsL], by simp only [LT.locs, OwnL]; exact .inl ⟨noF _, trivial⟩, fun ms hm vs ts bs hh => ?_, fun ms hm vs ts => ⟨_, by simp only [LooseA, hm]; rfl, fun l hl b j hF => by simp [LT.locs] at hl; subst hl; exact absurd hF (noF _ b j)⟩⟩
      simp only [ArgsR, hm]
      exact ⟨_, _, rfl, by simpa using hh⟩
    · rename_i e he
      injection h with h; subst h
      refine ⟨_, _, [], rfl, nilOK _ (elemT_eq he).2.2, by simp [Back.idsL, Back.ids], by simp only [LT.locs, OwnL]; exact .inl ⟨noF _, trivial⟩, fun ms hm vs ts bs hh => ?_, fun ms hm vs ts => ⟨[], by simp only [LooseA, hm, if_true], by simp [LooseR]⟩⟩
      simp only [ArgsR, hm]
      exact ⟨_, _, rfl, by rw [if_pos trivial]; exact ⟨_, _, rfl, by simp only [BackR]; exact ⟨_, rfl, rfl, rfl⟩, .inr rfl, hh⟩⟩
    · injection h with h; subst h
      subst hc
      refine pvOK _ _ ?_
      simp only [Rep]
      exact ⟨none, 0, rfl, Nat.le_refl _, fun _ => rfl, fun a ha => by simp at ha, 1, by simp only [RepRow]⟩
    · injection h with h; subst h
      subst hc
      exact pvOK _ _ (by simp only [Rep])
    · exact absurd h (by simp)
  · rename_i id
    have hc' := hc
    simp only [AVR] at hc
    split at h
    · rename_i sz es ho
      injection h with h; subst h
      refine ⟨.own sz es, .one (β id), [id], rfl, TVL.sub hMl (by simp only [TVL]; exact ⟨β id, rfl, hc, hV.objs id _ ho⟩), by simp [Back.idsL], OwnL.cons ⟨⟨_, ho⟩, fun _ _ h => h⟩ OwnL.nil, fun ms hm vs ts bs hh => ?_, fun ms hm vs ts => ⟨_, by simp only [LooseA, hm]; rfl, fun l hl b j hF => .inl ⟨id, by simp, ⟨_, ho⟩, by simp [LT.locs] at hl; subst hl; exact hF⟩⟩⟩
      simp only [ArgsR, hm]
      exact ⟨_, _, rfl, by simpa using hh⟩
    · rename_i sz es ho
      injection h with h; subst h
      refine ⟨.own sz es, .one (β id), [id], rfl, TVL.sub hMl (by simp only [TVL]; exact ⟨β id, rfl, hc, hV.objs id _ ho⟩), by rw [idsL_one]; simp [Back.ids], OwnL.cons ⟨⟨_, ho⟩, fun _ _ h => h⟩ OwnL.nil, fun ms hm vs ts bs hh => ?_, fun ms hm vs ts => ⟨[], by simp only [LooseA, hm, if_true], by simp [LooseR]⟩⟩
      simp only [ArgsR, hm]
      exact ⟨_, _, rfl, by rw [if_pos trivial]; exact ⟨_, _, rfl, by simp only [BackR], .inl ⟨id, rfl⟩, hh⟩⟩
    · rename_i sz es ho
      injection h with h; subst h
      exact pvOK _ _ ((own_rep hV hMl ho (hF id (by simp) ⟨_, ho⟩)).1 c hc)
    · exact absurd h (by simp)
  · split at h
    · rename_i x l hl
      injection h with h; subst h
      obtain ⟨y, rfl, hy⟩ := lent_ok hV hMl hc hl hF
      exact pvOK y _ hy
    · exact absurd h (by simp)

theorem args_ok {P : Program} (hV : VR M0 M β V tm w) {Ml : Cells} (hMl : ∀ b j, Ml b j → M b j) : ∀ (vs : List AV) (cs : List Value) (ms : List Mode) (ts : List TypeId) (g : Given), AVRs β w M vs cs → argsTV P V ms ts vs = some g →
    (∀ i ∈ g.lent, (∃ o, V.obj i = some o) → ∀ b j, (β i).F b j → ¬ Ml b j) → ∃ lts js, TVAll w Ml g.vs lts cs ∧ js.Perm (g.dels ++ Back.idsL g.bs) ∧ OwnL V β (LT.locsL lts) js ∧ ArgsR β ms g.vs lts g.bs ∧ LooseR V β (LooseA ms g.vs lts) g.dels (Back.bldsL g.bs)
  | [], cs, ms, ts, g, hc, h, hF => by
    unfold argsTV at h
    injection h with h; subst h
    simp only [AVRs] at hc; subst hc
    exact ⟨[], [], by simp [TVAll], by simp [Back.idsL], OwnL.nil, by simp [ArgsR], by simp [LooseR, LooseA]⟩
  | v :: vs, cs, ms, ts, g, hc, h, hF => by
    unfold argsTV at h
    split at h
    · rename_i g1 g2 h1 h2
      injection h with h; subst h
      simp only [AVRs] at hc
      obtain ⟨c, r, rfl, hc1, hc2⟩ := hc
      obtain ⟨x, t, js, a1, a2, a3, a4, a5, a6⟩ := arg_ok hV hMl hc1 h1 (fun i hi => hF i (by simp only [List.mem_append]; exact .inl hi))
      obtain ⟨lts, js', b1, b2, b3, b4, b5⟩ := args_ok hV hMl vs r ms.tail ts.tail g2 hc2 h2 (fun i hi => hF i (by simp only [List.mem_append]; exact .inr hi))
      refine ⟨t :: lts, js ++ js', ?_, ?_, ?_, ?_, ?_⟩
      · rw [a1]; simp only [List.singleton_append, TVAll]; exact ⟨t, lts, c, r, rfl, rfl, a2, b1⟩
      · rw [idsL_append]
        exact (List.Perm.append a3 b2).trans (perm4 _ _ _ _)
      · simp only [LT.locsL]; exact a4.append b3
      · rw [a1]; exact a5 ms rfl _ _ _ b4
      · obtain ⟨ls, e, hl⟩ := a6 ms rfl g2.vs lts
        rw [a1]
        simp only [List.singleton_append, e]
        have : Back.bldsL (g1.bs ++ g2.bs) = Back.bldsL g1.bs ++ Back.bldsL g2.bs := by simp [Back.bldsL]
        rw [this]
        exact hl.append b5
    · exact absurd h (by simp)

end
end Go.Proofs.Ytmjkdghcfihfiaa.Vm
