/-
  One operation, in the model.
-/
import Derived.Test.YtmjkdghcfihfiaaVmEven
namespace Go.Proofs.Ytmjkdghcfihfiaa.Vm
open Go
set_option linter.unusedVariables false
set_option linter.unusedSimpArgs false

theorem opA_refs {P : Program} {d : Nat} {o : Op} {V : View} {v : AV} {os : List (Nat × Obj)} {id : Option Nat} {R : Nat → Prop} (h : opA P d o V = some (v, os, id)) : MRefs R ⟨v, os, [], id.toList, [], []⟩ := by
  unfold opA at h
  repeat' split at h
  all_goals first
    | (cases h; done)
    | (injection h with h; injection h with h1 h2; injection h2 with h2 h3; subst h1; subst h2
       exact ⟨fun i hi => by simp [AV.refs] at hi; subst hi; exact .inr (by simp), fun p hp i hi => by simp at hp; subst hp; simp [Obj.refs] at hi, by simp⟩)

theorem MRefs.imp {R R' : Nat → Prop} {m : Made} (h : MRefs R m) (hi : ∀ i, R i → R' i) : MRefs R' m :=
  ⟨fun i hi' => (h.1 i hi').imp (hi i) (fun h => h), fun p hp i hi' => (h.2.1 p hp i hi').imp (hi i) (fun h => h), fun id off cs hm i hi' => (h.2.2 id off cs hm i hi').imp (hi i) (fun h => h)⟩

section
variable {C : Cx} {call : FuncId → List TV → Option (List TV × List TV)} {M0 M : Cells} {β : Nat → Loc} {V : View} {a : Act} {w : World}

/-- What the operation does, from what it makes. -/
theorem made_okR {R : Nat → Prop} (hcall : ∀ f as rs fs, call f as = some (rs, fs) → Contract C.P (C.modes f) f as rs fs) (hV : VR M0 M β V a.tmps w) (hR : ClosedIn R V) {o : Oper} {m : Made} (h : made C call o V = some m)
    (hos : (m.os.map (·.1)).Nodup) (hfresh : ∀ id ∈ m.os.map (·.1), R id → id ∈ m.dels ++ m.use ∨ id ∈ m.frz) {K : Act → World → Prop} {Q : Exit → Act → World → Prop}
    (hK : ∀ M' β' w' c, Post (fun b j => M b j ∧ ¬ ∃ i ∈ m.frz, (∃ o, V.obj i = some o) ∧ (β i).F b j) β w (fun id => ∃ o, V.obj id = some o) m M' β' w' c →
      MRefs (fun id => R id ∧ id ∉ m.dels ++ m.use ∧ id ∉ m.frz) m → K (a.put o.dst c) w') : o.wp C.P a w K Q := by
  have plain : m.frz = [] → WOk C.P a.eval o.op w M β (fun id => ∃ o, V.obj id = some o) (fun id => R id ∧ id ∉ m.dels ++ m.use ∧ id ∉ m.frz) m → o.wp C.P a w K Q := by
    rintro hz ⟨c, w', M', β', h1, h2, h3⟩
    have e : (fun b j => M b j ∧ ¬ ∃ i ∈ m.frz, (∃ o, V.obj i = some o) ∧ (β i).F b j) = M := by
      funext b j; simp [hz]
    rw [e] at hK
    have := hK M' β' w' c h2 h3
    unfold Oper.wp
    rcases h1 o rfl with h5 | ⟨e5, h5⟩
    · rw [h5]; exact this
    · rw [h5]; rw [e5] at this; exact this
  unfold made at h
  simp only at h
  split at h
  · rename_i c hc
    have hop : o.op = .call c := by
      unfold isCall at hc
      split at hc
      · rename_i c' heq
        split at hc
        · exact absurd hc (by simp)
        · injection hc with hc; subst hc; exact heq
      · exact absurd hc (by simp)
    have huse : m.use = [] := by
      unfold callM at h
      repeat' split at h
      all_goals first
        | (cases h; done)
        | (injection h with h; subst h; rfl)
    obtain ⟨f, cs, hex, hinv⟩ := callM_ok hcall hV h hos (fun id hid ob hob => by simpa [huse] using hfresh id hid ((hR.2 id ob hob).1))
    have fin : ∀ v w', (∃ M' β', Post (fun b j => M b j ∧ ¬ ∃ i ∈ m.frz, (∃ o, V.obj i = some o) ∧ (β i).F b j) β w (fun id => ∃ o, V.obj id = some o) m M' β' w' v ∧ ∀ R : Nat → Prop, (∀ id o, V.obj id = some o → id ∉ m.dels → id ∉ m.frz → R id) → MRefs R m) → K (a.put o.dst v) w' := by
      rintro v w' ⟨M', β', k1, k2⟩
      exact hK M' β' w' v k1 (k2 _ (fun id ob hob h1 h2 => ⟨(hR.2 id ob hob).1, by simpa [huse] using h1, h2⟩))
    unfold Oper.wp
    rw [hex o hop]
    unfold Invokes at hinv
    split at hinv
    · rename_i v w' hr
      rw [hr]; exact fin v w' hinv
    · rename_i g as w' hr
      rw [hr]
      simp only [Oper.upon]
      refine hinv.mono ?_
      rintro e w'' ⟨v, rfl, hh⟩
      exact fin v w'' hh
    · exact hinv.elim
  · split at h
    · rename_i v os hq
      injection h with h; subst h
      refine plain rfl ?_
      have hd : ∀ p ∈ os, ¬ R p.1 := by
        intro p hp hob
        have := hfresh p.1 (List.mem_map_of_mem (f := (·.1)) hp) hob
        simp [Made.only] at this
      obtain ⟨c, w', M', β', k1, k2, k3⟩ := (opQ_ok hV hR hd hq).wok (dom := fun id => ∃ o, V.obj id = some o)
      exact ⟨c, w', M', β', k1, k2, k3.imp (fun i hi => ⟨hi, by simp [Made.only], by simp [Made.only]⟩)⟩
    · split at h
      · rename_i v os id ha
        injection h with h; subst h
        refine plain rfl ?_
        obtain ⟨c, w', M', β', k1, k2, _⟩ := opA_ok hV hR (dom := fun id => ∃ o, V.obj id = some o) (fun id ob h => ⟨ob, h⟩) ha
        exact ⟨c, w', M', β', k1, k2, opA_refs ha⟩
      · obtain ⟨c, w', M', β', k1, k2, k3⟩ := opL_ok hV hR (dom := fun id => ∃ o, V.obj id = some o) (fun id ob h => ⟨ob, h⟩) h
        have hgone : m.dels = [] ∧ m.use = [] ∧ m.frz = [] := by
          unfold opL at h
          repeat' split at h
          all_goals first
            | (cases h; done)
            | (injection h with h; subst h; exact ⟨rfl, rfl, rfl⟩)
        exact plain hgone.2.2 ⟨c, w', M', β', k1, k2, k3.imp (fun i hi => ⟨hi, by simp [hgone.1, hgone.2.1], by simp [hgone.2.2]⟩)⟩

theorem made_ok (hcall : ∀ f as rs fs, call f as = some (rs, fs) → Contract C.P (C.modes f) f as rs fs) (hV : VR M0 M β V a.tmps w) (hR : ClosedIn (fun id => ∃ o, V.obj id = some o) V) {o : Oper} {m : Made} (h : made C call o V = some m)
    (hos : (m.os.map (·.1)).Nodup) (hfresh : ∀ id ∈ m.os.map (·.1), ∀ ob, V.obj id = some ob → id ∈ m.dels ++ m.use ∨ id ∈ m.frz) {K : Act → World → Prop} {Q : Exit → Act → World → Prop}
    (hK : ∀ M' β' w' c, Post (fun b j => M b j ∧ ¬ ∃ i ∈ m.frz, (∃ o, V.obj i = some o) ∧ (β i).F b j) β w (fun id => ∃ o, V.obj id = some o) m M' β' w' c →
      MRefs (fun id => (∃ o, V.obj id = some o) ∧ id ∉ m.dels ++ m.use ∧ id ∉ m.frz) m → K (a.put o.dst c) w') : o.wp C.P a w K Q :=
  made_okR hcall hV hR h hos (fun id hid ⟨ob, hob⟩ => hfresh id hid ob hob) hK

/-- A row's elements, as a plain value's. -/
theorem row_rep {β : Nat → Loc} {w : World} {M Ml : Cells} {l : Loc} {sz : Nat} {es : List (List PV)} (hMl : ∀ b j, Ml b j → M b j) (hO : ObjR β w M l (.buf sz es)) (hF : ∀ b j, l.F b j → ¬ Ml b j) : Rep w Ml (.sl es) l.hdr := by
  have hk : ∀ b o v, at_ w b o = some v → ¬ M b o → at_ w b o = some v ∧ ¬ Ml b o := fun b o v h1 h2 => ⟨h1, fun h => h2 (hMl _ _ h)⟩
  obtain ⟨q1, q2, q3, q4, q5, q6, q7, q8, q9⟩ := hO
  simp only [Rep, Loc.hdr]
  cases hb : l.base with
  | none =>
    have hcap := q7 hb
    have he : es = [] := List.length_eq_zero_iff.1 (by omega)
    subst he
    exact ⟨none, 0, rfl, Nat.le_refl _, fun _ => rfl, fun p hp => by simp at hp, sz, by simp only [RepRow]⟩
  | some bo =>
    obtain ⟨b, o⟩ := bo
    refine ⟨_, l.cap, by rw [q3], by omega, fun h => by simp at h, fun p hp _ => by injection hp with hp; subst hp; rfl, sz, RepRow.of fun i e he => ?_⟩
    obtain ⟨vs, k1, k2⟩ := (q9 b o hb).2 i e he
    refine ⟨_, vs, rfl, q8 e (List.mem_of_getElem? he), RepS.mono hk _ _ k1, fun j c hj => ?_⟩
    show at_ w b (o + (0 + i) * sz + j) = some c ∧ ¬ Ml b (o + (0 + i) * sz + j)
    rw [Nat.zero_add]
    refine ⟨k2 j c hj, hF _ _ (.inl ⟨o, hb, by omega, ?_⟩)⟩
    have hj' : j < sz := by
      have := (List.getElem?_eq_some_iff.1 hj).1
      rw [k1.length, q8 e (List.mem_of_getElem? he)] at this; exact this
    have hi := (List.getElem?_eq_some_iff.1 he).1
    have : (i + 1) * sz ≤ l.cap * sz := Nat.mul_le_mul_right _ (by omega)
    rw [Nat.add_mul] at this
    omega

/-- A new row, taken for a plain value. -/
theorem arrive_ok {pl : List Nat} {o : Oper} {ob : Nat → Option Obj} {m : Made} {dom : Nat → Prop} {M1 M' : Cells} {β' : Nat → Loc} {w' : World} {c : Value} (hold : ∀ b j, M1 b j → b < w.heap.size) (h : Post M1 β w dom m M' β' w' c) :
    ∃ M'' β'', Post M1 β w dom (arrive pl o ob m) M'' β'' w' c := by
  unfold arrive
  split
  · rename_i d i sz es hd hos hws
    split
    · split
      · rename_i j hv
        split
        · rename_i hij
          subst hij
          have hn := h.new (i, .buf sz es) (by rw [hos]; simp)
          have hval := h.val
          rw [hv] at hval
          simp only [AVR] at hval
          have hid : ∀ k, k ≠ i → k ∉ m.os.map (·.1) := fun k hk => by rw [hos]; simpa using hk
          refine ⟨lessF M' (β' i), fun k => if k = i then β i else β' k, ⟨fun k _ => ?_, fun k _ hk => ?_, fun b j hM => ?_, fun b j hM => h.only b j hM.1, fun b j hM => h.old b j hM.1, by simp, by simp [hws], h.nd, fun k k' hk => ?_, h.fr, ?_⟩⟩
          · by_cases e : k = i
            · exact Loc.same_of (by simp [e])
            · simp only [e, if_false]; exact h.same k (hid k e)
          · by_cases e : k = i
            · simp [e]
            · simp only [e, if_false]; exact h.keep k (hid k e) hk
          · rcases h.kept b j hM with hM' | hG
            · by_cases hF : (β' i).F b j
              · rcases (hn.2 b j hF).2 with hf | hG
                · have := hold b j hM; omega
                · exact .inr hG
              · exact .inl ⟨hM', hF⟩
            · exact .inr hG
          · rcases hk with hk | ⟨_, hk⟩
            · simp at hk
            · simp [hws] at hk
          · simp only [AVR]
            rw [hval]
            exact row_rep (fun b j hM => hM.1) hn.1 (fun b j hF hM => hM.2 hF)
        · exact ⟨M', β', h⟩
      · exact ⟨M', β', h⟩
    · exact ⟨M', β', h⟩
  · exact ⟨M', β', h⟩

end
end Go.Proofs.Ytmjkdghcfihfiaa.Vm
