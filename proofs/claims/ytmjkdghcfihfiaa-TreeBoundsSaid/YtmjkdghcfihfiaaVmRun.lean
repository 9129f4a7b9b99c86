/-
  Operations one after another.
-/
import Derived.Test.YtmjkdghcfihfiaaVmStep
namespace Go.Proofs.Ytmjkdghcfihfiaa.Vm
open Go
set_option linter.unusedVariables false
set_option linter.unusedSimpArgs false

/-- What is carried along a function's walk. -/
def Inv (M0 D0 : Cells) (β0 : Nat → Loc) (w0 : World) (n : Nat) (st : St) (a : Act) (w : World) : Prop :=
  ∃ M β, SR M0 M β st a.tmps w ∧ Fr D0 w0 w ∧ (∀ b j, M b j → M0 b j ∨ D0 b j ∨ w0.heap.size ≤ b) ∧ a.tmps.size = n ∧ a.defers = [] ∧ ∀ id o, id % 2 = 1 → st.obj id = some o → (β0 id).same (β id)


theorem arrive_os (pl : List Nat) (o : Oper) (ob : Nat → Option Obj) (m : Made) : (arrive pl o ob m = m) ∨ (∃ i sz es, m.os = [(i, .buf sz es)] ∧ m.ws = [] ∧ m.v = .own i ∧ ob i = none ∧ arrive pl o ob m = { m with v := .pv (.sl es), os := [] }) := by
  unfold arrive
  split
  · rename_i d i sz es hd hos hws
    split
    · rename_i hc
      split
      · rename_i j hv
        split
        · rename_i hij
          subst hij
          simp only [Bool.and_eq_true, Option.isNone_iff_eq_none] at hc
          exact .inr ⟨i, sz, es, hos, hws, hv, hc.2, rfl⟩
        · exact .inl rfl
      · exact .inl rfl
    · exact .inl rfl
  · exact .inl rfl

theorem patchAll_dom : ∀ (ws : List Patch) {st s : St}, patchAll ws st = some s → ∀ i, (∃ o, st.obj i = some o) ↔ ∃ o, s.obj i = some o
  | [], st, s, h, i => by simp only [patchAll, Option.some.injEq] at h; subst h; exact Iff.rfl
  | q :: ws, st, s, h, i => by
    simp only [patchAll] at h
    split at h
    · rename_i o ho
      rw [← patchAll_dom ws h i, upd_obj]
      by_cases e : i = q.id
      · subst e
        simp only [if_true]
        constructor
        · intro _; exact ⟨o, rfl⟩
        · intro _
          cases hq : st.obj q.id with
          | none => rw [hq] at ho; cases q <;> simp [Patch.on] at ho
          | some o0 => exact ⟨o0, rfl⟩
      · simp [e]
    · exact absurd h (by simp)

theorem made_frz {C : Cx} {call : FuncId → List TV → Option (List TV × List TV)} {o : Oper} {V : View} {m : Made} (h : made C call o V = some m) : ∀ g ∈ m.dels ++ m.use, g ∉ m.frz := by
  unfold made at h
  simp only at h
  split at h
  · unfold callM at h
    split at h
    · split at h
      · split at h
        · split at h
          · rename_i hchk
            simp only [Bool.and_eq_true] at hchk
            split at h
            · split at h
              · injection h with h; subst h
                intro g hg hz
                simp only [List.append_nil] at hg
                split at hz
                · simp at hz
                · rename_i l _
                  split at hz
                  · simp at hz
                  · exact freeOf_ok hchk.2 g hz (List.mem_append.2 (.inl hg))
              · exact absurd h (by simp)
            · exact absurd h (by simp)
          · exact absurd h (by simp)
        · exact absurd h (by simp)
      · exact absurd h (by simp)
    · exact absurd h (by simp)
  · split at h
    · injection h with h; subst h; simp [Made.only]
    · split at h
      · injection h with h; subst h; simp
      · unfold opL at h
        repeat' split at h
        all_goals first
          | (cases h; done)
          | (injection h with h; subst h; simp)

section
variable {M0 M : Cells} {β : Nat → Loc} {st : St} {tm : Array Value} {w : World}

/-- What an operation may change is owned here. -/
theorem lay_own {o : Oper} {m : Made} {st' : St} (hS : SR M0 M β st tm w) (h : lay o m st = some st') (hnd : (m.ws.map Patch.id).Nodup) : ∀ x j, Dm β (fun id => ∃ o, st.obj id = some o) m x j → M x j ∧ ¬ M0 x j := by
  rintro x j (⟨g, hg, ⟨ob, hob⟩, hF⟩ | ⟨p, hp, hd, ht⟩)
  · exact hS.1.own g ob hob x j hF
  · unfold lay at h
    split at h
    · rename_i s1 h1
      split at h
      · rename_i s3 h3
        obtain ⟨Mf, k1, k2, k3⟩ := freezeAll_ok m.frz hS h1
        obtain ⟨l1, l2⟩ := killAll_ok (m.dels ++ m.use) k1
        obtain ⟨p1, p2, p3⟩ := patchAll_spec m.ws h3
        obtain ⟨o0, o1, e1, e2⟩ := p3 hnd p hp
        have hF : (β p.id).F x j := by
          refine Patch.touch_F ht ?_
          rintro id off cells rfl
          cases o0 <;> simp only [Patch.on] at e2 <;> try (cases e2; done)
          rename_i cs
          obtain ⟨b0, o0, q1, q2, q3, q4⟩ := l1.1.objs _ _ e1
          split at e2
          · rw [q2]; assumption
          · exact absurd e2 (by simp)
        have := l1.1.own p.id o0 e1 x j hF
        exact ⟨((k2 x j).1 this.1).1, this.2⟩
      · exact absurd h (by simp)
    · exact absurd h (by simp)

theorem put_size (a : Act) (d : Option Tmp) (v : Value) : (a.put d v).tmps.size = a.tmps.size := by cases d <;> simp [Act.put]
theorem put_defers (a : Act) (d : Option Tmp) (v : Value) : (a.put d v).defers = a.defers := by cases d <;> rfl
end

theorem lay_old {M0 M : Cells} {β : Nat → Loc} {tm : Array Value} {w : World} {o : Oper} {m : Made} {st st' : St} (hS : SR M0 M β st tm w) (h : lay o m st = some st') {id : Nat} (hn : id ∉ m.os.map (·.1)) (ho : ∃ ob, st'.obj id = some ob) : ∃ ob, st.obj id = some ob := by
  obtain ⟨ob, hob⟩ := ho
  unfold lay at h
  split at h
  · rename_i s1 h1
    split at h
    · rename_i s3 h3
      split at h
      · rename_i s4 h4
        injection h with h; subst h
        have hpo : (putD o m.v s4).obj id = s4.obj id := by unfold putD; cases o.dst <;> rfl
        rw [hpo] at hob
        obtain ⟨q1, q2, q3, q4⟩ := add_spec m.os h4
        rw [q4] at hob
        have hl : lkp id m.os = none := by
          cases hl : lkp id m.os with
          | none => rfl
          | some x => exact absurd (List.mem_map_of_mem (f := (·.1)) (lkp_mem hl)) hn
        rw [hl] at hob
        obtain ⟨o1, ho1⟩ := (patchAll_dom m.ws h3 id).2 ⟨ob, hob⟩
        obtain ⟨Mf, k1, k2, k3⟩ := freezeAll_ok m.frz hS h1
        exact ((k3 id).1 (((killAll_ok (m.dels ++ m.use) k1).2 id).1 ⟨o1, ho1⟩).2).2
      · exact absurd h (by simp)
    · exact absurd h (by simp)
  · exact absurd h (by simp)

section
variable {C : Cx} {call : FuncId → List TV → Option (List TV × List TV)} {M0 D0 : Cells} {β0 : Nat → Loc} {w0 : World} {n : Nat}

/-- ONE OPERATION. -/
theorem oper_ok (hcall : ∀ f as rs fs, call f as = some (rs, fs) → Contract C.P (C.modes f) f as rs fs) {pl : List Nat} {o : Oper} {st st' : St} {a : Act} {w : World} (hI : Inv M0 D0 β0 w0 n st a w) (h : oper C call pl o st = some st')
    (hd : ∀ t, o.dst = some t → t < n) {K : Act → World → Prop} {Q : Exit → Act → World → Prop} (hK : ∀ a' w', Inv M0 D0 β0 w0 n st' a' w' → K a' w') : o.wp C.P a w K Q := by
  obtain ⟨M, β, hS, hFr, hM, hn, hdef, hpin⟩ := hI
  unfold oper at h
  split at h
  · rename_i s hs
    split at h
    · rename_i m hm
      obtain ⟨Mf, hSf, hMf, hdf⟩ := freezeAll_ok _ hS hs
      have heven := made_even hm
      have hfz := made_frz hm
      have harr := arrive_os pl o s.obj m
      -- the numbers are free
      have hnum : (m.os.map (·.1)).Nodup ∧ ∀ id ∈ m.os.map (·.1), ∀ ob, s.view.obj id = some ob → id ∈ m.dels ++ m.use ∨ id ∈ m.frz := by
        rcases harr with e | ⟨i, sz, es, e1, e2, e3, e4, e5⟩
        · rw [e] at h
          unfold lay at h
          split at h
          · rename_i s1 h1
            split at h
            · rename_i s3 h3
              split at h
              · rename_i s4 h4
                obtain ⟨q1, q2, q3, q4⟩ := add_spec m.os h4
                obtain ⟨_, k1, _, k3⟩ := freezeAll_ok m.frz hSf h1
                obtain ⟨_, l2⟩ := killAll_ok (m.dels ++ m.use) k1
                refine ⟨q2, fun id hid ob hob => ?_⟩
                by_cases hg : id ∈ m.dels ++ m.use
                · exact .inl hg
                · by_cases hz : id ∈ m.frz
                  · exact .inr hz
                  · obtain ⟨x, hx⟩ := (patchAll_dom m.ws h3 id).1 ((l2 id).2 ⟨hg, (k3 id).2 ⟨hz, ob, hob⟩⟩)
                    rw [q3 id hid] at hx; simp at hx
              · exact absurd h (by simp)
            · exact absurd h (by simp)
          · exact absurd h (by simp)
        · rw [e1]
          refine ⟨by simp, fun id hid ob hob => ?_⟩
          simp at hid; subst hid
          have hob' : s.obj id = some ob := hob
          rw [e4] at hob'; simp at hob'
      refine made_ok hcall hSf.1 hSf.2 hm hnum.1 hnum.2 (fun M' β' w' c hP hR => hK _ _ ?_)
      obtain ⟨M2, β2, hP2⟩ := arrive_ok (pl := pl) (o := o) (ob := s.obj) (fun b j h => hSf.1.old b j h.1) hP
      -- the same but for what arrives
      have harr2 : (arrive pl o s.obj m).dels = m.dels ∧ (arrive pl o s.obj m).use = m.use ∧ (arrive pl o s.obj m).frz = m.frz ∧ Evens (arrive pl o s.obj m).os ∧ MRefs (fun id => (∃ o, s.view.obj id = some o) ∧ id ∉ m.dels ++ m.use ∧ id ∉ m.frz) (arrive pl o s.obj m) := by
        rcases harr with e | ⟨i, sz, es, e1, e2, e3, e4, e5⟩
        · rw [e]; exact ⟨rfl, rfl, rfl, heven, hR⟩
        · rw [e5]; exact ⟨rfl, rfl, rfl, evens_nil, by simp [AV.refs], by simp, by simp [e2]⟩
      obtain ⟨a1, a2, a3, a4, a5⟩ := harr2
      generalize hma : arrive pl o s.obj m = ma at hP2 h a1 a2 a3 a4 a5
      rw [← a1, ← a2, ← a3] at a5
      have hS' := lay_ok hSf hP2 (fun b j => by rw [a3]; exact Iff.rfl) (fun g hg => by rw [a1, a2] at hg; rw [a3]; exact hfz g hg) a5 h (fun t ht => by rw [hn]; exact hd t ht)
      have hown := lay_own hSf h hP2.nd
      refine ⟨M2, β2, hS', hFr.trans hP2.fr (fun _ _ h => h) (fun x j hx => ?_), fun b j hx => ?_, (put_size _ _ _).trans hn, (put_defers _ _ _).trans hdef, fun id ob hid hob => ?_⟩
      · have := hown x j hx
        rcases hM x j ((hMf x j).1 this.1).1 with h | h | h
        · exact absurd h this.2
        · exact .inl h
        · exact .inr h
      · rcases hP2.only b j hx with h | h
        · exact hM b j ((hMf b j).1 h.1).1
        · exact .inr (.inr (Nat.le_trans hFr.size h))
      · have hni : id ∉ ma.os.map (·.1) := by
          intro h
          obtain ⟨p, hp, rfl⟩ := List.mem_map.1 h
          have := a4 p hp
          omega
        obtain ⟨ob1, hob1⟩ := lay_old hSf h hni ⟨ob, hob⟩
        obtain ⟨ob2, hob2⟩ := ((hdf id).1 ⟨ob1, hob1⟩).2
        exact (hpin id ob2 hid hob2).trans (hP2.same id hni)
    · exact absurd h (by simp)
  · exact absurd h (by simp)


/-- The same world, another state. -/
theorem Inv.step {st st' : St} {a : Act} {w : World} (hI : Inv M0 D0 β0 w0 n st a w)
    (h : ∀ M β, SR M0 M β st a.tmps w → ∃ M' β', SR M0 M' β' st' a.tmps w ∧ (∀ b j, M' b j → M b j) ∧ ∀ id o, id % 2 = 1 → st'.obj id = some o → (∃ o', st.obj id = some o') ∧ (β id).same (β' id)) : Inv M0 D0 β0 w0 n st' a w := by
  obtain ⟨M, β, hS, hFr, hM, hn, hdef, hpin⟩ := hI
  obtain ⟨M', β', k1, k2, k3⟩ := h M β hS
  refine ⟨M', β', k1, hFr, fun b j hb => hM b j (k2 b j hb), hn, hdef, fun id o hid ho => ?_⟩
  obtain ⟨⟨o', ho'⟩, hs⟩ := k3 id o hid ho
  exact (hpin id o' hid ho').trans hs

def putO (d : Option Nat) (v : AV) (st : St) : St := match d with | some t => st.put t v | none => st
theorem put_ok {M : Cells} {β : Nat → Loc} {st : St} {a : Act} {w : World} (hS : SR M0 M β st a.tmps w) (d : Option Nat) {v : AV} {c : Value} (hv : AVR β w M v c) (hr : ∀ i ∈ v.refs, ∃ o, st.obj i = some o) (hd : ∀ t, d = some t → t < a.tmps.size) :
    SR M0 M β (putO d v st) (a.put d c).tmps w := by
  cases d with
  | none => exact hS
  | some d =>
    have hlt := hd d rfl
    refine ⟨⟨hS.1.sup, hS.1.old, fun t => ?_, hS.1.objs, hS.1.own, hS.1.disj⟩, fun t i hi => ?_, hS.2.2⟩
    · show AVR β w M ((st.put d v).get t) _
      rw [put_get]
      simp only [Act.put]
      by_cases e : t = d
      · subst e; simp [hlt]; exact hv
      · rw [if_neg e]
        have : ¬ d = t := fun h => e h.symm
        simp only [Array.getD_eq_getD_getElem?, Array.getElem?_setIfInBounds, this, if_false]
        have hs : AVR β w M (st.get t) (a.tmps.getD t undef) := hS.1.slots t
        simpa only [Array.getD_eq_getD_getElem?] using hs
    · have hi' : i ∈ ((st.put d v).get t).refs := hi
      rw [put_get] at hi'
      split at hi'
      · exact hr i hi'
      · exact hS.2.1 t i hi'

theorem put_inv {st : St} {a : Act} {w : World} (hI : Inv M0 D0 β0 w0 n st a w) (o : Oper) (hd : ∀ t, o.dst = some t → t < n) : Inv M0 D0 β0 w0 n (putD o (.tup []) st) (a.put o.dst undef) w := by
  obtain ⟨M, β, hS, hFr, hM, hn, hdef, hpin⟩ := hI
  refine ⟨M, β, put_ok hS o.dst (v := .tup []) (c := undef) (by simp only [AVR]; exact ⟨#[], rfl, by simp [AVRs]⟩) (by simp [AV.refs, AV.refsL]) (fun t ht => by rw [hn]; exact hd t ht), hFr, hM, (put_size _ _ _).trans hn, (put_defers _ _ _).trans hdef, fun id ob hid hob => hpin id ob hid ?_⟩
  unfold putD at hob
  cases h : o.dst with
  | none => rw [h] at hob; exact hob
  | some t => rw [h] at hob; exact hob

/-- Is an operation wanted? -/
theorem wanted_ok {M : Cells} {β : Nat → Loc} {V : View} {tm : Array Value} {w : World} (hV : VR M0 M β V tm w) {ops : Array Oper} {o : Oper} {b : Bool} (h : wanted ops.toList V o = some b) : Region.wanted o (yielded ops tm) = b := by
  unfold wanted at h
  unfold Region.wanted
  cases hg : o.guard with
  | none => rw [hg] at h; simp at h; simp [h]
  | some jw =>
    obtain ⟨j, want⟩ := jw
    rw [hg] at h
    simp only [Array.getElem?_toList] at h ⊢
    unfold yielded
    cases ht : (ops[j]?).bind (·.dst) with
    | none => rw [ht] at h; simp at h
    | some t =>
      rw [ht] at h
      have hs := hV.slots t
      simp only [Option.bind_some]
      simp only at h
      split at h
      · rename_i b' hb
        rw [hb] at hs
        simp only [AVR, Rep] at hs
        simp only [Option.some.injEq] at h
        have : tm[t]? = some (.bool b') := by
          simp only [Array.getD_eq_getD_getElem?] at hs
          cases hq : tm[t]? with
          | none => rw [hq] at hs; simp [undef] at hs
          | some x => rw [hq] at hs; simp at hs; rw [hs]
        rw [this]; simp only; rw [← h]; cases b' <;> cases want <;> rfl
      · rename_i hb
        rw [hb] at hs
        simp only [AVR, AVRs] at hs
        obtain ⟨cs, hs, _⟩ := hs
        simp only [Option.some.injEq] at h
        rw [← h]
        cases hq : tm[t]? with
        | none => rfl
        | some x =>
          simp only [Array.getD_eq_getD_getElem?, hq, Option.getD_some] at hs
          rw [hs]; rfl
      · exact absurd h (by simp)

/-- One after another. -/
theorem opers_ok (hcall : ∀ f as rs fs, call f as = some (rs, fs) → Contract C.P (C.modes f) f as rs fs) {pl : List Nat} {ops : Array Oper} (hd : ∀ o ∈ ops.toList, ∀ t, o.dst = some t → t < n) {st' : St} {Q : Exit → Act → World → Prop} (hQ : ∀ a' w', Inv M0 D0 β0 w0 n st' a' w' → Q .normal a' w') :
    ∀ (l : List Oper) (k : Nat) (st : St) (a : Act) (w : World), ops.toList.drop k = l → k ≤ ops.size → Inv M0 D0 β0 w0 n st a w → opers C call ops.toList pl l st = some st' → wpOps C.P ops Q (List.range' k (ops.size - k)) a w
  | [], k, st, a, w, hl, hk, hI, h => by
    simp only [opers, Option.some.injEq] at h; subst h
    have : ops.size - k = 0 := by
      have := congrArg List.length hl
      simp at this; omega
    rw [this]
    exact hQ _ _ hI
  | o :: r, k, st, a, w, hl, hk, hI, h => by
    have hlt : k < ops.size := by
      have := congrArg List.length hl
      simp at this; omega
    have ho : ops[k]? = some o := by
      have := congrArg (·[0]?) hl
      simpa using this
    have hr : ops.toList.drop (k + 1) = r := by
      have := congrArg List.tail hl
      simpa using this
    have hm : o ∈ ops.toList := by
      have : ops.toList[k]? = some o := by simpa using ho
      exact List.mem_of_getElem? this
    rw [show ops.size - k = (ops.size - (k + 1)) + 1 by omega, List.range'_succ]
    simp only [wpOps, ho]
    simp only [opers] at h
    split at h
    · rename_i hw
      obtain ⟨M, β, hS, _⟩ := id hI
      rw [wanted_ok hS.1 hw]
      simp only [if_true]
      split at h
      · rename_i s hs
        exact .inl (oper_ok hcall hI hs (hd o hm) fun a' w' hI' => opers_ok hcall hd hQ r (k + 1) s a' w' hr (by omega) hI' h)
      · exact absurd h (by simp)
    · rename_i hw
      obtain ⟨M, β, hS, _⟩ := id hI
      rw [wanted_ok hS.1 hw]
      simp only [Bool.false_eq_true, if_false]
      exact opers_ok hcall hd hQ r (k + 1) _ _ w hr (by omega) (put_inv hI o (hd o hm)) h
    · exact absurd h (by simp)

end
end Go.Proofs.Ytmjkdghcfihfiaa.Vm
