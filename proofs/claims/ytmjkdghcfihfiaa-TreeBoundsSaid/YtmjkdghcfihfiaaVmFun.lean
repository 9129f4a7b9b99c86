/-
  A call of a function.
-/
import Derived.Test.YtmjkdghcfihfiaaVmCode
namespace Go.Proofs.Ytmjkdghcfihfiaa.Vm
open Go
set_option linter.unusedVariables false
set_option linter.unusedSimpArgs false

theorem pw_of_mem {α : Type} {R : α → α → Prop} (hs : ∀ a b, R a b → R b a) : ∀ {l : List α}, l.Pairwise R → ∀ a ∈ l, ∀ b ∈ l, a ≠ b → R a b
  | [], _, a, ha, _, _, _ => by simp at ha
  | x :: l, h, a, ha, b, hb, hne => by
    rw [List.pairwise_cons] at h
    rcases List.mem_cons.1 ha with e | ha
    · rcases List.mem_cons.1 hb with e' | hb
      · exact absurd (e.trans e'.symm) hne
      · rw [e]; exact h.1 b hb
    · rcases List.mem_cons.1 hb with e' | hb
      · rw [e']; exact hs _ _ (h.1 a ha)
      · exact pw_of_mem hs h.2 a ha b hb hne

/-- Which number the parameters' places get. -/
def asgA : Nat → List LT → List (Nat × Loc)
  | _, [] => []
  | j, t :: r => asg innerId (parId j) t ++ asgA (j + 1) r

section
variable {M0 M : Cells} {w : World} {tm : Array Value}

/-- One parameter. -/
theorem add_tv {β : Nat → Loc} {st s1 : St} {v : TV} {t : LT} {c : Value} {j : Nat} (hS : SR M0 M β st tm w) (hv : TVL w M v t c) (hc : tm.getD j undef = c) (hM : ∀ l ∈ t.locs, ∀ b x, l.F b x → M b x ∧ ¬ M0 b x) (hap : Apart t.locs)
    (hold : ∀ id o, st.obj id = some o → ∀ l ∈ t.locs, ∀ b x, (β id).F b x → ¬ l.F b x) (h : st.add (place innerId (parId j) v).2 = some s1) :
    ∃ β1, SR M0 M β1 (s1.put j (place innerId (parId j) v).1) tm w ∧ (∀ id, (∃ o, st.obj id = some o) → β1 id = β id) ∧ (∀ p ∈ asg innerId (parId j) t, β1 p.1 = p.2) ∧ (∀ id o, (s1.put j (place innerId (parId j) v).1).obj id = some o → st.obj id = some o ∨ β1 id ∈ t.locs) := by
  obtain ⟨a1, a2, a3, a4⟩ := add_spec _ h
  have hids := place_ids innerId v (parId j) t c hv
  rw [hids] at a2 a3
  obtain ⟨β1, hβ⟩ : ∃ β1 : Nat → Loc, ∀ i, β1 i = match lkp i (asg innerId (parId j) t) with | some l => l | none => β i := ⟨_, fun _ => rfl⟩
  have hb : ∀ p ∈ asg innerId (parId j) t, β1 p.1 = p.2 := by
    intro p hp
    rw [hβ, lkp_of_mem (n := p.1) (a := p.2) a2 hp]
  have hbo' : ∀ id, (∃ o, st.obj id = some o) → β1 id = β id := by
    rintro id ⟨o, ho⟩
    have : id ∉ (asg innerId (parId j) t).map (·.1) := fun hi => by rw [a3 id hi] at ho; simp at ho
    rw [hβ, lkp_none_of this]
  obtain ⟨p1, p2⟩ := place_ok innerId v (parId j) t c hv hb
  obtain ⟨r1, r2⟩ := place_refs innerId v (parId j)
  have hlocs := asg_locs innerId (parId j) t
  have hk : ∀ b o v, at_ w b o = some v → ¬ M b o → at_ w b o = some v ∧ ¬ M b o := fun b o v h1 h2 => ⟨h1, h2⟩
  have hobj : ∀ id o, (s1.put j (place innerId (parId j) v).1).obj id = some o → ((id, o) ∈ (place innerId (parId j) v).2) ∨ st.obj id = some o := by
    intro id o ho
    have ho' : s1.obj id = some o := ho
    rw [a4] at ho'
    split at ho'
    · rename_i o' hl
      simp only [Option.some.injEq] at ho'; subst ho'
      exact .inl (lkp_mem hl)
    · exact .inr ho'
  have hnew : ∀ id o, (id, o) ∈ (place innerId (parId j) v).2 → (id, β1 id) ∈ asg innerId (parId j) t ∧ β1 id ∈ t.locs := by
    intro id o hm
    have : id ∈ (asg innerId (parId j) t).map (·.1) := by rw [← hids]; exact List.mem_map_of_mem (f := (·.1)) hm
    obtain ⟨p, hp, rfl⟩ := List.mem_map.1 this
    rw [hb p hp]
    exact ⟨hp, by rw [← hlocs]; exact List.mem_map_of_mem (f := (·.2)) hp⟩
  have hex : ∀ i, (∃ o, st.obj i = some o) ∨ i ∈ (place innerId (parId j) v).2.map (·.1) → ∃ o, (s1.put j (place innerId (parId j) v).1).obj i = some o := by
    intro i hi
    show ∃ o, s1.obj i = some o
    rw [a4]
    cases hl : lkp i (place innerId (parId j) v).2 with
    | some o => exact ⟨o, rfl⟩
    | none =>
      rcases hi with hi | hi
      · exact hi
      · obtain ⟨p, hp, rfl⟩ := List.mem_map.1 hi
        rw [lkp_of_mem (n := p.1) (a := p.2) (by rw [hids]; exact a2) hp] at hl; simp at hl
  refine ⟨β1, ⟨⟨hS.1.sup, hS.1.old, fun t' => ?_, fun id o ho => ?_, fun id o ho b x hF => ?_, fun id id' o o' ho ho' hne b x hF hF' => ?_⟩, fun t' i hi => ?_, fun id o ho => ⟨⟨o, ho⟩, fun i hi => ?_⟩⟩, hbo', hb, fun id o ho => ?_⟩
  · show AVR β1 w M ((s1.put j _).get t') _
    rw [put_get]
    split
    · rename_i e; subst e; rw [hc]; exact p1
    · have hg : s1.get t' = st.get t' := by simp only [St.get, a1]
      rw [hg]
      exact AVR.mono hk _ _ (fun i hi => by rw [hbo' i (hS.2.1 t' i hi)]; exact Loc.same_refl _) (hS.1.slots t')
  · rcases hobj id o ho with hm | ho
    · exact p2 _ hm
    · rw [hbo' id ⟨o, ho⟩]
      exact ObjR.mono hk (fun _ _ _ _ h => ⟨h, rfl⟩) (fun _ _ h => h) (fun _ _ _ => rfl) (fun i hi => by rw [hbo' i ((hS.2.2 id o ho).2 i hi)]; exact Loc.same_refl _) (hS.1.objs id o ho)
  · rcases hobj id o ho with hm | ho
    · exact hM _ (hnew id o hm).2 b x hF
    · rw [hbo' id ⟨o, ho⟩] at hF
      exact hS.1.own id o ho b x hF
  · rcases hobj id o ho with hm | ho
    · rcases hobj id' o' ho' with hm' | ho'
      · have hp := (hnew id o hm).1
        have hp' := (hnew id' o' hm').1
        have hpw : (asg innerId (parId j) t).Pairwise (fun p q => ∀ b x, p.2.F b x → ¬ q.2.F b x) := by
          have := hap
          unfold Apart at this
          rw [← hlocs, List.pairwise_map] at this
          exact this
        exact pw_of_mem (R := fun p q : Nat × Loc => ∀ b x, p.2.F b x → ¬ q.2.F b x) (fun a b h x y h1 h2 => h x y h2 h1) hpw _ hp _ hp' (fun e => hne (by injection e)) b x hF hF'
      · rw [hbo' id' ⟨o', ho'⟩] at hF'
        exact hold id' o' ho' _ (hnew id o hm).2 b x hF' hF
    · rw [hbo' id ⟨o, ho⟩] at hF
      rcases hobj id' o' ho' with hm' | ho'
      · exact hold id o ho _ (hnew id' o' hm').2 b x hF hF'
      · rw [hbo' id' ⟨o', ho'⟩] at hF'
        exact hS.1.disj id id' o o' ho ho' hne b x hF hF'
  · have hi' : i ∈ ((s1.put j (place innerId (parId j) v).1).get t').refs := hi
    rw [put_get] at hi'
    split at hi'
    · exact hex i (.inr (r1 i hi'))
    · have hg : s1.get t' = st.get t' := by simp only [St.get, a1]
      rw [hg] at hi'
      exact hex i (.inl (hS.2.1 t' i hi'))
  · rcases hobj id o ho with hm | ho
    · exact hex i (.inr (r2 _ hm i hi))
    · exact hex i (.inl ((hS.2.2 id o ho).2 i hi))
  · rcases hobj id o ho with hm | ho
    · exact .inr (hnew id o hm).2
    · exact .inl ho

theorem enter_ok : ∀ (as : List TV) (j : Nat) (ts : List LT) (cs : List Value) (β : Nat → Loc) (st s : St), SR M0 M β st tm w → TVAll w M as ts cs → (∀ k c, cs[k]? = some c → tm.getD (j + k) undef = c) → (∀ l ∈ LT.locsL ts, ∀ b x, l.F b x → M b x ∧ ¬ M0 b x) → Apart (LT.locsL ts) →
    (∀ id o, st.obj id = some o → ∀ l ∈ LT.locsL ts, ∀ b x, (β id).F b x → ¬ l.F b x) → enter j as st = some s →
    ∃ β', SR M0 M β' s tm w ∧ (∀ id, (∃ o, st.obj id = some o) → β' id = β id) ∧ (∀ id, (∃ o, st.obj id = some o) → ∃ o, s.obj id = some o) ∧ ∀ p ∈ asgA j ts, β' p.1 = p.2
  | [], j, ts, cs, β, st, s, hS, hT, hc, hM, hap, hold, h => by
    simp only [enter, Option.some.injEq] at h; subst h
    simp only [TVAll] at hT
    obtain ⟨rfl, rfl⟩ := hT
    exact ⟨β, hS, fun _ _ => rfl, fun _ h => h, by simp [asgA]⟩
  | v :: as, j, ts, cs, β, st, s, hS, hT, hc, hM, hap, hold, h => by
    simp only [TVAll] at hT
    obtain ⟨t, r, c, d, rfl, rfl, hv, hr⟩ := hT
    simp only [enter] at h
    split at h
    · rename_i s1 h1
      simp only [LT.locsL] at hM hap hold
      obtain ⟨β1, k1, k2, k3, k4⟩ := add_tv hS hv (by simpa using hc 0 c rfl) (fun l hl => hM l (by simp [hl])) hap.left (fun id o ho l hl => hold id o ho l (by simp [hl])) h1
      have hdis : ∀ id o, (s1.put j (place innerId (parId j) v).1).obj id = some o → ∀ l ∈ LT.locsL r, ∀ b x, (β1 id).F b x → ¬ l.F b x := by
        intro id o ho l hl b x hF
        rcases k4 id o ho with ho' | hin
        · rw [k2 id ⟨o, ho'⟩] at hF
          exact hold id o ho' l (by simp [hl]) b x hF
        · have := (List.pairwise_append.1 hap).2.2 _ hin l hl
          exact this b x hF
      obtain ⟨β', m1, m2, m3, m4⟩ := enter_ok as (j + 1) r d β1 _ s k1 hr (fun k c' hk => by
        have := hc (k + 1) c' (by simpa using hk)
        rwa [show j + (k + 1) = j + 1 + k by omega] at this) (fun l hl => hM l (by simp [hl])) hap.right hdis h
      · have hst : ∀ id, (∃ o, st.obj id = some o) → ∃ o, (s1.put j (place innerId (parId j) v).1).obj id = some o := by
          rintro id ⟨o, ho⟩
          obtain ⟨a1, a2, a3, a4⟩ := add_spec _ h1
          show ∃ o, s1.obj id = some o
          rw [a4]
          cases lkp id (place innerId (parId j) v).2 with
          | some o => exact ⟨o, rfl⟩
          | none => exact ⟨o, ho⟩
        refine ⟨β', m1, fun id hi => (m2 id (hst id hi)).trans (k2 id hi), fun id hi => m3 id (hst id hi), fun p hp => ?_⟩
        simp only [asgA, List.mem_append] at hp
        rcases hp with hp | hp
        · rw [← k3 p hp]
          refine m2 p.1 ?_
          have : p.1 ∈ (place innerId (parId j) v).2.map (·.1) := by rw [place_ids innerId v (parId j) t c hv]; exact List.mem_map_of_mem (f := (·.1)) hp
          obtain ⟨q, hq, hqe⟩ := List.mem_map.1 this
          obtain ⟨a1, a2, a3, a4⟩ := add_spec _ h1
          show ∃ o, s1.obj p.1 = some o
          rw [a4, ← hqe, lkp_of_mem (n := q.1) (a := q.2) a2 hq]
          exact ⟨_, rfl⟩
        · exact m4 p hp
    · exact absurd h (by simp)

end

/-! ### Results -/
section
variable {P : Program} {M0 M : Cells} {β : Nat → Loc} {V : View} {w : World} {tm : Array Value}

theorem resTV1_ok (hV : VR M0 M β V tm w) {v : AV} {c : Value} {x : TV} {ids : List Nat} (hc : AVR β w M v c) (h : resTV1 V v = some (x, ids)) : ∃ t js, TVL w M x t c ∧ js.Perm ids ∧ OwnL V β t.locs js := by
  have lent : ∀ {x : TV} {l : List Nat}, lentTV V v = some (x, l) → (∀ i ∈ l, False) → ∃ t js, TVL w M x t c ∧ js.Perm [] ∧ OwnL V β t.locs js := by
    intro x l hl hf
    obtain ⟨y, rfl, hy⟩ := lent_ok hV (fun _ _ h => h) hc hl (fun i hi => (hf i hi).elim)
    exact ⟨.none, [], by simp only [TVL]; exact ⟨trivial, hy⟩, List.Perm.refl _, OwnL.nil⟩
  unfold resTV1 at h
  split at h
  · simp only [Option.some.injEq, Prod.mk.injEq] at h; obtain ⟨rfl, rfl⟩ := h
    exact lent (l := []) rfl (by simp)
  · simp only [Option.some.injEq, Prod.mk.injEq] at h; obtain ⟨rfl, rfl⟩ := h
    exact lent (l := []) rfl (by simp)
  · split at h
    · rename_i hp
      simp only [Option.some.injEq, Prod.mk.injEq] at h; obtain ⟨rfl, rfl⟩ := h
      exact lent (l := []) (by simp only [lentTV, hp]) (by simp)
    · exact absurd h (by simp)
  · split at h
    · rename_i hp
      split at h
      · rename_i ho
        simp only [Option.some.injEq, Prod.mk.injEq] at h; obtain ⟨rfl, rfl⟩ := h
        exact lent (l := []) (by simp only [lentTV, hp, ho, if_true]) (by simp)
      · exact absurd h (by simp)
    · exact absurd h (by simp)
  · split at h
    · rename_i id _ sz es ho
      simp only [Option.some.injEq, Prod.mk.injEq] at h; obtain ⟨rfl, rfl⟩ := h
      simp only [AVR] at hc
      exact ⟨.one (β id), [id], by simp only [TVL]; exact ⟨β id, rfl, hc, hV.objs id _ ho⟩, List.Perm.refl _, OwnL.cons ⟨⟨_, ho⟩, fun _ _ h => h⟩ OwnL.nil⟩
    · exact absurd h (by simp)
  · split at h
    · rename_i ob hl
      simp only [Option.some.injEq, Prod.mk.injEq] at h; obtain ⟨rfl, rfl⟩ := h
      obtain ⟨t, js, k1, k2, k3, _⟩ := leaf_ok hV 4 _ c _ _ _ hc hl
      refine ⟨t, js, k1, ?_, k3⟩
      cases ob <;> simpa [oids] using k2
    · exact absurd h (by simp)
  · exact absurd h (by simp)

def rvRun (tm : Array Value) : ResultVar → Sem Value
  | .tmp t => pure (tm.getD t undef)
  | .cell a t => do loadVar t (← asAddr (tm.getD a undef))

theorem resVal_ok {C : Cx} (hV : VR M0 M β V tm w) {x : ResultVar} {v : AV} (h : resVal C V x = some v) : ∃ c, (rvRun tm x).run C.P w = .ok c w ∧ AVR β w M v c := by
  cases x with
  | tmp t =>
    simp only [resVal, Option.some.injEq] at h; subst h
    exact ⟨_, by simp [rvRun], hV.slots t⟩
  | cell a t =>
    simp only [resVal] at h
    split at h
    · exact absurd h (by simp)
    · rename_i ht
      have ht : okT C.P t = true := by simpa using ht
      split at h
      · rename_i id i off hg
        have hs := hV.slots a
        rw [hg] at hs
        simp only [AVR] at hs
        obtain ⟨b, o, hb, hs⟩ := hs
        split at h
        · rename_i cs ho
          split at h
          · rename_i hcond
            obtain ⟨rfl, hl⟩ := hcond
            rw [Nat.zero_mul, Nat.add_zero] at hs
            obtain ⟨c, k1, k2, _⟩ := load_box (P := C.P) ht (hV.objs id _ ho) hb hl (v := v) (by
              split at h
              · rename_i hag
                rw [if_pos hag]
                split at h
                · rename_i hown; rw [if_pos hown]; simp only [Option.some.injEq] at h; rw [h]
                · exact absurd h (by simp)
              · rename_i hag
                rw [if_neg hag, h])
            exact ⟨c, by simp [rvRun, hs, asAddr, k1], k2⟩
          · exact absurd h (by simp)
        · exact absurd h (by simp)
      · exact absurd h (by simp)

theorem mapM_run1 {α : Type} {f : α → Sem Value} : ∀ (l : List α) (vs : List Value), l.length = vs.length → (∀ (k : Nat) (x : α) (c : Value), l[k]? = some x → vs[k]? = some c → (f x).run P w = .ok c w) → (l.mapM f).run P w = .ok vs w
  | [], [], _, _ => by simp
  | [], _ :: _, h, _ => by simp at h
  | _ :: _, [], h, _ => by simp at h
  | x :: l, v :: vs, hl, h => by
    have h1 := h 0 x v rfl rfl
    have h2 := mapM_run1 l vs (by simpa using hl) (fun k y c hy hc => h (k + 1) y c (by simpa using hy) (by simpa using hc))
    simp [List.mapM_cons, h1, h2]

theorem resTVs_ok {C : Cx} (hV : VR M0 M β V tm w) : ∀ (rv : List ResultVar) (rs : List TV) (ids : List Nat), resTVs C V rv = some (rs, ids) →
    ∃ vs lrs js, rv.length = vs.length ∧ (∀ (k : Nat) (x : ResultVar) (c : Value), rv[k]? = some x → vs[k]? = some c → (rvRun tm x).run C.P w = .ok c w) ∧ TVAll w M rs lrs vs ∧ js.Perm ids ∧ OwnL V β (LT.locsL lrs) js
  | [], rs, ids, h => by
    simp only [resTVs, Option.some.injEq, Prod.mk.injEq] at h; obtain ⟨rfl, rfl⟩ := h
    exact ⟨[], [], [], rfl, by simp, by simp [TVAll], List.Perm.refl _, OwnL.nil⟩
  | x :: rv, rs, ids, h => by
    simp only [resTVs] at h
    split at h
    · rename_i v hv
      split at h
      · rename_i y i l is hy hl
        simp only [Option.some.injEq, Prod.mk.injEq] at h; obtain ⟨rfl, rfl⟩ := h
        obtain ⟨c, k1, k2⟩ := resVal_ok hV hv
        obtain ⟨t, js, k3, k4, k5⟩ := resTV1_ok hV k2 hy
        obtain ⟨vs, lrs, js', m1, m2, m3, m4, m5⟩ := resTVs_ok hV rv l is hl
        refine ⟨c :: vs, t :: lrs, js ++ js', by simp [m1], fun k x' c' hx hc => ?_, by simp only [TVAll]; exact ⟨t, lrs, c, vs, rfl, rfl, k3, m3⟩, List.Perm.append k4 m4, by simp only [LT.locsL]; exact k5.append m5⟩
        cases k with
        | zero => simp at hx hc; subst hx; subst hc; exact k1
        | succ k => exact m2 k x' c' (by simpa using hx) (by simpa using hc)
      · exact absurd h (by simp)
    · exact absurd h (by simp)

theorem results_run {fn : Func} {vs : List Value} (h : (fn.results.toList.mapM (rvRun tm)).run P w = .ok vs w) : (results fn tm).run P w = .ok (wrapV vs) w := by
  have e : results fn tm = (do let vs ← fn.results.mapM (rvRun tm); pure (if h : vs.size = 1 then vs[0] else .tuple vs)) := by
    unfold results
    congr 1
  rw [e, Array.mapM_eq_mapM_toList]
  simp [h]
  cases vs with
  | nil => rfl
  | cons v r => cases r <;> simp [wrapV]

end
end Go.Proofs.Ytmjkdghcfihfiaa.Vm
