/-
  What comes back of parameters; a whole call.
-/
import Derived.Test.YtmjkdghcfihfiaaVmFun
namespace Go.Proofs.Ytmjkdghcfihfiaa.Vm
open Go
set_option linter.unusedVariables false
set_option linter.unusedSimpArgs false

/-- Cells of these places are those of these objects. -/
def Cov (V : View) (β : Nat → Loc) (ls : List Loc) (ids : List Nat) : Prop := ∀ l ∈ ls, ∀ x y, l.F x y → ∃ i ∈ ids, (∃ o, V.obj i = some o) ∧ (β i).F x y
theorem Cov.nil {V : View} {β : Nat → Loc} (ids : List Nat) : Cov V β [] ids := by intro l hl; simp at hl
theorem Cov.append {V : View} {β : Nat → Loc} {ls ls' : List Loc} {a b : List Nat} (h : Cov V β ls a) (k : Cov V β ls' b) : Cov V β (ls ++ ls') (a ++ b) := by
  intro l hl x y hF
  rcases List.mem_append.1 hl with hl | hl
  · obtain ⟨i, h1, h2⟩ := h l hl x y hF; exact ⟨i, by simp [h1], h2⟩
  · obtain ⟨i, h1, h2⟩ := k l hl x y hF; exact ⟨i, by simp [h1], h2⟩
theorem Cov.cons {V : View} {β : Nat → Loc} {l : Loc} {ls : List Loc} {i : Nat} {b : List Nat} (h : (∃ o, V.obj i = some o) ∧ ∀ x y, l.F x y → (β i).F x y) (k : Cov V β ls b) : Cov V β (l :: ls) (i :: b) := by
  intro l' hl x y hF
  rcases List.mem_cons.1 hl with rfl | hl
  · exact ⟨i, by simp, h.1, h.2 x y hF⟩
  · obtain ⟨i, h1, h2⟩ := k l' hl x y hF; exact ⟨i, by simp [h1], h2⟩

theorem samePtr_eq {id : Nat} {v : AV} (h : samePtr id v = true) : v = .addr id 0 0 := by
  unfold samePtr at h
  split at h
  · rename_i i
    have : i = id := by simpa using h
    rw [this]
  · exact absurd h (by simp)

section
variable {M0 M Mw : Cells} {β β0 : Nat → Loc} {V : View} {w w0 : World} {tm : Array Value}

theorem parId_odd (j : Nat) : parId j % 2 = 1 := by unfold parId; omega
theorem innerId_odd (i j : Nat) : innerId i j % 2 = 1 := by unfold innerId; omega

mutual
theorem finalTV_ok (hV : VR M0 M β V tm w) (hpin : ∀ id o, id % 2 = 1 → V.obj id = some o → (β0 id).same (β id)) : ∀ (v : TV) (id : Nat) (t : LT) (c0 c : Value) (f : TV) (a b : List Nat), id % 2 = 1 → TVL w0 Mw v t c0 → (∀ p ∈ asg innerId id t, β0 p.1 = p.2) → AVR β w M (.addr id 0 0) c →
    finalTV V id v = some (f, a, b) → (∃ x, (∃ bs, f = .bld bs ∧ x = v) ∨ ∃ cs, f = .ptr cs ∧ x = v) ∧ ∃ lf js, TVL w M f lf c ∧ like t lf ∧ js.Perm (a ++ b) ∧ OwnL V β lf.locs js ∧ Cov V β lf.loose a ∧ Cov V β t.fixed b
  | .ptr cells, id, t, c0, c, f, a, b, hid, hv, hb, hc, h => by
    simp only [TVL] at hv
    obtain ⟨l, subs, b1, o1, rfl, h1, h2, h3, h4, h5⟩ := hv
    have hl := hb (id, l) (by simp [asg])
    simp only at hl
    simp only [finalTV] at h
    split at h
    · rename_i cs ho
      split at h
      · rename_i l' a' b' hls
        simp only [Option.some.injEq, Prod.mk.injEq] at h; obtain ⟨rfl, rfl, rfl⟩ := h
        have hp := hpin id _ hid ho
        rw [hl] at hp
        obtain ⟨b2, o2, q1, q2, q3, q4⟩ := hV.objs id _ ho
        have hbase : (β id).base = some (b1, o1) := hp.1.trans h1
        rw [hbase] at q1; injection q1 with q1; injection q1 with e1 e2; subst e1; subst e2
        obtain ⟨k0, k1, subs', js, k2, k3, k4, k5, k6, k7⟩ := finalTVs_ok hV hpin cells cs id 0 subs b1 o1 b1 o1 l' a' b' h5 (fun p hp => hb p (by simp only [asg, List.mem_cons]; exact .inr hp)) q4 hls
        simp only [AVR] at hc
        obtain ⟨b3, o3, hb3, hc⟩ := hc
        rw [hbase] at hb3; injection hb3 with hb3; injection hb3 with e1 e2; subst e1; subst e2
        refine ⟨⟨_, .inr ⟨_, rfl, rfl⟩⟩, .box (β id) subs', id :: js, ?_, ?_, ?_, ?_, ?_, ?_⟩
        · simp only [TVL]
          exact ⟨β id, subs', b1, o1, rfl, hbase, by rw [q2]; omega, q3, by simpa using hc, k2⟩
        · simp only [like]
          exact ⟨β id, subs', rfl, by rw [hbase, h1], by rw [q2, h2, k1], by rw [q3, h3], k3⟩
        · exact (List.Perm.cons id k4).trans (List.perm_middle.symm)
        · simp only [LT.locs]; exact OwnL.cons ⟨⟨_, ho⟩, fun _ _ h => h⟩ k5
        · simp only [LT.loose]; exact k6
        · simp only [LT.fixed]
          exact Cov.cons ⟨⟨_, ho⟩, fun x y hF => (Loc.F_of (by rw [hbase, h1]) (by rw [q2, h2, k1]) (by rw [q3, h3]) x y).1 hF⟩ k7
      · exact absurd h (by simp)
    · exact absurd h (by simp)
  | .bld s, id, t, c0, c, f, a, b, hid, hv, hb, hc, h => by
    simp only [TVL] at hv
    obtain ⟨l, b1, o1, rfl, h1, h2, h3⟩ := hv
    have hl := hb (id, l) (by simp [asg])
    simp only at hl
    simp only [finalTV] at h
    split at h
    · rename_i bs ho
      simp only [Option.some.injEq, Prod.mk.injEq] at h; obtain ⟨rfl, rfl, rfl⟩ := h
      have hp := hpin id _ hid ho
      rw [hl] at hp
      have hbase : (β id).base = some (b1, o1) := hp.1.trans h1
      simp only [AVR] at hc
      obtain ⟨b3, o3, hb3, hc⟩ := hc
      rw [hbase] at hb3; injection hb3 with hb3; injection hb3 with e1 e2; subst e1; subst e2
      refine ⟨⟨_, .inl ⟨_, rfl, rfl⟩⟩, .bld (β id), [id], ?_, ?_, by simp, ?_, ?_, by simp [LT.fixed, Cov]⟩
      · simp only [TVL]; exact ⟨β id, b1, o1, rfl, hbase, by simpa using hc, hV.objs id _ ho⟩
      · simp only [like]; exact ⟨β id, rfl, by rw [hbase, h1]⟩
      · simp only [LT.locs]; exact OwnL.cons ⟨⟨_, ho⟩, fun _ _ h => h⟩ OwnL.nil
      · simp only [LT.loose]; exact Cov.cons ⟨⟨_, ho⟩, fun _ _ h => h⟩ (Cov.nil [])
    · exact absurd h (by simp)
  | .pv _, id, t, c0, c, f, a, b, hid, hv, hb, hc, h => by simp [finalTV] at h
  | .own _ _, id, t, c0, c, f, a, b, hid, hv, hb, hc, h => by simp [finalTV] at h
theorem finalTVs_ok (hV : VR M0 M β V tm w) (hpin : ∀ id o, id % 2 = 1 → V.obj id = some o → (β0 id).same (β id)) : ∀ (vs : List TV) (cs : List AV) (id j : Nat) (ts : List LT) (b0 o0 b1 o1 : Nat) (l : List TV) (a b : List Nat), TVLs w0 Mw vs ts b0 o0 → (∀ p ∈ asgs innerId id j ts, β0 p.1 = p.2) →
    (∀ (k : Nat) (v : AV), cs[k]? = some v → ∃ c, at_ w b1 (o1 + k) = some c ∧ frz_ w b1 (o1 + k) = false ∧ c.oneCell' = true ∧ AVR β w M v c) → finalTVs V id j vs cs = some (l, a, b) →
    l.length = cs.length ∧ cs.length = vs.length ∧ ∃ ts' js, TVLs w M l ts' b1 o1 ∧ likes ts ts' ∧ js.Perm (a ++ b) ∧ OwnL V β (LT.locsL ts') js ∧ Cov V β (LT.looseL ts') a ∧ Cov V β (LT.fixedL ts) b
  | [], cs, id, j, ts, b0, o0, b1, o1, l, a, b, hT, hb, hcs, h => by
    cases cs with
    | cons c cs => simp [finalTVs] at h
    | nil =>
      simp only [finalTVs, Option.some.injEq, Prod.mk.injEq] at h; obtain ⟨rfl, rfl, rfl⟩ := h
      simp only [TVLs] at hT; subst hT
      exact ⟨rfl, rfl, [], [], by simp only [TVLs], by simp only [likes], List.Perm.refl _, OwnL.nil, Cov.nil _, Cov.nil _⟩
  | v :: vs, [], id, j, ts, b0, o0, b1, o1, l, a, b, hT, hb, hcs, h => by simp [finalTVs] at h
  | v :: vs, c :: cs, id, j, ts, b0, o0, b1, o1, l, a, b, hT, hb, hcs, h => by
    simp only [TVLs] at hT
    obtain ⟨t, r, c0, rfl, _, _, _, hv, hr⟩ := hT
    obtain ⟨cv, c1, c2, c3, c4⟩ := hcs 0 c rfl
    simp only [finalTVs] at h
    split at h
    · rename_i x a1 b1' l' a2 b2 hx hl
      simp only [Option.some.injEq, Prod.mk.injEq] at h; obtain ⟨rfl, rfl, rfl⟩ := h
      obtain ⟨k0, k1, ts', js, k2, k3, k4, k5, k6, k7⟩ := finalTVs_ok hV hpin vs cs id (j + 1) r b0 (o0 + 1) b1 (o1 + 1) l' a2 b2 hr (fun p hp => hb p (by simp only [asgs, List.mem_append]; exact .inr hp)) (fun k v hk => by
        have := hcs (k + 1) v (by simpa using hk)
        rwa [show o1 + (k + 1) = o1 + 1 + k by omega] at this) hl
      have head : ∃ lf js1, TVL w M x lf cv ∧ like t lf ∧ js1.Perm (a1 ++ b1') ∧ OwnL V β lf.locs js1 ∧ Cov V β lf.loose a1 ∧ Cov V β t.fixed b1' := by
        have plain : (t = .none ∨ ∃ l0, t = .one l0) → plainFin V c = some (x, a1, b1') →
            ∃ lf js1, TVL w M x lf cv ∧ like t lf ∧ js1.Perm (a1 ++ b1') ∧ OwnL V β lf.locs js1 ∧ Cov V β lf.loose a1 ∧ Cov V β t.fixed b1' := by
          intro ht hx
          have hlike : ∀ lf, like t lf := by
            intro lf
            rcases ht with rfl | ⟨_, rfl⟩ <;> simp only [like]
          have hfix : t.fixed = [] := by rcases ht with rfl | ⟨_, rfl⟩ <;> rfl
          unfold plainFin at hx
          split at hx
          · simp only [Option.some.injEq, Prod.mk.injEq] at hx; obtain ⟨rfl, rfl, rfl⟩ := hx
            simp only [AVR] at c4
            exact ⟨.none, [], by simp only [TVL]; exact ⟨trivial, c4⟩, hlike _, List.Perm.refl _, OwnL.nil, Cov.nil _, by rw [hfix]; exact Cov.nil _⟩
          · simp only [Option.some.injEq, Prod.mk.injEq] at hx; obtain ⟨rfl, rfl, rfl⟩ := hx
            simp only [AVR] at c4; subst c4
            refine ⟨.none, [], ?_, hlike _, List.Perm.refl _, OwnL.nil, Cov.nil _, by rw [hfix]; exact Cov.nil _⟩
            simp only [TVL, Rep]
            exact ⟨trivial, none, 0, rfl, Nat.le_refl _, fun _ => rfl, fun a ha => by simp at ha, 1, by simp only [RepRow]⟩
          · split at hx
            · rename_i i _ _ sz es ho
              simp only [Option.some.injEq, Prod.mk.injEq] at hx; obtain ⟨rfl, rfl, rfl⟩ := hx
              simp only [AVR] at c4
              exact ⟨.one (β i), [i], by simp only [TVL]; exact ⟨β i, rfl, c4, hV.objs i _ ho⟩, hlike _, by simp, OwnL.cons ⟨⟨_, ho⟩, fun _ _ h => h⟩ OwnL.nil, Cov.cons ⟨⟨_, ho⟩, fun _ _ h => h⟩ (Cov.nil []), by rw [hfix]; exact Cov.nil _⟩
            · exact absurd hx (by simp)
          · exact absurd hx (by simp)
        have hb' : ∀ p ∈ asg innerId (innerId id j) t, β0 p.1 = p.2 := fun p hp => hb p (by simp only [asgs, List.mem_append]; exact .inl hp)
        by_cases href : isRef v = true
        · rw [if_pos href] at hx
          split at hx
          · rename_i hsp
            rw [samePtr_eq hsp] at c4
            exact (finalTV_ok hV hpin v (innerId id j) t c0 cv x a1 b1' (innerId_odd _ _) hv hb' c4 hx).2
          · exact absurd hx (by simp)
        · rw [if_neg href] at hx
          cases v with
          | pv y =>
            simp only [TVL] at hv
            exact plain (.inl hv.1) hx
          | own sz es =>
            simp only [TVL] at hv
            obtain ⟨l0, e, _⟩ := hv
            exact plain (.inr ⟨l0, e⟩) hx
          | ptr cells => exact absurd rfl href
          | bld s => exact absurd rfl href
      obtain ⟨lf, js1, m1, m2, m3, m4, m5, m6⟩ := head
      refine ⟨by simp [k0], by simp [k1], lf :: ts', js1 ++ js, ?_, ?_, ?_, ?_, ?_, ?_⟩
      · simp only [TVLs]; exact ⟨lf, ts', cv, rfl, by simpa using c1, by simpa using c2, c3, m1, k2⟩
      · simp only [likes]; exact ⟨lf, ts', rfl, m2, k3⟩
      · exact (List.Perm.append m3 k4).trans (perm4 _ _ _ _)
      · simp only [LT.locsL]; exact m4.append k5
      · simp only [LT.looseL]; exact m5.append k6
      · simp only [LT.fixedL]; exact m6.append k7
    · exact absurd h (by simp)
end

theorem finals_ok (hV : VR M0 M β V tm w) (hpin : ∀ id o, id % 2 = 1 → V.obj id = some o → (β0 id).same (β id)) : ∀ (as : List TV) (ms : List Mode) (j : Nat) (ts : List LT) (cs : List Value) (fs : List TV) (a b : List Nat), TVAll w0 Mw as ts cs → (∀ p ∈ asgA j ts, β0 p.1 = p.2) →
    finals V ms j as = some (fs, a, b) → ∃ lfs js, FinR w M ms as ts cs fs lfs ∧ js.Perm (a ++ b) ∧ OwnL V β (LT.locsL lfs) js ∧ Cov V β (LooseF fs lfs) a ∧ Cov V β (FixA ms as ts) b
  | [], ms, j, ts, cs, fs, a, b, hT, hb, h => by
    simp only [finals, Option.some.injEq, Prod.mk.injEq] at h; obtain ⟨rfl, rfl, rfl⟩ := h
    exact ⟨[], [], by simp [FinR], List.Perm.refl _, OwnL.nil, by simp [LooseF, Cov], by simp [FixA, Cov]⟩
  | .pv x :: as, ms, j, ts, cs, fs, a, b, hT, hb, h => by
    simp only [TVAll] at hT
    obtain ⟨t, r, c, d, rfl, rfl, hv, hr⟩ := hT
    simp only [finals] at h
    obtain ⟨lfs, js, k1, k2, k3, k4, k5⟩ := finals_ok hV hpin as ms.tail (j + 1) r d fs a b hr (fun p hp => hb p (by simp only [asgA, List.mem_append]; exact .inr hp)) h
    exact ⟨lfs, js, by simp only [FinR]; exact ⟨t, r, c, d, rfl, rfl, k1⟩, k2, k3, k4, by simp only [FixA]; exact k5⟩
  | .own sz es :: as, ms, j, ts, cs, fs, a, b, hT, hb, h => by
    simp only [TVAll] at hT
    obtain ⟨t, r, c, d, rfl, rfl, hv, hr⟩ := hT
    simp only [finals] at h
    split at h
    · rename_i l a' b' hl
      obtain ⟨lfs, js, k1, k2, k3, k4, k5⟩ := finals_ok hV hpin as ms.tail (j + 1) r d l a' b' hr (fun p hp => hb p (by simp only [asgA, List.mem_append]; exact .inr hp)) hl
      split at h
      · rename_i hmut
        split at h
        · rename_i sz' es' ho
          simp only [Option.some.injEq, Prod.mk.injEq] at h; obtain ⟨rfl, rfl, rfl⟩ := h
          simp only [TVL] at hv
          obtain ⟨l0, rfl, hc, hO⟩ := hv
          have hl0 := hb (parId j, l0) (by simp [asgA, asg])
          simp only at hl0
          have hp := hpin (parId j) _ (parId_odd j) ho
          rw [hl0] at hp
          have hO' := hV.objs (parId j) _ ho
          have he : β (parId j) = l0 := by
            obtain ⟨p1, p2, p3, p4⟩ := hp
            obtain ⟨q1, q2, q3, q4, q5, q6, q7, q8, q9⟩ := hO'
            obtain ⟨r1, r2, r3, r4, r5, r6, r7, r8, r9⟩ := hO
            have hk : (β (parId j)).k = l0.k := by rw [q5, r5, p3, ← q1, ← r1, p4]
            have hx : (β (parId j)).ext = l0.ext := by rw [q6, r6]
            generalize β (parId j) = lx at p1 p2 p3 p4 hk hx
            cases lx; cases l0
            simp only at p1 p2 p3 p4 hk hx
            subst p1; subst p2; subst p3; subst p4; subst hk; subst hx; rfl
          have hsz : sz' = sz := by rw [he] at hO'; exact hO'.1.symm.trans hO.1
          subst hsz
          rw [he] at hO'
          have hF : ∀ x y, l0.F x y → (β (parId j)).F x y := fun x y h => by rw [he]; exact h
          refine ⟨.one l0 :: lfs, parId j :: js, ?_, ?_, ?_, ?_, ?_⟩
          · simp only [FinR]
            exact ⟨_, r, c, d, rfl, rfl, by rw [if_pos hmut]; exact ⟨es', l, lfs, rfl, rfl, by simp only [TVL]; exact ⟨l0, rfl, hc, hO'⟩, k1⟩⟩
          · exact (List.Perm.cons _ k2).trans (List.perm_middle.symm)
          · simp only [LT.locsL, LT.locs]; exact OwnL.cons ⟨⟨_, ho⟩, hF⟩ k3
          · simp only [LooseF]; exact k4
          · simp only [FixA]
            rw [if_pos hmut]
            simp only [LT.locs]
            exact Cov.cons ⟨⟨_, ho⟩, hF⟩ k5
        · exact absurd h (by simp)
      · rename_i hmut
        simp only [Option.some.injEq, Prod.mk.injEq] at h; obtain ⟨rfl, rfl, rfl⟩ := h
        exact ⟨lfs, js, by simp only [FinR]; exact ⟨t, r, c, d, rfl, rfl, by rw [if_neg hmut]; exact k1⟩, k2, k3, k4, by simp only [FixA]; rw [if_neg hmut]; exact k5⟩
    · exact absurd h (by simp)
  | .ptr cells :: as, ms, j, ts, cs, fs, a, b, hT, hb, h => by
    simp only [TVAll] at hT
    obtain ⟨t, r, c, d, rfl, rfl, hv, hr⟩ := hT
    simp only [finals] at h
    split at h
    · rename_i x a1 b1 l a2 b2 hx hl
      simp only [Option.some.injEq, Prod.mk.injEq] at h; obtain ⟨rfl, rfl, rfl⟩ := h
      obtain ⟨lfs, js, k1, k2, k3, k4, k5⟩ := finals_ok hV hpin as ms.tail (j + 1) r d l a2 b2 hr (fun p hp => hb p (by simp only [asgA, List.mem_append]; exact .inr hp)) hl
      have hb' : ∀ p ∈ asg innerId (parId j) t, β0 p.1 = p.2 := fun p hp => hb p (by simp only [asgA, List.mem_append]; exact .inl hp)
      have hc : AVR β w M (.addr (parId j) 0 0) c := by
        simp only [TVL] at hv
        obtain ⟨l0, subs, b3, o3, rfl, h1, _, _, h4, _⟩ := hv
        have hl0 := hb' (parId j, l0) (by simp [asg])
        simp only at hl0
        have ho : ∃ o, V.obj (parId j) = some o := by
          simp only [finalTV] at hx
          split at hx
          · rename_i ho; exact ⟨_, ho⟩
          · exact absurd hx (by simp)
        obtain ⟨o, ho⟩ := ho
        have hp := hpin (parId j) _ (parId_odd j) ho
        rw [hl0] at hp
        simp only [AVR]
        exact ⟨b3, o3, hp.1.trans h1, by simpa using h4⟩
      obtain ⟨⟨_, hsh⟩, lf, js1, m1, m2, m3, m4, m5, m6⟩ := finalTV_ok hV hpin (.ptr cells) (parId j) t c c x a1 b1 (parId_odd j) hv hb' hc hx
      have hLF : LooseF (x :: l) (lf :: lfs) = lf.loose ++ LooseF l lfs := by
        rcases hsh with ⟨bs, rfl, _⟩ | ⟨cs', rfl, _⟩ <;> rfl
      refine ⟨lf :: lfs, js1 ++ js, ?_, (List.Perm.append m3 k2).trans (perm4 _ _ _ _), by simp only [LT.locsL]; exact m4.append k3, by rw [hLF]; exact m5.append k4, by simp only [FixA]; exact m6.append k5⟩
      simp only [FinR]; exact ⟨t, r, c, d, rfl, rfl, x, l, lf, lfs, rfl, rfl, m1, m2, k1⟩
    · exact absurd h (by simp)
  | .bld s :: as, ms, j, ts, cs, fs, a, b, hT, hb, h => by
    simp only [TVAll] at hT
    obtain ⟨t, r, c, d, rfl, rfl, hv, hr⟩ := hT
    simp only [finals] at h
    split at h
    · rename_i x a1 b1 l a2 b2 hx hl
      simp only [Option.some.injEq, Prod.mk.injEq] at h; obtain ⟨rfl, rfl, rfl⟩ := h
      obtain ⟨lfs, js, k1, k2, k3, k4, k5⟩ := finals_ok hV hpin as ms.tail (j + 1) r d l a2 b2 hr (fun p hp => hb p (by simp only [asgA, List.mem_append]; exact .inr hp)) hl
      have hb' : ∀ p ∈ asg innerId (parId j) t, β0 p.1 = p.2 := fun p hp => hb p (by simp only [asgA, List.mem_append]; exact .inl hp)
      have hc : AVR β w M (.addr (parId j) 0 0) c := by
        simp only [TVL] at hv
        obtain ⟨l0, b3, o3, rfl, h1, h4, _⟩ := hv
        have hl0 := hb' (parId j, l0) (by simp [asg])
        simp only at hl0
        have ho : ∃ o, V.obj (parId j) = some o := by
          simp only [finalTV] at hx
          split at hx
          · rename_i ho; exact ⟨_, ho⟩
          · exact absurd hx (by simp)
        obtain ⟨o, ho⟩ := ho
        have hp := hpin (parId j) _ (parId_odd j) ho
        rw [hl0] at hp
        simp only [AVR]
        exact ⟨b3, o3, hp.1.trans h1, by simpa using h4⟩
      obtain ⟨⟨_, hsh⟩, lf, js1, m1, m2, m3, m4, m5, m6⟩ := finalTV_ok hV hpin (.bld s) (parId j) t c c x a1 b1 (parId_odd j) hv hb' hc hx
      have hLF : LooseF (x :: l) (lf :: lfs) = lf.loose ++ LooseF l lfs := by
        rcases hsh with ⟨bs, rfl, _⟩ | ⟨cs', rfl, _⟩ <;> rfl
      refine ⟨lf :: lfs, js1 ++ js, ?_, (List.Perm.append m3 k2).trans (perm4 _ _ _ _), by simp only [LT.locsL]; exact m4.append k3, by rw [hLF]; exact m5.append k4, by simp only [FixA]; exact m6.append k5⟩
      simp only [FinR]; exact ⟨t, r, c, d, rfl, rfl, x, l, lf, lfs, rfl, rfl, m1, m2, k1⟩
    · exact absurd h (by simp)

/-- A place of an argument may go, or stays. -/
theorem loose_fix : ∀ {as : List TV} {ms : List Mode} {ts : List LT} {cs : List Value}, TVAll w M as ts cs → ∀ l ∈ LT.locsL ts, l ∈ LooseA ms as ts ∨ l ∈ FixA ms as ts
  | [], ms, ts, cs, h, l, hl => by simp only [TVAll] at h; obtain ⟨rfl, rfl⟩ := h; simp [LT.locsL] at hl
  | v :: as, ms, ts, cs, h, l, hl => by
    simp only [TVAll] at h
    obtain ⟨t, r, c, d, rfl, rfl, hv, hr⟩ := h
    simp only [LT.locsL, List.mem_append] at hl
    have ih := fun hl => loose_fix (ms := ms.tail) hr l hl
    cases v with
    | pv x =>
      simp only [TVL] at hv
      simp only [LooseA, FixA, List.mem_append]
      rcases hl with hl | hl
      · rw [hv.1] at hl; simp [LT.locs] at hl
      · exact (ih hl).imp .inr id
    | own sz es =>
      simp only [LooseA, FixA, List.mem_append]
      rcases hl with hl | hl
      · by_cases hm : ms.headD .borrow = .mut
        · exact .inr (.inl (by rw [if_pos hm]; exact hl))
        · exact .inl (.inl (by rw [if_neg hm]; exact hl))
      · exact (ih hl).imp .inr .inr
    | ptr cells =>
      simp only [LooseA, FixA, List.mem_append]
      rcases hl with hl | hl
      · exact ((LT.mem_locs t l).1 hl).imp .inl .inl
      · exact (ih hl).imp .inr .inr
    | bld s =>
      simp only [LooseA, FixA, List.mem_append]
      rcases hl with hl | hl
      · exact ((LT.mem_locs t l).1 hl).imp .inl .inl
      · exact (ih hl).imp .inr .inr

end
end Go.Proofs.Ytmjkdghcfihfiaa.Vm
