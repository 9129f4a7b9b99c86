/-
  THE MACHINE IS SOUND: what it says of a call, the model does.
-/
import Derived.Test.YtmjkdghcfihfiaaVmFin
namespace Go.Proofs.Ytmjkdghcfihfiaa.Vm
open Go
set_option linter.unusedVariables false
set_option linter.unusedSimpArgs false

def funcOK (fn : Func) : Bool := !(fn.name == "runtime.NumGoroutine") && (match fn.body with | some c => dstsOk fn.ntmps c | none => true)
def progOK (P : Program) : Bool := P.funcs.toList.all funcOK

theorem progOK_at {P : Program} (h : progOK P = true) {f : FuncId} {fn : Func} (hf : P.funcs[f]? = some fn) : funcOK fn = true := by
  simp only [progOK, List.all_eq_true] at h
  exact h fn (List.mem_of_getElem? (i := f) (by simpa using hf))

theorem run_callFunc {P : Program} (h : progOK P = true) {f : FuncId} {fn : Func} {c : Code} (hf : P.funcs[f]? = some fn) (hb : fn.body = some c) (args : Array Value) (w : World) : (callFunc f args).run P w = .ok (.enter f args) w := by
  have h1 := progOK_at h hf
  simp only [funcOK, Bool.and_eq_true, Bool.not_eq_true'] at h1
  have h2 : ¬ fn.name = "runtime.NumGoroutine" := by simpa using h1.1
  unfold callFunc
  simp [program, Sem.run, hf, h2, hb]

section
variable {C : Cx} {M0 : Cells} {β0 : Nat → Loc} {w w' : World} {n : Nat}

theorem leave_ok {f : FuncId} {fn : Func} {as : List TV} {ts : List LT} {args : List Value} {st : St} {a : Act} {rs fs : List TV} (hH : Handed M0 w as ts args) (hb : ∀ p ∈ asgA 0 ts, β0 p.1 = p.2)
    (hI : Inv M0 (fun b j => ∃ l ∈ LT.locsL ts, l.F b j) β0 w n st a w') (h : leave C f fn.results.toList as st = some (rs, fs)) :
    ∃ v, (results fn a.tmps).run C.P w' = .ok v w' ∧ Took (C.modes f) M0 w as ts args rs fs v w' := by
  unfold leave at h
  split at h
  · rename_i s hs
    have hpass : ∀ (rv : List ResultVar) {st s : St}, resPrep C rv st = some s → Pass M0 a.tmps w' st s := by
      intro rv
      induction rv with
      | nil => intro st s h; simp only [resPrep, Option.some.injEq] at h; subst h; exact Pass.refl _
      | cons x r ih =>
        intro st s h
        simp only [resPrep] at h
        split at h
        · rename_i s1 h1
          exact (pass_freezeAll h1).trans (ih h)
        · exact absurd h (by simp)
    obtain ⟨M, β, hS, hFr, hM, hn, hdef, hpin⟩ := Inv.step hI (hpass _ hs)
    split at h
    · rename_i rs' i1 fs' i2 i3 hr hf
      split at h
      · rename_i hnd
        simp only [Option.some.injEq, Prod.mk.injEq] at h; obtain ⟨rfl, rfl⟩ := h
        have hnd := nodup_ok hnd
        obtain ⟨vs, lrs, js, r1, r2, r3, r4, r5⟩ := resTVs_ok hS.1 _ _ _ hr
        obtain ⟨lfs, js', f1, f2, f3, f4, f5⟩ := finals_ok hS.1 (fun id o hid ho => hpin id o hid ho) as (C.modes f) 0 ts args fs' i2 i3 hH.tv hb hf
        refine ⟨wrapV vs, results_run (mapM_run1 _ _ r1 r2), vs, lrs, lfs, rfl, ?_⟩
        have hjs : (js ++ js').Perm (i1 ++ (i2 ++ i3)) := List.Perm.append r4 f2
        have hO : OwnL s.view β (LT.locsL (lrs ++ lfs)) (js ++ js') := by rw [locsL_append]; exact r5.append f3
        have hMx : ∀ b j, cellsOf M0 (LT.locsL (lrs ++ lfs)) b j → M b j := by
          rintro b j (h | ⟨l, hl, hF⟩)
          · exact hS.1.sup b j h
          · obtain ⟨i, hi, ⟨o, ho⟩, hF'⟩ := hO.mem l hl b j hF
            exact (hS.1.own i o ho b j hF').1
        have hcell : ∀ i, (∃ o, s.view.obj i = some o) → ∀ b j, (β i).F b j → ¬ M0 b j ∧ b < w'.heap.size ∧ (w.heap.size ≤ b ∨ ∃ l0 ∈ LT.locsL ts, l0.F b j) := by
          rintro i ⟨o, ho⟩ b j hF
          have := hS.1.own i o ho b j hF
          refine ⟨this.2, hS.1.old b j this.1, ?_⟩
          rcases hM b j this.1 with h | h | h
          · exact absurd h this.2
          · exact .inr h
          · exact .inl h
        have hloose : ∀ i, (∃ o, s.view.obj i = some o) → i ∉ i3 → ∀ b j, (β i).F b j → w.heap.size ≤ b ∨ ∃ l0 ∈ LooseA (C.modes f) as ts, l0.F b j := by
          intro i hi hn3 b j hF
          rcases (hcell i hi b j hF).2.2 with h | ⟨l0, hl0, hF0⟩
          · exact .inl h
          · rcases loose_fix (ms := C.modes f) hH.tv l0 hl0 with h | h
            · exact .inr ⟨l0, h, hF0⟩
            · obtain ⟨k, hk, ⟨o', ho'⟩, hF'⟩ := f5 l0 h b j hF0
              obtain ⟨o, ho⟩ := hi
              exact absurd hF' (hS.1.disj i k o o' ho ho' (fun e => hn3 (e ▸ hk)) b j hF)
        refine ⟨TVAll.imp (fun v _ t c h => TVL.sub hMx h) r3, FinR.imp (fun v _ t c h => TVL.sub hMx h) f1, OwnL.pairwise hS.1 hO (hjs.symm.nodup hnd), fun l hl b j hF => ?_, fun l hl b j hF => ?_, hFr⟩
        · obtain ⟨i, hi, ho, hF'⟩ := hO.mem l hl b j hF
          exact hcell i ho b j hF'
        · obtain ⟨n1, n2, n3⟩ := List.nodup_append.1 hnd
          obtain ⟨n4, n5, n6⟩ := List.nodup_append.1 n2
          rcases List.mem_append.1 hl with hl | hl
          · obtain ⟨i, hi, ho, hF'⟩ := r5.mem l hl b j hF
            exact hloose i ho (fun h3 => n3 i (r4.subset hi) i (List.mem_append.2 (.inr h3)) rfl) b j hF'
          · obtain ⟨i, hi, ho, hF'⟩ := f4 l hl b j hF
            exact hloose i ho (fun h3 => n6 i hi i h3 rfl) b j hF'
      · exact absurd h (by simp)
    · exact absurd h (by simp)
  · exact absurd h (by simp)

/-- WHAT THE MACHINE SAYS OF A CALL, THE MODEL DOES. -/
theorem callN_ok (hext : ∀ f g as rs fs, C.ext f = some g → g as = some (rs, fs) → Contract C.P (C.modes f) f as rs fs) (hprog : progOK C.P = true) (hmix : C.P.follows .mixedOrders = true) :
    ∀ (k : Nat) (f : FuncId) (as rs fs : List TV), callN C k f as = some (rs, fs) → Contract C.P (C.modes f) f as rs fs
  | 0, f, as, rs, fs, h => by simp [callN] at h
  | k + 1, f, as, rs, fs, h => by
    simp only [callN] at h
    split at h
    · rename_i g hg
      exact hext f g as rs fs hg h
    · split at h
      · exact absurd h (by simp)
      · rename_i fn hfn
        split at h
        · exact absurd h (by simp)
        · rename_i c hc
          split at h
          · rename_i hlen
            split at h
            · rename_i s hs
              split at h
              · rename_i e st hbody
                split at h
                · rename_i he
                  intro M0 w ts args hH
                  unfold Invokes
                  rw [run_callFunc hprog hfn hc]
                  simp only
                  have hal := TVAll.length hH.tv
                  let tm : Array Value := args.toArray ++ Array.replicate (fn.ntmps - args.toArray.size) undef
                  have hM0 : ∀ b j, M0 b j → cellsOf M0 (LT.locsL ts) b j := fun b j h => .inl h
                  have hS0 : SR M0 (cellsOf M0 (LT.locsL ts)) (fun _ => ⟨none, 0, 0, 0, 0, none⟩) ⟨[], []⟩ tm w := by
                    refine ⟨⟨hM0, ?_, fun t => ?_, fun id o ho => ?_, fun id o ho => ?_, fun id id' o o' ho => ?_⟩, fun t i hi => ?_, fun id o ho => ?_⟩
                    · rintro b j (h | ⟨l, hl, hF⟩)
                      · exact hH.old b j h
                      · exact (hH.out l hl b j hF).2
                    · show AVR _ w _ .undef _
                      simp only [AVR]
                    · have : (none : Option Obj) = some o := ho; simp at this
                    · have : (none : Option Obj) = some o := ho; simp at this
                    · have : (none : Option Obj) = some o := ho; simp at this
                    · have hi' : i ∈ AV.refs .undef := hi
                      simp [AV.refs] at hi'
                    · have : (none : Option Obj) = some o := ho; simp at this
                  obtain ⟨β', k1, k2, k3, k4⟩ := enter_ok as 0 ts args _ _ s hS0 hH.tv (fun j cc hj => by
                      have hlt := (List.getElem?_eq_some_iff.1 hj).1
                      simp only [tm, Nat.zero_add, Array.getD_eq_getD_getElem?]
                      rw [Array.getElem?_append_left (by simpa using hlt)]
                      simp [hj])
                    (fun l hl b x hF => ⟨.inr ⟨l, hl, hF⟩, (hH.out l hl b x hF).1⟩) hH.apart (fun id o ho => by have : (none : Option Obj) = some o := ho; simp at this) hs
                  have hsz : tm.size = fn.ntmps := by simp [tm]; omega
                  have hI : Inv M0 (fun b j => ∃ l ∈ LT.locsL ts, l.F b j) β' w fn.ntmps s ⟨tm, []⟩ w := by
                    refine ⟨_, β', k1, Fr.refl _ _, fun b j hb => ?_, hsz, rfl, fun id o _ _ => Loc.same_refl _⟩
                    rcases hb with h | h
                    · exact .inl h
                    · exact .inr (.inl h)
                  have hdo : dstsOk fn.ntmps c = true := by
                    have := progOK_at hprog hfn
                    simp only [funcOK, hc, Bool.and_eq_true] at this
                    exact this.2
                  refine calls_of_wp hfn hc (wp_mono (body_ok (callN_ok hext hprog hmix k) hmix hbody hdo hI) ?_)
                  rintro e' a' w' ⟨rfl, hI'⟩
                  obtain ⟨v, h1, h2⟩ := leave_ok hH k4 hI' h
                  have hd : a'.defers = [] := by obtain ⟨_, _, _, _, _, _, hd, _⟩ := hI'; exact hd
                  rcases he with he | he
                  · subst he
                    exact ⟨hd, v, h1, v, rfl, h2⟩
                  · subst he
                    exact ⟨hd, v, h1, v, rfl, h2⟩
                · exact absurd h (by simp)
              · exact absurd h (by simp)
            · exact absurd h (by simp)
          · exact absurd h (by simp)

end
end Go.Proofs.Ytmjkdghcfihfiaa.Vm
