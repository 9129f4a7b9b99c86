/-
  A function's code.
-/
import Derived.Test.YtmjkdghcfihfiaaVmDraw
import Derived.ScopeJumps
namespace Go.Proofs.Ytmjkdghcfihfiaa.Vm
open Go
set_option linter.unusedVariables false
set_option linter.unusedSimpArgs false

def dstsOk (n : Nat) : Code → Bool
  | .region _ ops _ => ops.toList.all fun o => match o.dst with | some t => decide (t < n) | none => true
  | .seq a b => dstsOk n a && dstsOk n b
  | .cond _ a b => dstsOk n a && dstsOk n b
  | .block _ b => dstsOk n b
  | .loop b => dstsOk n b
  | .scope b => dstsOk n b
  | _ => true

theorem findLabel_dsts {n l : Nat} : ∀ {c rest : Code}, findLabel c l = some rest → dstsOk n c = true → dstsOk n rest = true
  | .seq a b, rest, h, hd => by
    simp only [dstsOk, Bool.and_eq_true] at hd
    simp only [findLabel] at h
    split at h
    · rename_i r hr
      simp only [Option.some.injEq] at h; subst h
      simp only [dstsOk, Bool.and_eq_true]
      exact ⟨findLabel_dsts hr hd.1, hd.2⟩
    · exact findLabel_dsts h hd.2
  | .label l', rest, h, hd => by
    simp only [findLabel] at h
    split at h
    · simp only [Option.some.injEq] at h; subst h; rfl
    · exact absurd h (by simp)
  | .skip, _, h, _ | .region _ _ _, _, h, _ | .cond _ _ _, _, h, _ | .block _ _, _, h, _ | .loop _, _, h, _ | .rangeFunc _ _ _ _, _, h, _ | .exit _, _, h, _ | .scope _, _, h, _ | .goto _, _, h, _ | .ret, _, h, _ | .refuse _, _, h, _ => by simp [findLabel] at h

def ExO : Ex → Exit
  | .normal => .normal
  | .exit id => .exit id
  | .goto l => .goto l
  | .ret => .ret

section
variable {C : Cx} {call : FuncId → List TV → Option (List TV × List TV)} {M0 D0 : Cells} {β0 : Nat → Loc} {w0 : World} {n : Nat} {f : FuncId} {kk : Nat}

/-- Behind a jump. -/
def AgainOK (C : Cx) (M0 D0 : Cells) (β0 : Nat → Loc) (w0 : World) (n : Nat) (again : Code → Code → St → Option (Ex × St)) : Prop :=
  ∀ (b rest : Code) (st : St) (r : Ex × St) (a : Act) (w : World), again b rest st = some r → dstsOk n b = true → dstsOk n rest = true → Inv M0 D0 β0 w0 n st a w →
    ∀ (b0 : Frame) (k : List Item) (cs : List Frame), ∃ a' w', Inv M0 D0 β0 w0 n r.2 a' w' ∧ Arrives C.P (lone (b0.at a (.code rest :: .inScope b :: k)) cs w) b0 k cs (ExO r.1) a' w'

def Post1 (M0 D0 : Cells) (β0 : Nat → Loc) (w0 : World) (n : Nat) (r : Ex × St) : Exit → Act → World → Prop := fun e a' w' => e = ExO r.1 ∧ Inv M0 D0 β0 w0 n r.2 a' w'

theorem inv_norm {st s : St} {a : Act} {w : World} {x : List Nat × List Nat × List (Nat × Option Nat × Nat)} (hI : Inv M0 D0 β0 w0 n st a w) (h : norm x st = some s) : Inv M0 D0 β0 w0 n s a w := Inv.step hI (pass_norm h)

/-- Through a scope's end. -/
theorem arrives_scope {b0 : Frame} {k : List Item} {cs : List Frame} {b : Code} {m : Machine} {a : Act} {w : World} : ∀ {e : Ex}, (∀ l, e ≠ .goto l) → Arrives C.P m b0 (.inScope b :: k) cs (ExO e) a w → Arrives C.P m b0 k cs (ExO e) a w
  | .normal, _, h => Steps.trans h (.one step_inScope)
  | .exit id, _, h => fun k' hk => h k' (by simp [exitTo, hk])
  | .goto l, hn, _ => absurd rfl (hn l)
  | .ret, _, h => h

theorem handle_ok {again : Code → Code → St → Option (Ex × St)} (hag : AgainOK C M0 D0 β0 w0 n again) {b : Code} (hb : dstsOk n b = true) {r : Ex × St} {r0 : Option (Ex × St)} (h : handle C f again b r0 = some r) :
    ∃ r1, r0 = some r1 ∧ ∀ (m : Machine) (a1 : Act) (w1 : World) (b0 : Frame) (k : List Item) (cs : List Frame), Inv M0 D0 β0 w0 n r1.2 a1 w1 → Arrives C.P m b0 (.inScope b :: k) cs (ExO r1.1) a1 w1 →
      ∃ a' w', Inv M0 D0 β0 w0 n r.2 a' w' ∧ Arrives C.P m b0 k cs (ExO r.1) a' w' := by
  unfold handle at h
  split at h
  · rename_i l s
    refine ⟨_, rfl, fun m a1 w1 b0 k cs hI harr => ?_⟩
    split at h
    · rename_i rest s' hf hn
      obtain ⟨a', w', h1, h2⟩ := hag b rest s' r a1 w1 h hb (findLabel_dsts hf hb) (inv_norm hI hn) b0 k cs
      exact ⟨a', w', h1, .of_steps (harr _ (by simp [gotoIn, hf])) h2⟩
    · exact absurd h (by simp)
  · rename_i hng
    cases r0 with
    | none => simp at h
    | some r1 =>
      simp only [Option.some.injEq] at h; subst h
      exact ⟨r1, rfl, fun m a1 w1 b0 k cs hI harr => ⟨a1, w1, hI, arrives_scope (fun l e => hng l r1.2 (by rw [← e])) harr⟩⟩

theorem code_ok (hcall : ∀ f as rs fs, call f as = some (rs, fs) → Contract C.P (C.modes f) f as rs fs) (hmix : C.P.follows .mixedOrders = true) {again : Code → Code → St → Option (Ex × St)} (hag : AgainOK C M0 D0 β0 w0 n again) :
    ∀ (c : Code) (st : St) (r : Ex × St) (a : Act) (w : World), code C call f kk again c st = some r → dstsOk n c = true → Inv M0 D0 β0 w0 n st a w → c.wp C.P (Post1 M0 D0 β0 w0 n r) a w
  | .skip, st, r, a, w, h, hd, hI => by
    simp only [code, Option.some.injEq] at h; subst h
    exact wp_skip ⟨rfl, hI⟩
  | .label l, st, r, a, w, h, hd, hI => by
    simp only [code] at h
    split at h
    · rename_i s hs
      simp only [Option.some.injEq] at h; subst h
      exact wp_label ⟨rfl, inv_norm hI hs⟩
    · exact absurd h (by simp)
  | .region id ops draw, st, r, a, w, h, hd, hI => by
    simp only [code] at h
    split at h
    · rename_i s hs
      split at h
      · rename_i s' hs'
        simp only [Option.some.injEq] at h; subst h
        refine region_ok hcall hmix (Inv.step hI (pass_freezeSlots _ hs)) hs' (fun o ho t ht => ?_) fun a' w' hI' => ⟨rfl, hI'⟩
        simp only [dstsOk, List.all_eq_true] at hd
        have := hd o ho
        rw [ht] at this
        simpa using this
      · exact absurd h (by simp)
    · exact absurd h (by simp)
  | .seq x y, st, r, a, w, h, hd, hI => by
    simp only [dstsOk, Bool.and_eq_true] at hd
    simp only [code] at h
    split at h
    · rename_i s hs
      refine wp_seq (wp_mono (code_ok hcall hmix hag x st _ a w hs hd.1 hI) ?_)
      rintro e a' w' ⟨he, hI'⟩
      subst he
      exact code_ok hcall hmix hag y s r a' w' h hd.2 hI'
    · rename_i hne
      refine wp_seq (wp_mono (code_ok hcall hmix hag x st r a w h hd.1 hI) ?_)
      rintro e a' w' ⟨he, hI'⟩
      subst he
      obtain ⟨e, s⟩ := r
      cases e with
      | normal => exact absurd h (hne s)
      | exit id => exact ⟨rfl, hI'⟩
      | goto l => exact ⟨rfl, hI'⟩
      | ret => exact ⟨rfl, hI'⟩
  | .cond c x y, st, r, a, w, h, hd, hI => by
    simp only [dstsOk, Bool.and_eq_true] at hd
    simp only [code] at h
    split at h
    · rename_i t ht
      obtain ⟨M, β, hS, _⟩ := id hI
      have hc := eval_ok (a := a) hS.1 ht
      simp only [AVR, Rep] at hc
      refine wp_cond hc ?_
      cases t with
      | true => exact code_ok hcall hmix hag x st r a w h hd.1 hI
      | false => exact code_ok hcall hmix hag y st r a w h hd.2 hI
    · exact absurd h (by simp)
  | .block id b, st, r, a, w, h, hd, hI => by
    simp only [dstsOk] at hd
    simp only [code] at h
    split at h
    · rename_i i s hs
      refine wp_block (wp_mono (code_ok hcall hmix hag b st _ a w hs hd hI) ?_)
      rintro e a' w' ⟨he, hI'⟩
      subst he
      simp only [ExO, Exit.inBlock]
      split at h
      · rename_i e
        simp only [Option.some.injEq] at h; subst h
        rw [if_pos e]
        exact ⟨rfl, hI'⟩
      · rename_i e
        simp only [Option.some.injEq] at h; subst h
        rw [if_neg e]
        exact ⟨rfl, hI'⟩
    · rename_i hne
      refine wp_block (wp_mono (code_ok hcall hmix hag b st r a w h hd hI) ?_)
      rintro e a' w' ⟨he, hI'⟩
      subst he
      obtain ⟨e, s⟩ := r
      cases e with
      | normal => exact ⟨rfl, hI'⟩
      | exit id => exact absurd h (hne id s)
      | goto l => exact ⟨rfl, hI'⟩
      | ret => exact ⟨rfl, hI'⟩
  | .loop b, st, r, a, w, h, hd, hI => by
    simp only [dstsOk] at hd
    simp only [code] at h
    intro b0 k cs
    have key : ∀ (m : Nat) (st : St) (a : Act) (w : World), loopN (fun s => match norm (C.loops f (tag b)) s with | some s => code C call f kk again b s | none => none) m st = some r → Inv M0 D0 β0 w0 n st a w →
        ∃ e a' w', Post1 M0 D0 β0 w0 n r e a' w' ∧ Arrives C.P (lone (b0.at a (.code b :: .inLoop b :: k)) cs w) b0 k cs e a' w' := by
      intro m
      induction m with
      | zero => intro st a w h; simp [loopN] at h
      | succ m ih =>
        intro st a w h hI
        simp only [loopN] at h
        have one : ∀ r1, (match norm (C.loops f (tag b)) st with | some s => code C call f kk again b s | none => none) = some r1 → ∃ e a' w', Post1 M0 D0 β0 w0 n r1 e a' w' ∧ Arrives C.P (lone (b0.at a (.code b :: .inLoop b :: k)) cs w) b0 (.inLoop b :: k) cs e a' w' := by
          intro r1 h1
          split at h1
          · rename_i s hs
            exact code_ok hcall hmix hag b s r1 a w h1 hd (inv_norm hI hs) b0 (.inLoop b :: k) cs
          · exact absurd h1 (by simp)
        split at h
        · rename_i s hs
          obtain ⟨e, a', w', ⟨he, hI'⟩, harr⟩ := one _ hs
          subst he
          obtain ⟨e2, a2, w2, h2, harr2⟩ := ih s a' w' h hI'
          exact ⟨e2, a2, w2, h2, .of_steps (Steps.trans harr (.one step_inLoop)) harr2⟩
        · rename_i hne
          obtain ⟨e, a', w', ⟨he, hI'⟩, harr⟩ := one r h
          subst he
          obtain ⟨e, s⟩ := r
          cases e with
          | normal => exact absurd h (hne s)
          | exit id => exact ⟨_, a', w', ⟨rfl, hI'⟩, .pass (x := .inLoop b) rfl (fun _ _ => .inl (by simp [ExO])) harr⟩
          | goto l => exact ⟨_, a', w', ⟨rfl, hI'⟩, .pass (x := .inLoop b) rfl (fun _ _ => .inl (by simp [ExO])) harr⟩
          | ret => exact ⟨_, a', w', ⟨rfl, hI'⟩, .pass (x := .inLoop b) rfl (fun _ _ => .inl (by simp [ExO])) harr⟩
    obtain ⟨e, a', w', h1, harr⟩ := key kk st a w h hI
    exact ⟨e, a', w', h1, .of_steps (.one step_loop) harr⟩
  | .scope b, st, r, a, w, h, hd, hI => by
    simp only [dstsOk] at hd
    simp only [code] at h
    intro b0 k cs
    obtain ⟨r1, h1, h2⟩ := handle_ok hag hd h
    obtain ⟨e, a1, w1, ⟨he, hI1⟩, harr⟩ := code_ok hcall hmix hag b st r1 a w h1 hd hI b0 (.inScope b :: k) cs
    subst he
    obtain ⟨a', w', h3, h4⟩ := h2 _ a1 w1 b0 k cs hI1 harr
    exact ⟨_, a', w', ⟨rfl, h3⟩, .of_steps (.one step_scope) h4⟩
  | .exit id, st, r, a, w, h, hd, hI => by
    simp only [code, Option.some.injEq] at h; subst h
    exact wp_exit ⟨rfl, hI⟩
  | .goto l, st, r, a, w, h, hd, hI => by
    simp only [code, Option.some.injEq] at h; subst h
    exact wp_goto ⟨rfl, hI⟩
  | .ret, st, r, a, w, h, hd, hI => by
    simp only [code, Option.some.injEq] at h; subst h
    exact wp_ret ⟨rfl, hI⟩
  | .rangeFunc _ _ _ _, st, r, a, w, h, hd, hI => by simp [code] at h
  | .refuse _, st, r, a, w, h, hd, hI => by simp [code] at h

theorem again_ok (hcall : ∀ f as rs fs, call f as = some (rs, fs) → Contract C.P (C.modes f) f as rs fs) (hmix : C.P.follows .mixedOrders = true) : ∀ m, AgainOK C M0 D0 β0 w0 n (againN C call f kk m)
  | 0 => by intro b rest st r a w h; simp [againN] at h
  | m + 1 => by
    intro b rest st r a w h hb hrest hI b0 k cs
    simp only [againN] at h
    obtain ⟨r1, h1, h2⟩ := handle_ok (again_ok hcall hmix m) hb h
    obtain ⟨e, a1, w1, ⟨he, hI1⟩, harr⟩ := code_ok hcall hmix (again_ok hcall hmix m) rest st r1 a w h1 hrest hI b0 (.inScope b :: k) cs
    subst he
    exact h2 _ a1 w1 b0 k cs hI1 harr

theorem body_ok (hcall : ∀ f as rs fs, call f as = some (rs, fs) → Contract C.P (C.modes f) f as rs fs) (hmix : C.P.follows .mixedOrders = true) {c : Code} {st : St} {r : Ex × St} {a : Act} {w : World}
    (h : bodyOf C call f kk c st = some r) (hd : dstsOk n c = true) (hI : Inv M0 D0 β0 w0 n st a w) : c.wp C.P (Post1 M0 D0 β0 w0 n r) a w :=
  code_ok hcall hmix (again_ok hcall hmix kk) c st r a w h hd hI

end
end Go.Proofs.Ytmjkdghcfihfiaa.Vm
