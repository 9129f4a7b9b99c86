/-
  More fuel, the same answer.
-/
import Derived.Test.YtmjkdghcfihfiaaVmSound
namespace Go.Proofs.Ytmjkdghcfihfiaa.Vm
open Go
set_option linter.unusedVariables false
set_option linter.unusedSimpArgs false

def Le (call call' : FuncId → List TV → Option (List TV × List TV)) : Prop := ∀ f xs r, call f xs = some r → call' f xs = some r

section
variable {C : Cx} {call call' : FuncId → List TV → Option (List TV × List TV)}

theorem callM_up (h : Le call call') {d : Nat} {c : Call} {V : View} {m : Made} (k : callM C call d c V = some m) : callM C call' d c V = some m := by
  unfold callM at k ⊢
  split at k
  · split at k
    · split at k
      · split at k
        · rename_i hc
          split at k
          · rename_i rs fs hr
            simp only [hc, if_true, h _ _ _ hr]; exact k
          · exact absurd k (by simp)
        · exact absurd k (by simp)
      · exact absurd k (by simp)
    · exact absurd k (by simp)
  · exact absurd k (by simp)

theorem made_up (h : Le call call') {o : Oper} {V : View} {m : Made} (k : made C call o V = some m) : made C call' o V = some m := by
  unfold made at k ⊢
  simp only at k ⊢
  split at k
  · exact callM_up h k
  · exact k

theorem oper_up (h : Le call call') {pl : List Nat} {o : Oper} {st s : St} (k : oper C call pl o st = some s) : oper C call' pl o st = some s := by
  unfold oper at k ⊢
  split at k
  · split at k
    · rename_i hm
      simp only [made_up h hm]; exact k
    · exact absurd k (by simp)
  · exact absurd k (by simp)

theorem opers_up (h : Le call call') {all : List Oper} {pl : List Nat} : ∀ {l : List Oper} {st s : St}, opers C call all pl l st = some s → opers C call' all pl l st = some s
  | [], st, s, k => by simpa only [opers] using k
  | o :: r, st, s, k => by
    simp only [opers] at k ⊢
    split at k
    · split at k
      · rename_i ho
        simp only [oper_up h ho]; exact opers_up h k
      · exact absurd k (by simp)
    · exact opers_up h k
    · exact absurd k (by simp)

theorem textR_up (h : Le call call') {all : List Oper} {pl : List Nat} {ob : Nat → Option Obj} : ∀ {l : List Oper} {i : Nat} {done : List Done} {st : St} {d : List Done × St}, textR C call all pl ob l i done st = some d → textR C call' all pl ob l i done st = some d
  | [], i, done, st, d, k => by simpa only [textR] using k
  | o :: r, i, done, st, d, k => by
    simp only [textR] at k ⊢
    split at k
    · rename_i hb
      rw [if_pos hb]
      split at k
      · split at k
        · rename_i hp
          rw [if_pos hp]
          split at k
          · rename_i hm
            simp only [made_up h hm]
            split at k
            · rename_i hc; rw [if_pos hc]; exact textR_up h k
            · exact absurd k (by simp)
          · exact absurd k (by simp)
        · exact absurd k (by simp)
      · exact textR_up h k
      · exact absurd k (by simp)
    · exact absurd k (by simp)

theorem region_up (h : Le call call') {ops : Array Oper} {pre : List Nat} {draw : Bool} {st s : St} (k : region C call ops pre draw st = some s) : region C call' ops pre draw st = some s := by
  unfold region at k ⊢
  simp only at k ⊢
  cases draw with
  | true =>
    simp only [if_true] at k ⊢
    split at k
    · rename_i hn
      rw [if_pos hn]
      split at k
      · rename_i hf
        simp only [textR_up h hf]
        exact k
      · exact absurd k (by simp)
    · exact absurd k (by simp)
  | false => exact opers_up h k

def LeA (ag ag' : Code → Code → St → Option (Ex × St)) : Prop := ∀ b c s r, ag b c s = some r → ag' b c s = some r

theorem loopN_up {body body' : St → Option (Ex × St)} (h : ∀ s r, body s = some r → body' s = some r) : ∀ {n m : Nat} {st : St} {r : Ex × St}, n ≤ m → loopN body n st = some r → loopN body' m st = some r
  | 0, m, st, r, _, k => by simp [loopN] at k
  | n + 1, 0, st, r, hm, k => by omega
  | n + 1, m + 1, st, r, hm, k => by
    simp only [loopN] at k ⊢
    split at k
    · rename_i hb
      rw [h _ _ hb]; exact loopN_up h (by omega) k
    · rename_i hne
      have hb := h _ _ k
      rw [hb]
      obtain ⟨e, s⟩ := r
      cases e with
      | normal => exact absurd k (hne s)
      | _ => rfl

theorem code_up (h : Le call call') {f : FuncId} {k k' : Nat} (hk : k ≤ k') {ag ag' : Code → Code → St → Option (Ex × St)} (ha : LeA ag ag') : ∀ (c : Code) (st : St) (r : Ex × St), code C call f k ag c st = some r → code C call' f k' ag' c st = some r
  | .skip, st, r, e => by simpa only [code] using e
  | .label l, st, r, e => by simpa only [code] using e
  | .region id ops draw, st, r, e => by
    simp only [code] at e ⊢
    split at e
    · split at e
      · rename_i hr
        simp only [region_up h hr]; exact e
      · exact absurd e (by simp)
    · exact absurd e (by simp)
  | .seq a b, st, r, e => by
    simp only [code] at e ⊢
    split at e
    · rename_i s hs
      rw [code_up h hk ha a _ _ hs]
      exact code_up h hk ha b _ _ e
    · rename_i hne
      rw [code_up h hk ha a _ _ e]
      obtain ⟨x, s⟩ := r
      cases x with
      | normal => exact absurd e (hne s)
      | _ => rfl
  | .cond c a b, st, r, e => by
    simp only [code] at e ⊢
    split at e
    · rename_i t ht
      cases t with
      | true => exact code_up h hk ha a _ _ e
      | false => exact code_up h hk ha b _ _ e
    · exact absurd e (by simp)
  | .block id b, st, r, e => by
    simp only [code] at e ⊢
    split at e
    · rename_i i s hs
      rw [code_up h hk ha b _ _ hs]; exact e
    · rename_i hne
      rw [code_up h hk ha b _ _ e]
      obtain ⟨x, s⟩ := r
      cases x with
      | exit i => exact absurd e (hne i s)
      | _ => rfl
  | .loop b, st, r, e => by
    simp only [code] at e ⊢
    refine loopN_up (fun s r hs => ?_) hk e
    split at hs
    · exact code_up h hk ha b _ _ hs
    · exact absurd hs (by simp)
  | .scope b, st, r, e => by
    simp only [code] at e ⊢
    unfold handle at e ⊢
    split at e
    · rename_i l s hs
      rw [code_up h hk ha b _ _ hs]
      simp only
      split at e
      · exact ha _ _ _ _ e
      · exact absurd e (by simp)
    · rename_i hne
      rw [code_up h hk ha b _ _ e]
      obtain ⟨x, s⟩ := r
      cases x with
      | goto l => exact absurd e (hne l s)
      | _ => rfl
  | .exit id, st, r, e => by simpa only [code] using e
  | .goto l, st, r, e => by simpa only [code] using e
  | .ret, st, r, e => by simpa only [code] using e
  | .rangeFunc _ _ _ _, st, r, e => by simp [code] at e
  | .refuse _, st, r, e => by simp [code] at e

theorem againN_up (h : Le call call') {f : FuncId} {k k' : Nat} (hk : k ≤ k') : ∀ {n n' : Nat}, n ≤ n' → LeA (againN C call f k n) (againN C call' f k' n')
  | 0, n', _ => by intro b c s r e; simp [againN] at e
  | n + 1, 0, hn => by omega
  | n + 1, n' + 1, hn => by
    intro b c s r e
    have ih := againN_up (f := f) h hk (show n ≤ n' by omega)
    simp only [againN] at e ⊢
    unfold handle at e ⊢
    split at e
    · rename_i l s' hs
      rw [code_up h hk ih c _ _ hs]
      simp only
      split at e
      · exact ih _ _ _ _ e
      · exact absurd e (by simp)
    · rename_i hne
      rw [code_up h hk ih c _ _ e]
      obtain ⟨x, s⟩ := r
      cases x with
      | goto l => exact absurd e (hne l s)
      | _ => rfl

theorem bodyOf_up (h : Le call call') {f : FuncId} {k k' : Nat} (hk : k ≤ k') {c : Code} {st : St} {r : Ex × St} (e : bodyOf C call f k c st = some r) : bodyOf C call' f k' c st = some r :=
  code_up h hk (againN_up h hk hk) c st r e
end

theorem callN_up {C : Cx} : ∀ {k k' : Nat}, k ≤ k' → Le (callN C k) (callN C k')
  | 0, k', _ => by intro f xs r e; simp [callN] at e
  | k + 1, 0, hk => by omega
  | k + 1, k' + 1, hk => by
    intro f xs r e
    have hk : k ≤ k' := by omega
    simp only [callN] at e ⊢
    split at e
    · exact e
    · split at e
      · exact absurd e (by simp)
      · split at e
        · exact absurd e (by simp)
        · split at e
          · rename_i hl
            rw [if_pos hl]
            split at e
            · split at e
              · rename_i hb
                simp only [bodyOf_up (callN_up hk) hk hb]; exact e
              · exact absurd e (by simp)
            · exact absurd e (by simp)
          · exact absurd e (by simp)

/-- A call's answer, with fuel enough. -/
def Ev (C : Cx) (f : FuncId) (xs : List TV) (r : List TV × List TV) : Prop := ∃ k, ∀ j, k ≤ j → callN C j f xs = some r
theorem Ev.of {C : Cx} {k : Nat} {f : FuncId} {xs : List TV} {r : List TV × List TV} (h : callN C k f xs = some r) : Ev C f xs r := ⟨k, fun j hj => callN_up hj f xs r h⟩
theorem Ev.get {C : Cx} {f : FuncId} {xs : List TV} {r : List TV × List TV} (h : Ev C f xs r) : ∃ k, callN C k f xs = some r := let ⟨k, h⟩ := h; ⟨k, h k (Nat.le_refl _)⟩
end Go.Proofs.Ytmjkdghcfihfiaa.Vm
