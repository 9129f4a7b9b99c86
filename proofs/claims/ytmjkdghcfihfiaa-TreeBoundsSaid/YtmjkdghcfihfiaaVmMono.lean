/-
  An operation that sees more does the same.
-/
import Derived.Test.YtmjkdghcfihfiaaVmSub
namespace Go.Proofs.Ytmjkdghcfihfiaa.Vm
open Go
set_option linter.unusedVariables false
set_option linter.unusedSimpArgs false

section
variable {V V' : View}

theorem asList_le (L : ∀ id ob, V.obj id = some ob → V'.obj id = some ob) {v : AV} {l : List (List PV)} (h : asList V v = some l) : asList V' v = some l := by
  unfold asList at h ⊢
  split at h
  · exact h
  · exact h
  · split at h
    · rename_i hob; rw [L _ _ hob]; exact h
    · exact absurd h (by simp)
  · split at h
    · rename_i hob; rw [L _ _ hob]; exact h
    · exact absurd h (by simp)
  · exact absurd h (by simp)

theorem evalAll_eq : ∀ {xs : List Operand}, (∀ x ∈ xs, V.eval x = V'.eval x) → evalAll V xs = evalAll V' xs
  | [], _ => rfl
  | x :: xs, h => by
    simp only [evalAll]
    rw [h x (by simp), evalAll_eq (fun y hy => h y (by simp [hy]))]
theorem evalOpt_eq {o : Option Operand} (h : ∀ x, o = some x → V.eval x = V'.eval x) : evalOpt V o = evalOpt V' o := by
  cases o with
  | none => rfl
  | some x => simp only [evalOpt]; rw [h x rfl]
theorem buildParts_eq : ∀ {ps : List (Nat × Operand)}, (∀ p ∈ ps, V.eval p.2 = V'.eval p.2) → buildParts V ps = buildParts V' ps
  | [], _ => rfl
  | (i, x) :: ps, h => by
    simp only [buildParts]
    rw [h (i, x) (by simp), buildParts_eq (fun y hy => h y (by simp [hy]))]

theorem vconv_le (L : ∀ id ob, V.obj id = some ob → V'.obj id = some ob) {P : Program} {d : Nat} {s t : TypeId} {x : AV} {r : AV × List (Nat × Obj)} (h : vconv P d s t x V = some r) : vconv P d s t x V' = some r := by
  unfold vconv at h ⊢
  split at h
  · exact h
  · split at h
    · exact h
    · split at h
      · rename_i es h1 h2
        rw [asList_le L h2, h1]; exact h
      · exact absurd h (by simp)
    · exact absurd h (by simp)
  · exact h
  · exact absurd h (by simp)

theorem opQ_le {P : Program} {bt : TypeId} {d : Nat} {o : Op} {r : AV × List (Nat × Obj)} (E : ∀ x ∈ o.operands.toList, V.eval x = V'.eval x) (L : ∀ id ob, V.obj id = some ob → V'.obj id = some ob) (h : opQ P bt d o V = some r) : opQ P bt d o V' = some r := by
  cases o
  case move x => simp only [opQ] at h ⊢; rw [← E x (by simp [Op.operands])]; exact h
  case assign x => simp only [opQ] at h ⊢; rw [← E x (by simp [Op.operands])]; exact h
  case pick c x y =>
    simp only [opQ] at h ⊢; rw [← E c (by simp [Op.operands])]
    split at h
    · rename_i t hc
      have : V'.eval (if t = true then x else y) = V.eval (if t = true then x else y) := by cases t <;> simp [E x (by simp [Op.operands]), E y (by simp [Op.operands])]
      rw [this]; exact h
    · exact absurd h (by simp)
  case alloc t => simpa only [opQ] using h
  case box t x => simp only [opQ] at h ⊢; rw [← E x (by simp [Op.operands])]; exact h
  case build t ps => simp only [opQ] at h ⊢; rw [← buildParts_eq (fun p hp => E p.2 (by simp only [Op.operands, List.toList_toArray]; exact List.mem_map_of_mem hp))]; exact h
  case buildSlice t n ps => simp only [opQ] at h ⊢; rw [← buildParts_eq (fun p hp => E p.2 (by simp only [Op.operands, List.toList_toArray]; exact List.mem_map_of_mem hp))]; exact h
  case load t x =>
    simp only [opQ] at h ⊢
    split at h
    · exact absurd h (by simp)
    · rename_i ht
      rw [if_neg ht, ← E x (by simp [Op.operands])]
      split at h
      · split at h
        · rename_i hob; rw [L _ _ hob]; exact h
        · rename_i hob; rw [L _ _ hob]; exact h
        · exact absurd h (by simp)
      · exact h
      · exact absurd h (by simp)
  case nilCheck x => simp only [opQ] at h ⊢; rw [← E x (by simp [Op.operands])]; exact h
  case binOp op t x y u => simp only [opQ] at h ⊢; rw [← E x (by simp [Op.operands]), ← E y (by simp [Op.operands])]; exact h
  case unOp op t x => simp only [opQ] at h ⊢; rw [← E x (by simp [Op.operands])]; exact h
  case convert s t x =>
    simp only [opQ] at h ⊢; rw [← E x (by simp [Op.operands])]
    split at h
    · exact vconv_le L h
    · exact absurd h (by simp)
  case makeFunc f a b =>
    cases f <;> simp only [opQ] at h ⊢ <;> try (cases h; done)
    rw [← evalAll_eq (xs := a.toList) (fun x hx => E x (by simp only [Op.operands, Array.toList_append]; exact List.mem_append.2 (.inl hx))), ← evalAll_eq (xs := b.toList) (fun x hx => E x (by simp only [Op.operands, Array.toList_append]; exact List.mem_append.2 (.inr hx)))]
    exact h
  case makeSlice t x y => simp only [opQ] at h ⊢; rw [← E x (by simp [Op.operands]), ← E y (by simp [Op.operands])]; exact h
  case slice t x lo hi mx =>
    cases mx with
    | some m => simp only [opQ] at h; cases h
    | none =>
      simp only [opQ] at h ⊢
      rw [← E x (by simp [Op.operands]), ← evalOpt_eq (o := lo) (fun y hy => E y (by subst hy; simp [Op.operands])), ← evalOpt_eq (o := hi) (fun y hy => E y (by subst hy; simp [Op.operands]))]
      split at h
      · exact h
      · split at h
        · exact absurd h (by simp)
        · rename_i hok
          rw [if_neg hok]
          split at h
          · exact h
          · exact h
          · split at h
            · rename_i hob; simp only [L _ _ hob]; exact h
            · exact absurd h (by simp)
          · split at h
            · rename_i hob; simp only [L _ _ hob]; exact h
            · exact absurd h (by simp)
          · exact absurd h (by simp)
      · exact absurd h (by simp)
  case fieldAddr t x f => simp only [opQ] at h ⊢; rw [← E x (by simp [Op.operands])]; exact h
  case field t x f => simp only [opQ] at h ⊢; rw [← E x (by simp [Op.operands])]; exact h
  case indexAddr t x y =>
    simp only [opQ] at h ⊢; rw [← E x (by simp [Op.operands]), ← E y (by simp [Op.operands])]
    split at h
    · split at h
      · rename_i hob; simp only [L _ _ hob]; exact h
      · exact absurd h (by simp)
    · split at h
      · rename_i hob; simp only [L _ _ hob]; exact h
      · exact absurd h (by simp)
    · exact h
    · exact absurd h (by simp)
  case index t x y => simp only [opQ] at h ⊢; rw [← E x (by simp [Op.operands]), ← E y (by simp [Op.operands])]; exact h
  case extract x i => simp only [opQ] at h ⊢; rw [← E x (by simp [Op.operands])]; exact h
  case call c =>
    obtain ⟨callee, as, ts⟩ := c
    cases callee with
    | value f => simp only [opQ] at h; cases h
    | invoke r m => simp only [opQ] at h; cases h
    | builtin b =>
      have hx : ∀ x ∈ as.toList, V.eval x = V'.eval x := fun x hx => E x (by simp only [Op.operands, Call.operands, Array.toList_append]; exact List.mem_append.2 (.inr hx))
      cases b <;> simp only [opQ] at h ⊢ <;> try (cases h; done)
      · split at h
        · rename_i x t tr h1 h2
          rw [← hx x (by rw [h1]; simp)]
          split at h
          · exact h
          · rename_i v hu hv
            split at h
            · rename_i l hl
              simp only [asList_le L hl]; exact h
            · exact absurd h (by simp)
          · exact absurd h (by simp)
        · exact absurd h (by simp)
      · rw [← evalAll_eq hx]; exact h
      · rw [← evalAll_eq hx]; exact h
  all_goals (simp only [opQ] at h; cases h)


theorem rowOf_le (L : ∀ id ob, V.obj id = some ob → V'.obj id = some ob) {sz : Nat} {x : Operand} (E : V.eval x = V'.eval x) {r : List (List PV) × Option Nat} (h : rowOf sz V x = some r) : rowOf sz V' x = some r := by
  unfold rowOf at h ⊢
  simp only at h ⊢
  rw [← E]
  split at h
  · exact h
  · split at h
    · rename_i hob; simp only [L _ _ hob]; exact h
    · exact absurd h (by simp)
  · exact absurd h (by simp)
theorem behind_le (L : ∀ id ob, V.obj id = some ob → V'.obj id = some ob) {P : Program} {u : TypeId} {x : Operand} (E : V.eval x = V'.eval x) {r : List (List PV)} (h : behind P u V x = some r) : behind P u V' x = some r := by
  unfold behind at h ⊢
  rw [← E]
  split at h
  · exact h
  · exact asList_le L h
  · exact absurd h (by simp)
theorem rowIn_le (L : ∀ id ob, V.obj id = some ob → V'.obj id = some ob) {sz : Nat} {x : AV} {r : Nat × Nat × Nat × List (List PV)} (h : rowIn sz V x = some r) : rowIn sz V' x = some r := by
  unfold rowIn at h ⊢
  split at h
  · split at h
    · rename_i hob; simp only [L _ _ hob]; exact h
    · exact absurd h (by simp)
  · split at h
    · rename_i hob; simp only [L _ _ hob]; exact h
    · exact absurd h (by simp)
  · exact absurd h (by simp)

theorem opA_le {P : Program} {d : Nat} {o : Op} {r : AV × List (Nat × Obj) × Option Nat} (E : ∀ x ∈ o.operands.toList, V.eval x = V'.eval x) (L : ∀ id ob, V.obj id = some ob → V'.obj id = some ob) (h : opA P d o V = some r) : opA P d o V' = some r := by
  unfold opA at h ⊢
  split at h
  · rename_i as ts
    have hx : ∀ x ∈ as.toList, V.eval x = V'.eval x := fun x hx => E x (by simp only [Op.operands, Call.operands, Array.toList_append]; exact List.mem_append.2 (.inr hx))
    split at h
    · rename_i x y t u h1 h2
      split at h
      · split at h
        · rename_i ha hb
          rw [rowOf_le L (hx x (by rw [h1]; simp)) ha, behind_le L (hx y (by rw [h1]; simp)) hb]
          exact h
        · exact absurd h (by simp)
      · exact absurd h (by simp)
    · exact absurd h (by simp)
  · exact absurd h (by simp)

theorem opL_le {P : Program} {o : Op} {r : Made} (E : ∀ x ∈ o.operands.toList, V.eval x = V'.eval x) (L : ∀ id ob, V.obj id = some ob → V'.obj id = some ob) (h : opL P o V = some r) : opL P o V' = some r := by
  unfold opL at h ⊢
  split at h
  · rename_i t a x
    rw [← E a (by simp [Op.operands]), ← E x (by simp [Op.operands])]
    split at h
    · split at h
      · rename_i hc
        rw [if_pos hc]
        split at h
        · rename_i hob; simp only [L _ _ hob]; exact h
        · rename_i hob; simp only [L _ _ hob]; exact h
        · exact absurd h (by simp)
      · exact absurd h (by simp)
    · exact absurd h (by simp)
  · rename_i as ts
    have hx : ∀ x ∈ as.toList, V.eval x = V'.eval x := fun x hx => E x (by simp only [Op.operands, Call.operands, Array.toList_append]; exact List.mem_append.2 (.inr hx))
    split at h
    · rename_i x y t u h1 h2
      rw [← hx x (by rw [h1]; simp)]
      split at h
      · split at h
        · rename_i ha hb
          rw [rowIn_le L ha, behind_le L (hx y (by rw [h1]; simp)) hb]
          exact h
        · exact absurd h (by simp)
      · exact absurd h (by simp)
    · exact absurd h (by simp)
  · exact absurd h (by simp)

theorem leafTVs_le {g g' : AV → Option (TV × List Nat × Option Back)} (hg : ∀ v r, g v = some r → g' v = some r) : ∀ (vs : List AV) (r : List TV × List Nat × List (Option Back)), leafTVs g vs = some r → leafTVs g' vs = some r
  | [], r, h => by simpa only [leafTVs] using h
  | v :: vs, r, h => by
    simp only [leafTVs] at h ⊢
    split at h
    · rename_i h1 h2
      simp only [hg v _ h1, leafTVs_le hg vs _ h2]; exact h
    · exact absurd h (by simp)
theorem leafTV_le (L : ∀ id ob, V.obj id = some ob → V'.obj id = some ob) : ∀ (n : Nat) (v : AV) (r : TV × List Nat × Option Back), leafTV V n v = some r → leafTV V' n v = some r
  | 0, v, r, h => by
    simp only [leafTV] at h ⊢
    split at h
    · exact h
    · exact h
    · split at h
      · rename_i hob; simp only [L _ _ hob]; exact h
      · exact absurd h (by simp)
    · exact absurd h (by simp)
  | n + 1, v, r, h => by
    simp only [leafTV] at h ⊢
    split at h
    · exact h
    · exact h
    · split at h
      · rename_i hob; simp only [L _ _ hob]; exact h
      · exact absurd h (by simp)
    · split at h
      · rename_i cs hob
        simp only [L _ _ hob]
        split at h
        · rename_i l ids bs hl
          simp only [leafTVs_le (leafTV_le L n) cs _ hl]; exact h
        · exact absurd h (by simp)
      · rename_i hob; simp only [L _ _ hob]; exact h
      · exact absurd h (by simp)
    · exact absurd h (by simp)

theorem lentTV_le (L : ∀ id ob, V.obj id = some ob → V'.obj id = some ob) {v : AV} {r : TV × List Nat} (h : lentTV V v = some r) : lentTV V' v = some r := by
  unfold lentTV at h ⊢
  split at h
  · exact h
  · exact h
  · split at h
    · rename_i hob; simp only [L _ _ hob]; exact h
    · exact absurd h (by simp)
  · split at h
    · rename_i hob; simp only [L _ _ hob]; exact h
    · exact absurd h (by simp)
  · exact h
  · exact h
  · exact absurd h (by simp)

theorem argTV_le (L : ∀ id ob, V.obj id = some ob → V'.obj id = some ob) {P : Program} {m : Mode} {t : TypeId} {v : AV} {g : Given} (h : argTV P m t V v = some g) : argTV P m t V' v = some g := by
  cases v
  case addr id i off =>
    simp only [argTV] at h ⊢
    split at h
    · rename_i h0
      rw [if_pos h0]
      split at h
      · rename_i cs hob
        simp only [L _ _ hob]
        split at h
        · split at h
          · rename_i hl
            rw [if_pos hl]
            split at h
            · rename_i hls
              simp only [leafTVs_le (leafTV_le L 4) _ _ hls]; exact h
            · exact absurd h (by simp)
          · exact absurd h (by simp)
        · exact absurd h (by simp)
      · rename_i hob
        simp only [L _ _ hob]; exact h
      · exact absurd h (by simp)
    · exact absurd h (by simp)
  case nilSl => simpa only [argTV] using h
  case own id =>
    simp only [argTV] at h ⊢
    split at h
    · rename_i hob; simp only [L _ _ hob]; exact h
    · rename_i hob; simp only [L _ _ hob]; exact h
    · rename_i hob; simp only [L _ _ hob]; exact h
    · exact absurd h (by simp)
  all_goals
    simp only [argTV] at h ⊢
    split at h
    · rename_i hl
      simp only [lentTV_le L hl]; exact h
    · exact absurd h (by simp)

theorem argsTV_le (L : ∀ id ob, V.obj id = some ob → V'.obj id = some ob) {P : Program} : ∀ (vs : List AV) (ms : List Mode) (ts : List TypeId) (g : Given), argsTV P V ms ts vs = some g → argsTV P V' ms ts vs = some g
  | [], ms, ts, g, h => by simpa only [argsTV] using h
  | v :: vs, ms, ts, g, h => by
    simp only [argsTV] at h ⊢
    split at h
    · rename_i h1 h2
      simp only [argTV_le L h1, argsTV_le L vs _ _ _ h2]; exact h
    · exact absurd h (by simp)

theorem calleeOf_eq {c : Callee} (E : ∀ f, c = .value f → V.eval f = V'.eval f) : calleeOf V c = calleeOf V' c := by
  cases c with
  | value x =>
    have := E x rfl
    cases x <;> simp only [calleeOf] <;> first | rfl | (rw [this])
  | invoke _ _ => rfl
  | builtin _ => rfl

theorem callM_le {C : Cx} {call : FuncId → List TV → Option (List TV × List TV)} {d : Nat} {c : Call} {m : Made} (E : ∀ x ∈ c.operands.toList, V.eval x = V'.eval x) (L : ∀ id ob, V.obj id = some ob → V'.obj id = some ob) (h : callM C call d c V = some m) : callM C call d c V' = some m := by
  obtain ⟨callee, as, ts⟩ := c
  unfold callM at h ⊢
  simp only at h ⊢
  rw [← calleeOf_eq (V := V) (c := callee) (fun f hf => E f (by subst hf; simp [Call.operands])), ← evalAll_eq (V := V) (xs := as.toList) (fun x hx => E x (by simp only [Call.operands, Array.toList_append]; exact List.mem_append.2 (.inr hx)))]
  split at h
  · split at h
    · split at h
      · rename_i hg
        simp only [argsTV_le L _ _ _ _ hg]; exact h
      · exact absurd h (by simp)
    · exact absurd h (by simp)
  · exact absurd h (by simp)

theorem opQ_none_A {P : Program} {bt : TypeId} {d : Nat} {o : Op} {W W' : View} {r : AV × List (Nat × Obj) × Option Nat} (h : opA P d o W = some r) : opQ P bt d o W' = none := by
  unfold opA at h
  split at h
  · simp only [opQ]
  · exact absurd h (by simp)
theorem opQ_none_L {P : Program} {bt : TypeId} {d : Nat} {o : Op} {W W' : View} {r : Made} (h : opL P o W = some r) : opQ P bt d o W' = none ∧ opA P d o W' = none := by
  unfold opL at h
  split at h
  · simp [opQ, opA]
  · simp [opQ, opA]
  · exact absurd h (by simp)

/-- WHO SEES MORE DOES THE SAME. -/
theorem made_le {C : Cx} {call : FuncId → List TV → Option (List TV × List TV)} {o : Oper} {m : Made} (E : ∀ x ∈ o.op.operands.toList, V.eval x = V'.eval x) (L : ∀ id ob, V.obj id = some ob → V'.obj id = some ob) (h : made C call o V = some m) : made C call o V' = some m := by
  unfold made at h ⊢
  simp only at h ⊢
  split at h
  · rename_i c hc
    have hop : o.op = .call c := by
      unfold isCall at hc
      split at hc
      · rename_i c' heq
        split at hc
        · exact absurd hc (by simp)
        · injection hc with hc; subst hc; exact heq
      · exact absurd hc (by simp)
    exact callM_le (fun x hx => E x (by rw [hop]; exact hx)) L h
  · split at h
    · rename_i hq
      simp only [opQ_le E L hq]; exact h
    · split at h
      · rename_i ha
        simp only [opQ_none_A (W' := V') (bt := C.bldT) ha, opA_le E L ha]; exact h
      · have hn := opQ_none_L (W' := V') (bt := C.bldT) (d := o.dst.getD 499) h
        simp only [hn.1, hn.2]
        exact opL_le E L h

end
end Go.Proofs.Ytmjkdghcfihfiaa.Vm
