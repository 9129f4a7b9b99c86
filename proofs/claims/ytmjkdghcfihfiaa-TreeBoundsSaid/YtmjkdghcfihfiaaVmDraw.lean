/-
  A region whose operations may be carried out in more than one order.
-/
import Derived.Test.YtmjkdghcfihfiaaVmMono
import Derived.Orders
namespace Go.Proofs.Ytmjkdghcfihfiaa.Vm
open Go
set_option linter.unusedVariables false
set_option linter.unusedSimpArgs false

theorem patched_none (id : Nat) : ∀ ws : List Patch, patched ws id none = none
  | [] => rfl
  | p :: ws => by
    simp only [patched, List.foldl_cons]
    have : (if p.id = id then p.on none else none) = none := by split <;> (try rfl); cases p <;> rfl
    rw [this]; exact patched_none id ws

theorem doneObj_cons {f : Nat → Bool} {id : Nat} {base : Nat → Option Obj} {x : Done} {r : List Done} : doneObj f id base (x :: r) = if f x.i then (match lkp id x.m.os with
       | some o => some o
       | none => if x.m.dead.contains id then none else patched x.m.ws id (doneObj f id base r)) else doneObj f id base r := rfl

theorem doneGet_congr {f g : Nat → Bool} {t : Nat} {base : Nat → AV} : ∀ {done : List Done}, (∀ y ∈ done, y.o.dst = some t → f y.i = g y.i) → doneGet f t base done = doneGet g t base done
  | [], _ => rfl
  | x :: r, h => by
    simp only [doneGet]
    rw [doneGet_congr (done := r) (fun y hy => h y (by simp [hy]))]
    split
    · rename_i hd; rw [h x (by simp) hd]
    · rfl

theorem lkp_none_of {α : Type} {n : Nat} : ∀ {l : List (Nat × α)}, n ∉ l.map (·.1) → lkp n l = none
  | [], _ => rfl
  | (m, a) :: r, h => by
    simp only [List.map_cons, List.mem_cons, not_or] at h
    simp only [lkp, h.1, if_false]
    exact lkp_none_of h.2

theorem doneObj_some {f : Nat → Bool} {id : Nat} {base : Nat → Option Obj} : ∀ {done : List Done} {ob : Obj}, doneObj f id base done = some ob → (∃ o, base id = some o) ∨ ∃ z ∈ done, f z.i = true ∧ id ∈ z.m.os.map (·.1)
  | [], ob, h => .inl ⟨ob, h⟩
  | x :: r, ob, h => by
    have tail : ∀ {ob}, doneObj f id base r = some ob → (∃ o, base id = some o) ∨ ∃ z ∈ x :: r, f z.i = true ∧ id ∈ z.m.os.map (·.1) := fun h => by
      rcases doneObj_some h with h | ⟨z, h1, h2⟩
      · exact .inl h
      · exact .inr ⟨z, by simp [h1], h2⟩
    rw [doneObj_cons] at h
    split at h
    · rename_i hf
      split at h
      · rename_i o hl
        exact .inr ⟨x, by simp, hf, List.mem_map_of_mem (f := (·.1)) (lkp_mem hl)⟩
      · split at h
        · exact absurd h (by simp)
        · cases hd : doneObj f id base r with
          | none => rw [hd, patched_none] at h; exact absurd h (by simp)
          | some o => exact tail hd
    · exact tail h

theorem doneObj_le {f g : Nat → Bool} {id : Nat} {base : Nat → Option Obj} : ∀ {done : List Done} {ob : Obj}, (∀ y ∈ done, f y.i = true → g y.i = true) →
    (∀ y ∈ done, f y.i = false → g y.i = true → id ∉ y.m.writes ∧ id ∉ y.m.os.map (·.1)) → doneObj f id base done = some ob → doneObj g id base done = some ob
  | [], ob, _, _, h => h
  | x :: r, ob, h1, h2, h => by
    have ih : ∀ {ob : Obj}, doneObj f id base r = some ob → doneObj g id base r = some ob := fun {ob} => doneObj_le (done := r) (ob := ob) (fun y hy => h1 y (by simp [hy])) (fun y hy => h2 y (by simp [hy]))
    rw [doneObj_cons] at h ⊢
    cases hf : f x.i with
    | true =>
      rw [hf] at h
      rw [h1 x (by simp) hf]
      simp only [if_true] at h ⊢
      split at h
      · exact h
      · rename_i hl
        split at h
        · exact absurd h (by simp)
        · rename_i hd
          rw [if_neg hd]
          cases hr : doneObj f id base r with
          | none => rw [hr, patched_none] at h; exact absurd h (by simp)
          | some o => rw [ih hr]; rw [hr] at h; exact h
    | false =>
      rw [hf] at h
      simp only [Bool.false_eq_true, if_false] at h
      cases hg : g x.i with
      | false => simp only [Bool.false_eq_true, if_false]; exact ih h
      | true =>
        obtain ⟨k1, k2⟩ := h2 x (by simp) hf hg
        simp only [if_true, lkp_none_of k2]
        have k3 : ¬ x.m.dead.contains id = true := by
          intro hc
          exact k1 (by simp only [Made.writes, List.mem_append]; exact .inl (by simpa using hc))
        have k4 : id ∉ x.m.ws.map Patch.id := fun hc => k1 (by simp only [Made.writes, List.mem_append]; exact .inr hc)
        rw [if_neg k3, patched_other k4]
        exact ih h

/-- A set, and one more. -/
def plus (S : Nat → Bool) (i : Nat) : Nat → Bool := fun j => j == i || S j

theorem plus_other {S : Nat → Bool} {i j : Nat} (h : j ≠ i) : plus S i j = S j := by simp [plus, h]
theorem plus_self {S : Nat → Bool} {i : Nat} : plus S i i = true := by simp [plus]

theorem doneGet_plus {S : Nat → Bool} {x : Done} {t : Nat} {base : Nat → AV} : ∀ {done : List Done}, (done.map (·.i)).Nodup → (done.filterMap (·.o.dst)).Nodup → x ∈ done → S x.i = false →
    doneGet (plus S x.i) t base done = if x.o.dst = some t then x.m.v else doneGet S t base done
  | [], _, _, h, _ => by simp at h
  | y :: r, hn, hd, hx, hS => by
    simp only [List.map_cons, List.nodup_cons] at hn
    have hd' : (r.filterMap (·.o.dst)).Nodup := by
      rw [List.filterMap_cons] at hd
      split at hd
      · exact hd
      · exact (List.nodup_cons.1 hd).2
    have hnot : ∀ d, y.o.dst = some d → ∀ z ∈ r, z.o.dst ≠ some d := by
      intro d hyd z hz hzd
      rw [List.filterMap_cons, hyd] at hd
      exact (List.nodup_cons.1 hd).1 (List.mem_filterMap.2 ⟨z, hz, hzd⟩)
    simp only [doneGet]
    rcases List.mem_cons.1 hx with rfl | hx
    · rw [plus_self]
      split
      · simp
      · refine doneGet_congr fun z hz _ => plus_other fun e => hn.1 (by rw [← e]; exact List.mem_map_of_mem (f := (·.i)) hz)
    · have hne : y.i ≠ x.i := fun e => hn.1 (by rw [e]; exact List.mem_map_of_mem (f := (·.i)) hx)
      rw [plus_other hne, doneGet_plus hn.2 hd' hx hS]
      by_cases hyt : y.o.dst = some t
      · simp only [hyt, if_true]
        have : ¬ x.o.dst = some t := hnot t hyt x hx
        simp [this]
      · simp only [hyt, if_false]

/-- Two operations touch nothing that is the other's. -/
def Away (x y : Done) : Prop := ∀ i, i ∈ x.m.writes ++ x.m.os.map (·.1) → i ∉ y.m.writes ++ y.m.os.map (·.1)

theorem away_id {x : Done} {id : Nat} (h : id ∉ x.m.writes ++ x.m.os.map (·.1)) (z : Option Obj) : (match lkp id x.m.os with | some o => some o | none => if x.m.dead.contains id then none else patched x.m.ws id z) = z := by
  simp only [List.mem_append, not_or, Made.writes] at h
  rw [lkp_none_of h.2]
  simp only
  rw [if_neg (by simpa using h.1.1), patched_other h.1.2]

theorem doneObj_plus {S : Nat → Bool} {x : Done} {id : Nat} {base : Nat → Option Obj} : ∀ {done : List Done}, (done.map (·.i)).Nodup → x ∈ done → S x.i = false → (∀ y ∈ done, S y.i = true → x.i < y.i → Away x y) →
    (done.map (·.i)).Pairwise (· > ·) →
    doneObj (plus S x.i) id base done = match lkp id x.m.os with | some o => some o | none => if x.m.dead.contains id then none else patched x.m.ws id (doneObj S id base done)
  | [], _, h, _, _, _ => by simp at h
  | y :: r, hn, hx, hS, hA, hp => by
    simp only [List.map_cons, List.nodup_cons] at hn
    simp only [List.map_cons, List.pairwise_cons] at hp
    rw [doneObj_cons (f := plus S x.i), doneObj_cons (f := S)]
    rcases List.mem_cons.1 hx with rfl | hx
    · rw [plus_self, hS]
      simp only [if_true, Bool.false_eq_true, if_false]
      have : doneObj (plus S x.i) id base r = doneObj S id base r := by
        clear hA hp hx
        induction r with
        | nil => rfl
        | cons z r ih =>
          simp only [List.map_cons, List.mem_cons, not_or] at hn
          rw [doneObj_cons, doneObj_cons, plus_other (fun e => hn.1.1 e.symm), ih ⟨hn.1.2, (List.nodup_cons.1 hn.2).2⟩]
      rw [this]
    · have hne : y.i ≠ x.i := fun e => hn.1 (by rw [e]; exact List.mem_map_of_mem (f := (·.i)) hx)
      have hgt : x.i < y.i := hp.1 x.i (List.mem_map_of_mem (f := (·.i)) hx)
      have ih := doneObj_plus (id := id) (base := base) hn.2 hx hS (fun z hz => hA z (by simp [hz])) hp.2
      rw [plus_other hne]
      cases hy : S y.i with
      | false => simp only [Bool.false_eq_true, if_false]; exact ih
      | true =>
        simp only [if_true]
        have haw := hA y (by simp) hy hgt
        by_cases hid : id ∈ x.m.writes ++ x.m.os.map (·.1)
        · rw [away_id (haw id hid), away_id (haw id hid)]; exact ih
        · rw [away_id hid] at ih
          rw [away_id hid, ih]

theorem VR.less {M0 M : Cells} {β : Nat → Loc} {V V' : View} {tm : Array Value} {w : World} (h : VR M0 M β V tm w) (h1 : ∀ t, V'.get t = V.get t) (h2 : ∀ id o, V'.obj id = some o → V.obj id = some o) : VR M0 M β V' tm w :=
  ⟨h.sup, h.old, fun t => by rw [h1]; exact h.slots t, fun id o ho => h.objs id o (h2 id o ho), fun id o ho => h.own id o (h2 id o ho), fun id id' o o' ho ho' => h.disj id id' o o' (h2 id o ho) (h2 id' o' ho')⟩

theorem dm_own {M0 M : Cells} {β : Nat → Loc} {V : View} {tm : Array Value} {w : World} (h : VR M0 M β V tm w) {m : Made} (hw : ∀ p ∈ m.ws, ∃ o o', V.obj p.id = some o ∧ p.on (some o) = some o') :
    ∀ x j, Dm β (fun id => ∃ o, V.obj id = some o) m x j → M x j ∧ ¬ M0 x j := by
  rintro x j (⟨g, hg, ⟨ob, hob⟩, hF⟩ | ⟨p, hp, hd, ht⟩)
  · exact h.own g ob hob x j hF
  · obtain ⟨o0, o1, e1, e2⟩ := hw p hp
    refine h.own p.id o0 e1 x j (Patch.touch_F ht ?_)
    rintro id off cells rfl
    cases o0 <;> simp only [Patch.on] at e2 <;> try (cases e2; done)
    obtain ⟨b0, o0, q1, q2, q3, q4⟩ := h.objs _ _ e1
    split at e2
    · rw [q2]; assumption
    · exact absurd e2 (by simp)


theorem befOne_spec (look : Nat → Nat) (o : Oper) : (∀ e ∈ o.after.toList, Region.binds .any e = true → (befOne look o).testBit e.on = true) ∧
    ∀ j, (befOne look o).testBit j = true → ∃ e ∈ o.after.toList, Region.binds .any e = true ∧ (e.on = j ∨ (look e.on).testBit j = true) := by
  unfold befOne
  have key : ∀ (l : List Edge) (s : Nat), (∀ j, s.testBit j = true → (l.foldl (fun s e => if Region.binds .any e then s ||| 2 ^ e.on ||| look e.on else s) s).testBit j = true) ∧
      (∀ e ∈ l, Region.binds .any e = true → (l.foldl (fun s e => if Region.binds .any e then s ||| 2 ^ e.on ||| look e.on else s) s).testBit e.on = true) ∧
      ∀ j, (l.foldl (fun s e => if Region.binds .any e then s ||| 2 ^ e.on ||| look e.on else s) s).testBit j = true → s.testBit j = true ∨ ∃ e ∈ l, Region.binds .any e = true ∧ (e.on = j ∨ (look e.on).testBit j = true) := by
    intro l
    induction l with
    | nil => intro s; exact ⟨fun j h => h, by simp, fun j h => .inl h⟩
    | cons e l ih =>
      intro s
      simp only [List.foldl_cons]
      by_cases hb : Region.binds .any e = true
      · simp only [hb, if_true]
        obtain ⟨a1, a2, a3⟩ := ih (s ||| 2 ^ e.on ||| look e.on)
        refine ⟨fun j h => a1 j (by simp [Nat.testBit_or, h]), fun e' he hb' => ?_, fun j h => ?_⟩
        · rcases List.mem_cons.1 he with rfl | he
          · exact a1 _ (by simp [Nat.testBit_or, Nat.testBit_two_pow_self])
          · exact a2 e' he hb'
        · rcases a3 j h with h | ⟨e', h1, h2⟩
          · simp only [Nat.testBit_or, Bool.or_eq_true] at h
            rcases h with (h | h) | h
            · exact .inl h
            · rw [Nat.testBit_two_pow] at h
              exact .inr ⟨e, by simp, hb, .inl (by simpa using h)⟩
            · exact .inr ⟨e, by simp, hb, .inr h⟩
          · exact .inr ⟨e', by simp [h1], h2⟩
      · simp only [hb]
        obtain ⟨a1, a2, a3⟩ := ih s
        refine ⟨a1, fun e' he hb' => ?_, fun j h => ?_⟩
        · rcases List.mem_cons.1 he with rfl | he
          · exact absurd hb' hb
          · exact a2 e' he hb'
        · rcases a3 j h with h | ⟨e', h1, h2⟩
          · exact .inl h
          · exact .inr ⟨e', by simp [h1], h2⟩
  obtain ⟨_, k2, k3⟩ := key o.after.toList 0
  exact ⟨k2, fun j h => (k3 j h).resolve_left (by simp)⟩

theorem bOf_spec {j k : Nat} : ∀ {done : List Done}, (bOf done j).testBit k = true → ∃ z ∈ done, z.i = j ∧ z.b.testBit k = true
  | [], h => by simp [bOf] at h
  | x :: r, h => by
    simp only [bOf] at h
    split at h
    · rename_i e; exact ⟨x, by simp, e, h⟩
    · obtain ⟨z, h1, h2⟩ := bOf_spec h; exact ⟨z, by simp [h1], h2⟩

section
variable {C : Cx} {call : FuncId → List TV → Option (List TV × List TV)}

/-- What is known of an operation of a region. -/
structure GoodX (C : Cx) (call : FuncId → List TV → Option (List TV × List TV)) (ops : Array Oper) (pl : List Nat) (st : St) (done : List Done) (x : Done) : Prop where
  at_ : ops[x.i]? = some x.o
  lt : x.b < 2 ^ x.i
  aft : ∀ e ∈ x.o.after.toList, Region.binds .any e = true → x.b.testBit e.on = true
  bef : ∀ j, x.b.testBit j = true → ∃ e ∈ x.o.after.toList, Region.binds .any e = true ∧ (e.on = j ∨ ∃ z ∈ done, z.i = e.on ∧ z.b.testBit j = true)
  does : (wanted ops.toList (seen (fun j => decide (j < x.i)) st done) x.o = some true ∧ ∃ m, made C call x.o ((seen (fun j => decide (j < x.i)) st done).only x.rd) = some m ∧ okMade (seen (fun j => decide (j < x.i)) st done) x.m = true ∧ x.m = arrive pl x.o st.obj m ∧ x.raw = m.os.map (·.1)) ∨
    (wanted ops.toList (seen (fun j => decide (j < x.i)) st done) x.o = some false ∧ x.m = .only (.tup []) [] ∧ x.raw = [])

theorem seen_more {f : Nat → Bool} {st : St} {y : Done} {done : List Done} (hf : f y.i = false) : seen f st (y :: done) = seen f st done := by
  unfold seen
  congr 1
  · funext t
    simp only [doneGet, hf]
    split <;> simp
  · funext id
    rw [doneObj_cons, hf]; simp

theorem testBit_lt {b i j : Nat} (h : b < 2 ^ i) (hj : b.testBit j = true) : j < i := by
  rcases Nat.lt_or_ge j i with h1 | h1
  · exact h1
  · have : b < 2 ^ j := Nat.lt_of_lt_of_le h (Nat.pow_le_pow_right (by omega) h1)
    rw [Nat.testBit_lt_two_pow this] at hj; exact absurd hj (by simp)

theorem GoodX.more {ops : Array Oper} {pl : List Nat} {st : St} {done : List Done} {x y : Done} (h : GoodX C call ops pl st done x) (hi : x.i < y.i) : GoodX C call ops pl st (y :: done) x := by
  have hf : (fun j => decide (j < x.i)) y.i = false := by simp; omega
  refine ⟨h.at_, h.lt, h.aft, fun j hj => ?_, ?_⟩
  · obtain ⟨e, h1, h2, h3⟩ := h.bef j hj
    refine ⟨e, h1, h2, h3.imp (fun h => h) ?_⟩
    rintro ⟨z, h4, h5⟩
    exact ⟨z, by simp [h4], h5⟩
  · rw [seen_more hf]; exact h.does

/-! ### The state behind -/
theorem lkp_app {α : Type} (n : Nat) : ∀ (a b : List (Nat × α)), lkp n (a ++ b) = match lkp n a with | some x => some x | none => lkp n b
  | [], b => rfl
  | (m, x) :: a, b => by
    simp only [List.cons_append, lkp]
    split
    · rfl
    · exact lkp_app n a b
theorem lkp_delAll (n : Nat) : ∀ (ids : List Nat) (l : List (Nat × Obj)), lkp n (delAll ids l) = if ids.contains n then none else lkp n l
  | [], l => by simp [delAll]
  | i :: r, l => by
    simp only [delAll]
    rw [lkp_delAll n r, lkp_del]
    by_cases e : n = i
    · subst e; simp
    · by_cases h : r.contains n <;> simp [e]
theorem lkp_patchObjs (n : Nat) : ∀ (ws : List Patch) (l : List (Nat × Obj)), lkp n (patchObjs ws l) = patched ws n (lkp n l)
  | [], l => rfl
  | p :: r, l => by
    simp only [patchObjs, patched, List.foldl_cons]
    split
    · rename_i o ho
      rw [lkp_patchObjs n r]
      simp only [lkp]
      by_cases e : n = p.id
      · subst e; simp [ho, patched]
      · rw [if_neg e, lkp_del, if_neg e, if_neg (fun h => e h.symm)]; rfl
    · rename_i ho
      rw [lkp_patchObjs n r, lkp_del]
      by_cases e : n = p.id
      · subst e; simp [ho, patched]
      · rw [if_neg e, if_neg (fun h => e h.symm)]; rfl

/-- A state holds what a row of operations has left. -/
def Left (s st : St) (done : List Done) : Prop := (∀ t, s.get t = doneGet (fun _ => true) t st.get done) ∧ ∀ id, s.obj id = doneObj (fun _ => true) id st.obj done

theorem stepD_left {s st : St} {done : List Done} {i b : Nat} {o : Oper} {m : Made} {raw rd : List Nat} (h : Left s st done) : Left (stepD o m s) st (⟨i, b, o, m, raw, rd⟩ :: done) := by
  refine ⟨fun t => ?_, fun id => ?_⟩
  · simp only [stepD, doneGet, if_true]
    rw [← h.1 t]
    unfold putD
    cases hd : o.dst with
    | none => simp [St.get]
    | some d =>
      simp only [put_get, Option.some.injEq]
      by_cases e : t = d
      · simp [e]
      · have : ¬ d = t := fun h => e h.symm
        simp [e, this, St.get]
  · rw [doneObj_cons, if_pos rfl, ← h.2 id]
    simp only [stepD]
    have : (putD o m.v ⟨s.tmps, m.os ++ patchObjs m.ws (delAll m.dead s.objs)⟩).obj id = lkp id (m.os ++ patchObjs m.ws (delAll m.dead s.objs)) := by unfold putD; cases o.dst <;> rfl
    rw [this, lkp_app]
    cases lkp id m.os with
    | some o => rfl
    | none =>
      simp only
      rw [lkp_patchObjs, lkp_delAll]
      split
      · rw [patched_none]
      · rfl

theorem doneObj_all {f g : Nat → Bool} {id : Nat} {base : Nat → Option Obj} : ∀ {l : List Done}, (∀ x ∈ l, f x.i = g x.i) → doneObj f id base l = doneObj g id base l
  | [], _ => rfl
  | x :: r, h => by rw [doneObj_cons, doneObj_cons, h x (by simp), doneObj_all (fun y hy => h y (by simp [hy]))]

theorem Left.view {s st : St} {done : List Done} (h : Left s st done) {f : Nat → Bool} (hf : ∀ x ∈ done, f x.i = true) : s.view = seen f st done := by
  unfold seen St.view
  congr 1
  · funext t; rw [h.1 t]; exact doneGet_congr fun y hy _ => (hf y hy).symm
  · funext id; rw [h.2 id]; exact doneObj_all fun y hy => (hf y hy).symm

def Done.key (x : Done) : Nat × Nat × Oper := (x.i, x.b, x.o)

theorem bOf_keys (done : List Done) (j : Nat) : bOf done j = match lkp j (done.map Done.key) with | some p => p.1 | none => 0 := by
  induction done with
  | nil => rfl
  | cons x r ih =>
    simp only [bOf, List.map_cons, Done.key, lkp]
    by_cases e : x.i = j
    · simp [e]
    · have e' : ¬ j = x.i := fun h => e h.symm
      rw [if_neg e, if_neg e']
      exact ih

theorem textR_spec {ops : Array Oper} {pl : List Nat} {st : St} : ∀ (l : List Oper) (i : Nat) (done0 done : List Done) (s0 s : St), ops.toList.drop i = l → textR C call ops.toList pl st.obj l i done0 s0 = some (done, s) →
    (done0.map (·.i) = (List.range i).reverse) → (∀ x ∈ done0, GoodX C call ops pl st done0 x) → i ≤ ops.size → Left s0 st done0 →
    done.map (·.i) = (List.range ops.size).reverse ∧ (∀ x ∈ done, GoodX C call ops pl st done x) ∧ Left s st done ∧ done.map Done.key = befsL l i (done0.map Done.key)
  | [], i, done0, done, s0, s, hl, h, hi, hg, hs, hL => by
    simp only [textR, Option.some.injEq, Prod.mk.injEq] at h; obtain ⟨rfl, rfl⟩ := h
    have : i = ops.size := by
      have := congrArg List.length hl
      simp at this; omega
    subst this
    exact ⟨hi, hg, hL, rfl⟩
  | o :: r, i, done0, done, s0, s, hl, h, hi, hg, hs, hL => by
    have hlt : i < ops.size := by
      have := congrArg List.length hl
      simp at this; omega
    have ho : ops[i]? = some o := by
      have := congrArg (·[0]?) hl
      simpa using this
    have hr : ops.toList.drop (i + 1) = r := by
      have := congrArg List.tail hl
      simpa using this
    simp only [textR] at h
    split at h
    · rename_i hb
      obtain ⟨b1, b2⟩ := befOne_spec (bOf done0) o
      have hlti : ∀ x ∈ done0, x.i < i := by
        intro x hx
        have : x.i ∈ done0.map (·.i) := List.mem_map_of_mem (f := (·.i)) hx
        rw [hi] at this
        simpa using this
      have hself : (fun j => decide (j < i)) i = false := by simp
      have hv : s0.view = seen (fun j => decide (j < i)) st done0 := hL.view fun x hx => by simpa using hlti x hx
      have step : ∀ (m : Made) (raw rd : List Nat), ((wanted ops.toList (seen (fun j => decide (j < i)) st done0) o = some true ∧ ∃ m0, made C call o ((seen (fun j => decide (j < i)) st done0).only rd) = some m0 ∧ okMade (seen (fun j => decide (j < i)) st done0) m = true ∧ m = arrive pl o st.obj m0 ∧ raw = m0.os.map (·.1)) ∨
            (wanted ops.toList (seen (fun j => decide (j < i)) st done0) o = some false ∧ m = .only (.tup []) [] ∧ raw = [])) →
          textR C call ops.toList pl st.obj r (i + 1) (⟨i, befOne (bOf done0) o, o, m, raw, rd⟩ :: done0) (stepD o m s0) = some (done, s) →
          done.map (·.i) = (List.range ops.size).reverse ∧ (∀ x ∈ done, GoodX C call ops pl st done x) ∧ Left s st done ∧ done.map Done.key = befsL (o :: r) i (done0.map Done.key) := by
        intro m raw rd hm hfr
        have := textR_spec r (i + 1) _ done _ s hr hfr (by simp [hi, List.range_succ]) (fun x hx => ?_) hlt (stepD_left hL)
        · refine ⟨this.1, this.2.1, this.2.2.1, ?_⟩
          rw [this.2.2.2]
          simp only [befsL, List.map_cons, Done.key]
          rw [show bOf done0 = fun j => match lkp j (done0.map Done.key) with | some p => p.1 | none => 0 from funext (bOf_keys done0)]
          rfl
        · rcases List.mem_cons.1 hx with rfl | hx
          · refine ⟨ho, hb, b1, fun j hj => ?_, ?_⟩
            · obtain ⟨e, h1, h2, h3⟩ := b2 j hj
              refine ⟨e, h1, h2, h3.imp (fun h => h) fun h => ?_⟩
              obtain ⟨z, k1, k2, k3⟩ := bOf_spec h
              exact ⟨z, by simp [k1], k2, k3⟩
            · rw [seen_more hself]; exact hm
          · exact (hg x hx).more (hlti x hx)
      rw [hv] at h
      split at h
      · rename_i hw
        split at h
        · split at h
          · rename_i m hm
            split at h
            · rename_i hc
              exact step _ _ _ (.inl ⟨hw, m, hm, hc, rfl, rfl⟩) h
            · exact absurd h (by simp)
          · exact absurd h (by simp)
        · exact absurd h (by simp)
      · rename_i hw
        exact step _ _ _ (.inr ⟨hw, rfl, rfl⟩) h
      · exact absurd h (by simp)
    · exact absurd h (by simp)

/-- What is checked of operations that stand beside one another. -/
theorem apart_spec {done : List Done} : ∀ {l : List Done}, apart done l = true → ∀ x ∈ l, ∀ y ∈ done, unord x y = true → ∀ i, i ∈ x.rd ++ (x.m.writes ++ x.raw) → i ∉ y.m.writes ++ y.raw
  | [], _, x, hx => by simp at hx
  | z :: r, h, x, hx => by
    simp only [apart, Bool.and_eq_true] at h
    rcases List.mem_cons.1 hx with rfl | hx
    · intro y hy hu
      have := List.all_eq_true.1 h.1 y hy
      rw [hu] at this
      simp only [Bool.not_true, Bool.false_or] at this
      exact freeOf_ok this
    · exact apart_spec h.2 x hx

theorem slots_spec {all : List Oper} {done : List Done} : ∀ {l : List Done}, slotsX all (done.map Done.key) (l.map Done.key) = true → ∀ x ∈ l, ∀ y ∈ done, unord x y = true → ∀ t, y.o.dst = some t → t ∉ looks all x.o
  | [], _, x, hx => by simp at hx
  | z :: r, h, x, hx => by
    simp only [List.map_cons, Done.key, slotsX, Bool.and_eq_true] at h
    rcases List.mem_cons.1 hx with rfl | hx
    · intro y hy hu t ht
      have := List.all_eq_true.1 h.1 (y.key) (List.mem_map_of_mem hy)
      simp only [Done.key] at this
      unfold unord at hu
      rw [hu] at this
      simp only [Bool.not_true, Bool.false_or] at this
      rw [ht] at this
      simpa using this
    · exact slots_spec h.2 x hx

theorem wanted_looks {all : List Oper} {V V' : View} {o : Oper} (h : ∀ t ∈ looks all o, V.get t = V'.get t) : wanted all V o = wanted all V' o := by
  unfold wanted
  cases hg : o.guard with
  | none => rfl
  | some jw =>
    obtain ⟨j, want⟩ := jw
    simp only
    cases ht : (all[j]?).bind (·.dst) with
    | none => rfl
    | some t =>
      simp only
      rw [h t (by simp [looks, hg, ht])]

theorem eval_looks {all : List Oper} {V V' : View} {o : Oper} (h : ∀ t ∈ looks all o, V.get t = V'.get t) : ∀ x ∈ o.op.operands.toList, V.eval x = V'.eval x := by
  intro x hx
  cases x with
  | tmp t =>
    simp only [View.eval]
    rw [h t (by simp only [looks, opTmps, List.mem_append, List.mem_filterMap]; exact .inl ⟨.tmp t, hx, rfl⟩)]
  | const v => rfl
  | func f => rfl
  | global g => rfl

theorem arrive_sub (pl : List Nat) (o : Oper) (ob : Nat → Option Obj) (m : Made) : (arrive pl o ob m).dels = m.dels ∧ (arrive pl o ob m).use = m.use ∧ (arrive pl o ob m).frz = m.frz ∧ (arrive pl o ob m).ws = m.ws ∧ (∀ i ∈ (arrive pl o ob m).os.map (·.1), i ∈ m.os.map (·.1)) ∧ (∀ R, MRefs R m → MRefs R (arrive pl o ob m)) := by
  rcases arrive_os pl o ob m with e | ⟨i, sz, es, e1, e2, e3, e4, e5⟩
  · rw [e]; exact ⟨rfl, rfl, rfl, rfl, fun i h => h, fun R h => h⟩
  · rw [e5]; exact ⟨rfl, rfl, rfl, rfl, by simp, fun R h => ⟨by simp [AV.refs], by simp, by simp [e2]⟩⟩

end

theorem flat_uniq {α : Type} {f : α → List Nat} {a b : α} {i : Nat} : ∀ {l : List α}, (l.flatMap f).Nodup → a ∈ l → b ∈ l → i ∈ f a → i ∈ f b → a = b
  | [], _, h, _, _, _ => by simp at h
  | x :: r, hn, ha, hb, hia, hib => by
    rw [List.flatMap_cons] at hn
    obtain ⟨h1, h2, h3⟩ := List.nodup_append.1 hn
    rcases List.mem_cons.1 ha with e | ha
    · rcases List.mem_cons.1 hb with e' | hb
      · exact e.trans e'.symm
      · exact absurd rfl (h3 i (e ▸ hia) i (List.mem_flatMap.2 ⟨b, hb, hib⟩))
    · rcases List.mem_cons.1 hb with e' | hb
      · exact absurd rfl (h3 i (e' ▸ hib) i (List.mem_flatMap.2 ⟨a, ha, hia⟩))
      · exact flat_uniq h2 ha hb hia hib
theorem flat_nodup {α : Type} {f : α → List Nat} {a : α} : ∀ {l : List α}, (l.flatMap f).Nodup → a ∈ l → (f a).Nodup
  | [], _, h => by simp at h
  | x :: r, hn, ha => by
    rw [List.flatMap_cons] at hn
    obtain ⟨h1, h2, h3⟩ := List.nodup_append.1 hn
    rcases List.mem_cons.1 ha with rfl | ha
    · exact h1
    · exact flat_nodup h2 ha

section
variable {C : Cx} {call : FuncId → List TV → Option (List TV × List TV)} {M0 D0 : Cells} {β0 : Nat → Loc} {w0 : World} {n : Nat} {ops : Array Oper} {pl : List Nat} {st : St} {done : List Done}

/-- What is checked of a region. -/
structure RegOK (C : Cx) (call : FuncId → List TV → Option (List TV × List TV)) (ops : Array Oper) (pl : List Nat) (st : St) (done : List Done) : Prop where
  idx : done.map (·.i) = (List.range ops.size).reverse
  good : ∀ x ∈ done, GoodX C call ops pl st done x
  ap : apart done done = true
  slots : ∀ x ∈ done, ∀ y ∈ done, unord x y = true → ∀ t, y.o.dst = some t → t ∉ looks ops.toList x.o
  dst : (ops.toList.filterMap (·.dst)).Nodup
  raws : (done.flatMap Done.raw).Nodup
  free : ∀ i ∈ done.flatMap Done.raw, st.obj i = none

theorem RegOK.ops_eq (R : RegOK C call ops pl st done) : done.map (·.o) = ops.toList.reverse := by
  have hlen : done.length = ops.size := by have := congrArg List.length R.idx; simpa using this
  refine List.ext_getElem? fun k => ?_
  rw [List.getElem?_map]
  cases hk : done[k]? with
  | none =>
    have : done.length ≤ k := List.getElem?_eq_none_iff.1 hk
    rw [List.getElem?_eq_none (by simp; omega)]; rfl
  | some x =>
    have hlt := (List.getElem?_eq_some_iff.1 hk).1
    have hi : (done.map (·.i))[k]? = some x.i := by rw [List.getElem?_map, hk]; rfl
    rw [R.idx, List.getElem?_reverse (by simp; omega)] at hi
    simp only [List.length_range] at hi
    rw [List.getElem?_range (by omega)] at hi
    simp only [Option.some.injEq] at hi
    have := (R.good x (List.mem_of_getElem? hk)).at_
    rw [List.getElem?_reverse (by simp; omega)]
    simp only [Array.length_toList, Array.getElem?_toList, Option.map_some]
    rw [hi]; exact this.symm

theorem RegOK.dsts (R : RegOK C call ops pl st done) : (done.filterMap (·.o.dst)).Nodup := by
  have : done.filterMap (·.o.dst) = (done.map (·.o)).filterMap (·.dst) := by rw [List.filterMap_map]; rfl
  rw [this, R.ops_eq, List.filterMap_reverse]
  exact List.pairwise_reverse.2 (R.dst.imp fun h => h.symm)
theorem RegOK.idn (R : RegOK C call ops pl st done) : (done.map (·.i)).Nodup := by rw [R.idx]; exact List.pairwise_reverse.2 (List.nodup_range.imp fun h => h.symm)
theorem RegOK.idp (R : RegOK C call ops pl st done) : (done.map (·.i)).Pairwise (· > ·) := by
  rw [R.idx, List.pairwise_reverse]
  exact List.pairwise_lt_range
theorem RegOK.uniq (R : RegOK C call ops pl st done) {x y : Done} (hx : x ∈ done) (hy : y ∈ done) (h : x.i = y.i) : x = y := by
  have := R.idn
  clear R
  induction done with
  | nil => simp at hx
  | cons z r ih =>
    simp only [List.map_cons, List.nodup_cons] at this
    rcases List.mem_cons.1 hx with e | hx
    · rcases List.mem_cons.1 hy with e' | hy
      · exact e.trans e'.symm
      · exact absurd (show z.i ∈ r.map (·.i) by rw [← e, h]; exact List.mem_map_of_mem (f := (·.i)) hy) this.1
    · rcases List.mem_cons.1 hy with e' | hy
      · exact absurd (show z.i ∈ r.map (·.i) by rw [← e', ← h]; exact List.mem_map_of_mem (f := (·.i)) hx) this.1
      · exact ih hx hy this.2
theorem RegOK.os (R : RegOK C call ops pl st done) {x : Done} (hx : x ∈ done) : ∀ i ∈ x.m.os.map (·.1), i ∈ x.raw := by
  intro i hi
  rcases (R.good x hx).does with ⟨_, m, _, _, h1, h2⟩ | ⟨_, h1, _⟩
  · rw [h2]; rw [h1] at hi; exact (arrive_sub pl x.o st.obj m).2.2.2.2.1 i hi
  · rw [h1] at hi; simp [Made.only] at hi
theorem RegOK.osn (R : RegOK C call ops pl st done) {x : Done} (hx : x ∈ done) : (x.m.os.map (·.1)).Nodup := by
  rcases (R.good x hx).does with ⟨_, m, _, _, h1, h2⟩ | ⟨_, h1, _⟩
  · have := flat_nodup R.raws hx
    rw [h2] at this
    rw [h1]
    rcases arrive_os pl x.o st.obj m with e | ⟨i, sz, es, e1, e2, e3, e4, e5⟩
    · rw [e]; exact this
    · rw [e5]; simp
  · rw [h1]; simp [Made.only]
theorem RegOK.evens (R : RegOK C call ops pl st done) {x : Done} (hx : x ∈ done) : Evens x.m.os := by
  rcases (R.good x hx).does with ⟨_, m, hm, _, h1, h2⟩ | ⟨_, h1, _⟩
  · rw [h1]
    rcases arrive_os pl x.o st.obj m with e | ⟨i, sz, es, e1, e2, e3, e4, e5⟩
    · rw [e]; exact made_even hm
    · rw [e5]; exact evens_nil
  · rw [h1]; exact evens_nil

/-- What may be led to. -/
def RS (S : Nat → Bool) (st : St) (done : List Done) (id : Nat) : Prop := (∃ o, st.obj id = some o) ∨ ∃ z ∈ done, S z.i = true ∧ id ∈ z.m.os.map (·.1)

/-- What is carried along a region. -/
def Jnv (M0 D0 : Cells) (β0 : Nat → Loc) (w0 : World) (n : Nat) (st : St) (done : List Done) (S : Nat → Bool) (a : Act) (w : World) : Prop :=
  ∃ M β, VR M0 M β (seen S st done) a.tmps w ∧ ClosedIn (RS S st done) (seen S st done) ∧ Fr D0 w0 w ∧ (∀ b j, M b j → M0 b j ∨ D0 b j ∨ w0.heap.size ≤ b) ∧ a.tmps.size = n ∧ a.defers = [] ∧
    (∀ id o, id % 2 = 1 → st.obj id = some o → (β0 id).same (β id)) ∧ ∀ id, RS S st done id → (∃ z ∈ done, S z.i = true ∧ id ∈ z.m.dead) ∨ ∃ o, (seen S st done).obj id = some o

theorem seen_obj {f : Nat → Bool} {st : St} {done : List Done} {id : Nat} : (seen f st done).obj id = doneObj f id st.obj done := by simp [seen]

theorem put_slot {β : Nat → Loc} {M : Cells} {w : World} {a : Act} {d : Option Nat} {v : AV} {c : Value} {g g' : Nat → AV} (hd : ∀ t, d = some t → t < a.tmps.size) (hv : AVR β w M v c) (hg : ∀ t, AVR β w M (g t) (a.tmps.getD t undef))
    (h : ∀ t, g' t = if d = some t then v else g t) : ∀ t, AVR β w M (g' t) ((a.put d c).tmps.getD t undef) := by
  intro t
  rw [h]
  cases d with
  | none => simpa [Act.put] using hg t
  | some d =>
    have hlt := hd d rfl
    simp only [Act.put, Option.some.injEq]
    by_cases e : d = t
    · subst e; simp [hlt]; exact hv
    · simp only [e, if_false]
      have := hg t
      simp only [Array.getD_eq_getD_getElem?] at this ⊢
      rw [Array.getElem?_setIfInBounds_ne e]; exact this

theorem put_tm {a : Act} {d : Option Nat} {c : Value} (hd : ∀ t, d = some t → t < a.tmps.size) (t : Nat) : (a.put d c).tmps.getD t undef = if d = some t then c else a.tmps.getD t undef := by
  cases d with
  | none => simp [Act.put]
  | some d =>
    have hlt := hd d rfl
    simp only [Act.put, Option.some.injEq]
    by_cases e : d = t
    · subst e; simp [hlt]
    · simp [e, Array.getElem?_setIfInBounds]

/-- ONE OPERATION OF A REGION, whenever its turn comes. -/
theorem draw_step (hcall : ∀ f as rs fs, call f as = some (rs, fs) → Contract C.P (C.modes f) f as rs fs) (R : RegOK C call ops pl st done) {x : Done} (hx : x ∈ done) {S : Nat → Bool} (hSx : S x.i = false)
    (hdown : ∀ z ∈ done, S z.i = true → ∀ j, z.b.testBit j = true → S j = true) (hready : ∀ e ∈ x.o.after.toList, Region.binds .any e = true → S e.on = true) {a : Act} {w : World} (hJ : Jnv M0 D0 β0 w0 n st done S a w)
    (hd : ∀ t, x.o.dst = some t → t < n) {K : Act → World → Prop} {Q : Exit → Act → World → Prop} (hK : ∀ a' w', Jnv M0 D0 β0 w0 n st done (plus S x.i) a' w' → K a' w') : wpOp C.P ops Q x.i K a w := by
  obtain ⟨M, β, hV, hC, hFr, hM, hn, hdef, hpin, hdom⟩ := hJ
  have hg := R.good x hx
  have hsub : ∀ j, x.b.testBit j = true → S j = true := by
    intro j hj
    obtain ⟨e, h1, h2, h3⟩ := hg.bef j hj
    rcases h3 with rfl | ⟨z, hz, h4, h5⟩
    · exact hready e h1 h2
    · exact hdown z hz (by rw [h4]; exact hready e h1 h2) j h5
  have hun : ∀ y ∈ done, S y.i = true → x.b.testBit y.i = true ∨ unord x y = true := by
    intro y hy hSy
    cases h1 : x.b.testBit y.i with
    | true => exact .inl rfl
    | false =>
      refine .inr ?_
      have h2 : y.b.testBit x.i = false := by
        cases h : y.b.testBit x.i with
        | false => rfl
        | true => have := hdown y hy hSy _ h; rw [hSx] at this; exact absurd this (by simp)
      have h3 : x.i ≠ y.i := fun e => by rw [e, hSy] at hSx; exact absurd hSx (by simp)
      simp [unord, h1, h2, h3]
  have ap2 := apart_spec R.ap x hx
  have hdiff : ∀ y ∈ done, S y.i ≠ decide (y.i < x.i) → unord x y = true := by
    intro y hy hne
    cases hSy : S y.i with
    | true =>
      rcases hun y hy hSy with h | h
      · have := testBit_lt hg.lt h
        rw [hSy] at hne; simp [this] at hne
      · exact h
    | false =>
      have hlt : y.i < x.i := by
        rw [hSy] at hne; simpa using hne
      have h1 : x.b.testBit y.i = false := by
        cases h : x.b.testBit y.i with
        | false => rfl
        | true => rw [hsub _ h] at hSy; exact absurd hSy (by simp)
      have h2 : y.b.testBit x.i = false := by
        cases h : y.b.testBit x.i with
        | false => rfl
        | true => have := testBit_lt (R.good y hy).lt h; omega
      have h3 : x.i ≠ y.i := by omega
      simp [unord, h1, h2, h3]
  have hlooks : ∀ t ∈ looks ops.toList x.o, (seen (fun j => decide (j < x.i)) st done).get t = (seen S st done).get t := by
    intro t ht
    refine doneGet_congr fun y hy hyt => ?_
    by_cases e : S y.i = decide (y.i < x.i)
    · exact e.symm
    · exact absurd ht (R.slots x hx y hy (hdiff y hy e) t hyt)
  have hobjs : ∀ id, id ∈ x.rd ++ (x.m.writes ++ x.raw) → (seen (fun j => decide (j < x.i)) st done).obj id = (seen S st done).obj id := by
    intro id hid
    have key : ∀ l : List Done, (∀ y ∈ l, y ∈ done) → doneObj (fun j => decide (j < x.i)) id st.obj l = doneObj S id st.obj l := by
      intro l
      induction l with
      | nil => intro _; rfl
      | cons y r ih =>
        intro hl
        rw [doneObj_cons, doneObj_cons, ih fun z hz => hl z (by simp [hz])]
        by_cases e : S y.i = decide (y.i < x.i)
        · rw [e]
        · have hy := hl y (by simp)
          have := ap2 y hy (hdiff y hy e) id hid
          have haw : id ∉ y.m.writes ++ y.m.os.map (·.1) := by
            intro h
            rcases List.mem_append.1 h with h | h
            · exact this (List.mem_append.2 (.inl h))
            · exact this (List.mem_append.2 (.inr (R.os hy id h)))
          rw [away_id haw]
          simp
    exact key done fun y hy => hy
  have hosR : ∀ i ∈ x.raw, ¬ RS S st done i := by
    rintro i hi (⟨o, ho⟩ | ⟨z, hz, hSz, hzi⟩)
    · rw [R.free i (List.mem_flatMap.2 ⟨x, hx, hi⟩)] at ho; exact absurd ho (by simp)
    · have := flat_uniq R.raws hx hz hi (R.os hz i hzi)
      rw [this, hSz] at hSx; exact absurd hSx (by simp)
  have hwx : wanted ops.toList (seen (fun j => decide (j < x.i)) st done) x.o = wanted ops.toList (seen S st done) x.o := wanted_looks hlooks
  unfold wpOp
  rw [hg.at_]
  simp only
  -- the new view
  have hget1 : ∀ t, (seen (plus S x.i) st done).get t = if x.o.dst = some t then x.m.v else (seen S st done).get t := fun t => doneGet_plus R.idn R.dsts hx hSx
  have haway : ∀ y ∈ done, S y.i = true → x.i < y.i → Away x y := by
    intro y hy hSy hlt i hi hi'
    have hnb : x.b.testBit y.i ≠ true := fun h => by have := testBit_lt hg.lt h; omega
    have hu := (hun y hy hSy).resolve_left hnb
    have := ap2 y hy hu i
    refine this (List.mem_append.2 (.inr ?_)) ?_
    · rcases List.mem_append.1 hi with h | h
      · exact List.mem_append.2 (.inl h)
      · exact List.mem_append.2 (.inr (R.os hx i h))
    · rcases List.mem_append.1 hi' with h | h
      · exact List.mem_append.2 (.inl h)
      · exact List.mem_append.2 (.inr (R.os hy i h))
  have hobj1 : ∀ id, (seen (plus S x.i) st done).obj id = match lkp id x.m.os with | some o => some o | none => if x.m.dead.contains id then none else patched x.m.ws id ((seen S st done).obj id) := by
    intro id
    rw [seen_obj, seen_obj]
    exact doneObj_plus R.idn hx hSx haway R.idp
  have hRS1 : ∀ id, RS (plus S x.i) st done id ↔ RS S st done id ∨ id ∈ x.m.os.map (·.1) := by
    intro id
    constructor
    · rintro (h | ⟨z, hz, h1, h2⟩)
      · exact .inl (.inl h)
      · by_cases e : z.i = x.i
        · rw [R.uniq hz hx e] at h2; exact .inr h2
        · rw [plus_other e] at h1; exact .inl (.inr ⟨z, hz, h1, h2⟩)
    · rintro ((h | ⟨z, hz, h1, h2⟩) | h)
      · exact .inl h
      · exact .inr ⟨z, hz, by simp [plus, h1], h2⟩
      · exact .inr ⟨x, hx, plus_self, h⟩
  have hdead1 : ∀ id, (∃ z ∈ done, plus S x.i z.i = true ∧ id ∈ z.m.dead) ↔ (∃ z ∈ done, S z.i = true ∧ id ∈ z.m.dead) ∨ id ∈ x.m.dead := by
    intro id
    constructor
    · rintro ⟨z, hz, h1, h2⟩
      by_cases e : z.i = x.i
      · rw [R.uniq hz hx e] at h2; exact .inr h2
      · rw [plus_other e] at h1; exact .inl ⟨z, hz, h1, h2⟩
    · rintro (⟨z, hz, h1, h2⟩ | h)
      · exact ⟨z, hz, by simp [plus, h1], h2⟩
      · exact ⟨x, hx, plus_self, h⟩
  rcases hg.does with ⟨hw, m, hm, hok, harr, hraw⟩ | ⟨hw, hm, hraw⟩
  · rw [wanted_ok hV (hwx ▸ hw)]
    simp only [if_true]
    refine .inl ?_
    -- what it makes there is what it makes
    have hmS : made C call x.o (seen S st done) = some m := made_le (V := (seen (fun j => decide (j < x.i)) st done).only x.rd) (eval_looks (all := ops.toList) (fun t ht => hlooks t ht)) (fun id ob hob => by
      simp only [View.only] at hob
      split at hob
      · rename_i hc
        rw [← hobjs id (List.mem_append.2 (.inl (by simpa using hc)))]; exact hob
      · exact absurd hob (by simp)) hm
    have hfz : m.frz = [] := by
      simp only [okMade, Bool.and_eq_true] at hok
      have h1 : x.m.frz = [] := by simpa using hok.1.1
      rw [harr, (arrive_sub pl x.o st.obj m).2.2.1] at h1; exact h1
    have hws : ∀ p ∈ x.m.ws, p.id ∉ x.m.dead ∧ ∃ o o', (seen S st done).obj p.id = some o ∧ p.on (some o) = some o' := by
      intro p hp
      simp only [okMade, Bool.and_eq_true, List.all_eq_true] at hok
      have h1 := hok.2 p hp
      refine ⟨by simpa using h1.1, ?_⟩
      have h2 := h1.2
      have hid : p.id ∈ x.rd ++ (x.m.writes ++ x.raw) := List.mem_append.2 (.inr (List.mem_append.2 (.inl (List.mem_append.2 (.inr (List.mem_map_of_mem (f := Patch.id) hp))))))
      rw [hobjs p.id hid] at h2
      cases ho : (seen S st done).obj p.id with
      | none => rw [ho] at h2; cases p <;> simp [Patch.on] at h2
      | some o =>
        rw [ho] at h2
        obtain ⟨o', ho'⟩ := Option.isSome_iff_exists.1 h2
        exact ⟨o, o', rfl, ho'⟩
    have hrn : (m.os.map (·.1)).Nodup := by have := flat_nodup R.raws hx; rw [hraw] at this; exact this
    refine made_okR hcall hV hC hmS hrn (fun id hid hr => absurd hr (hosR id (by rw [hraw]; exact hid))) (fun M' β' w' c hP hRef => hK _ _ ?_)
    have eM : (fun b j => M b j ∧ ¬ ∃ i ∈ m.frz, (∃ o, (seen S st done).obj i = some o) ∧ (β i).F b j) = M := by
      funext b j; simp [hfz]
    rw [eM] at hP
    obtain ⟨M2, β2, hP2⟩ := arrive_ok (pl := pl) (o := x.o) (ob := st.obj) hV.old hP
    rw [← harr] at hP2
    have hRef2 : MRefs (RS S st done) x.m := by
      rw [harr]; exact (arrive_sub pl x.o st.obj m).2.2.2.2.2 _ (hRef.imp fun i h => h.1)
    have hdt : ∀ t, x.o.dst = some t → t < a.tmps.size := fun t ht => by rw [hn]; exact hd t ht
    have hV1 : VR M0 M2 β2 (seen (plus S x.i) st done) (a.put x.o.dst c).tmps w' := by
      refine Post.view (V0 := ⟨(seen S st done).get, fun id => if x.m.dead.contains id then none else (seen S st done).obj id⟩) (R := RS S st done) (d := x.o.dst) (hV.less (fun _ => rfl) (fun id o ho => ?_)) hP2 ⟨hC.1, fun id o ho => ?_⟩ (fun id hid => hosR id (R.os hx id hid)) (R.osn hx)
        (fun g hgd hdm => ⟨fun b j hF => ?_, fun id o ho b j hF => ?_⟩) (fun p hp => ?_) hget1 (fun id => ?_) (fun t => put_tm hdt t)
      · simp only at ho
        split at ho
        · exact absurd ho (by simp)
        · exact ho
      · simp only at ho
        split at ho
        · exact absurd ho (by simp)
        · exact hC.2 id o ho
      · obtain ⟨o0, ho0⟩ := hdm
        exact hV.own g o0 ho0 b j hF
      · obtain ⟨o0, ho0⟩ := hdm
        simp only at ho
        split at ho
        · exact absurd ho (by simp)
        · rename_i hnd
          exact hV.disj g id o0 o ho0 ho (fun e => hnd (by rw [← e]; simpa [Made.dead] using hgd)) b j hF
      · obtain ⟨h1, o, o', h2, h3⟩ := hws p hp
        exact ⟨o, o', by simp [h1, h2], h3⟩
      · rw [hobj1]
        cases lkp id x.m.os with
        | some o => rfl
        | none =>
          simp only
          split
          · rw [patched_none]
          · rfl
    refine ⟨M2, β2, hV1, ⟨fun t i hi => ?_, fun id o ho => ?_⟩, hFr.trans hP2.fr (fun _ _ h => h) (fun y j hy => ?_), fun b j hb => ?_, (put_size _ _ _).trans hn, (put_defers _ _ _).trans hdef, fun id o hid ho => (hpin id o hid ho).trans (hP2.same id fun h => ?_), fun id hid => ?_⟩
    · rw [hget1] at hi
      rw [hRS1]
      split at hi
      · exact hRef2.1 i hi
      · exact .inl (hC.1 t i hi)
    · rw [hobj1] at ho
      rw [hRS1]
      split at ho
      · rename_i o' hl
        simp only [Option.some.injEq] at ho; subst ho
        have hm' := lkp_mem hl
        refine ⟨.inr (List.mem_map_of_mem (f := (·.1)) hm'), fun i hi => ?_⟩
        rw [hRS1]
        exact hRef2.2.1 _ hm' i hi
      · split at ho
        · exact absurd ho (by simp)
        · by_cases hpid : id ∈ x.m.ws.map Patch.id
          · obtain ⟨p, hp, rfl⟩ := List.mem_map.1 hpid
            rw [patched_at hP2.nd hp] at ho
            obtain ⟨_, o0, o1, e1, e2⟩ := hws p hp
            rw [e1] at ho
            refine ⟨.inl (hC.2 _ _ e1).1, fun i hi => ?_⟩
            rw [hRS1]
            cases p with
            | box k off cells =>
              cases o0 <;> simp only [Patch.on] at ho <;> try (cases ho; done)
              rename_i cs0
              split at ho
              · rename_i hle'
                injection ho with ho; subst ho
                simp only [Obj.refs] at hi
                obtain ⟨v, hv, hvi⟩ := refsL_mem.1 hi
                obtain ⟨j, hj⟩ := List.mem_iff_getElem?.1 hv
                rw [setFrom_get _ _ _ hle'] at hj
                split at hj
                · exact hRef2.2.2 k off cells hp i (refsL_mem.2 ⟨v, List.mem_of_getElem? hj, hvi⟩)
                · exact .inl ((hC.2 _ _ e1).2 i (by simp only [Obj.refs]; exact refsL_mem.2 ⟨v, List.mem_of_getElem? hj, hvi⟩))
              · exact absurd ho (by simp)
            | buf k sz es =>
              cases o0 <;> simp only [Patch.on] at ho <;> try (cases ho; done)
              split at ho
              · injection ho with ho; subst ho; simp [Obj.refs] at hi
              · exact absurd ho (by simp)
            | bld k bs =>
              cases o0 <;> simp only [Patch.on] at ho <;> try (cases ho; done)
              injection ho with ho; subst ho; simp [Obj.refs] at hi
          · rw [patched_other hpid] at ho
            refine ⟨.inl (hC.2 id o ho).1, fun i hi => ?_⟩
            rw [hRS1]
            exact .inl ((hC.2 id o ho).2 i hi)
    · have := dm_own hV (fun p hp => (hws p hp).2) y j hy
      rcases hM y j this.1 with h | h | h
      · exact absurd h this.2
      · exact .inl h
      · exact .inr h
    · rcases hP2.only b j hb with h | h
      · exact hM b j h
      · exact .inr (.inr (Nat.le_trans hFr.size h))
    · obtain ⟨p, hp, rfl⟩ := List.mem_map.1 h
      have := R.evens hx p hp
      omega
    · rw [hRS1] at hid
      rw [hdead1, hobj1]
      by_cases hos : id ∈ x.m.os.map (·.1)
      · obtain ⟨p, hp, rfl⟩ := List.mem_map.1 hos
        rw [lkp_of_mem (n := p.1) (a := p.2) (R.osn hx) hp]
        exact .inr ⟨_, rfl⟩
      · rw [lkp_none_of hos]
        simp only
        by_cases hdd : id ∈ x.m.dead
        · exact .inl (.inr hdd)
        · rw [if_neg (by simpa using hdd)]
          rcases hdom id (hid.resolve_right hos) with h | ⟨o, ho⟩
          · exact .inl (.inl h)
          · refine .inr ?_
            by_cases hpid : id ∈ x.m.ws.map Patch.id
            · obtain ⟨p, hp, rfl⟩ := List.mem_map.1 hpid
              rw [patched_at hP2.nd hp]
              obtain ⟨_, o0, o1, e1, e2⟩ := hws p hp
              rw [e1]; exact ⟨o1, e2⟩
            · rw [patched_other hpid]; exact ⟨o, ho⟩
  · rw [wanted_ok hV (hwx ▸ hw)]
    simp only [Bool.false_eq_true, if_false]
    have hdt : ∀ t, x.o.dst = some t → t < a.tmps.size := fun t ht => by rw [hn]; exact hd t ht
    have hobj2 : ∀ id, (seen (plus S x.i) st done).obj id = (seen S st done).obj id := by
      intro id; rw [hobj1, hm]; simp [Made.only, lkp, Made.dead, patched]
    have hos0 : x.m.os = [] := by rw [hm]; rfl
    have hdd0 : x.m.dead = [] := by rw [hm]; rfl
    refine hK _ _ ⟨M, β, ⟨hV.sup, hV.old, put_slot hdt (v := .tup []) (c := undef) (by simp only [AVR]; exact ⟨#[], rfl, by simp [AVRs]⟩) hV.slots (fun t => by rw [hget1, hm]; rfl), fun id o ho => hV.objs id o (hobj2 id ▸ ho), fun id o ho => hV.own id o (hobj2 id ▸ ho), fun id id' o o' ho ho' => hV.disj id id' o o' (hobj2 id ▸ ho) (hobj2 id' ▸ ho')⟩,
      ⟨fun t i hi => ?_, fun id o ho => ?_⟩, hFr, hM, (put_size _ _ _).trans hn, (put_defers _ _ _).trans hdef, hpin, fun id hid => ?_⟩
    · rw [hget1] at hi
      rw [hRS1]
      split at hi
      · rw [hm] at hi; simp [Made.only, AV.refs, AV.refsL] at hi
      · exact .inl (hC.1 t i hi)
    · rw [hobj2] at ho
      rw [hRS1]
      refine ⟨.inl (hC.2 id o ho).1, fun i hi => ?_⟩
      rw [hRS1]
      exact .inl ((hC.2 id o ho).2 i hi)
    · rw [hRS1, hos0] at hid
      rw [hdead1, hobj2]
      rcases hdom id (hid.resolve_right (by simp)) with h | h
      · exact .inl (.inl h)
      · exact .inr h


theorem RegOK.ex (R : RegOK C call ops pl st done) {i : Nat} (hi : i < ops.size) : ∃ x ∈ done, x.i = i := by
  have : i ∈ done.map (·.i) := by rw [R.idx]; simpa using hi
  obtain ⟨x, hx, h⟩ := List.mem_map.1 this
  exact ⟨x, hx, h⟩

/-- How many are left. -/
def left (listed : Array Bool) (n : Nat) : Nat := ((List.range n).filter fun i => !listed.getD i true).length

theorem left_lt {listed : Array Bool} {n i : Nat} (hs : listed.size = n) (hi : i < n) (h : listed.getD i false = false) : left (listed.setIfInBounds i true) n < left listed n := by
  unfold left
  have hsub : ∀ (l : List Nat), l.Nodup → i ∈ l → (l.filter fun j => !(listed.setIfInBounds i true).getD j true).length < (l.filter fun j => !listed.getD j true).length := by
    intro l
    induction l with
    | nil => intro _ h; simp at h
    | cons k r ih =>
      intro hn hk
      simp only [List.nodup_cons] at hn
      have hsame : ∀ j, j ≠ i → (listed.setIfInBounds i true).getD j true = listed.getD j true := fun j hj => by
        simp only [Array.getD_eq_getD_getElem?, Array.getElem?_setIfInBounds_ne (fun e => hj e.symm)]
      by_cases e : k = i
      · subst e
        have hr : (r.filter fun j => !(listed.setIfInBounds k true).getD j true) = r.filter fun j => !listed.getD j true := by
          refine List.filter_congr fun j hj => ?_
          rw [hsame j (fun e => hn.1 (e ▸ hj))]
        have h1 : (listed.setIfInBounds k true).getD k true = true := by simp [Array.getD_eq_getD_getElem?, Array.getElem?_setIfInBounds]; split <;> simp
        have h2 : listed.getD k true = false := by
          have hk' : k < listed.size := by omega
          simpa [Array.getD_eq_getD_getElem?, Array.getElem?_eq_getElem hk'] using h
        rw [List.filter_cons_of_neg (by simp [h1]), List.filter_cons_of_pos (by simp [h2]), hr]
        simp
      · have hi' := (List.mem_cons.1 hk).resolve_left (fun h => e h.symm)
        have := ih hn.2 hi'
        cases hv : listed.getD k true with
        | true =>
          rw [List.filter_cons_of_neg (by simp [hsame k e, hv]), List.filter_cons_of_neg (by simp [hv])]; exact this
        | false =>
          rw [List.filter_cons_of_pos (by simp [hsame k e, hv]), List.filter_cons_of_pos (by simp [hv])]; simpa using this
  exact hsub _ List.nodup_range (by simpa using hi)

theorem mem_ready {listed : Array Bool} {i : Nat} (h : i ∈ Region.ready .any ops listed) : i < ops.size ∧ listed.getD i true = false ∧ ∃ o, ops[i]? = some o ∧ ∀ e ∈ o.after.toList, Region.binds .any e = true → listed.getD e.on false = true := by
  simp only [Region.ready, List.mem_filter, List.mem_range, Bool.and_eq_true, Bool.not_eq_true'] at h
  obtain ⟨h1, h2, h3⟩ := h
  refine ⟨h1, h2, ?_⟩
  cases ho : ops[i]? with
  | none => rw [ho] at h3; simp at h3
  | some o =>
    rw [ho] at h3
    simp only [Option.map_some, Option.getD_some] at h3
    refine ⟨o, rfl, fun e he hb => ?_⟩
    have := (Array.all_eq_true_iff_forall_mem.1 h3) e (by simpa using he)
    simpa [hb] using this

/-- IN WHATEVER ORDER. -/
theorem draw_any (hcall : ∀ f as rs fs, call f as = some (rs, fs) → Contract C.P (C.modes f) f as rs fs) (R : RegOK C call ops pl st done) (hd : ∀ x ∈ done, ∀ t, x.o.dst = some t → t < n) {Q : Exit → Act → World → Prop}
    (hQ : ∀ S a w, (∀ x ∈ done, S x.i = true) → Jnv M0 D0 β0 w0 n st done S a w → Q .normal a w) : ∀ (fuel : Nat) (listed : Array Bool) (a : Act) (w : World), listed.size = ops.size → left listed ops.size ≤ fuel →
      (∀ z ∈ done, listed.getD z.i false = true → ∀ j, z.b.testBit j = true → listed.getD j false = true) → Jnv M0 D0 β0 w0 n st done (fun i => listed.getD i false) a w → wpAny C.P .any ops Q fuel listed a w := by
  -- where nothing is ready all is done
  have hall : ∀ (listed : Array Bool), listed.size = ops.size → Region.ready .any ops listed = [] → ∀ x ∈ done, listed.getD x.i false = true := by
    intro listed hs hr
    have key : ∀ i, i < ops.size → listed.getD i false = true := by
      intro i
      induction i using Nat.strongRecOn with
      | _ i ih =>
        intro hi
        cases hv : listed.getD i false with
        | true => rfl
        | false =>
          obtain ⟨x, hx, rfl⟩ := R.ex hi
          have hg := R.good x hx
          have : x.i ∈ Region.ready .any ops listed := by
            simp only [Region.ready, List.mem_filter, List.mem_range, Bool.and_eq_true, Bool.not_eq_true']
            refine ⟨hi, ?_, ?_⟩
            · have hi' : x.i < listed.size := by omega
              simpa [Array.getD_eq_getD_getElem?, Array.getElem?_eq_getElem hi'] using hv
            · rw [hg.at_]
              simp only [Option.map_some, Option.getD_some]
              refine Array.all_eq_true_iff_forall_mem.2 fun e he => ?_
              cases hb : Region.binds .any e with
              | false => simp
              | true =>
                have hlt := testBit_lt hg.lt (hg.aft e (by simpa using he) hb)
                simp [ih e.on hlt (by omega)]
          rw [hr] at this; simp at this
    intro x hx
    have := (Array.getElem?_eq_some_iff.1 (R.good x hx).at_).1
    exact key x.i this
  intro fuel
  induction fuel with
  | zero =>
    intro listed a w hs hl hdn hJ
    have hr : Region.ready .any ops listed = [] := by
      cases hr : Region.ready .any ops listed with
      | nil => rfl
      | cons i r =>
        obtain ⟨h1, h2, _⟩ := mem_ready (by rw [hr]; exact List.mem_cons_self : i ∈ Region.ready .any ops listed)
        have : 0 < left listed ops.size := List.length_pos_of_mem (a := i) (List.mem_filter.2 ⟨by simpa using h1, by simp [h2]⟩)
        omega
    exact ⟨hr, hQ _ a w (hall listed hs hr) hJ⟩
  | succ fuel ih =>
    intro listed a w hs hl hdn hJ
    refine ⟨fun hr => hQ _ a w (hall listed hs hr) hJ, fun i hi => ?_⟩
    obtain ⟨h1, h2, o, ho, h3⟩ := mem_ready hi
    obtain ⟨x, hx, rfl⟩ := R.ex h1
    have hg := R.good x hx
    have hox : o = x.o := by have := ho.symm.trans hg.at_; simpa using this
    subst hox
    have hlx : listed.getD x.i false = false := by
      have hi' : x.i < listed.size := by omega
      simpa [Array.getD_eq_getD_getElem?, Array.getElem?_eq_getElem hi'] using h2
    have hplus : (fun i => (listed.setIfInBounds x.i true).getD i false) = plus (fun i => listed.getD i false) x.i := by
      funext j
      simp only [plus, Array.getD_eq_getD_getElem?]
      by_cases e : j = x.i
      · subst e
        have hi' : x.i < listed.size := by omega
        simp [hi']
      · rw [Array.getElem?_setIfInBounds_ne (fun h => e h.symm)]; simp [e]
    refine draw_step hcall R hx (S := fun i => listed.getD i false) hlx hdn h3 hJ (hd x hx) fun a' w' hJ' => ih _ a' w' (by simpa using hs) (by have := left_lt hs h1 hlx; omega) ?_ (by rw [hplus]; exact hJ')
    intro z hz hzl j hj
    have e1 := congrFun hplus
    rw [e1] at hzl ⊢
    by_cases e : z.i = x.i
    · have := R.uniq hz hx e
      subst this
      obtain ⟨e', k1, k2, k3⟩ := hg.bef j hj
      rcases k3 with rfl | ⟨y, hy, k4, k5⟩
      · simp [plus, h3 e' k1 k2]
      · have := hdn y hy (by rw [k4]; exact h3 e' k1 k2) j k5
        simp only [plus, this, Bool.or_true]
    · rw [plus_other e] at hzl
      have := hdn z hz hzl j hj
      simp only [plus, this, Bool.or_true]

theorem forgetAll_get (ids : List Nat) (st : St) (t : Nat) : (forgetAll ids st).get t = AV.sub (fun i => if ids.contains i then none else some i) (st.get t) ∨ (ids = [] ∧ (forgetAll ids st).get t = st.get t) := by
  cases ids with
  | nil => exact .inr ⟨rfl, rfl⟩
  | cons a r =>
    refine .inl ?_
    simp only [forgetAll, St.get, St.map, lkp_map]
    cases lkp t st.tmps <;> simp [AV.sub]

theorem draw_end {S : Nat → Bool} (R : RegOK C call ops pl st done) {s : St} (hL : Left s st done) (hS : ∀ x ∈ done, S x.i = true) {a : Act} {w : World} (hJ : Jnv M0 D0 β0 w0 n st done S a w) : Inv M0 D0 β0 w0 n (forgetAll (done.flatMap fun x => x.m.dead) s) a w := by
  obtain ⟨M, β, hV, hC, hFr, hM, hn, hdef, hpin, hdom⟩ := hJ
  have hg : ∀ t, s.get t = (seen S st done).get t := by
    intro t
    rw [hL.1 t]
    exact doneGet_congr fun y hy _ => (hS y hy).symm
  have ho : ∀ id, s.obj id = (seen S st done).obj id := by
    intro id
    rw [hL.2 id, seen_obj]
    exact doneObj_all fun y hy => (hS y hy).symm
  have hodd : ∀ id o, id % 2 = 1 → (s).obj id = some o → ∃ o', st.obj id = some o' := by
    intro id o hid hob
    rw [ho] at hob
    rw [seen_obj] at hob
    rcases doneObj_some hob with h | ⟨z, hz, _, h2⟩
    · exact h
    · obtain ⟨p, hp, rfl⟩ := List.mem_map.1 h2
      have := R.evens hz p hp
      omega
  have hV' : VR M0 M β (s).view a.tmps w := hV.less (fun t => hg t) (fun id o h => by rw [← ho]; exact h)
  have hex : ∀ i, RS S st done i → (done.flatMap fun x => x.m.dead).contains i = false → ∃ o, (s).obj i = some o := by
    intro i hi hnd
    rcases hdom i hi with ⟨z, hz, _, h⟩ | ⟨o, h⟩
    · simp only [List.contains_eq_mem, decide_eq_false_iff_not] at hnd
      exact absurd (List.mem_flatMap.2 ⟨z, hz, h⟩) hnd
    · exact ⟨o, by rw [ho]; exact h⟩
  generalize (done.flatMap fun x => x.m.dead) = ids at hex
  have hCg : ∀ t, ∀ i ∈ ((s).get t).refs, RS S st done i := fun t i hi => by rw [hg] at hi; exact hC.1 t i hi
  have hCo : ∀ id o, (s).obj id = some o → RS S st done id ∧ ∀ i ∈ o.refs, RS S st done i := fun id o h => by rw [ho] at h; exact hC.2 id o h
  cases ids with
  | nil =>
    refine ⟨M, β, ⟨hV', fun t i hi => hex i (hCg t i hi) rfl, fun id o h => ⟨⟨o, h⟩, fun i hi => hex i ((hCo id o h).2 i hi) rfl⟩⟩, hFr, hM, hn, hdef, fun id o hid h => ?_⟩
    obtain ⟨o', ho'⟩ := hodd id o hid h
    exact hpin id o' hid ho'
  | cons b r =>
    let g : Nat → Option Nat := fun i => if (b :: r).contains i then none else some i
    have hgs : ∀ i j, g i = some j → j = i ∧ (b :: r).contains i = false := by
      intro i j h
      simp only [g] at h
      split at h
      · exact absurd h (by simp)
      · rename_i hc; exact ⟨by simpa using h.symm, by simpa using hc⟩
    have hget : ∀ t, (forgetAll (b :: r) s).get t = AV.sub g (s.get t) := by
      intro t
      simp only [forgetAll, St.get, St.map, lkp_map]
      cases lkp t s.tmps <;> simp [AV.sub, g]
    have hobj : ∀ id, (forgetAll (b :: r) s).obj id = (s.obj id).map (Obj.map (AV.sub g)) := by
      intro id
      simp only [forgetAll, St.obj, St.map, lkp_map]; rfl
    have hob : ∀ id o, (forgetAll (b :: r) s).obj id = some o → ∃ o0, s.obj id = some o0 ∧ o = o0.map (AV.sub g) := by
      intro id o h
      rw [hobj] at h
      simp only [Option.map_eq_some_iff] at h
      obtain ⟨o0, h1, h2⟩ := h
      exact ⟨o0, h1, h2.symm⟩
    have hsame : ∀ i j, g i = some j → (β i).same (β j) := fun i j h => by rw [(hgs i j h).1]; exact Loc.same_refl _
    refine ⟨M, β, ⟨⟨hV'.sup, hV'.old, fun t => ?_, fun id o h => ?_, fun id o h => ?_, fun id id' o o' h h' => ?_⟩, fun t j hj => ?_, fun id o h => ⟨⟨o, h⟩, fun j hj => ?_⟩⟩, hFr, hM, hn, hdef, fun id o hid h => ?_⟩
    · show AVR β w M ((forgetAll (b :: r) s).get t) _
      rw [hget]
      exact subg_ok _ _ (fun i _ j h => hsame i j h) (hV'.slots t)
    · obtain ⟨o0, h1, rfl⟩ := hob id o h
      exact objmap_sub (fun i _ j h => hsame i j h) (hV'.objs id o0 h1)
    · obtain ⟨o0, h1, rfl⟩ := hob id o h
      exact hV'.own id o0 h1
    · obtain ⟨o0, h1, rfl⟩ := hob id o h
      obtain ⟨o1, h1', rfl⟩ := hob id' o' h'
      exact hV'.disj id id' o0 o1 h1 h1'
    · have hj' : j ∈ ((forgetAll (b :: r) s).get t).refs := hj
      rw [hget] at hj'
      obtain ⟨i, h1, h2⟩ := subg_refs _ j hj'
      obtain ⟨rfl, h3⟩ := hgs i j h2
      obtain ⟨o, h4⟩ := hex j (hCg t j h1) h3
      exact ⟨_, by show (forgetAll (b :: r) s).obj j = _; rw [hobj, h4]; rfl⟩
    · obtain ⟨o0, h1, rfl⟩ := hob id o h
      obtain ⟨i, h5, h2⟩ := objmap_refs j hj
      obtain ⟨rfl, h3⟩ := hgs i j h2
      obtain ⟨o, h4⟩ := hex j ((hCo id o0 h1).2 j h5) h3
      exact ⟨_, by show (forgetAll (b :: r) s).obj j = _; rw [hobj, h4]; rfl⟩
    · obtain ⟨o0, h1, rfl⟩ := hob id o h
      obtain ⟨o', ho'⟩ := hodd id o0 hid h1
      exact hpin id o' hid ho'

/-- ONE REGION. -/
theorem region_ok (hcall : ∀ f as rs fs, call f as = some (rs, fs) → Contract C.P (C.modes f) f as rs fs) (hmix : C.P.follows .mixedOrders = true) {id : Nat} {ops : Array Oper} {pre : List Nat} {draw : Bool} {st st' : St} {a : Act} {w : World}
    (hI : Inv M0 D0 β0 w0 n st a w) (h : region C call ops pre draw st = some st') (hd : ∀ o ∈ ops.toList, ∀ t, o.dst = some t → t < n) {Q : Exit → Act → World → Prop} (hQ : ∀ a' w', Inv M0 D0 β0 w0 n st' a' w' → Q .normal a' w') :
    (Code.region id ops draw).wp C.P Q a w := by
  unfold region at h
  simp only at h
  cases draw with
  | false =>
    simp only [Bool.false_eq_true, if_false] at h
    refine wp_region ?_
    have := opers_ok (pl := pre ++ plainDsts ops.toList) hcall hd hQ ops.toList 0 st a w rfl (by omega) hI h
    rwa [Nat.sub_zero, ← List.range_eq_range'] at this
  | true =>
    simp only [if_true] at h
    split at h
    · rename_i hnd
      split at h
      · rename_i done s hfree
        split at h
        · rename_i hchk
          simp only [Option.some.injEq] at h; subst h
          simp only [Bool.and_eq_true, List.all_eq_true, Option.isNone_iff_eq_none] at hchk
          obtain ⟨⟨h1, h2⟩, h3⟩ := hchk
          obtain ⟨f1, f2, f3, f4⟩ := textR_spec ops.toList 0 [] done st s rfl hfree rfl (by simp) (by omega) ⟨fun _ => rfl, fun _ => rfl⟩
          simp only [slotsT, Bool.and_eq_true] at hnd
          have hk := hnd.2
          rw [show befsL ops.toList 0 [] = done.map Done.key from f4.symm] at hk
          have R : RegOK C call ops (pre ++ plainDsts ops.toList) st done := ⟨f1, f2, h1, slots_spec hk, nodup_ok hnd.1, nodup_ok h2, h3⟩
          refine wp_region_any hmix (draw_any hcall R (fun x hx => ?_) (fun S a' w' hS hJ => hQ a' w' (draw_end R f3 hS hJ)) ops.size _ a _ (by simp) ?_ ?_ ?_)
          · have := (f2 x hx).at_
            exact hd x.o (List.mem_of_getElem? (i := x.i) (by simpa using this))
          · unfold left
            refine Nat.le_trans (List.length_filter_le _ _) (by simp)
          · intro z hz hl
            simp [Array.getD_eq_getD_getElem?, Array.getElem?_replicate] at hl
            split at hl <;> simp at hl
          · obtain ⟨M, β, hS, hFr, hM, hn, hdef, hpin⟩ := hI
            have hf : (fun i => (Array.replicate ops.size false).getD i false) = fun _ => false := by
              funext i
              simp only [Array.getD_eq_getD_getElem?, Array.getElem?_replicate]
              split <;> rfl
            rw [hf]
            have hw : VR M0 M β st.view a.tmps { w with drawn := w.drawn + 1 } := hS.1.world (Fr.drew w _)
            have e1 : ∀ t, (seen (fun _ => false) st done).get t = st.get t := by
              intro t
              show doneGet _ t st.get done = st.get t
              have : ∀ l : List Done, doneGet (fun _ => false) t st.get l = st.get t := by
                intro l
                induction l with
                | nil => rfl
                | cons x r ih => simp only [doneGet, ih]; split <;> simp
              exact this done
            have e2 : ∀ id, (seen (fun _ => false) st done).obj id = st.obj id := by
              intro id
              rw [seen_obj]
              have : ∀ l : List Done, doneObj (fun _ => false) id st.obj l = st.obj id := by
                intro l
                induction l with
                | nil => rfl
                | cons x r ih => rw [doneObj_cons, ih]; simp
              exact this done
            refine ⟨M, β, hw.less e1 (fun id o h => by rw [e2] at h; exact h), ⟨fun t i hi => ?_, fun id o h => ?_⟩, hFr.trans (Fr.drew w (fun _ _ => False)) (fun _ _ h => h) (fun _ _ h => h.elim), hM, hn, hdef, hpin, fun id hid => ?_⟩
            · rw [e1] at hi; exact .inl (hS.2.1 t i hi)
            · rw [e2] at h
              exact ⟨.inl ⟨o, h⟩, fun i hi => .inl ((hS.2.2 id o h).2 i hi)⟩
            · rcases hid with ⟨o, h⟩ | ⟨z, _, h, _⟩
              · exact .inr ⟨o, by rw [e2]; exact h⟩
              · exact absurd h (by simp)
        · exact absurd h (by simp)
      · exact absurd h (by simp)
    · exact absurd h (by simp)

end
end Go.Proofs.Ytmjkdghcfihfiaa.Vm
