/-
  The machine: VmCt, VmLib, VmGrow.
-/
import Derived.Test.YtbnjbianobdleaaGreatVmFuel
import Derived.Test.YtbnjbianobdleaaGreatChecked
import Derived.Lib.Builder
import Derived.Lib.UnsafeStr
import Derived.Lib.Hide
import Derived.Laws.Externs

/-
  Contracts, generally.
-/
namespace Go.Proofs.YtbnjbianobdleaaGreat.Vm
open Go Go.RowKit
set_option linter.unusedVariables false
set_option linter.unusedSimpArgs false
theorem wpList_app {P : Program} {w : World} {ops : Array Oper} {rest : List Oper} {o : Oper} {a : Act} {Q : Exit → Act → World → Prop} (hgd : o.guard = none) (s x : Operand) (t u : TypeId)
    (ho : o.op = .call { callee := .builtin .append, args := #[s, x], argTypes := #[t, u] }) {v : Value} {W' : World} (hrun : ∀ ty, (Builtin.append_ #[t, u] ty #[a.eval s, a.eval x]).run P w = .ok v W')
    (h : wpList P ops Q rest (a.put o.dst v) W') : wpList P ops Q (o :: rest) a w := by
  refine wpList_plain hgd fun K hK => ?_
  unfold Oper.wp
  simp [execOp, ho, resolve, invoke, builtin, hrun, Result.andThen]
  exact hK _ _ h

/-! ### Contracts -/
/-- Plain values, as they stand. -/
def RepA (w : World) (M : Cells) : List PV → List Value → Prop
  | [], cs => cs = []
  | x :: xs, cs => ∃ c r, cs = c :: r ∧ Rep w M x c ∧ RepA w M xs r
theorem tvall_pv {w : World} {M : Cells} : ∀ {xs : List PV} {ts : List LT} {cs : List Value}, TVAll w M (xs.map .pv) ts cs → RepA w M xs cs ∧ LT.locsL ts = []
  | [], ts, cs, h => by
    simp only [List.map_nil, TVAll] at h
    obtain ⟨rfl, rfl⟩ := h
    exact ⟨rfl, rfl⟩
  | x :: xs, ts, cs, h => by
    simp only [List.map_cons, TVAll, TVL] at h
    obtain ⟨t, r, c, d, rfl, rfl, ⟨rfl, hx⟩, hr⟩ := h
    obtain ⟨k1, k2⟩ := tvall_pv hr
    exact ⟨by simp only [RepA]; exact ⟨c, d, rfl, hx, k1⟩, by simp [LT.locsL, LT.locs, k2]⟩
theorem tvall_of {w : World} {M : Cells} : ∀ {xs : List PV} {cs : List Value}, RepA w M xs cs → TVAll w M (xs.map .pv) (xs.map fun _ => .none) cs
  | [], cs, h => by simp only [RepA] at h; subst h; simp [TVAll]
  | x :: xs, cs, h => by
    simp only [RepA] at h
    obtain ⟨c, r, rfl, h1, h2⟩ := h
    simp only [List.map_cons, TVAll, TVL]
    exact ⟨.none, _, c, r, rfl, rfl, ⟨rfl, h1⟩, tvall_of h2⟩
theorem locs_none : ∀ xs : List PV, LT.locsL (xs.map fun _ => LT.none) = []
  | [] => rfl
  | _ :: xs => by simp [LT.locsL, LT.locs, locs_none xs]
theorem finR_pv {w : World} {M : Cells} : ∀ {ms : List Mode} {xs : List PV} {ts : List LT} {cs : List Value}, ts.length = xs.length → cs.length = xs.length → FinR w M ms (xs.map .pv) ts cs [] []
  | ms, [], ts, cs, _, _ => by simp [FinR]
  | ms, x :: xs, [], cs, h, _ => by simp at h
  | ms, x :: xs, t :: ts, [], _, h => by simp at h
  | ms, x :: xs, t :: ts, c :: cs, h, k => by
    simp only [List.map_cons, FinR]
    exact ⟨t, ts, c, cs, rfl, rfl, finR_pv (by simpa using h) (by simpa using k)⟩
theorem tvall_len {w : World} {M : Cells} : ∀ {vs : List TV} {ts : List LT} {cs : List Value}, TVAll w M vs ts cs → ts.length = vs.length
  | [], ts, cs, h => by simp only [TVAll] at h; obtain ⟨rfl, rfl⟩ := h; rfl
  | v :: vs, ts, cs, h => by
    simp only [TVAll] at h
    obtain ⟨t, r, c, d, rfl, rfl, _, hr⟩ := h
    simp [tvall_len hr]

theorem enters {f : FuncId} {fn : Func} {c : Code} (hf : Tryz.prog.funcs[f]? = some fn) (hn : (fn.name == "runtime.NumGoroutine") = false) (hb : fn.body = some c) (args : Array Value) (w : World) : (callFunc f args).run Tryz.prog w = .ok (.enter f args) w := by
  have h2 : ¬ fn.name = "runtime.NumGoroutine" := by simpa using hn
  unfold callFunc
  simp [program, Sem.run, hf, h2, hb]


end Go.Proofs.YtbnjbianobdleaaGreat.Vm

/-
  Library functions that hand a new row back, by contracts: what they have in common.
-/
namespace Go.Proofs.YtbnjbianobdleaaGreat.Vm
open Go Go.RowKit
set_option linter.unusedVariables false
set_option linter.unusedSimpArgs false

/-- A new row of the call's own. -/
def Fresh (w w' : World) (M0 : Cells) (sz : Nat) (es : List (List PV)) (v : Value) : Prop :=
  ∃ l, v = l.hdr ∧ ObjR (fun _ => l) w' (fun b j => M0 b j ∨ l.F b j) l (.buf sz es) ∧ (∀ b j, l.F b j → w.heap.size ≤ b ∧ b < w'.heap.size) ∧ Fr (fun _ _ => False) w w'

theorem repA_sub {w : World} {M M' : Cells} (h : ∀ b j, M' b j → M b j) : ∀ {xs : List PV} {cs : List Value}, RepA w M xs cs → RepA w M' xs cs
  | [], cs, k => k
  | x :: xs, cs, k => by
    simp only [RepA] at k ⊢
    obtain ⟨c, r, rfl, h1, h2⟩ := k
    exact ⟨c, r, rfl, Rep.mono (fun b o v h1 h2 => ⟨h1, fun h' => h2 (h _ _ h')⟩) _ _ h1, repA_sub h h2⟩

/-- A function of plain values that hands a new row back. -/
theorem contract_fresh {P : Program} {ms : List Mode} {f : FuncId} {xs : List PV} {sz : Nat} {es : List (List PV)}
    (h : ∀ w M0 cs, RepA w M0 xs cs → (∀ b j, M0 b j → b < w.heap.size) → Invokes P f cs.toArray w fun v w' => Fresh w w' M0 sz es v) : Contract P ms f (xs.map .pv) [.own sz es] [] := by
  intro M0 w ts args hH
  obtain ⟨hx, hl0⟩ := tvall_pv hH.tv
  have hlen := tvall_len hH.tv
  have hlc := TVAll.length hH.tv
  refine (h w M0 args (repA_sub (fun b j h => .inl h) hx) hH.old).mono ?_
  rintro v w' ⟨l, rfl, hO, hF, hfr⟩
  have hlocs : LT.locsL ([LT.one l] ++ []) = [l] := rfl
  refine ⟨[l.hdr], [.one l], [], rfl, ?_, finR_pv (by simpa using hlen) (by simpa using hlc), by rw [hlocs]; simp [Apart], ?_, ?_, ?_⟩
  · simp only [TVAll, TVL]
    refine ⟨.one l, [], l.hdr, [], rfl, rfl, ⟨l, rfl, rfl, ?_⟩, rfl, rfl⟩
    refine ObjR.mono (fun b o v h1 h2 => ⟨h1, fun h3 => h2 ?_⟩) (fun _ _ _ _ h => ⟨h, rfl⟩) (fun _ _ h => h) (fun _ _ _ => rfl) (fun _ h => h) (by simp [Obj.refs]) hO
    rcases h3 with h | ⟨l1, h1, h5⟩
    · exact .inl h
    · rw [hlocs] at h1; simp at h1; subst h1; exact .inr h5
  · intro l1 hl1 b j hb
    rw [hlocs] at hl1; simp at hl1; subst hl1
    have := hF b j hb
    exact ⟨fun h0 => by have := hH.old b j h0; omega, this.2, .inl this.1⟩
  · intro l1 hl1 b j hb
    have hl1' : l1 = l := by
      have e : LT.locsL [LT.one l] ++ LooseF [] [] = [l] := rfl
      rw [e] at hl1
      simpa using hl1
    subst hl1'
    exact .inl (hF b j hb).1
  · exact hfr.mono (fun _ _ h => h.elim)

theorem fresh_nil {w : World} {M0 : Cells} {sz : Nat} (h0 : 0 < sz) : Fresh w w M0 sz [] (.slice none 0 0) :=
  ⟨⟨none, 0, 0, sz, 0, none⟩, rfl, nil_row _ w _ (by omega), by rintro b j (⟨_, h, _⟩ | ⟨_, h, _⟩) <;> simp at h, Fr.refl _ _⟩

/-- Cells in a new block, as a row. -/
theorem fresh_block {w w' : World} {M0 : Cells} (hold : ∀ b j, M0 b j → b < w.heap.size) {sz cap : Nat} {es : List (List PV)} {vs : List Value} (h0 : 0 < sz) (hr : RowS w M0 sz es vs) (hl : vs.length = cap * sz) (hc : es.length ≤ cap)
    {g : Nat} (hg : w.heap.size ≤ g) (hg' : g < w'.heap.size) (hat : ∀ j : Nat, at_ w' g j = vs[j]?) (hz : ∀ j, j < vs.length → frz_ w' g j = false) (hfr : Fr (fun _ _ => False) w w') (hu : 2 ≤ sz → Unm w' g) :
    Fresh w w' M0 sz es (.slice (some ⟨g, 0, none⟩) es.length cap) := by
  let l : Loc := { base := some (g, 0), len := es.length, cap := cap, sz := sz, k := cap * sz, ext := none }
  have hF : ∀ b j, l.F b j → b = g ∧ j < cap * sz := by
    rintro b j (⟨o, h1, h2, h3⟩ | ⟨n, h1, _⟩)
    · simp only [l, Option.some.injEq, Prod.mk.injEq] at h1
      obtain ⟨rfl, rfl⟩ := h1
      exact ⟨rfl, by simpa using h3⟩
    · simp [l] at h1
  have hk : ∀ b o v, at_ w b o = some v → ¬ M0 b o → at_ w' b o = some v ∧ ¬ (M0 b o ∨ l.F b o) := fun b o v hv hm => by
    refine ⟨(hfr.keeps hv (fun x => x)).1, ?_⟩
    rintro (h | h)
    · exact hm h
    · have := (hF b o h).1
      have := at_lt hv
      omega
  refine ⟨l, rfl, ⟨rfl, h0, rfl, hc, rfl, ⟨rfl, fun b o hb => by simp only [l, Option.some.injEq, Prod.mk.injEq] at hb; rw [← hb.1]; exact hu⟩, fun h => by simp [l] at h, fun e he => ?_, fun b o hb => ?_⟩, fun b j h => ?_, hfr⟩
  · obtain ⟨i, hi⟩ := List.mem_iff_getElem?.1 he
    exact (hr.2 i e hi).1
  · simp only [l, Option.some.injEq, Prod.mk.injEq] at hb
    obtain ⟨rfl, rfl⟩ := hb
    refine ⟨fun j hj => ⟨⟨vs[j]'(by rw [hl]; exact hj), by rw [Nat.zero_add, hat]; exact List.getElem?_eq_getElem _⟩, by rw [Nat.zero_add]; exact hz j (by rw [hl]; exact hj)⟩, fun i e he => ?_⟩
    obtain ⟨k1, k2⟩ := hr.2 i e he
    refine ⟨_, RepS.mono hk e _ k2, fun j c hj => ?_⟩
    rw [List.getElem?_take] at hj
    split at hj
    · rw [List.getElem?_drop] at hj
      rw [Nat.zero_add, hat]; exact hj
    · exact absurd hj (by simp)
  · rw [(hF b j h).1]; exact ⟨hg, hg'⟩

/-- A slice that is read, its cells. -/
theorem slice_cells {P : Program} {w : World} {M : Cells} {es : List (List PV)} {c : Value} (h : Rep w M (.sl es) c) {e : TypeId} (hs : 0 < sizeT P e) (hr : rowOk (sizeT P e) es = true) :
    ∃ (A : Option Addr) (cap : Nat) (news : List Value), c = .slice A es.length cap ∧ (A = none → es = []) ∧ news.length = es.length * sizeT P e ∧ (∀ v ∈ news, v.oneCell' = true) ∧ RowS w M (sizeT P e) es news ∧
      ∀ W, (∀ b j v, at_ w b j = some v → at_ W b j = some v) → (Builtin.firstCells (sizeT P e) es.length c).run P W = .ok news.toArray W := by
  simp only [Rep] at h
  obtain ⟨A, cap, rfl, hle, hnone, hspot, sz, hrow⟩ := h
  have hrow' : ∀ i e0, es[i]? = some e0 → ∃ b o vs, A = some ⟨b, o, none⟩ ∧ e0.length = sizeT P e ∧ RepS w M e0 vs ∧ ∀ j d, vs[j]? = some d → at_ w b (o + i * sizeT P e + j) = some d := by
    intro i e0 he
    obtain ⟨a, vs, h1, h2, h3, h4⟩ := RepRow.get hrow i e0 he
    have h5 : e0.length = sizeT P e := by simpa using List.all_eq_true.1 hr e0 (List.mem_of_getElem? he)
    have hsz : sz = sizeT P e := by rw [← h2, h5]
    subst hsz
    have := hspot a h1 (by rintro rfl; simp at he)
    obtain ⟨b, o, s⟩ := a
    simp only at this; subst this
    exact ⟨b, o, vs, h1, h2, h3, fun j d hj => by have := (h4 j d hj).1; simpa using this⟩
  obtain ⟨news, k1, k2, k3, k4⟩ := row_cells hs hrow'
  have hnil : A = none → es = [] := fun hA => List.length_eq_zero_iff.1 (by have := hnone hA; omega)
  refine ⟨A, cap, news, rfl, hnil, k1, k2, k3, fun W hW => ?_⟩
  cases A with
  | none =>
    have := hnil rfl
    subst this
    have : news = [] := List.length_eq_zero_iff.1 (by simpa using k1)
    subst this
    exact run_firstCells_none W _ _ _ _
  | some pa =>
    by_cases he0 : es = []
    · subst he0
      have : news = [] := List.length_eq_zero_iff.1 (by simpa using k1)
      subst this
      exact run_firstCells_some W _ _ _ _ _ [] (by simp) (fun j v hj => by simp at hj)
    have := hspot pa rfl he0
    obtain ⟨pb, po, ps⟩ := pa
    simp only at this; subst this
    exact run_firstCells_some W _ _ _ _ _ _ k1 (fun j v hj => by rw [addr_add]; exact hW _ _ _ (k4 pb po rfl j v hj))

/-- Joined to an empty literal. -/
theorem clone_app {P : Program} {w : World} {M0 : Cells} (hold : ∀ b j, M0 b j → b < w.heap.size) {t e : TypeId} (ht : P.underlying t = some (.slice e)) (hz : (zeroV P e).isSome = true) {es : List (List PV)} {c : Value} (h : Rep w M0 (.sl es) c) (h0 : 0 < sizeT P e) (hr : rowOk (sizeT P e) es = true)
    (hroom : es.length * bytesT P e ≤ room) (h63 : es.length ≤ maxInt) :
    ∃ v W', (∀ ty, (Builtin.append_ #[t, t] ty #[.slice (some ⟨w.heap.size, 0, none⟩) 0 0, c]).run P (w.alloc (.cells #[] e)) = .ok v W') ∧ Fresh w W' M0 (sizeT P e) es v := by
  obtain ⟨zv, hz⟩ := Option.isSome_iff_exists.1 hz
  obtain ⟨i, z, hi, hzz, hzl, hl⟩ := zeroV_eq hz
  have hst : sizeT P e = i.size := by simp [sizeT, hi]
  have hbt : bytesT P e = i.bytes := by simp [bytesT, hi]
  obtain ⟨A, cap, news, rfl, hnil, n1, n2, n3, n4⟩ := slice_cells h h0 hr
  have hfr1 : Fr (fun _ _ => False) w (w.alloc (.cells #[] e)) := Fr.alloc _ _ _ _
  have hk1 : ∀ b j v, at_ w b j = some v → at_ (w.alloc (.cells #[] e)) b j = some v := fun b j v hv => (hfr1.keeps hv (fun h => h)).1
  have hlen : ∀ W, (Builtin.lenOf (.slice A es.length cap)).run P W = .ok es.length W := fun W => rfl
  by_cases hes : es = []
  · subst hes
    have hn : news = [] := List.length_eq_zero_iff.1 (by simpa using n1)
    subst hn
    have hf := n4 _ hk1
    refine ⟨_, _, fun ty => run_append_in (P := P) (w := w.alloc (.cells #[] e)) (ty := ty) ht hi (.inr ⟨_, ht⟩) (m := 0) (news := []) (hlen _) (by rw [← hst]; exact hf) (by simp) (b := w.heap.size) (off := 0) (n := 0) (cap := 0) (by simp) (by simp) (by simp), ?_⟩
    refine fresh_block (vs := []) (cap := 0) hold h0 ⟨by simp, by simp⟩ (by simp) (by simp) (Nat.le_refl _) (by simp [World.setCells]) (fun j => ?_) (by simp) hfr1 (fun _ => unm_alloc w _ _)
    show World.cell? _ _ = _
    simp [World.setCells]
  · have hpos : 0 < es.length := by
      cases es with
      | nil => exact absurd rfl hes
      | cons _ _ => simp
    have hf := n4 (w.alloc (.cells #[] e)).drew hk1
    have hfo : (Builtin.firstCells i.size 0 (.slice (some ⟨w.heap.size, 0, none⟩) 0 0)).run P (w.alloc (.cells #[] e)).drew = .ok [].toArray (w.alloc (.cells #[] e)).drew := run_firstCells_some _ _ _ _ _ _ _ (by simp) (by simp)
    have hrun := fun ty => run_append_new (P := P) (w := w.alloc (.cells #[] e)) (ty := ty) ht hi hzz (.inr ⟨_, ht⟩) (x := .slice (some ⟨w.heap.size, 0, none⟩) 0 0) (y := .slice A es.length cap) (n := 0) (m := es.length) (cap := 0) (olds := []) (news := news) rfl (hlen _) hfo (by rw [← hst]; exact hf) (by omega) (by unfold maxInt at h63; omega) (by rw [← hbt, Nat.zero_add]; unfold room at hroom; omega)
    refine ⟨_, _, hrun, ?_⟩
    have hcp : 0 + es.length ≤ grownCap (w.alloc (.cells #[] e)) (0 + es.length) 0 e := grownCap_ge _ _ _ _
    generalize grownCap (w.alloc (.cells #[] e)) (0 + es.length) 0 e = cp at hcp
    have hsz1 : (w.alloc (.cells #[] e)).heap.size = w.heap.size + 1 := by simp
    let vs : List Value := news ++ (Builtin.zeroCells z.cells (cp - (0 + es.length))).toList
    have hvs : (([] : List Value).toArray ++ news.toArray ++ Builtin.zeroCells z.cells (cp - (0 + es.length))) = vs.toArray := by
      apply Array.ext'; simp [vs]
    rw [hvs]
    have hzs' : z.cells.size = sizeT P e := by rw [← hl, ← hzl]; simp
    have hvl : vs.length = cp * sizeT P e := by
      simp only [vs, List.length_append, Array.length_toList, size_zeroCells, n1, hzs', ← Nat.add_mul]
      congr 1; omega
    have hblk : ((w.alloc (.cells #[] e)).drew.alloc (.cells vs.toArray e)).heap[(w.alloc (.cells #[] e)).heap.size]? = some (.cells vs.toArray e (0, 0)) := heap_alloc_new (w.alloc (.cells #[] e)).drew _
    have hres := fresh_block (w := w) (w' := (w.alloc (.cells #[] e)).drew.alloc (.cells vs.toArray e)) (g := (w.alloc (.cells #[] e)).heap.size) (vs := vs) (cap := cp) (es := es) hold h0 (by
        have := RowS.append (es := []) (l := es) (olds := []) (news := news) (w := w) (M := M0) (sz := sizeT P e) ⟨by simp, by simp⟩ n3 (by simp) ((Builtin.zeroCells z.cells (cp - (0 + es.length))).toList)
        simpa [vs] using this) hvl (by omega) (by simp) (by simp)
      (fun j => by have := cell_of_row ((w.alloc (.cells #[] e)).drew.alloc (.cells vs.toArray e)) (w.alloc (.cells #[] e)).heap.size j vs.toArray e (0, 0) hblk; exact this.trans (List.getElem?_toArray ..))
      (fun j _ => by show World.frozen? _ _ = false; unfold World.frozen?; simp only [hblk]; simp)
      ((hfr1.trans (Fr.drew _ (fun _ _ => False)) (fun _ _ h => h) (fun _ _ h => h.elim)).trans (Fr.alloc _ _ _ (fun _ _ => False)) (fun _ _ h => h) (fun _ _ h => h.elim)) (fun _ => unm_alloc (w.alloc (.cells #[] e)).drew _ _)
    rw [Nat.zero_add]
    exact hres

/-- The clone's answer. -/
def xClone (P : Program) (e : TypeId) : List TV → Option (List TV × List TV)
  | [.pv (.sl es)] => if es.length * bytesT P e ≤ room ∧ es.length ≤ maxInt ∧ rowOk (sizeT P e) es then some ([.own (sizeT P e) es], []) else none
  | _ => none

/-- Values that come and go, and nothing else. -/
theorem contract_value {P : Program} {ms : List Mode} {f : FuncId} {xs rs : List PV}
    (h : ∀ w M0 cs, RepA w M0 xs cs → ∃ vs, (callFunc f cs.toArray).run P w = .ok (.value (wrapV vs)) w ∧ ∀ M', RepA w M' rs vs) : Contract P ms f (xs.map .pv) (rs.map .pv) [] := by
  intro M0 w ts args hH
  obtain ⟨hx, hl0⟩ := tvall_pv hH.tv
  have hlen := tvall_len hH.tv
  have hlc := TVAll.length hH.tv
  obtain ⟨vs, h1, h2⟩ := h w M0 args (repA_sub (fun b j h => .inl h) hx)
  unfold Invokes
  rw [h1]
  refine ⟨vs, rs.map (fun _ => .none), [], rfl, tvall_of (h2 _), finR_pv (by simpa using hlen) (by simpa using hlc), by simp [Apart, locs_none], ?_, ?_, Fr.refl _ _⟩
  · intro l hl; simp [locs_none] at hl
  · intro l hl
    have e : LooseF ([] : List TV) ([] : List LT) = [] := rfl
    simp [locs_none, e] at hl

end Go.Proofs.YtbnjbianobdleaaGreat.Vm

/-
  slices.Grow of a nil slice, by contract.
-/
namespace Go.Proofs.YtbnjbianobdleaaGreat.Vm
open Go Go.RowKit
set_option linter.unusedVariables false
set_option linter.unusedSimpArgs false

def xGrow (P : Program) (e : TypeId) : List TV → Option (List TV × List TV)
  | [.pv .nilSlc, .pv (.int .i64 n)] => if 0 < sizeT P e ∧ 0 ≤ n ∧ n.toNat * bytesT P e ≤ room ∧ n.toNat ≤ 4611686018427387904 then some ([.own (sizeT P e) []], []) else none
  | _ => none

theorem contract_grow {P : Program} {ms : List Mode} {f : FuncId} {e : TypeId} (hen : ∀ args w, (callFunc f args).run P w = .ok (.enter f args) w)
    (hroomC : ∀ (base : Option Addr) (l c n : Nat) (w : World), l ≤ c → c ≤ 9223372036854775807 → n ≤ 9223372036854775807 → l + n ≤ c → Calls P f #[.slice base l c, .int .i64 n] w fun x w' => x = .returned (.slice base l c) ∧ w' = w)
    (hnewC : ∀ (i0 : TypeInfo) (z : Value), P.info? e = some i0 → i0.zero = some z → 0 < i0.size → ∀ (base : Option Addr) (l c n : Nat) (cs : List Value) (w : World), l ≤ c → c < l + n → (l + n) * i0.bytes ≤ 140737488355328 → l + n ≤ 4611686018427387904 →
      cs.length = c * i0.size → (base = none → c = 0) → (∀ a, base = some a → ∀ j v, cs[j]? = some v → w.cell? (a.add j) = some v) → Calls P f #[.slice base l c, .int .i64 n] w fun x w' =>
        x = .returned (.slice (some ⟨w.heap.size, 0, none⟩) l (grownCap w (l + n) c e)) ∧ w' = w.drew.alloc (.cells (cs.toArray ++ Builtin.zeroCells z.cells (l + n - c) ++ Builtin.zeroCells z.cells (grownCap w (l + n) c e - (l + n))) e))
    (hz : (zeroV P e).isSome = true) {ag rs fs : List TV} (h : xGrow P e ag = some (rs, fs)) : Contract P ms f ag rs fs := by
  unfold xGrow at h
  split at h
  · rename_i n
    split at h
    · rename_i hc
      obtain ⟨h0, hn, hbig, h63⟩ := hc
      simp only [Option.some.injEq, Prod.mk.injEq] at h; obtain ⟨rfl, rfl⟩ := h
      refine contract_fresh (xs := [.nilSlc, .int .i64 n]) ?_
      intro w M0 cs hx hold
      simp only [RepA, Rep] at hx
      obtain ⟨c, r, rfl, rfl, c2, r2, rfl, rfl, rfl⟩ := hx
      obtain ⟨zv, hz⟩ := Option.isSome_iff_exists.1 hz
      obtain ⟨i, z, hi, hzz, hzl, hl⟩ := zeroV_eq hz
      have hst : sizeT P e = i.size := by simp [sizeT, hi]
      have hbt : bytesT P e = i.bytes := by simp [bytesT, hi]
      obtain ⟨m, rfl⟩ : ∃ m : Nat, n = m := ⟨n.toNat, by omega⟩
      rw [Int.toNat_natCast] at hbig h63
      unfold Invokes
      rw [hen]
      simp only
      by_cases hm : m = 0
      · subst hm
        refine (hroomC none 0 0 0 w (by omega) (by omega) (by omega) (by omega)).mono ?_
        rintro x w' ⟨rfl, rfl⟩
        exact ⟨_, rfl, fresh_nil h0⟩
      · refine (hnewC i z hi hzz (by omega) none 0 0 m [] w (by omega) (by omega) (by rw [Nat.zero_add, ← hbt]; unfold room at hbig; exact hbig) (by omega) (by simp) (fun _ => rfl) (by simp)).mono ?_
        rintro x w' ⟨rfl, rfl⟩
        refine ⟨_, rfl, ?_⟩
        have hcp : 0 + m ≤ grownCap w (0 + m) 0 e := grownCap_ge _ _ _ _
        generalize grownCap w (0 + m) 0 e = cp at hcp
        let vs : List Value := (Builtin.zeroCells z.cells (0 + m - 0)).toList ++ (Builtin.zeroCells z.cells (cp - (0 + m))).toList
        have hvs : (([] : List Value).toArray ++ Builtin.zeroCells z.cells (0 + m - 0) ++ Builtin.zeroCells z.cells (cp - (0 + m))) = vs.toArray := by
          apply Array.ext'; simp [vs]
        rw [hvs]
        have hzs' : z.cells.size = sizeT P e := by rw [← hl, ← hzl]; simp
        have hvl : vs.length = cp * sizeT P e := by
          simp only [vs, List.length_append, Array.length_toList, size_zeroCells, hzs', ← Nat.add_mul]
          congr 1; omega
        have hblk : (w.drew.alloc (.cells vs.toArray e)).heap[w.heap.size]? = some (.cells vs.toArray e (0, 0)) := heap_alloc_new w.drew _
        exact fresh_block (w := w) (w' := w.drew.alloc (.cells vs.toArray e)) (g := w.heap.size) (vs := vs) (cap := cp) (es := []) hold h0 ⟨by simp, by simp⟩ hvl (by simp) (Nat.le_refl _) (by simp)
          (fun j => by have := cell_of_row (w.drew.alloc (.cells vs.toArray e)) w.heap.size j vs.toArray e (0, 0) hblk; exact this.trans (List.getElem?_toArray ..))
          (fun j _ => by show World.frozen? _ _ = false; unfold World.frozen?; simp only [hblk]; simp)
          ((Fr.drew w (fun _ _ => False)).trans (Fr.alloc _ _ _ (fun _ _ => False)) (fun _ _ h => h) (fun _ _ h => h.elim)) (fun _ => unm_alloc w.drew _ _)
    · exact absurd h (by simp)
  · exact absurd h (by simp)

end Go.Proofs.YtbnjbianobdleaaGreat.Vm
