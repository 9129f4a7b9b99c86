/-
  What an operation that only reads does in the model, where the abstract machine says what it does.
-/
import Derived.Test.YtmjkdghcfihfiaaVmRel
import Derived.Lib.Strings
import Derived.Laws.StructEq
import Derived.Laws.Small
import Derived.Laws.Pointers
namespace Go.Proofs.Ytmjkdghcfihfiaa.Vm
open Go
set_option linter.unusedVariables false
set_option linter.unusedSimpArgs false

theorem str_back (s : ByteArray) : (⟨s.data.toList.toArray⟩ : ByteArray) = s := by cases s; rfl

theorem litPV_ok {w : World} {M : Cells} {v : Value} {x : PV} (h : litPV v = some x) : v.oneCell' = true ∧ Rep w M x v := by
  unfold litPV at h
  split at h <;> try (first | (injection h with h; subst h) | (exact absurd h (by simp)))
  · exact ⟨rfl, by simp only [Rep]⟩
  · exact ⟨rfl, by simp only [Rep]⟩
  · exact ⟨rfl, by simp only [Rep]⟩
  · refine ⟨rfl, ?_⟩
    simp only [Rep]
    exact ⟨none, 0, rfl, Nat.le_refl _, fun _ => rfl, fun a ha => by simp at ha, 1, by simp only [RepRow]⟩
  · exact ⟨rfl, by simp only [Rep]⟩
  · exact ⟨rfl, by simp only [Rep]⟩
  · exact ⟨rfl, by simp only [Rep]⟩

theorem litPVs_ok {w : World} {M : Cells} : ∀ {vs : List Value} {xs : List PV}, litPVs vs = some xs → RepS w M xs vs
  | [], xs, h => by simp only [litPVs, Option.some.injEq] at h; subst h; simp only [RepS]
  | v :: vs, xs, h => by
    simp only [litPVs] at h
    split at h
    · rename_i x l hx hl
      injection h with h; subst h
      simp only [RepS]
      exact ⟨v, vs, rfl, (litPV_ok (w := w) (M := M) hx).1, (litPV_ok hx).2, litPVs_ok hl⟩
    · exact absurd h (by simp)

theorem litAV_ok {β : Nat → Loc} {w : World} {M : Cells} {v : Value} {x : AV} (h : litAV v = some x) : AVR β w M x v := by
  unfold litAV at h
  split at h
  · split at h
    · rename_i l hl
      injection h with h; subst h
      simp only [AVR, Rep]
      exact ⟨_, rfl, litPVs_ok hl⟩
    · exact absurd h (by simp)
  · injection h with h; subst h; simp only [AVR]
  · split at h
    · rename_i y hy
      injection h with h; subst h
      simp only [AVR]; exact (litPV_ok hy).2
    · exact absurd h (by simp)

theorem litLeaf_ok {β : Nat → Loc} {w : World} {M : Cells} {v : Value} {x : AV} (h : litLeaf v = some x) : v.oneCell' = true ∧ AVR β w M x v := by
  unfold litLeaf at h
  split at h
  · injection h with h; subst h; exact ⟨rfl, by simp only [AVR]⟩
  · split at h
    · rename_i y hy
      injection h with h; subst h
      exact ⟨(litPV_ok (w := w) (M := M) hy).1, by simp only [AVR]; exact (litPV_ok hy).2⟩
    · exact absurd h (by simp)

theorem litAV_refs {v : Value} {x : AV} (h : litAV v = some x) : x.refs = [] := by
  unfold litAV at h
  split at h
  · split at h
    · injection h with h; subst h; simp only [AV.refs]
    · exact absurd h (by simp)
  · injection h with h; subst h; simp only [AV.refs]
  · split at h
    · injection h with h; subst h; simp only [AV.refs]
    · exact absurd h (by simp)

/-- The leaves of values stand to the model's cells. -/
def AVS (β : Nat → Loc) (w : World) (M : Cells) (xs : List AV) (vs : List Value) : Prop :=
  xs.length = vs.length ∧ ∀ (j : Nat) (x : AV) (v : Value), xs[j]? = some x → vs[j]? = some v → v.oneCell' = true ∧ AVR β w M x v

section base
variable {β : Nat → Loc} {w : World} {M : Cells}

theorem AVRs.length : ∀ {xs : List AV} {vs : List Value}, AVRs β w M xs vs → vs.length = xs.length
  | [], _, k => by simp only [AVRs] at k; simp [k]
  | _ :: xs, _, k => by
    simp only [AVRs] at k
    obtain ⟨c, r, rfl, _, h⟩ := k
    simp [AVRs.length h]
theorem AVRs.get : ∀ {xs : List AV} {vs : List Value}, AVRs β w M xs vs → ∀ (j : Nat) (x : AV) (v : Value), xs[j]? = some x → vs[j]? = some v → AVR β w M x v
  | [], _, _, j, x, v, h, _ => by simp at h
  | y :: xs, _, k, j, x, v, h, hv => by
    simp only [AVRs] at k
    obtain ⟨c, r, rfl, h1, h2⟩ := k
    cases j with
    | zero => simp at h hv; subst h; subst hv; exact h1
    | succ j => exact AVRs.get h2 j x v (by simpa using h) (by simpa using hv)
theorem AVRs.of : ∀ {xs : List AV} {vs : List Value}, xs.length = vs.length → (∀ (j : Nat) (x : AV) (v : Value), xs[j]? = some x → vs[j]? = some v → AVR β w M x v) → AVRs β w M xs vs
  | [], vs, h, _ => by simp only [AVRs]; exact List.length_eq_zero_iff.1 h.symm
  | x :: xs, [], h, _ => by simp at h
  | x :: xs, v :: vs, h, k => by
    simp only [AVRs]
    exact ⟨v, vs, rfl, k 0 x v rfl rfl, AVRs.of (by simpa using h) fun j a b ha hb => k (j + 1) a b (by simpa using ha) (by simpa using hb)⟩

theorem RepS.avs {xs : List PV} {vs : List Value} (h : RepS w M xs vs) : AVS β w M (xs.map AV.pv) vs := by
  refine ⟨by rw [List.length_map, h.length], fun j x v hx hv => ?_⟩
  rw [List.getElem?_map] at hx
  cases hj : xs[j]? with
  | none => rw [hj] at hx; simp at hx
  | some y =>
    rw [hj] at hx; simp at hx; subst hx
    obtain ⟨c, h1, h2, h3⟩ := h.get j y hj
    rw [hv] at h1; injection h1 with h1; subst h1
    exact ⟨h2, by simp only [AVR]; exact h3⟩

/-- Leaves that are all plain. -/
theorem pvs_ok : ∀ {xs : List AV} {vs : List Value} {l : List PV}, AVS β w M xs vs → pvs xs = some l → RepS w M l vs
  | [], vs, l, h, k => by
    simp only [pvs, Option.some.injEq] at k; subst k
    simp only [RepS]; exact List.length_eq_zero_iff.1 h.1.symm
  | x :: xs, [], l, h, k => by simp [AVS] at h
  | x :: xs, v :: vs, l, h, k => by
    have ht : AVS β w M xs vs := ⟨by simpa using h.1, fun j a b ha hb => h.2 (j + 1) a b (by simpa using ha) (by simpa using hb)⟩
    have h0 := h.2 0 x v rfl rfl
    cases x <;> simp only [pvs] at k <;> try (exact absurd k (by simp))
    · split at k
      · rename_i y l' hl
        injection k with k; subst k
        simp only [RepS]
        exact ⟨v, vs, rfl, h0.1, by simpa only [AVR] using h0.2, pvs_ok ht hl⟩
      · exact absurd k (by simp)
    · split at k
      · rename_i l' hl
        injection k with k; subst k
        simp only [RepS]
        refine ⟨v, vs, rfl, h0.1, ?_, pvs_ok ht hl⟩
        have h1 := h0.2
        simp only [AVR] at h1
        subst h1
        simp only [Rep]
        exact ⟨none, 0, rfl, Nat.le_refl _, fun _ => rfl, fun a ha => by simp at ha, 1, by simp only [RepRow]⟩
      · exact absurd k (by simp)

theorem pvs1_pvs : ∀ {xs : List AV} {l : List PV}, pvs1 xs = some l → pvs xs = some l
  | [], l, h => by simpa only [pvs1, pvs] using h
  | x :: xs, l, h => by
    cases x <;> simp only [pvs1] at h <;> try (exact absurd h (by simp))
    simp only [pvs]
    split at h
    · rename_i y l' hl
      rw [pvs1_pvs hl]; exact h
    · exact absurd h (by simp)

/-- A value's leaves. -/
theorem leaves_ok {v : AV} {c : Value} (h : AVR β w M v c) (hf : v.fit = true) : AVS β w M (leaves v) c.cells.toList := by
  have one : ∀ (x : AV), AVR β w M x c → c.oneCell' = true → AVS β w M [x] c.cells.toList := by
    intro x hx h1
    have : c.cells = #[c] := by cases c <;> simp [Value.oneCell', Value.cells] at h1 ⊢
    rw [this]
    refine ⟨rfl, fun j y v hy hv => ?_⟩
    cases j with
    | zero => simp at hy hv; subst hy; subst hv; exact ⟨h1, hx⟩
    | succ j => simp at hy
  cases v with
  | undef => simp [AV.fit] at hf
  | tup _ => simp [AV.fit] at hf
  | pv x =>
    have h' := h
    simp only [AVR] at h'
    cases x with
    | agg fs =>
      simp only [Rep] at h'
      obtain ⟨cs, rfl, h2⟩ := h'
      exact h2.avs
    | sl es => simp only [Rep] at h'; obtain ⟨_, _, rfl, _⟩ := h'; exact one _ h rfl
    | fn f caps => simp only [Rep] at h'; obtain ⟨_, rfl, _⟩ := h'; exact one _ h rfl
    | iptr cs => simp only [Rep] at h'; obtain ⟨_, _, _, rfl, _⟩ := h'; exact one _ h rfl
    | int _ _ => simp only [Rep] at h'; subst h'; exact one _ h rfl
    | bool _ => simp only [Rep] at h'; subst h'; exact one _ h rfl
    | str _ => simp only [Rep] at h'; subst h'; exact one _ h rfl
    | nilIface => simp only [Rep] at h'; subst h'; exact one _ h rfl
    | nilPtr => simp only [Rep] at h'; subst h'; exact one _ h rfl
    | nilFn => simp only [Rep] at h'; subst h'; exact one _ h rfl
    | nilSlc => simp only [Rep] at h'; subst h'; exact one _ h rfl
  | agg fs =>
    simp only [AVR] at h
    obtain ⟨cs, rfl, h, h1⟩ := h
    exact ⟨(AVRs.length h).symm, fun j x v hx hv => ⟨h1 v (List.mem_of_getElem? hv), AVRs.get h j x v hx hv⟩⟩
  | nilSl => refine one _ h ?_; simp only [AVR] at h; subst h; rfl
  | own id => refine one _ h ?_; simp only [AVR, Loc.hdr] at h; split at h <;> (subst h; rfl)
  | part id lo n => refine one _ h ?_; simp only [AVR] at h; obtain ⟨_, _, rfl, _⟩ := h; rfl
  | addr id i o => refine one _ h ?_; simp only [AVR] at h; obtain ⟨_, _, _, rfl⟩ := h; rfl
  | clo f x y => refine one _ h ?_; simp only [AVR] at h; obtain ⟨_, _, rfl, _⟩ := h; rfl
end base

/-- The operation gives this value; this is the world then. -/
def Gives (P : Program) (ρ : Operand → Value) (o : Op) (w : World) (c : Value) (w' : World) : Prop :=
  ∀ oo : Oper, oo.op = o → (execOp ρ oo).run P w = .ok (.value c) w'

section ops
variable {P : Program} {M0 M : Cells} {β : Nat → Loc} {V : View} {a : Act} {w : World}

theorem eval_ok (hV : VR M0 M β V a.tmps w) {x : Operand} {v : AV} (h : V.eval x = some v) : AVR β w M v (a.eval x) := by
  cases x with
  | tmp t => simp only [View.eval, Option.some.injEq] at h; subst h; exact hV.slots t
  | const c => simp only [View.eval] at h; exact litAV_ok h
  | func f =>
    simp only [View.eval, Option.some.injEq] at h; subst h
    simp only [AVR, Rep, Act.eval]
    exact ⟨#[], rfl, by simp only [RepS]⟩
  | global g => simp [View.eval] at h

theorem evalAll_ok (hV : VR M0 M β V a.tmps w) : ∀ {xs : List Operand} {vs : List AV}, evalAll V xs = some vs → AVRs β w M vs (xs.map a.eval)
  | [], vs, h => by simp only [evalAll, Option.some.injEq] at h; subst h; simp only [AVRs, List.map_nil]
  | x :: xs, vs, h => by
    simp only [evalAll] at h
    split at h
    · rename_i v l hv hl
      injection h with h; subst h
      simp only [AVRs, List.map_cons]
      exact ⟨_, _, rfl, eval_ok hV hv, evalAll_ok hV hl⟩
    · exact absurd h (by simp)

theorem gives_move {x : Operand} (ρ : Operand → Value) : Gives P ρ (.move x) w (ρ x) w := fun oo h => by simp [execOp, h]
theorem gives_assign {x : Operand} (ρ : Operand → Value) : Gives P ρ (.assign x) w (ρ x) w := fun oo h => by simp [execOp, h]
theorem gives_pick {c x y : Operand} {t : Bool} {ρ : Operand → Value} (h : ρ c = .bool t) : Gives P ρ (.pick c x y) w (ρ (if t then x else y)) w :=
  fun oo ho => by cases t <;> simp [execOp, ho, h, asBool]

theorem gives_nilCheck {x : Operand} {ρ : Operand → Value} {p : Addr} (h : ρ x = .pointer (some p)) : Gives P ρ (.nilCheck x) w (.pointer (some p)) w :=
  fun oo ho => by simp [execOp, ho, h]
theorem gives_nilCheck_func {x : Operand} {ρ : Operand → Value} {f : FuncId} {p q : Array Value} (h : ρ x = .func (.func f) p q) : Gives P ρ (.nilCheck x) w (.func (.func f) p q) w :=
  fun oo ho => by simp [execOp, ho, h]
theorem gives_extract {x : Operand} {ρ : Operand → Value} {cs : Array Value} {i : Nat} {c : Value} (h : ρ x = .tuple cs) (hc : cs[i]? = some c) : Gives P ρ (.extract x i) w c w :=
  fun oo ho => by simp [execOp, ho, h, Instr.extract, hc]
theorem gives_makeFunc {f : FuncId} {p q : Array Operand} (ρ : Operand → Value) : Gives P ρ (.makeFunc (.func f) p q) w (.func (.func f) (p.map ρ) (q.map ρ)) w :=
  fun oo ho => by simp [execOp, ho, Instr.makeFunc]
theorem gives_unOp {op : UnOp} {t : TypeId} {x : Operand} {ρ : Operand → Value} {c : Value} (h : (Op.unary op (ρ x)).run P w = .ok c w) : Gives P ρ (.unOp op t x) w c w :=
  fun oo ho => by simp [execOp, ho, h]

theorem unOp_ok {op : UnOp} {x : AV} {r : PV} {c : Value} (h : vun op x = some r) (hx : AVR β w M x c) : ∃ d, (Op.unary op c).run P w = .ok d w ∧ Rep w M r d := by
  unfold vun at h
  split at h
  · simp only [AVR, Rep] at hx; subst hx
    simp only [intOp, Option.some.injEq] at h; subst h
    exact ⟨_, rfl, by simp only [Rep]⟩
  · simp only [AVR, Rep] at hx; subst hx
    simp only [intOp, Option.some.injEq] at h; subst h
    exact ⟨_, rfl, by simp only [Rep]⟩
  · simp only [AVR, Rep] at hx; subst hx
    simp only [Option.some.injEq] at h; subst h
    exact ⟨_, rfl, by simp only [Rep]⟩
  · exact absurd h (by simp)

theorem index_str {s : List UInt8} {i : Int} {k : IntKind} {b : UInt8} {t : TypeId} (ht : P.underlying t = some .string) (h0 : 0 ≤ i) (hb : s[i.toNat]? = some b) :
    (Instr.index t (.string ⟨s.toArray⟩) (.int k i)).run P w = .ok (.int .u8 b.toNat) w := by
  have : (⟨s.toArray⟩ : ByteArray)[i.toNat]? = some b := by
    rw [← hb]
    show (if h : i.toNat < (⟨s.toArray⟩ : ByteArray).size then _ else _) = _
    split
    · rename_i h
      have h' : i.toNat < s.length := by simpa [ByteArray.size] using h
      rw [List.getElem?_eq_getElem h']; rfl
    · rename_i h
      have h' : s.length ≤ i.toNat := by simpa [ByteArray.size] using h
      rw [List.getElem?_eq_none h']
  simp [Instr.index, asIntOf, run_underlying ht, h0, this]


theorem intOp_ok {op : BinOp} {k : IntKind} {x y : Int} {r : PV} (t : TypeId) (hs : op ≠ .shl ∧ op ≠ .shr) (h : intOp op k x y = some r) :
    ∃ d, (Go.binOp op t (.int k x) (.int k y)).run P w = .ok d w ∧ Rep w M r d := by
  cases op <;> simp only [intOp] at h
  case quo =>
    split at h
    · exact absurd h (by simp)
    · rename_i hy
      injection h with h; subst h
      exact ⟨.int k (k.wrap (x.tdiv y)), by simp [Go.binOp, Op.intDiv, hy], by simp only [Rep]⟩
  case rem =>
    split at h
    · exact absurd h (by simp)
    · rename_i hy
      injection h with h; subst h
      exact ⟨.int k (x.tmod y), by simp [Go.binOp, Op.intDiv, hy], by simp only [Rep]⟩
  case shl => exact absurd rfl hs.1
  case shr => exact absurd rfl hs.2
  all_goals (injection h with h; subst h)
  case add => exact ⟨.int k (k.wrap (x + y)), by simp [Go.binOp, Op.intArith], by simp only [Rep]⟩
  case sub => exact ⟨.int k (k.wrap (x - y)), by simp [Go.binOp, Op.intArith], by simp only [Rep]⟩
  case mul => exact ⟨.int k (k.wrap (x * y)), by simp [Go.binOp, Op.intArith], by simp only [Rep]⟩
  case and => exact ⟨.int k (k.wrap (BitVec.ofInt k.bits x &&& BitVec.ofInt k.bits y).toNat), by simp only [Go.binOp, ne_eq, not_true, if_false]; rfl, by simp only [Rep]⟩
  case or => exact ⟨.int k (k.wrap (BitVec.ofInt k.bits x ||| BitVec.ofInt k.bits y).toNat), by simp only [Go.binOp, ne_eq, not_true, if_false]; rfl, by simp only [Rep]⟩
  case xor => exact ⟨.int k (k.wrap (BitVec.ofInt k.bits x ^^^ BitVec.ofInt k.bits y).toNat), by simp only [Go.binOp, ne_eq, not_true, if_false]; rfl, by simp only [Rep]⟩
  case andNot => exact ⟨.int k (k.wrap (BitVec.ofInt k.bits x &&& ~~~ BitVec.ofInt k.bits y).toNat), by simp only [Go.binOp, ne_eq, not_true, if_false]; rfl, by simp only [Rep]⟩
  case eql => exact ⟨.bool (x == y), by simp only [Go.binOp, ne_eq, not_true, if_false]; rfl, by simp only [Rep]⟩
  case neq => exact ⟨.bool (x != y), by simp only [Go.binOp, ne_eq, not_true, if_false]; rfl, by simp only [Rep]⟩
  case lss => exact ⟨.bool (decide (x < y)), by simp only [Go.binOp, ne_eq, not_true, if_false]; rfl, by simp only [Rep]⟩
  case leq => exact ⟨.bool (decide (x ≤ y)), by simp only [Go.binOp, ne_eq, not_true, if_false]; rfl, by simp only [Rep]⟩
  case gtr => exact ⟨.bool (decide (x > y)), by simp only [Go.binOp, ne_eq, not_true, if_false]; rfl, by simp only [Rep]⟩
  case geq => exact ⟨.bool (decide (x ≥ y)), by simp only [Go.binOp, ne_eq, not_true, if_false]; rfl, by simp only [Rep]⟩

theorem shiftOp_ok {op : BinOp} {k k' : IntKind} {x y : Int} {r : PV} (t : TypeId) (hs : op = .shl ∨ op = .shr) (h : shiftOp op k x y = some r) :
    ∃ d, (Go.binOp op t (.int k x) (.int k' y)).run P w = .ok d w ∧ Rep w M r d := by
  unfold shiftOp at h
  split at h
  · exact absurd h (by simp)
  · rename_i hy
    rcases hs with rfl | rfl
    · injection h with h; subst h
      exact ⟨.int k (k.wrap (x * 2 ^ min y.toNat k.bits)), by simp [Go.binOp, Op.shift, hy], by simp only [Rep]⟩
    · injection h with h; subst h
      exact ⟨.int k (x.fdiv (2 ^ min y.toNat k.bits)), by simp [Go.binOp, Op.shift, hy], by simp only [Rep]⟩

theorem ba_toList (s : List UInt8) : (⟨s.toArray⟩ : ByteArray).toList = s := ByteArray.toList_mk s

theorem strOp_ok {op : BinOp} {x y : List UInt8} {r : PV} (t : TypeId) (h : strOp op x y = some r) :
    ∃ d, (Go.binOp op t (.string ⟨x.toArray⟩) (.string ⟨y.toArray⟩)).run P w = .ok d w ∧ Rep w M r d := by
  have hx := ba_toList x
  have hy := ba_toList y
  have hb : Go.binOp op t (.string ⟨x.toArray⟩) (.string ⟨y.toArray⟩) = Op.stringOp op ⟨x.toArray⟩ ⟨y.toArray⟩ := by cases op <;> rfl
  rw [hb]
  cases op <;> simp only [strOp] at h
  any_goals (cases h; done)
  case add =>
    split at h
    · rename_i hl
      injection h with h; subst h
      refine ⟨.string ⟨(x ++ y).toArray⟩, ?_, by simp only [Rep]⟩
      have : ¬ (((⟨x.toArray⟩ : ByteArray).size + (⟨y.toArray⟩ : ByteArray).size : Nat) : Int) > IntKind.i64.max := by
        simp only [ByteArray.size, List.size_toArray]
        unfold maxInt at hl
        have : IntKind.i64.max = 9223372036854775807 := by decide
        rw [this]; omega
      simp only [Op.stringOp]
      rw [if_neg this]
      have e : (⟨x.toArray⟩ : ByteArray) ++ (⟨y.toArray⟩ : ByteArray) = ⟨(x ++ y).toArray⟩ := by
        apply ByteArray.ext; simp
      rw [e]; rfl
    · exact absurd h (by simp)
  all_goals (injection h with h; subst h; simp only [Op.stringOp, hx, hy]; exact ⟨_, rfl, by simp only [Rep]⟩)


theorem info_of {t : TypeId} (h : okT P t = true) : ∃ i, P.info? t = some i := by
  unfold okT Program.underlying at h
  split at h
  · rename_i i _; exact ⟨_, ‹_›⟩
  · exact ⟨_, ‹_›⟩
  · exact absurd h (by simp)

theorem run_sizeT {t : TypeId} (h : okT P t = true) (w : World) : (sizeOf t).run P w = .ok (sizeT P t) w := by
  obtain ⟨i, hi⟩ := info_of h
  simp [sizeOf, typeInfo, sizeT, hi]

theorem run_aggT {t : TypeId} (h : okT P t = true) (w : World) : (isAgg t).run P w = .ok (aggT P t) w := by
  unfold okT at h
  obtain ⟨d, hd⟩ := Option.isSome_iff_exists.1 h
  simp only [isAgg, Sem.run_bind, run_underlying hd, Result.andThen_ok, aggT, hd]
  cases d <;> rfl

theorem addr_add (b o n : Nat) : (⟨b, o, none⟩ : Addr).add n = ⟨b, o + n, none⟩ := by
  unfold Addr.add; split <;> simp_all

/-- A variable of several cells is read. -/
theorem run_loadVar {t : TypeId} (h : okT P t = true) {b o : Nat} {vs : List Value} (hl : vs.length = sizeT P t) (hc : ∀ j c, vs[j]? = some c → at_ w b (o + j) = some c)
    (h1 : aggT P t = true) : (loadVar t ⟨b, o, none⟩).run P w = .ok (.agg vs.toArray) w := by
  have := run_loadCells_list (P := P) w ⟨b, o, none⟩ vs (fun j v hj => by rw [addr_add]; exact hc j v hj)
  simp only [loadVar, Sem.run_bind, run_aggT h, Result.andThen_ok, h1, if_true, run_sizeT h, ← hl, this, Sem.run_pure]
theorem run_loadVar1 {t : TypeId} (h : okT P t = true) {b o : Nat} {c : Value} (hc : at_ w b o = some c) (h1 : aggT P t = false) :
    (loadVar t ⟨b, o, none⟩).run P w = .ok c w := by
  have hc' : w.cell? ⟨b, o, none⟩ = some c := hc
  simp [loadVar, run_aggT h, h1, hc']

theorem gives_load {t : TypeId} {x : Operand} {ρ : Operand → Value} {p : Addr} {c : Value} (h : ρ x = .pointer (some p)) (hl : (loadVar t p).run P w = .ok c w) : Gives P ρ (.load t x) w c w :=
  fun oo ho => by simp [execOp, ho, h, Instr.loadAt, Instr.sureAddr, hl]

/-- Plain cells that are read: of several, a struct; of one, it. -/
theorem load_cells {t : TypeId} (h : okT P t = true) {b o : Nat} {xs : List PV} {vs : List Value} {v : AV} (hr : RepS w M xs vs) (hc : ∀ j c, vs[j]? = some c → at_ w b (o + j) = some c)
    (hl : xs.length = sizeT P t) (hv : ofCells (aggT P t) xs = some v) : ∃ c, (loadVar t ⟨b, o, none⟩).run P w = .ok c w ∧ AVR β w M v c ∧ v.refs = [] := by
  unfold ofCells at hv
  cases hg : aggT P t with
  | true =>
    rw [hg] at hv; simp only [if_true, Option.some.injEq] at hv; subst hv
    refine ⟨_, run_loadVar h (by rw [hr.length, hl]) hc hg, ?_, rfl⟩
    simp only [AVR, Rep]
    exact ⟨_, rfl, by simpa using hr⟩
  | false =>
    rw [hg] at hv
    simp only [Bool.false_eq_true, if_false] at hv
    split at hv
    · rename_i x
      injection hv with hv; subst hv
      obtain ⟨c, h1, h2, h3⟩ := hr.get 0 x rfl
      exact ⟨c, run_loadVar1 h (by simpa using hc 0 c h1) hg, by simp only [AVR]; exact h3, rfl⟩
    · exact absurd hv (by simp)


theorem refsL_mem : ∀ {l : List AV} {i : Nat}, i ∈ AV.refsL l ↔ ∃ v ∈ l, i ∈ v.refs
  | [], i => by simp [AV.refsL]
  | v :: l, i => by simp [AV.refsL, refsL_mem]

theorem pvs1_avs : ∀ {xs : List AV} {vs : List Value} {l : List PV}, AVS β w M xs vs → pvs1 xs = some l → RepS w M l vs :=
  fun h k => pvs_ok h (pvs1_pvs k)

/-- Leaves of a box, read as one struct. -/
theorem ofLeaves_ok {l : List AV} {vs : List Value} (h : AVS β w M l vs) : AVR β w M (ofLeaves true l) (.agg vs.toArray) ∧ ∀ i ∈ (ofLeaves true l).refs, i ∈ AV.refsL l := by
  unfold ofLeaves
  simp only [if_true]
  split
  · rename_i xs hx
    refine ⟨?_, fun i hi => by simp [AV.refs] at hi⟩
    simp only [AVR, Rep]
    exact ⟨_, rfl, by simpa using pvs1_avs h hx⟩
  · refine ⟨?_, fun i hi => by simpa only [AV.refs] using hi⟩
    simp only [AVR]
    refine ⟨_, rfl, ?_, fun d hd => ?_⟩
    · exact AVRs.of (by simpa using h.1) (fun j x v hx hv => (h.2 j x v hx (by simpa using hv)).2)
    · obtain ⟨j, hj⟩ := List.mem_iff_getElem?.1 (by simpa using hd)
      have hlt : j < l.length := by
        rw [h.1]
        exact (List.getElem?_eq_some_iff.1 hj).1
      exact (h.2 j l[j] d (List.getElem?_eq_getElem hlt) hj).1

/-- What a box's cells hold. -/
theorem box_cells {l : Loc} {cs : List AV} (h : ObjR β w M l (.box cs)) : ∃ b o vs, l.base = some (b, o) ∧ l.k = cs.length ∧ AVS β w M cs vs ∧ ∀ j c, vs[j]? = some c → at_ w b (o + j) = some c ∧ frz_ w b (o + j) = false := by
  obtain ⟨b, o, h1, h2, _, h4⟩ := h
  refine ⟨b, o, (List.range cs.length).map fun j => (at_ w b (o + j)).getD undef, h1, h2, ⟨by simp, fun j x v hx hv => ?_⟩, fun j c hj => ?_⟩
  · obtain ⟨c, k1, k2, k3, k4⟩ := h4 j x hx
    have hlt : j < cs.length := (List.getElem?_eq_some_iff.1 hx).1
    simp [List.getElem?_map, List.getElem?_range hlt, k1] at hv
    subst hv
    exact ⟨k3, k4⟩
  · have hlt : j < cs.length := by
      have := (List.getElem?_eq_some_iff.1 hj).1
      simpa using this
    obtain ⟨c', k1, k2, k3, k4⟩ := h4 j cs[j] (List.getElem?_eq_getElem hlt)
    simp [List.getElem?_map, List.getElem?_range hlt, k1] at hj
    subst hj
    exact ⟨k1, k2⟩

theorem AVS.drop {xs : List AV} {vs : List Value} (h : AVS β w M xs vs) (n : Nat) : AVS β w M (xs.drop n) (vs.drop n) :=
  ⟨by simp [h.1], fun j x v hx hv => h.2 (n + j) x v (by simpa using hx) (by simpa using hv)⟩
theorem AVS.take {xs : List AV} {vs : List Value} (h : AVS β w M xs vs) (n : Nat) : AVS β w M (xs.take n) (vs.take n) := by
  refine ⟨by simp [h.1], fun j x v hx hv => ?_⟩
  rw [List.getElem?_take] at hx hv
  split at hx
  · rename_i hj
    rw [if_pos hj] at hv
    exact h.2 j x v hx hv
  · exact absurd hx (by simp)

theorem load_box {t : TypeId} (ht : okT P t = true) {l : Loc} {cs : List AV} (h : ObjR β w M l (.box cs)) {b o off : Nat} (hb : l.base = some (b, o)) (hl : off + sizeT P t ≤ cs.length) {v : AV}
    (hv : (if aggT P t then (if ownIds ((cs.drop off).take (sizeT P t)) = [] then some (ofLeaves true ((cs.drop off).take (sizeT P t)), ([] : List (Nat × Obj))) else none)
          else match cs[off]? with | some v => some (v, []) | none => none) = some (v, [])) :
    ∃ c, (loadVar t ⟨b, o + off, none⟩).run P w = .ok c w ∧ AVR β w M v c ∧ ∀ i ∈ v.refs, i ∈ AV.refsL cs := by
  obtain ⟨b', o', vs, h1, h2, h3, h4⟩ := box_cells h
  rw [hb] at h1; injection h1 with h1; injection h1 with e1 e2; subst e1; subst e2
  cases hg : aggT P t with
  | true =>
    rw [hg] at hv
    simp only [if_true] at hv
    split at hv
    · simp only [Option.some.injEq, Prod.mk.injEq, and_true] at hv; subst hv
      have hs := (h3.drop off).take (sizeT P t)
      obtain ⟨k1, k2⟩ := ofLeaves_ok hs
      refine ⟨_, run_loadVar ht (vs := (vs.drop off).take (sizeT P t)) (by simp [← h3.1]; omega) (fun j c hj => ?_) hg, k1, fun i hi => ?_⟩
      · rw [List.getElem?_take] at hj
        split at hj
        · rw [List.getElem?_drop] at hj
          have := (h4 _ _ hj).1
          rwa [Nat.add_assoc]
        · exact absurd hj (by simp)
      · obtain ⟨v, hv, hi⟩ := refsL_mem.1 (k2 i hi)
        exact refsL_mem.2 ⟨v, List.mem_of_mem_drop (List.mem_of_mem_take hv), hi⟩
    · exact absurd hv (by simp)
  | false =>
    rw [hg] at hv
    simp only [Bool.false_eq_true, if_false] at hv
    split at hv
    · rename_i x hx
      simp only [Option.some.injEq, Prod.mk.injEq, and_true] at hv; subst hv
      have hlt : off < vs.length := by rw [← h3.1]; exact (List.getElem?_eq_some_iff.1 hx).1
      have hc := List.getElem?_eq_getElem hlt
      exact ⟨_, run_loadVar1 ht (h4 _ _ hc).1 hg, (h3.2 off x _ hx hc).2, fun i hi => refsL_mem.2 ⟨x, List.mem_of_getElem? hx, hi⟩⟩
    · exact absurd hv (by simp)

/-- A bound of a slice expression, the model's way. -/
theorem run_sliceBounds (isSlice : Bool) {len cap : Nat} {lo hi : Option Value} {l h : Nat} (hhi : match hi with | none => h = len | some v => ∃ k, v = .int k (h : Int)) (hlo : match lo with | none => l = 0 | some v => ∃ k, v = .int k (l : Int))
    (hlh : l ≤ h) (hhc : h ≤ cap) : (Instr.sliceBounds isSlice len cap lo hi none).run P w = .ok (l, h, cap) w := by
  have key : ∀ (v : Value) (k : IntKind) (n y : Nat) (code : BoundsCode), v = .int k (n : Int) → n ≤ y → (Instr.sliceBound v y code).run P w = .ok n w := by
    intro v k n y code hv hn
    subst hv
    simp [Instr.sliceBound, asIntOf, hn]
  unfold Instr.sliceBounds
  cases hi with
  | none =>
    simp only at hhi; subst hhi
    cases lo with
    | none => simp only at hlo; subst hlo; simp
    | some v => obtain ⟨k, hk⟩ := hlo; simp [key v k l h _ hk hlh]
  | some u =>
    obtain ⟨k', hk'⟩ := hhi
    cases lo with
    | none => simp only at hlo; subst hlo; simp [key u k' h cap _ hk' hhc]
    | some v => obtain ⟨k, hk⟩ := hlo; simp [key u k' h cap _ hk' hhc, key v k l h _ hk hlh]


theorem asInt_ok {v : AV} {c : Value} {n : Int} (h : AVR β w M v c) (hn : asInt v = some n) : ∃ k, c = .int k n := by
  unfold asInt at hn
  split at hn
  · injection hn with hn; subst hn
    simp only [AVR, Rep] at h
    exact ⟨_, h⟩
  · exact absurd hn (by simp)

theorem evalOpt_ok (hV : VR M0 M β V a.tmps w) {o : Option Operand} {v : Option AV} (h : evalOpt V o = some v) :
    (o = none ∧ v = none) ∨ ∃ x y, o = some x ∧ v = some y ∧ AVR β w M y (a.eval x) := by
  cases o with
  | none => simp only [evalOpt, Option.some.injEq] at h; exact .inl ⟨rfl, h.symm⟩
  | some x =>
    simp only [evalOpt] at h
    split at h
    · rename_i y hy
      injection h with h
      exact .inr ⟨x, y, rfl, h.symm, eval_ok hV hy⟩
    · exact absurd h (by simp)

theorem sliceOf_ok (hV : VR M0 M β V a.tmps w) {lo hi : Option Operand} {vl vh : Option AV} (hl : evalOpt V lo = some vl) (hh : evalOpt V hi = some vh) {len l h cap : Nat} (hs : sliceOf vl vh len = some (l, h)) (hc : len ≤ cap) (isSlice : Bool) :
    l ≤ h ∧ h ≤ len ∧ (Instr.sliceBounds isSlice len cap (lo.map a.eval) (hi.map a.eval) none).run P w = .ok (l, h, cap) w := by
  unfold sliceOf at hs
  split at hs
  · rename_i x y hx hy
    split at hs
    · rename_i hb
      injection hs with hs; injection hs with e1 e2; subst e1; subst e2
      have h1 : y.toNat ≤ x.toNat := by omega
      have h2 : x.toNat ≤ len := by have := hb.2.2; simp at this; omega
      refine ⟨h1, h2, run_sliceBounds isSlice ?_ ?_ h1 (by omega)⟩
      · rcases evalOpt_ok hV hh with ⟨rfl, rfl⟩ | ⟨p, q, rfl, rfl, hq⟩
        · simp at hx; subst hx; simp
        · obtain ⟨k, hk⟩ := asInt_ok hq hx
          exact ⟨k, by show a.eval p = _; rw [hk]; congr 1; omega⟩
      · rcases evalOpt_ok hV hl with ⟨rfl, rfl⟩ | ⟨p, q, rfl, rfl, hq⟩
        · simp at hy; subst hy; simp
        · obtain ⟨k, hk⟩ := asInt_ok hq hy
          exact ⟨k, by show a.eval p = _; rw [hk]; congr 1; omega⟩
    · exact absurd hs (by simp)
  · exact absurd hs (by simp)

theorem extract_mk (s : List UInt8) (l h : Nat) : (⟨s.toArray⟩ : ByteArray).extract l h = ⟨((s.drop l).take (h - l)).toArray⟩ := by
  have := Go.Lib.extract_data (⟨s.toArray⟩ : ByteArray) l h
  apply ByteArray.ext
  rw [← Array.toArray_toList (xs := ((⟨s.toArray⟩ : ByteArray).extract l h).data), this]

theorem Rep_str {s : List UInt8} {c : Value} (h : Rep w M (.str s) c) : c = .string ⟨s.toArray⟩ := by simpa only [Rep] using h

/-- Elements of a plain slice, cut. -/
theorem RepRow.cut {A : Option Addr} {sz : Nat} {es : List (List PV)} (h : RepRow w M A sz 0 es) (l n : Nat) (b : Option Addr)
    (hb : 0 < n → ∃ p : Addr, A = some p ∧ b = some ⟨p.block, p.off + l * sz, none⟩) : RepRow w M b sz 0 ((es.drop l).take n) := by
  refine RepRow.of fun j e hj => ?_
  rw [List.getElem?_take] at hj
  split at hj
  · rename_i hjn
    rw [List.getElem?_drop] at hj
    obtain ⟨p, vs, h1, h2, h3, h4⟩ := h.get (l + j) e hj
    obtain ⟨q, hq, hb'⟩ := hb (by omega)
    rw [h1] at hq; injection hq with hq; subst hq
    refine ⟨_, vs, hb', h2, h3, ?_⟩
    show Holds w M p.block (p.off + l * sz + (0 + j) * sz) vs
    rw [show p.off + l * sz + (0 + j) * sz = p.off + (0 + (l + j)) * sz by rw [Nat.zero_add, Nat.zero_add, Nat.add_mul]; omega]
    exact h4
  · exact absurd hj (by simp)

theorem run_slice_slice {t e : TypeId} (ht : P.underlying t = some (.slice e)) (he : okT P e = true) {A : Option Addr} {n cap l h : Nat} {lo hi : Option Value}
    (hb : (Instr.sliceBounds true n cap lo hi none).run P w = .ok (l, h, cap) w) :
    (Instr.sliceAt t (.slice A n cap) lo hi none).run P w = .ok (.slice (if cap = l then A else A.map (·.add (l * sizeT P e))) (h - l) (cap - l)) w := by
  simp [Instr.sliceAt, Instr.slice, run_underlying ht, hb, run_sizeT he]

theorem run_slice_string {t : TypeId} (ht : P.underlying t = some .string) {s : ByteArray} {l h : Nat} {lo hi : Option Value}
    (hb : (Instr.sliceBounds false s.size s.size lo hi none).run P w = .ok (l, h, s.size) w) :
    (Instr.sliceAt t (.string s) lo hi none).run P w = .ok (.string (s.extract l h)) w := by
  simp [Instr.sliceAt, Instr.slice, run_underlying ht, hb]

theorem gives_slice {t : TypeId} {x : Operand} {lo hi : Option Operand} {ρ : Operand → Value} {c : Value} (h : (Instr.sliceAt t (ρ x) (lo.map ρ) (hi.map ρ) none).run P w = .ok c w) :
    Gives P ρ (.slice t x lo hi none) w c w :=
  fun oo ho => by simp [execOp, ho, h]


theorem run_fieldPlace {f : Field} (hf : okT P f.type = true) (h0 : sizeT P f.type ≠ 0) (b o : Nat) : (fieldPlace ⟨b, o, none⟩ f).run P w = .ok ⟨b, o + f.offset, none⟩ w := by
  simp [fieldPlace, run_sizeT hf, h0, addr_add]

theorem gives_fieldAddr {t : TypeId} {x : Operand} {f : Nat} {fs : Array Field} {g : Field} {ρ : Operand → Value} (ht : P.underlying t = some (.struct fs)) (hg : fs[f]? = some g) (hk : okT P g.type = true) (h0 : sizeT P g.type ≠ 0)
    {b o : Nat} (h : ρ x = .pointer (some ⟨b, o, none⟩)) : Gives P ρ (.fieldAddr t x f) w (.pointer (some ⟨b, o + g.offset, none⟩)) w :=
  fun oo ho => by simp [execOp, ho, h, Instr.fieldAt, run_underlying ht, hg, Instr.sureAddr, run_fieldPlace hk h0]

theorem fieldT_eq {t : TypeId} {f : Nat} {g : Field} (h : fieldT P t f = some g) : ∃ fs : Array Field, P.underlying t = some (.struct fs) ∧ fs[f]? = some g := by
  unfold fieldT at h
  split at h
  · exact ⟨_, ‹_›, h⟩
  · exact absurd h (by simp)
theorem elemT_eq {t e : TypeId} (h : elemT P t = some e) : P.underlying t = some (.slice e) ∧ okT P e = true ∧ 0 < sizeT P e := by
  unfold elemT at h
  split at h
  · split at h
    · rename_i hc
      injection h with h; subst h; exact ⟨by assumption, hc.1, hc.2⟩
    · exact absurd h (by simp)
  · exact absurd h (by simp)

/-- A part of a struct's value. -/
theorem run_part {t : TypeId} (ht : okT P t = true) {cs : Array Value} {off : Nat} :
    (part t cs off).run P w = if aggT P t then .ok (.agg (cs.extract off (off + sizeT P t))) w else (match cs[off]? with | some v => .ok v w | none => .halt (.stuck "part: no such cell") w) := by
  simp only [part, Sem.run_bind, run_aggT ht, Result.andThen_ok]
  cases aggT P t
  · simp only [Bool.false_eq_true, if_false]
    cases cs[off]? <;> simp
  · simp only [if_true, Sem.run_bind, run_sizeT ht, Result.andThen_ok, Sem.run_pure]

theorem gives_field {t : TypeId} {x : Operand} {f : Nat} {fs : Array Field} {g : Field} {ρ : Operand → Value} (ht : P.underlying t = some (.struct fs)) (hg : fs[f]? = some g) {cs : Array Value} (h : ρ x = .agg cs) {c : Value}
    (hp : (part g.type cs g.offset).run P w = .ok c w) : Gives P ρ (.field t x f) w c w :=
  fun oo ho => by simp [execOp, ho, h, Instr.field, run_underlying ht, hg, asAgg, hp]

theorem field_pv {t : TypeId} (ht : okT P t = true) {cs : Array Value} {fs : List PV} (h : RepS w M fs cs.toList) {off : Nat} {v : AV} (hv : ofCells (aggT P t) ((fs.drop off).take (sizeT P t)) = some v) :
    ∃ c, (part t cs off).run P w = .ok c w ∧ AVR β w M v c ∧ v.refs = [] := by
  have hd := RepS.take (sizeT P t) (RepS.drop off h)
  unfold ofCells at hv
  rw [run_part ht]
  cases hg : aggT P t with
  | true =>
    rw [hg] at hv; simp only [if_true, Option.some.injEq] at hv; subst hv
    refine ⟨_, rfl, ?_, rfl⟩
    simp only [AVR, Rep]
    refine ⟨_, rfl, ?_⟩
    simpa [Array.toList_extract, List.extract_eq_take_drop] using hd
  | false =>
    rw [hg] at hv
    simp only [Bool.false_eq_true, if_false] at hv ⊢
    split at hv
    · rename_i x hx
      injection hv with hv; subst hv
      obtain ⟨c, h1, h2, h3⟩ := hd.get 0 x (by rw [hx]; rfl)
      have : cs[off]? = some c := by
        rw [List.getElem?_take] at h1
        split at h1
        · rw [List.getElem?_drop] at h1
          simpa using h1
        · exact absurd h1 (by simp)
      exact ⟨c, by rw [this], by simp only [AVR]; exact h3, rfl⟩
    · exact absurd hv (by simp)

theorem field_agg {t : TypeId} (ht : okT P t = true) {cs : Array Value} {fs : List AV} (h : AVS β w M fs cs.toList) {off : Nat} (h0 : 0 < sizeT P t) (hl : off + sizeT P t ≤ fs.length) :
    ∃ c, (part t cs off).run P w = .ok c w ∧ AVR β w M (ofLeaves (aggT P t) ((fs.drop off).take (sizeT P t))) c ∧ ∀ i ∈ (ofLeaves (aggT P t) ((fs.drop off).take (sizeT P t))).refs, i ∈ AV.refsL fs := by
  have hd := (h.drop off).take (sizeT P t)
  have sub : ∀ i, i ∈ AV.refsL ((fs.drop off).take (sizeT P t)) → i ∈ AV.refsL fs := fun i hi => by
    obtain ⟨v, hv, hi⟩ := refsL_mem.1 hi
    exact refsL_mem.2 ⟨v, List.mem_of_mem_drop (List.mem_of_mem_take hv), hi⟩
  rw [run_part ht]
  cases hg : aggT P t with
  | true =>
    obtain ⟨k1, k2⟩ := ofLeaves_ok hd
    refine ⟨_, rfl, ?_, fun i hi => sub i (k2 i hi)⟩
    have e : (Value.agg (cs.extract off (off + sizeT P t))) = .agg ((cs.toList.drop off).take (sizeT P t)).toArray := by
      congr 1
      apply Array.ext'
      simp [Array.toList_extract, List.extract_eq_take_drop]
    rw [e]; exact k1
  | false =>
    simp only [Bool.false_eq_true, if_false]
    have hlt : off < cs.toList.length := by rw [← h.1]; omega
    have hlt' : off < fs.length := by omega
    have hc : cs[off]? = some (cs.toList[off]) := by
      rw [← Array.getElem?_toList, List.getElem?_eq_getElem hlt]
    rw [hc]
    refine ⟨_, rfl, ?_, fun i hi => ?_⟩
    · simp only [ofLeaves, Bool.false_eq_true, if_false]
      split
      · rename_i v hv
        have e : fs[off]? = some v := by
          have : ((fs.drop off).take (sizeT P t))[0]? = some v := by rw [hv]; rfl
          rw [List.getElem?_take, if_pos h0, List.getElem?_drop] at this
          simpa using this
        exact (h.2 off v _ e (List.getElem?_eq_getElem hlt)).2
      · simp only [AVR]
    · simp only [ofLeaves, Bool.false_eq_true, if_false] at hi
      split at hi
      · rename_i v hv
        refine sub i ?_
        rw [hv]
        simpa [AV.refsL] using hi
      · simp [AV.refs] at hi

theorem run_indexAt {t e : TypeId} (ht : P.underlying t = some (.slice e)) (he : okT P e = true) {b o n cap : Nat} {k : IntKind} {i : Int} (h0 : 0 ≤ i) (hi : i < n) :
    (Instr.indexAt t (.slice (some ⟨b, o, none⟩) n cap) (.int k i)).run P w = .ok (.pointer (some ⟨b, o + i.toNat * sizeT P e, none⟩)) w := by
  simp [Instr.indexAt, asIntOf, run_underlying ht, h0, hi, run_sizeT he, addr_add]
theorem gives_indexAddr {t : TypeId} {x ix : Operand} {ρ : Operand → Value} {c : Value} (h : (Instr.indexAt t (ρ x) (ρ ix)).run P w = .ok c w) : Gives P ρ (.indexAddr t x ix) w c w :=
  fun oo ho => by simp [execOp, ho, h]
theorem gives_index {t : TypeId} {x ix : Operand} {ρ : Operand → Value} {c : Value} (h : (Instr.index t (ρ x) (ρ ix)).run P w = .ok c w) : Gives P ρ (.index t x ix) w c w :=
  fun oo ho => by simp [execOp, ho, h]

theorem gives_len {x : Operand} {t : TypeId} {ts : List TypeId} {ρ : Operand → Value} {n : Nat}
    (h : (P.underlying t = some .string ∧ ∃ s : ByteArray, ρ x = .string s ∧ s.size = n) ∨ (∃ e, P.underlying t = some (.slice e)) ∧ ∃ A c, ρ x = .slice A n c) :
    Gives P ρ (.call { callee := .builtin .len, args := #[x], argTypes := (t :: ts).toArray }) w (.int .i64 n) w := by
  intro oo ho
  rcases h with ⟨ht, s, hs, hn⟩ | ⟨⟨e, ht⟩, A, c, hs⟩
  · subst hn
    simp [execOp, ho, resolve, invoke, Go.builtin, Builtin.len_, run_underlying ht, hs, goInt]
  · simp [execOp, ho, resolve, invoke, Go.builtin, Builtin.len_, run_underlying ht, hs, goInt]


theorem setFrom_length {α : Type} : ∀ (off : Nat) (new l : List α), off + new.length ≤ l.length → (setFrom off new l).length = l.length
  | 0, new, l, h => by simp [setFrom]; omega
  | n + 1, new, [], h => by simp at h
  | n + 1, new, a :: l, h => by simp [setFrom, setFrom_length n new l (by simp at h; omega)]

theorem setFrom_get {α : Type} : ∀ (off : Nat) (new l : List α), off + new.length ≤ l.length → ∀ j, (setFrom off new l)[j]? = if off ≤ j ∧ j < off + new.length then new[j - off]? else l[j]?
  | 0, new, l, h, j => by
    simp only [setFrom, Nat.zero_le, Nat.zero_add, true_and, Nat.sub_zero]
    rw [List.getElem?_append]
    split
    · rfl
    · rw [List.getElem?_drop]; congr 1; omega
  | n + 1, new, [], h, j => by simp at h
  | n + 1, new, a :: l, h, j => by
    cases j with
    | zero => simp [setFrom]
    | succ j =>
      simp only [setFrom, List.getElem?_cons_succ]
      rw [setFrom_get n new l (by simp at h; omega) j]
      by_cases hc : n ≤ j ∧ j < n + new.length
      · rw [if_pos hc, if_pos ⟨by omega, by omega⟩]; congr 1; omega
      · rw [if_neg hc, if_neg (by omega)]

theorem foldl_set : ∀ (new : List Value) (off k : Nat) (cs : Array Value), off + k + new.length ≤ cs.size →
    ((new.zipIdx k).foldl (fun (cs : Array Value) (p : Value × Nat) => cs.setIfInBounds (off + p.2) p.1) cs).toList = setFrom (off + k) new cs.toList
  | [], off, k, cs, h => by
    simp only [List.zipIdx_nil, List.foldl_nil]
    apply List.ext_getElem?
    intro j
    rw [setFrom_get _ _ _ (by simpa using h)]
    rw [if_neg (by rintro ⟨h1, h2⟩; simp at h2; omega)]
  | v :: new, off, k, cs, h => by
    simp only [List.zipIdx_cons, List.foldl_cons]
    have h' : off + k + (new.length + 1) ≤ cs.size := by simpa using h
    rw [foldl_set new off (k + 1) _ (by simp; omega)]
    apply List.ext_getElem?
    intro j
    rw [setFrom_get _ _ _ (by simp; omega), setFrom_get _ _ _ (by simpa using h')]
    by_cases h1 : off + (k + 1) ≤ j ∧ j < off + (k + 1) + new.length
    · rw [if_pos h1, if_pos ⟨by omega, by simp; omega⟩, show j - (off + k) = (j - (off + (k + 1))) + 1 by omega]; rfl
    · rw [if_neg h1]
      by_cases h2 : j = off + k
      · subst h2
        rw [if_pos ⟨Nat.le_refl _, by simp⟩]
        simp [List.getElem?_set]
        omega
      · rw [if_neg (by simp; omega)]
        rw [Array.toList_setIfInBounds, List.getElem?_set, if_neg (by omega)]

/-- The model's 'fill' lays a value's cells at a place. -/
theorem fill_cons {place : Nat → Option (Nat × Nat)} {cells : Array Value} {i : Nat} {v : Value} {r : List (Nat × Value)} {off size : Nat} (hp : place i = some (off, size)) (hs : v.cells.size = size) (hl : off + size ≤ cells.size) :
    Instr.fill place cells ((i, v) :: r) = Instr.fill place (setFrom off v.cells.toList cells.toList).toArray r := by
  simp only [Instr.fill, hp]
  rw [if_neg (by simp [hs]; omega)]
  congr 1
  apply Array.ext'
  have := foldl_set v.cells.toList off 0 cells (by simp [hs]; omega)
  rw [← Array.foldl_toList, Array.toList_zipIdx]
  simpa using this


/-- What is new: where it lies, that nothing else lies there. -/
structure NewOK (M : Cells) (β : Nat → Loc) (w : World) (os : List (Nat × Obj)) (M' : Cells) (β' : Nat → Loc) (w' : World) : Prop where
  keep : ∀ id, id ∉ os.map (·.1) → β' id = β id
  grow : ∀ b j, M' b j ↔ M b j ∨ ∃ id ∈ os.map (·.1), (β' id).F b j
  fresh : ∀ id ∈ os.map (·.1), ∀ b j, (β' id).F b j → w.heap.size ≤ b ∧ b < w'.heap.size
  objs : ∀ p ∈ os, ObjR β' w' M' (β' p.1) p.2
  disj : ∀ id ∈ os.map (·.1), ∀ id' ∈ os.map (·.1), id ≠ id' → ∀ b j, (β' id).F b j → ¬ (β' id').F b j
  fr : Fr (fun _ _ => False) w w'

theorem NewOK.none (M : Cells) (β : Nat → Loc) (w : World) : NewOK M β w [] M β w :=
  ⟨fun _ _ => rfl, fun b j => by simp, fun id h => by simp at h, fun p h => by simp at h, fun id h => by simp at h, Fr.refl _ _⟩

/-- What was there reads as it did. -/
theorem NewOK.step {M : Cells} {β : Nat → Loc} {w : World} {os : List (Nat × Obj)} {M' : Cells} {β' : Nat → Loc} {w' : World} (h : NewOK M β w os M' β' w') :
    ∀ b o v, at_ w b o = some v → ¬ M b o → at_ w' b o = some v ∧ ¬ M' b o := fun b o v hv hm => by
  refine ⟨(h.fr.keeps hv (fun x => x)).1, fun hm' => ?_⟩
  rcases (h.grow b o).1 hm' with h1 | ⟨id, hid, hF⟩
  · exact hm h1
  · have := (h.fresh id hid b o hF).1
    have := at_lt hv
    omega

theorem pointer_rep {cs : List PV} {vs : List Value} {b o : Nat} (h : RepS w M cs vs) (hh : Holds w M b o vs) : Rep w M (.iptr cs) (.pointer (some ⟨b, o, none⟩)) := by
  simp only [Rep]; exact ⟨b, o, vs, rfl, h, hh⟩

/-- The cells of elements, one behind the other. -/
def RowS (w : World) (M : Cells) (sz : Nat) (es : List (List PV)) (vs : List Value) : Prop :=
  es.length * sz ≤ vs.length ∧ ∀ (i : Nat) (e : List PV), es[i]? = some e → e.length = sz ∧ RepS w M e ((vs.drop (i * sz)).take sz)

/-- A new row of cells, as an owned slice. -/
theorem new_buf_at {id sz cap : Nat} {es : List (List PV)} {vs : List Value} {w' : World} (hold : ∀ b j, M b j → b < w.heap.size) (h0 : 0 < sz) (hr : RowS w M sz es vs) (hl : vs.length = cap * sz) (hc : es.length ≤ cap)
    (hat : ∀ j : Nat, at_ w' w.heap.size j = vs[j]?) (hz : ∀ j, j < vs.length → frz_ w' w.heap.size j = false) (hfr : Fr (fun _ _ => False) w w') (hs : w'.heap.size = w.heap.size + 1) :
    ∃ β' M', NewOK M β w [(id, .buf sz es)] M' β' w' ∧ (β' id).hdr = .slice (some ⟨w.heap.size, 0, none⟩) es.length cap ∧ (∀ b j, M' b j → b < w.heap.size + 1) := by
  let l : Loc := { base := some (w.heap.size, 0), len := es.length, cap := cap, sz := sz, k := cap * sz, ext := none }
  let β' : Nat → Loc := fun i => if i = id then l else β i
  let M' : Cells := fun b j => M b j ∨ l.F b j
  have hβ : β' id = l := by simp [β']
  have hF : ∀ b j, l.F b j → b = w.heap.size ∧ j < cap * sz := by
    rintro b j (⟨o, h1, h2, h3⟩ | ⟨n, h1, _⟩)
    · simp only [l, Option.some.injEq, Prod.mk.injEq] at h1
      obtain ⟨rfl, rfl⟩ := h1
      exact ⟨rfl, by simpa using h3⟩
    · simp [l] at h1
  have hk : ∀ b o v, at_ w b o = some v → ¬ M b o → at_ w' b o = some v ∧ ¬ M' b o := fun b o v hv hm => by
    refine ⟨(hfr.keeps hv (fun x => x)).1, ?_⟩
    rintro (h | h)
    · exact hm h
    · have := (hF b o h).1
      have := at_lt hv
      omega
  refine ⟨β', M', ⟨fun i hi => ?_, fun b j => ?_, fun i hi b j hb => ?_, fun p hp => ?_, fun i hi i' hi' hne => ?_, hfr⟩, by rw [hβ]; rfl, ?_⟩
  · simp at hi; simp [β', hi]
  · simp [M', hβ]
  · simp at hi; subst hi; rw [hβ] at hb; have := (hF b j hb).1; subst this; rw [hs]; exact ⟨Nat.le_refl _, Nat.lt_succ_self _⟩
  · simp at hp; subst hp
    rw [hβ]
    refine ⟨rfl, h0, rfl, hc, rfl, rfl, fun h => by simp [l] at h, fun e he => ?_, fun b o hb => ?_⟩
    · obtain ⟨i, hi⟩ := List.mem_iff_getElem?.1 he
      exact (hr.2 i e hi).1
    · simp only [l, Option.some.injEq, Prod.mk.injEq] at hb
      obtain ⟨rfl, rfl⟩ := hb
      refine ⟨fun j hj => ⟨⟨vs[j]'(by rw [hl]; exact hj), by rw [Nat.zero_add, hat]; exact List.getElem?_eq_getElem _⟩, by rw [Nat.zero_add]; exact hz j (by rw [hl]; exact hj)⟩, fun i e he => ?_⟩
      obtain ⟨k1, k2⟩ := hr.2 i e he
      refine ⟨_, RepS.mono hk e _ k2, fun j c hj => ?_⟩
      rw [List.getElem?_take] at hj
      split at hj
      · rw [List.getElem?_drop] at hj
        rw [Nat.zero_add, hat]; exact hj
      · exact absurd hj (by simp)
  · simp at hi hi'; omega
  · rintro b j (h | h)
    · have := hold b j h; omega
    · have := (hF b j h).1; omega
theorem new_buf {t : TypeId} {id sz cap : Nat} {es : List (List PV)} {vs : List Value} (hold : ∀ b j, M b j → b < w.heap.size) (h0 : 0 < sz) (hr : RowS w M sz es vs) (hl : vs.length = cap * sz) (hc : es.length ≤ cap) :
    ∃ β' M', NewOK M β w [(id, .buf sz es)] M' β' (w.alloc (.cells vs.toArray t)) ∧ (β' id).hdr = .slice (some ⟨w.heap.size, 0, none⟩) es.length cap ∧ (∀ b j, M' b j → b < w.heap.size + 1) :=
  new_buf_at hold h0 hr hl hc (fun j => by simp [at_]) (fun j _ => by simp [frz_]) (Fr.alloc _ _ _ _) (by simp)

/-- A new variable. -/
theorem new_box {t : TypeId} {id : Nat} {cs : List AV} {vs : List Value} (hold : ∀ b j, M b j → b < w.heap.size) (hr : AVS β w M cs vs) (hn : id ∉ AV.refsL cs) :
    ∃ β' M', NewOK M β w [(id, .box cs)] M' β' (w.alloc (.cells vs.toArray t)) ∧ (β' id).base = some (w.heap.size, 0) ∧ (∀ b j, M' b j → b < w.heap.size + 1) := by
  let l : Loc := { base := some (w.heap.size, 0), len := 0, cap := 0, sz := 0, k := cs.length, ext := none }
  let β' : Nat → Loc := fun i => if i = id then l else β i
  let M' : Cells := fun b j => M b j ∨ l.F b j
  have hβ : β' id = l := by simp [β']
  have hF : ∀ b j, l.F b j → b = w.heap.size := by
    rintro b j (⟨o, h1, h2, h3⟩ | ⟨n, h1, _⟩)
    · simp only [l, Option.some.injEq, Prod.mk.injEq] at h1
      exact h1.1.symm
    · simp [l] at h1
  have hk : ∀ b o v, at_ w b o = some v → ¬ M b o → at_ (w.alloc (.cells vs.toArray t)) b o = some v ∧ ¬ M' b o := fun b o v hv hm => by
    refine ⟨((Fr.alloc w vs.toArray t (fun _ _ => False)).keeps hv (fun x => x)).1, ?_⟩
    rintro (h | h)
    · exact hm h
    · have := hF b o h
      have := at_lt hv
      omega
  have hat : ∀ j : Nat, at_ (w.alloc (.cells vs.toArray t)) w.heap.size j = vs[j]? := fun j => by simp [at_]
  refine ⟨β', M', ⟨fun i hi => ?_, fun b j => ?_, fun i hi b j hb => ?_, fun p hp => ?_, fun i hi i' hi' hne => ?_, Fr.alloc _ _ _ _⟩, by rw [hβ], ?_⟩
  · simp at hi; simp [β', hi]
  · simp [M', hβ]
  · simp at hi; subst hi; rw [hβ] at hb; have := hF b j hb; subst this; simp
  · simp at hp; subst hp
    rw [hβ]
    refine ⟨w.heap.size, 0, rfl, rfl, rfl, fun j v hj => ?_⟩
    have hlt : j < vs.length := by rw [← hr.1]; exact (List.getElem?_eq_some_iff.1 hj).1
    have hv := List.getElem?_eq_getElem hlt
    obtain ⟨k1, k2⟩ := hr.2 j v _ hj hv
    refine ⟨_, by rw [Nat.zero_add, hat]; exact hv, by simp [frz_], k1, AVR.mono hk _ _ (fun i hi => ?_) k2⟩
    have : i ≠ id := fun e => hn (refsL_mem.2 ⟨v, List.mem_of_getElem? hj, e ▸ hi⟩)
    exact Loc.same_of (by simp [β', this])
  · simp at hi hi'; omega
  · rintro b j (h | h)
    · have := hold b j h; omega
    · have := hF b j h; omega


theorem zeroV_eq {t : TypeId} {vs : List Value} (h : zeroV P t = some vs) : ∃ i z, P.info? t = some i ∧ i.zero = some z ∧ z.cells.toList = vs ∧ vs.length = sizeT P t := by
  unfold zeroV at h
  split at h
  · rename_i i hi
    split at h
    · rename_i z hz
      split at h
      · rename_i hs
        injection h with h; subst h
        exact ⟨i, z, hi, hz, rfl, by simp [sizeT, hi, hs]⟩
      · exact absurd h (by simp)
    · exact absurd h (by simp)
  · exact absurd h (by simp)

theorem run_zeroValue {t : TypeId} {i : TypeInfo} {z : Value} (hi : P.info? t = some i) (hz : i.zero = some z) (w : World) : (zeroValue t).run P w = .ok z w := by
  simp [zeroValue, typeInfo, hi, hz]

/-- Zero cells, again and again. -/
theorem zeros_get {zs : List Value} {n j : Nat} (hj : j < n * zs.length) : ((Array.range (n * zs.length)).map (fun i => zs.toArray[i % zs.toArray.size]!)).toList[j]? = zs[j % zs.length]? := by
  have h0 : 0 < zs.length := by
    rcases Nat.eq_zero_or_pos zs.length with h | h
    · rw [h] at hj; omega
    · exact h
  have hlt : j % zs.length < zs.length := Nat.mod_lt _ h0
  simp [List.getElem?_map, List.getElem?_range hj, hlt]

/-- A row of zero values. -/
theorem zeros_row {zs : List Value} {z : List PV} (hz : RepS w M z zs) (n m : Nat) (hm : m ≤ n) :
    RowS w M zs.length (List.replicate m z) ((Array.range (n * zs.length)).map (fun i => zs.toArray[i % zs.toArray.size]!)).toList := by
  refine ⟨by simpa using Nat.mul_le_mul_right _ hm, fun i e he => ?_⟩
  rw [List.getElem?_replicate] at he
  split at he
  · rename_i hi
    injection he with he; subst he
    refine ⟨hz.length.symm, ?_⟩
    have : ((((Array.range (n * zs.length)).map (fun i => zs.toArray[i % zs.toArray.size]!)).toList.drop (i * zs.length)).take zs.length) = zs := by
      apply List.ext_getElem?
      intro j
      rw [List.getElem?_take]
      split
      · rename_i hj
        have hij : i * zs.length + j < n * zs.length := by
          have : (i + 1) * zs.length ≤ n * zs.length := Nat.mul_le_mul_right _ (by omega)
          rw [Nat.add_mul] at this; omega
        rw [List.getElem?_drop, zeros_get hij, Nat.mul_comm i, Nat.mul_add_mod, Nat.mod_eq_of_lt hj]
      · rename_i hj
        rw [List.getElem?_eq_none (by omega)]
    rw [this]; exact hz
  · exact absurd he (by simp)

theorem i64_max : IntKind.i64.max = 9223372036854775807 := by decide
theorem i64_wrap {n : Int} (h0 : 0 ≤ n) (h : n ≤ 9223372036854775807) : IntKind.i64.wrap n = n := by
  have := i64_max
  simp only [IntKind.wrap, IntKind.signed, IntKind.bits]
  simp
  omega

theorem map_range0 (f : Nat → Value) : Array.map f (Array.range 0) = #[] := by simp

theorem gives_makeSlice {t e : TypeId} {x y : Operand} {ρ : Operand → Value} {kx ky : IntKind} {n m : Int} (ht : P.underlying t = some (.slice e)) (he : okT P e = true) (hx : ρ x = .int kx n) (hy : ρ y = .int ky m)
    (h0 : 0 ≤ n) (hn : n ≤ m) (hm : m ≤ 9223372036854775807) (hb : m * (bytesT P e : Nat) ≤ (140737488355328 : Int)) {zs : List Value} (hz : zeroV P e = some zs) :
    Gives P ρ (.makeSlice t x y) w (.slice (some ⟨w.heap.size, 0, none⟩) n.toNat m.toNat)
      (w.alloc (.cells ((Array.range (m.toNat * zs.length)).map (fun i => zs.toArray[i % zs.toArray.size]!)) e)) := by
  intro oo ho
  obtain ⟨i, z, hi, hzz, rfl, hl⟩ := zeroV_eq hz
  have hbt : bytesT P e = i.bytes := by simp [bytesT, hi]
  have hst : sizeT P e = i.size := by simp [sizeT, hi]
  rw [hbt] at hb
  have hwn := i64_wrap h0 (by omega)
  have hwm := i64_wrap (n := m) (by omega) hm
  have hbm : (i.bytes : Int) * m ≤ 140737488355328 := by rw [Int.mul_comm]; exact hb
  have hzl : z.cells.size = i.size := by rw [← hst, ← hl]; simp
  have g1 : ¬ (m < 0) := by omega
  have g2 : ¬ ((281474976710656:Int) < (i.bytes : Int) * m) := by omega
  have g3 : ¬ (n < 0) := by omega
  have g4 : ¬ (m < n) := by omega
  have hlt : z.cells.toList.length = i.size := by simpa using hzl
  have ga : ∀ W : World, (Go.asInt (Value.int kx n)).run P W = .ok n W := fun W => by simp [Go.asInt, asIntOf]
  have gb : ∀ W : World, (Go.asInt (Value.int ky m)).run P W = .ok m W := fun W => by simp [Go.asInt, asIntOf]
  by_cases h00 : m.toNat * i.size = 0
  · have e0 : ((Array.range (m.toNat * z.cells.toList.length)).map (fun j => z.cells.toList.toArray[j % z.cells.toList.toArray.size]!)) = #[] := by
      rw [hlt, h00]; simp
    rw [e0]
    simp [execOp, ho, Instr.makeSlice, run_underlying ht, hx, hy, ga, gb, typeInfo, hi, hwn, hwm, g1, g2, g3, g4, sizeOf, h00, newRow, map_range0]
  · simp [execOp, ho, Instr.makeSlice, run_underlying ht, hx, hy, ga, gb, typeInfo, hi, hwn, hwm, g1, g2, g3, g4, sizeOf, h00, newRow, run_zeroValue hi hzz, hzl]

theorem gives_box {t : TypeId} {x : Operand} {ρ : Operand → Value} : Gives P ρ (.box t x) w (.pointer (some ⟨w.heap.size, 0, none⟩)) (w.alloc (.cells (ρ x).cells t)) :=
  fun oo ho => by simp [execOp, ho, Instr.box, newVar, newRow]

theorem gives_alloc {t : TypeId} {ρ : Operand → Value} {i : TypeInfo} {z : Value} (hi : P.info? t = some i) (hz : i.zero = some z) : Gives P ρ (.alloc t) w (.pointer (some ⟨w.heap.size, 0, none⟩)) (w.alloc (.cells z.cells t)) :=
  fun oo ho => by simp [execOp, ho, Instr.alloc, run_zeroValue hi hz, newVar, newRow]

theorem gives_buildSlice {t e : TypeId} {n : Nat} {parts : Array (Nat × Operand)} {ρ : Operand → Value} {cells : Array Value} {zs : List Value} (ht : P.underlying t = some (.slice e)) (he : okT P e = true) (hz : zeroV P e = some zs)
    (hn : n * sizeT P e ≤ 16777216) (hf : Instr.fill (fun i => some (i * sizeT P e, sizeT P e)) ((Array.range (n * zs.length)).map (fun i => zs.toArray[i % zs.toArray.size]!)) (parts.toList.map fun p => (p.1, ρ p.2)) = some cells) :
    Gives P ρ (.buildSlice t n parts) w (.slice (some ⟨w.heap.size, 0, none⟩) n n) (w.alloc (.cells cells e)) := by
  intro oo ho
  obtain ⟨i, z, hi, hzz, rfl, hl⟩ := zeroV_eq hz
  have hst : sizeT P e = i.size := by simp [sizeT, hi]
  have hzl : z.cells.size = i.size := by rw [← hst, ← hl]; simp
  have hnn : ¬ (16777216 < n * i.size) := by rw [hst] at hn; omega
  have hpl : (parts.map fun (x : Nat × Operand) => (x.1, ρ x.2)).toList = parts.toList.map fun p => (p.1, ρ p.2) := by simp
  rw [hst] at hf
  by_cases h0 : n * i.size = 0
  · have e0 : ((Array.range (n * z.cells.toList.length)).map (fun j => z.cells.toList.toArray[j % z.cells.toList.toArray.size]!)) = #[] := by
      have hlt : z.cells.toList.length = i.size := by simpa using hzl
      rw [hlt, h0]; simp
    rw [e0] at hf
    simp [execOp, ho, Instr.buildSlice, run_underlying ht, sizeOf, typeInfo, hi, hnn, h0, newRow, map_range0, hf]
  · have e1 : ((Array.range (n * z.cells.toList.length)).map (fun j => z.cells.toList.toArray[j % z.cells.toList.toArray.size]!)) = (Array.range (n * i.size)).map (fun x => z.cells[x % z.cells.size]!) := by
      have hlt : z.cells.toList.length = i.size := by simpa using hzl
      rw [hlt]
    rw [e1] at hf
    simp [execOp, ho, Instr.buildSlice, run_underlying ht, sizeOf, typeInfo, hi, hnn, h0, newRow, run_zeroValue hi hzz, hf]


theorem list_mapM_run {α γ : Type} {f : α → Sem γ} {g : α → γ} : ∀ (l : List α), (∀ x ∈ l, ∀ w, (f x).run P w = .ok (g x) w) → ∀ (w : World), (l.mapM f).run P w = .ok (l.map g) w
  | [], _, w => by simp
  | x :: l, h, w => by simp [List.mapM_cons, h x (by simp) w, list_mapM_run l (fun y hy => h y (by simp [hy])) w]

theorem array_mapM_run {α γ : Type} {f : α → Sem γ} {g : α → γ} {xs : Array α} (h : ∀ x ∈ xs.toList, ∀ w, (f x).run P w = .ok (g x) w) (w : World) : (xs.mapM f).run P w = .ok (xs.map g) w := by
  rw [Array.mapM_eq_mapM_toList]
  simp [list_mapM_run xs.toList h w]
  apply Array.ext'; simp

theorem fields_ok {t : TypeId} (h : fieldsOk P t = true) : ∃ fs : Array Field, P.underlying t = some (.struct fs) ∧ ∀ f ∈ fs.toList, okT P f.type = true := by
  unfold fieldsOk at h
  split at h
  · rename_i fs hfs
    refine ⟨fs, hfs, fun f hf => ?_⟩
    rw [Array.all_eq_true_iff_forall_mem] at h
    exact h f (by simpa using hf)
  · exact absurd h (by simp)

/-- The model's fill and ours: leaves laid over leaves. -/
theorem fill_fields {t : TypeId} {fs : Array Field} (ht : P.underlying t = some (.struct fs)) (ρ : Operand → Value) : ∀ (ps : List (Nat × Operand)) (qs : List (Nat × AV)) (cs : List AV) (vs : List Value) (out : List AV),
    (ps.map (·.1) = qs.map (·.1)) → (∀ (j : Nat) (p : Nat × Operand) (q : Nat × AV), ps[j]? = some p → qs[j]? = some q → AVR β w M q.2 (ρ p.2)) → AVS β w M cs vs → setField P t cs qs = some out →
    ∃ us, Instr.fill (fun i => (fs.map fun f => (f.offset, sizeT P f.type))[i]?) vs.toArray (ps.map fun p => (p.1, ρ p.2)) = some us.toArray ∧ AVS β w M out us ∧ ∀ i ∈ AV.refsL out, i ∈ AV.refsL cs ∨ ∃ q ∈ qs, i ∈ q.2.refs
  | [], [], cs, vs, out, _, _, h, hs => by
    simp only [setField, Option.some.injEq] at hs; subst hs
    exact ⟨vs, rfl, h, fun i hi => .inl hi⟩
  | [], q :: qs, cs, vs, out, hp, _, h, hs => by simp at hp
  | p :: ps, [], cs, vs, out, hp, _, h, hs => by simp at hp
  | p :: ps, (i, v) :: qs, cs, vs, out, hp, hr, h, hs => by
    have hpi : p.1 = i := by simp at hp; exact hp.1
    simp only [setField] at hs
    split at hs
    · rename_i f hf
      split at hs
      · rename_i hc
        obtain ⟨hfit, hlen, hoff⟩ := hc
        have hv : AVR β w M v (ρ p.2) := hr 0 p (i, v) rfl rfl
        have hl := leaves_ok hv hfit
        obtain ⟨fs', ht', hfi⟩ := fieldT_eq hf
        rw [ht] at ht'; injection ht' with ht'; injection ht' with ht'; subst ht'
        have hplace : (fun i => (fs.map fun f => (f.offset, sizeT P f.type))[i]?) p.1 = some (f.offset, sizeT P f.type) := by
          simp [hpi, hfi]
        have hsz : (ρ p.2).cells.size = sizeT P f.type := by
          have := hl.1; rw [hlen] at this; simpa using this.symm
        have hvs : vs.length = cs.length := h.1.symm
        have hnew : AVS β w M (setFrom f.offset (leaves v) cs) (setFrom f.offset (ρ p.2).cells.toList vs) := by
          refine ⟨by rw [setFrom_length _ _ _ (by omega), setFrom_length _ _ _ (by simp [hsz]; omega), hvs], fun j x u hx hu => ?_⟩
          rw [setFrom_get _ _ _ (by omega)] at hx
          rw [setFrom_get _ _ _ (by simp [hsz]; omega)] at hu
          by_cases hj : f.offset ≤ j ∧ j < f.offset + (leaves v).length
          · rw [if_pos hj] at hx
            rw [if_pos (by simp [hsz]; omega)] at hu
            exact hl.2 _ x u hx hu
          · rw [if_neg hj] at hx
            rw [if_neg (by simp [hsz]; omega)] at hu
            exact h.2 j x u hx hu
        obtain ⟨us, k1, k2, k3⟩ := fill_fields ht ρ ps qs _ _ out (by simp at hp; exact hp.2) (fun j a b ha hb => hr (j + 1) a b (by simpa using ha) (by simpa using hb)) hnew hs
        refine ⟨us, ?_, k2, fun r hr' => ?_⟩
        · rw [List.map_cons, fill_cons hplace hsz (by simp; omega)]
          exact k1
        · rcases k3 r hr' with h1 | ⟨q, hq, h1⟩
          · obtain ⟨x, hx, hxr⟩ := refsL_mem.1 h1
            obtain ⟨j, hj⟩ := List.mem_iff_getElem?.1 hx
            rw [setFrom_get _ _ _ (by omega)] at hj
            split at hj
            · refine .inr ⟨(i, v), by simp, ?_⟩
              have hm := List.mem_of_getElem? hj
              cases v with
              | pv y =>
                cases y <;> first
                  | (simp only [leaves, List.mem_map] at hm; obtain ⟨z, _, rfl⟩ := hm; simp [AV.refs] at hxr)
                  | (simp only [leaves, List.mem_singleton] at hm; subst hm; simp [AV.refs] at hxr)
              | agg l => simp only [leaves] at hm; simp only [AV.refs]; exact refsL_mem.2 ⟨x, hm, hxr⟩
              | _ => (simp only [leaves, List.mem_singleton] at hm; subst hm; exact hxr)
            · exact .inl (refsL_mem.2 ⟨x, List.mem_of_getElem? hj, hxr⟩)
          · exact .inr ⟨q, by simp [hq], h1⟩
      · exact absurd hs (by simp)
    · exact absurd hs (by simp)

theorem gives_build {t : TypeId} {fs : Array Field} {parts : Array (Nat × Operand)} {ρ : Operand → Value} (ht : P.underlying t = some (.struct fs)) (hfs : ∀ f ∈ fs.toList, okT P f.type = true) {zs us : List Value} (hz : zeroV P t = some zs)
    (hf : Instr.fill (fun i => (fs.map fun f => (f.offset, sizeT P f.type))[i]?) zs.toArray (parts.toList.map fun p => (p.1, ρ p.2)) = some us.toArray) :
    Gives P ρ (.build t parts) w (.agg us.toArray) w := by
  intro oo ho
  obtain ⟨i, z, hi, hzz, rfl, hl⟩ := zeroV_eq hz
  have hm : ∀ W : World, (fs.mapM fun f => (do pure (f.offset, ← sizeOf f.type) : Sem (Nat × Nat))).run P W = .ok (fs.map fun f => (f.offset, sizeT P f.type)) W :=
    fun W => array_mapM_run (fun f hf' W' => by simp [run_sizeT (hfs f hf')]) W
  have hpl : (parts.map fun (x : Nat × Operand) => (x.1, ρ x.2)).toList = parts.toList.map fun p => (p.1, ρ p.2) := by simp
  simp only [execOp, ho, Instr.build, Sem.run_bind, run_zeroValue hi hzz, Result.andThen_ok, run_underlying ht, hm, hpl]
  simp only [Array.toArray_toList] at hf
  rw [hf]
  simp

/-- The model's fill and ours, for a row. -/
theorem fill_elems {sz : Nat} (h0 : 0 < sz) (ρ : Operand → Value) : ∀ (ps : List (Nat × Operand)) (qs : List (Nat × AV)) (es : List (List PV)) (vs : List Value) (out : List (List PV)),
    (ps.map (·.1) = qs.map (·.1)) → (∀ (j : Nat) (p : Nat × Operand) (q : Nat × AV), ps[j]? = some p → qs[j]? = some q → AVR β w M q.2 (ρ p.2)) → vs.length = es.length * sz → RowS w M sz es vs → setElem sz es qs = some out →
    ∃ us, Instr.fill (fun i => some (i * sz, sz)) vs.toArray (ps.map fun p => (p.1, ρ p.2)) = some us.toArray ∧ us.length = vs.length ∧ out.length = es.length ∧ RowS w M sz out us
  | [], [], es, vs, out, _, _, hl, h, hs => by
    simp only [setElem, Option.some.injEq] at hs; subst hs
    exact ⟨vs, rfl, rfl, rfl, h⟩
  | [], q :: qs, es, vs, out, hp, _, _, h, hs => by simp at hp
  | p :: ps, [], es, vs, out, hp, _, _, h, hs => by simp at hp
  | p :: ps, (i, v) :: qs, es, vs, out, hp, hr, hl, h, hs => by
    have hpi : p.1 = i := by simp at hp; exact hp.1
    simp only [setElem] at hs
    split at hs
    · rename_i l hpv
      split at hs
      · rename_i hc
        obtain ⟨hfit, hlen, hi⟩ := hc
        have hv : AVR β w M v (ρ p.2) := hr 0 p (i, v) rfl rfl
        have hlv := leaves_ok hv hfit
        have hrep := pvs_ok hlv hpv
        have hsz : (ρ p.2).cells.size = sz := by have := hrep.length; rw [hlen] at this; simpa using this
        have hb : i * sz + sz ≤ vs.length := by
          rw [hl]
          have : (i + 1) * sz ≤ es.length * sz := Nat.mul_le_mul_right _ hi
          rw [Nat.add_mul] at this; omega
        have hvl : (ρ p.2).cells.toList.length = sz := by simpa using hsz
        have hnew : RowS w M sz (es.set i l) (setFrom (i * sz) (ρ p.2).cells.toList vs) := by
          refine ⟨by rw [List.length_set, setFrom_length _ _ _ (by rw [hvl]; exact hb)]; exact h.1, fun j e he => ?_⟩
          by_cases hj : j = i
          · subst hj
            rw [List.getElem?_set_self hi] at he
            injection he with he; subst he
            refine ⟨hlen, ?_⟩
            have : ((setFrom (j * sz) (ρ p.2).cells.toList vs).drop (j * sz)).take sz = (ρ p.2).cells.toList := by
              apply List.ext_getElem?
              intro k
              rw [List.getElem?_take]
              split
              · rename_i hk
                rw [List.getElem?_drop, setFrom_get _ _ _ (by rw [hvl]; exact hb), if_pos ⟨by omega, by rw [hvl]; omega⟩]
                congr 1; omega
              · rw [List.getElem?_eq_none (by rw [hvl]; omega)]
            rw [this]; exact hrep
          · rw [List.getElem?_set_ne (fun e => hj e.symm)] at he
            obtain ⟨k1, k2⟩ := h.2 j e he
            refine ⟨k1, ?_⟩
            have : ((setFrom (i * sz) (ρ p.2).cells.toList vs).drop (j * sz)).take sz = (vs.drop (j * sz)).take sz := by
              apply List.ext_getElem?
              intro k
              rw [List.getElem?_take, List.getElem?_take]
              split
              · rename_i hk
                rw [List.getElem?_drop, List.getElem?_drop, setFrom_get _ _ _ (by rw [hvl]; exact hb), if_neg]
                rw [hvl]
                rintro ⟨h1, h2⟩
                rcases Nat.lt_or_gt_of_ne hj with hlt | hgt
                · have : (j + 1) * sz ≤ i * sz := Nat.mul_le_mul_right _ hlt
                  rw [Nat.add_mul] at this; omega
                · have : (i + 1) * sz ≤ j * sz := Nat.mul_le_mul_right _ hgt
                  rw [Nat.add_mul] at this; omega
              · rfl
            rw [this]; exact k2
        obtain ⟨us, k1, k2, k3, k4⟩ := fill_elems h0 ρ ps qs _ _ out (by simp at hp; exact hp.2) (fun j a b ha hb => hr (j + 1) a b (by simpa using ha) (by simpa using hb))
          (by rw [List.length_set, setFrom_length _ _ _ (by rw [hvl]; exact hb)]; exact hl) hnew hs
        refine ⟨us, ?_, ?_, by rw [k3, List.length_set], k4⟩
        · rw [List.map_cons, fill_cons (off := i * sz) (size := sz) (by rw [hpi]) hsz (by simp; omega)]
          exact k1
        · rw [k2, setFrom_length _ _ _ (by rw [hvl]; exact hb)]
      · exact absurd hs (by simp)
    · exact absurd hs (by simp)

theorem buildParts_ok (hV : VR M0 M β V a.tmps w) : ∀ {ps : List (Nat × Operand)} {qs : List (Nat × AV)}, buildParts V ps = some qs →
    ps.map (·.1) = qs.map (·.1) ∧ ∀ (j : Nat) (p : Nat × Operand) (q : Nat × AV), ps[j]? = some p → qs[j]? = some q → AVR β w M q.2 (a.eval p.2)
  | [], qs, h => by simp only [buildParts, Option.some.injEq] at h; subst h; exact ⟨rfl, fun j p q hp => by simp at hp⟩
  | (i, o) :: ps, qs, h => by
    simp only [buildParts] at h
    split at h
    · rename_i v l hv hl
      injection h with h; subst h
      obtain ⟨k1, k2⟩ := buildParts_ok hV hl
      refine ⟨by simp [k1], fun j p q hp hq => ?_⟩
      cases j with
      | zero => simp at hp hq; subst hp; subst hq; exact eval_ok hV hv
      | succ j => exact k2 j p q (by simpa using hp) (by simpa using hq)
    · exact absurd h (by simp)

theorem gives_binOp {op : BinOp} {t ty : TypeId} {x y : Operand} {ρ : Operand → Value} {c : Value} (hg : (eqGuard op t x y (ρ x) (ρ y)).run P w = .ok () w) (h : (Go.binOp op t (ρ x) (ρ y)).run P w = .ok c w) :
    Gives P ρ (.binOp op t x y ty) w c w :=
  fun oo ho => by simp [execOp, ho, hg, h]

theorem guard_free {op : BinOp} {t : TypeId} {x y : Operand} {c d : Value} (h : (∀ cs, c ≠ .agg cs) ∧ c ≠ .nilIface) : (eqGuard op t x y c d).run P w = .ok () w := by
  unfold eqGuard
  cases c
  case agg cs => exact absurd rfl (h.1 cs)
  case nilIface => exact absurd rfl h.2
  all_goals (cases op <;> simp)

theorem eqFs_ok {g : TypeId → List PV → List PV → Option Bool} {d : Nat} {xs ys : List PV} {vs us : Array Value} (hx : RepS w M xs vs.toList) (hy : RepS w M ys us.toList)
    (hg : ∀ (t : TypeId) (as bs : List PV) (r : Bool) (a b : Value), okT P t = true → g t as bs = some r → (∃ l : List Value, RepS w M as l ∧ (if aggT P t then a = .agg l.toArray else l = [a])) →
      (∃ l : List Value, RepS w M bs l ∧ (if aggT P t then b = .agg l.toArray else l = [b])) → (Op.equalIn d t a b).run P w = .ok r w)
    (hl : ∀ (t : TypeId) (as bs : List PV) (r : Bool), g t as bs = some r → aggT P t = false → as.length = 1 ∧ bs.length = 1) :
    ∀ (fs : List Field) (r : Bool), eqFs P g xs ys fs = some r → (Op.eqFields d vs us fs).run P w = .ok r w
  | [], r, h => by simp only [eqFs, Option.some.injEq] at h; subst h; simp [Op.eqFields]
  | f :: fs, r, h => by
    simp only [eqFs] at h
    split at h
    · exact absurd h (by simp)
    · rename_i hc
      have hn : ¬ f.name = "_" := fun e => hc (.inl e)
      have ht : okT P f.type = true := by
        cases e : okT P f.type
        · exact absurd (.inr e) hc
        · rfl
      split at h
      · rename_i p q hp hq
        injection h with h; subst h
        have ih := eqFs_ok hx hy hg hl fs q hq
        have part1 : ∀ (as : List PV) (cs : Array Value), RepS w M as cs.toList → (aggT P f.type = false → ((as.drop f.offset).take (sizeT P f.type)).length = 1) →
            ∃ c, (part f.type cs f.offset).run P w = .ok c w ∧ ∃ l : List Value, RepS w M ((as.drop f.offset).take (sizeT P f.type)) l ∧ (if aggT P f.type then c = .agg l.toArray else l = [c]) := by
          intro as cs hr hone
          have hd := RepS.take (sizeT P f.type) (RepS.drop f.offset hr)
          rw [run_part ht]
          cases e : aggT P f.type with
          | true =>
            refine ⟨_, rfl, _, hd, ?_⟩
            simp only [if_true]
            congr 1
            apply Array.ext'
            simp [Array.toList_extract, List.extract_eq_take_drop]
          | false =>
            have h1 : ((cs.toList.drop f.offset).take (sizeT P f.type)).length = 1 := by rw [hd.length]; exact hone e
            obtain ⟨c, hc⟩ := List.length_eq_one_iff.1 h1
            have hc0 : cs[f.offset]? = some c := by
              have : ((cs.toList.drop f.offset).take (sizeT P f.type))[0]? = some c := by rw [hc]; rfl
              rw [List.getElem?_take] at this
              split at this
              · rw [List.getElem?_drop] at this; simpa using this
              · exact absurd this (by simp)
            simp only [Bool.false_eq_true, if_false, hc0]
            exact ⟨c, rfl, _, hd, hc⟩
        obtain ⟨a, a1, a2⟩ := part1 xs vs hx (fun e => (hl _ _ _ _ hp e).1)
        obtain ⟨b, b1, b2⟩ := part1 ys us hy (fun e => (hl _ _ _ _ hp e).2)
        have he := hg f.type _ _ p a b ht hp a2 b2
        simp only [Op.eqFields, hn, ne_eq, not_false_eq_true, if_true, Sem.run_bind, a1, b1, he, Result.andThen_ok]
        cases p
        · simp
        · simpa using ih
      · exact absurd h (by simp)

theorem eqV_len : ∀ (n : Nat) (t : TypeId) (as bs : List PV) (r : Bool), eqV P n t as bs = some r → aggT P t = false → as.length = 1 ∧ bs.length = 1
  | 0, _, _, _, _, h, _ => by simp [eqV] at h
  | n + 1, t, as, bs, r, h, ha => by
    simp only [eqV] at h
    split at h
    · rename_i fs hfs
      simp [aggT, hfs] at ha
    · split at h
      · exact ⟨rfl, rfl⟩
      · exact absurd h (by simp)
    · split at h
      · exact ⟨rfl, rfl⟩
      · exact absurd h (by simp)
    · split at h
      · exact ⟨rfl, rfl⟩
      · exact absurd h (by simp)
    · exact absurd h (by simp)

theorem eqV_ok : ∀ (n d : Nat) (t : TypeId) (as bs : List PV) (r : Bool) (a b : Value), eqV P n t as bs = some r → (∃ l : List Value, RepS w M as l ∧ (if aggT P t then a = .agg l.toArray else l = [a])) →
      (∃ l : List Value, RepS w M bs l ∧ (if aggT P t then b = .agg l.toArray else l = [b])) → (Op.equalIn (d + n) t a b).run P w = .ok r w
  | 0, d, t, as, bs, r, a, b, h, _, _ => by simp [eqV] at h
  | n + 1, d, t, as, bs, r, a, b, h, ⟨l, hl, hla⟩, ⟨m, hm, hmb⟩ => by
    simp only [eqV] at h
    have one : ∀ {x : PV} {l : List Value} {c : Value}, RepS w M [x] l → l = [c] → Rep w M x c := by
      intro x l c h1 h2
      subst h2
      simp only [RepS] at h1
      obtain ⟨d, r, h3, _, h4, _⟩ := h1
      injection h3 with h3; subst h3; exact h4
    split at h
    · rename_i fs hfs
      split at h
      · exact absurd h (by simp)
      · rename_i hs
        have ha : aggT P t = true := by simp [aggT, hfs]
        rw [ha] at hla hmb
        simp only [if_true] at hla hmb
        subst hla; subst hmb
        have hf : P.fieldsOf t = fs := by simp [Program.fieldsOf, hfs]
        rw [show d + (n + 1) = (d + n) + 1 from rfl, run_equalIn_struct w (d + n) t _ _ (by rw [hf]; exact hfs) (by simpa using hs), hf]
        exact eqFs_ok (by simpa using hl) (by simpa using hm) (fun t as bs r a b _ hg ha hb => eqV_ok n d t as bs r a b hg ha hb) (eqV_len n) _ _ h
    · rename_i k hk
      have ha : aggT P t = false := by simp [aggT, hk]
      rw [ha] at hla hmb
      simp only [Bool.false_eq_true, if_false] at hla hmb
      split at h
      · split at h
        · rename_i e
          subst e
          injection h with h; subst h
          have h1 := one hl hla
          have h2 := one hm hmb
          simp only [Rep] at h1 h2
          subst h1; subst h2
          exact run_equalIn_int w (d + n) t _ k _ _ hk
        · exact absurd h (by simp)
      · exact absurd h (by simp)
    · rename_i hk
      have ha : aggT P t = false := by simp [aggT, hk]
      rw [ha] at hla hmb
      simp only [Bool.false_eq_true, if_false] at hla hmb
      split at h
      · injection h with h; subst h
        have h1 := one hl hla
        have h2 := one hm hmb
        simp only [Rep] at h1 h2
        subst h1; subst h2
        exact run_equalIn_bool w (d + n) t _ _ hk
      · exact absurd h (by simp)
    · rename_i hk
      have ha : aggT P t = false := by simp [aggT, hk]
      rw [ha] at hla hmb
      simp only [Bool.false_eq_true, if_false] at hla hmb
      split at h
      · injection h with h; subst h
        have h1 := one hl hla
        have h2 := one hm hmb
        simp only [Rep] at h1 h2
        subst h1; subst h2
        rename_i p q
        have := run_equalIn_string (P := P) w (d + n) t ⟨p.toArray⟩ ⟨q.toArray⟩ hk
        rw [ba_toList, ba_toList] at this
        exact this
      · exact absurd h (by simp)
    · exact absurd h (by simp)

theorem ptrT_pointee {t e : TypeId} (h : ptrT P t = some e) : P.underlying t = some (.pointer (P.pointee t)) := by
  unfold ptrT at h
  split at h
  · rename_i d hd
    simp [Program.pointee, hd]
  · exact absurd h (by simp)

/-- Two values and an operator. -/
theorem vbin_ok {op : BinOp} {t : TypeId} {x y : Operand} {av bv : AV} {r : PV} {c d : Value} (h : vbin P op t av bv = some r) (hx : AVR β w M av c) (hy : AVR β w M bv d) :
    (eqGuard op t x y c d).run P w = .ok () w ∧ ∃ e, (Go.binOp op t c d).run P w = .ok e w ∧ Rep w M r e := by
  unfold vbin at h
  split at h
  · rename_i k a k' b
    simp only [AVR, Rep] at hx hy
    subst hx; subst hy
    refine ⟨guard_free ⟨fun cs e => by simp at e, by simp⟩, ?_⟩
    split at h
    · exact shiftOp_ok t (.inl rfl) h
    · exact shiftOp_ok t (.inr rfl) h
    · rename_i h1 h2
      split at h
      · rename_i e; subst e
        exact intOp_ok t ⟨fun e => h1 e, fun e => h2 e⟩ h
      · exact absurd h (by simp)
  · simp only [AVR, Rep] at hx hy
    subst hx; subst hy
    exact ⟨guard_free ⟨fun cs e => by simp at e, by simp⟩, strOp_ok t h⟩
  · simp only [AVR, Rep] at hx hy
    subst hx; subst hy
    refine ⟨guard_free ⟨fun cs e => by simp at e, by simp⟩, ?_⟩
    split at h
    · rename_i ht
      have ht : P.underlying t = some .bool := by
        unfold boolT at ht
        split at ht
        · assumption
        · exact absurd ht (by simp)
      have he := fun a b => run_equalIn_bool (P := P) w 9999 t a b ht
      split at h
      · injection h with h; subst h
        rename_i p q hh _
        refine ⟨.bool (p == q), ?_, by simp only [Rep]⟩
        simp [Go.binOp, Op.equal, Op.maxDepth, he]
      · injection h with h; subst h
        rename_i p q hh _
        refine ⟨.bool (!(p == q)), ?_, by simp only [Rep]⟩
        simp [Go.binOp, Op.equal, Op.maxDepth, he]
      · exact absurd h (by simp)
    · exact absurd h (by simp)
  · simp only [AVR, Rep] at hx hy
    obtain ⟨cs, rfl, hx⟩ := hx
    obtain ⟨ds, rfl, hy⟩ := hy
    split at h
    · rename_i hc
      refine ⟨run_eqGuard_agg w op t x y cs ds hc.1, ?_⟩
      split at h
      · rename_i r' hr
        have he := eqV_ok (w := w) (M := M) (P := P) 8 9992 t _ _ _ (.agg cs) (.agg ds) hr ⟨_, hx, by simp [hc.2]⟩ ⟨_, hy, by simp [hc.2]⟩
        split at h
        · injection h with h; subst h
          refine ⟨.bool r', ?_, by simp only [Rep]⟩
          rw [run_eql_struct, he]; rfl
        · injection h with h; subst h
          refine ⟨.bool (!r'), ?_, by simp only [Rep]⟩
          rw [run_neq_struct, he]; rfl
        · exact absurd h (by simp)
      · exact absurd h (by simp)
    · exact absurd h (by simp)
  · simp only [AVR, Rep] at hx hy
    obtain ⟨b, o, _, rfl⟩ := hx
    subst hy
    refine ⟨guard_free ⟨fun cs e => by simp at e, by simp⟩, ?_⟩
    split at h
    · rename_i ht
      obtain ⟨e, he⟩ := Option.isSome_iff_exists.1 ht
      have hu : P.underlying t = some (.pointer (P.pointee t)) := ptrT_pointee he
      split at h
      · injection h with h; subst h
        exact ⟨.bool false, run_eql_pointer_nil w t _ hu, by simp only [Rep]⟩
      · injection h with h; subst h
        exact ⟨.bool true, run_neq_pointer_nil w t _ hu, by simp only [Rep]⟩
      · exact absurd h (by simp)
    · exact absurd h (by simp)
  · simp only [AVR, Rep] at hx hy
    subst hx; subst hy
    refine ⟨guard_free ⟨fun cs e => by simp at e, by simp⟩, ?_⟩
    split at h
    · rename_i ht
      obtain ⟨e, he⟩ := Option.isSome_iff_exists.1 ht
      have hu : P.underlying t = some (.pointer (P.pointee t)) := ptrT_pointee he
      split at h
      · injection h with h; subst h
        exact ⟨.bool true, run_eql_pointer_nil w t _ hu, by simp only [Rep]⟩
      · injection h with h; subst h
        exact ⟨.bool false, run_neq_pointer_nil w t _ hu, by simp only [Rep]⟩
      · exact absurd h (by simp)
    · exact absurd h (by simp)
  · exact absurd h (by simp)

end ops

end Go.Proofs.Ytmjkdghcfihfiaa.Vm
