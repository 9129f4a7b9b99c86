/-
  How a state of the abstract machine stands to the model's world.
-/
import Derived.Test.YtmjkdghcfihfiaaVm
import Derived.WalkKit
import Derived.Below
namespace Go.Proofs.Ytmjkdghcfihfiaa.Vm
open Go

/-- A set of cells: block, offset. -/
abbrev Cells := Nat → Nat → Prop

def at_ (w : World) (b o : Nat) : Option Value := w.cell? ⟨b, o, none⟩
def frz_ (w : World) (b o : Nat) : Bool := w.frozen? ⟨b, o, none⟩

/-- From a place on cells hold values that nobody writes. -/
def Holds (w : World) (M : Cells) (b o : Nat) (vs : List Value) : Prop :=
  ∀ (j : Nat) (c : Value), vs[j]? = some c → at_ w b (o + j) = some c ∧ ¬ M b (o + j)

mutual
/-- A value of the model is a plain value: its memory lies outside of what may be written. -/
def Rep (w : World) (M : Cells) : PV → Value → Prop
  | .int k n, c => c = .int k n
  | .bool b, c => c = .bool b
  | .str s, c => c = .string ⟨s.toArray⟩
  | .sl es, c => ∃ (A : Option Addr) (cap : Nat), c = .slice A es.length cap ∧ es.length ≤ cap ∧ (A = none → cap = 0) ∧ (∀ a, A = some a → es ≠ [] → a.spot = none) ∧ ∃ sz, RepRow w M A sz 0 es
  | .agg fs, c => ∃ cs : Array Value, c = .agg cs ∧ RepS w M fs cs.toList
  | .fn f caps, c => ∃ cs : Array Value, c = .func (.func f) #[] cs ∧ RepS w M caps cs.toList
  | .iptr cs, c => ∃ b o vs, c = .pointer (some ⟨b, o, none⟩) ∧ RepS w M cs vs ∧ Holds w M b o vs
  | .nilIface, c => c = .nilIface
  | .nilPtr, c => c = .pointer none
  | .nilFn, c => c = .nilFunc
  | .nilSlc, c => c = .slice none 0 0
/-- Leaf by leaf. -/
def RepS (w : World) (M : Cells) : List PV → List Value → Prop
  | [], vs => vs = []
  | x :: xs, vs => ∃ c r, vs = c :: r ∧ c.oneCell' = true ∧ Rep w M x c ∧ RepS w M xs r
/-- Element by element, from number i on. -/
def RepRow (w : World) (M : Cells) (A : Option Addr) (sz : Nat) : Nat → List (List PV) → Prop
  | _, [] => True
  | i, e :: es => (∃ a vs, A = some a ∧ e.length = sz ∧ RepS w M e vs ∧ Holds w M a.block (a.off + i * sz) vs) ∧ RepRow w M A sz (i + 1) es
end

section mono
variable {w w' : World} {M M' : Cells}

theorem Holds.mono (h : ∀ b o v, at_ w b o = some v → ¬ M b o → at_ w' b o = some v ∧ ¬ M' b o) {b o : Nat} {vs : List Value} (k : Holds w M b o vs) : Holds w' M' b o vs :=
  fun j c hj => h _ _ _ (k j c hj).1 (k j c hj).2

mutual
theorem Rep.mono (h : ∀ b o v, at_ w b o = some v → ¬ M b o → at_ w' b o = some v ∧ ¬ M' b o) : ∀ (x : PV) (c : Value), Rep w M x c → Rep w' M' x c
  | .int _ _, _, k => by simpa only [Rep] using k
  | .bool _, _, k => by simpa only [Rep] using k
  | .str _, _, k => by simpa only [Rep] using k
  | .sl es, c, k => by
    simp only [Rep] at k ⊢
    obtain ⟨A, cap, h1, h2, h3, h4, sz, h5⟩ := k
    exact ⟨A, cap, h1, h2, h3, h4, sz, RepRow.mono h A sz es 0 h5⟩
  | .agg fs, c, k => by
    simp only [Rep] at k ⊢
    obtain ⟨cs, h1, h2⟩ := k
    exact ⟨cs, h1, RepS.mono h fs _ h2⟩
  | .fn f caps, c, k => by
    simp only [Rep] at k ⊢
    obtain ⟨cs, h1, h2⟩ := k
    exact ⟨cs, h1, RepS.mono h caps _ h2⟩
  | .iptr cs, c, k => by
    simp only [Rep] at k ⊢
    obtain ⟨b, o, vs, h1, h2, h3⟩ := k
    exact ⟨b, o, vs, h1, RepS.mono h cs _ h2, h3.mono h⟩
  | .nilIface, _, k => by simpa only [Rep] using k
  | .nilPtr, _, k => by simpa only [Rep] using k
  | .nilFn, _, k => by simpa only [Rep] using k
  | .nilSlc, _, k => by simpa only [Rep] using k
theorem RepS.mono (h : ∀ b o v, at_ w b o = some v → ¬ M b o → at_ w' b o = some v ∧ ¬ M' b o) : ∀ (xs : List PV) (vs : List Value), RepS w M xs vs → RepS w' M' xs vs
  | [], _, k => by simpa only [RepS] using k
  | x :: xs, vs, k => by
    simp only [RepS] at k ⊢
    obtain ⟨c, r, h1, h2, h3, h4⟩ := k
    exact ⟨c, r, h1, h2, Rep.mono h x c h3, RepS.mono h xs r h4⟩
theorem RepRow.mono (h : ∀ b o v, at_ w b o = some v → ¬ M b o → at_ w' b o = some v ∧ ¬ M' b o) (A : Option Addr) (sz : Nat) : ∀ (es : List (List PV)) (i : Nat), RepRow w M A sz i es → RepRow w' M' A sz i es
  | [], _, _ => by simp only [RepRow]
  | e :: es, i, k => by
    simp only [RepRow] at k ⊢
    obtain ⟨⟨a, vs, h1, h2, h3, h4⟩, h5⟩ := k
    exact ⟨⟨a, vs, h1, h2, RepS.mono h e vs h3, h4.mono h⟩, RepRow.mono h A sz es (i + 1) h5⟩
end
end mono

theorem RepS.length {w : World} {M : Cells} : ∀ {xs : List PV} {vs : List Value}, RepS w M xs vs → vs.length = xs.length
  | [], _, k => by simp only [RepS] at k; simp [k]
  | _ :: xs, _, k => by
    simp only [RepS] at k
    obtain ⟨c, r, rfl, _, _, h⟩ := k
    simp [RepS.length h]

theorem RepS.get {w : World} {M : Cells} : ∀ {xs : List PV} {vs : List Value}, RepS w M xs vs → ∀ (j : Nat) (x : PV), xs[j]? = some x → ∃ c, vs[j]? = some c ∧ c.oneCell' = true ∧ Rep w M x c
  | [], _, _, j, x, h => by simp at h
  | y :: xs, _, k, j, x, h => by
    simp only [RepS] at k
    obtain ⟨c, r, rfl, h1, h2, h3⟩ := k
    cases j with
    | zero => simp at h; subst h; exact ⟨c, rfl, h1, h2⟩
    | succ j => simpa using RepS.get h3 j x (by simpa using h)

theorem RepS.append {w : World} {M : Cells} : ∀ {xs ys : List PV} {vs us : List Value}, RepS w M xs vs → RepS w M ys us → RepS w M (xs ++ ys) (vs ++ us)
  | [], _, _, _, h, k => by simp only [RepS] at h; subst h; simpa using k
  | x :: xs, ys, _, us, h, k => by
    simp only [RepS] at h
    obtain ⟨c, r, rfl, h1, h2, h3⟩ := h
    simp only [List.cons_append, RepS]
    exact ⟨c, r ++ us, rfl, h1, h2, RepS.append h3 k⟩

theorem RepS.drop {w : World} {M : Cells} : ∀ (n : Nat) {xs : List PV} {vs : List Value}, RepS w M xs vs → RepS w M (xs.drop n) (vs.drop n)
  | 0, _, _, h => by simpa using h
  | n + 1, [], _, h => by simp only [RepS] at h; subst h; simp [RepS]
  | n + 1, x :: xs, _, h => by
    simp only [RepS] at h
    obtain ⟨c, r, rfl, _, _, h3⟩ := h
    simpa using RepS.drop n h3

theorem RepS.take {w : World} {M : Cells} : ∀ (n : Nat) {xs : List PV} {vs : List Value}, RepS w M xs vs → RepS w M (xs.take n) (vs.take n)
  | 0, _, _, h => by simp [RepS]
  | n + 1, [], _, h => by simp only [RepS] at h; subst h; simp [RepS]
  | n + 1, x :: xs, _, h => by
    simp only [RepS] at h
    obtain ⟨c, r, rfl, h1, h2, h3⟩ := h
    simp only [List.take_succ_cons, RepS]
    exact ⟨c, r.take n, rfl, h1, h2, RepS.take n h3⟩

theorem RepS.one {w : World} {M : Cells} : ∀ {xs : List PV} {vs : List Value}, RepS w M xs vs → ∀ c ∈ vs, c.oneCell' = true
  | [], _, h, c, hc => by simp only [RepS] at h; subst h; simp at hc
  | x :: xs, _, h, c, hc => by
    simp only [RepS] at h
    obtain ⟨d, r, rfl, h1, _, h3⟩ := h
    rcases List.mem_cons.1 hc with rfl | hc
    · exact h1
    · exact RepS.one h3 c hc

theorem RepRow.get {w : World} {M : Cells} {A : Option Addr} {sz : Nat} : ∀ {es : List (List PV)} {i : Nat}, RepRow w M A sz i es → ∀ (j : Nat) (e : List PV), es[j]? = some e →
    ∃ a vs, A = some a ∧ e.length = sz ∧ RepS w M e vs ∧ Holds w M a.block (a.off + (i + j) * sz) vs
  | [], _, _, j, e, h => by simp at h
  | f :: es, i, k, j, e, h => by
    simp only [RepRow] at k
    cases j with
    | zero => simp at h; subst h; simpa using k.1
    | succ j =>
      have := RepRow.get k.2 j e (by simpa using h)
      rwa [show i + 1 + j = i + (j + 1) from by omega] at this

theorem RepRow.of {w : World} {M : Cells} {A : Option Addr} {sz : Nat} : ∀ {es : List (List PV)} {i : Nat}, (∀ (j : Nat) (e : List PV), es[j]? = some e →
    ∃ a vs, A = some a ∧ e.length = sz ∧ RepS w M e vs ∧ Holds w M a.block (a.off + (i + j) * sz) vs) → RepRow w M A sz i es
  | [], _, _ => by simp only [RepRow]
  | f :: es, i, k => by
    simp only [RepRow]
    refine ⟨by simpa using k 0 f rfl, RepRow.of fun j e h => ?_⟩
    have := k (j + 1) e (by simpa using h)
    rwa [show i + (j + 1) = i + 1 + j from by omega] at this

/-- Where an object lies: its first cell; how long (elements, or cells of a box); elements that have room; cells of an element; how many cells are its own; a further block of its own. -/
structure Loc where
  base : Option (Nat × Nat)
  len : Nat
  cap : Nat
  sz : Nat
  k : Nat
  ext : Option (Nat × Nat)

def Loc.F (l : Loc) : Cells := fun b j => (∃ o, l.base = some (b, o) ∧ o ≤ j ∧ j < o + l.k) ∨ (∃ n, l.ext = some (b, n) ∧ j < n)
def Loc.hdr (l : Loc) : Value := match l.base with
  | none => .slice none 0 0
  | some (b, o) => .slice (some ⟨b, o, none⟩) l.len l.cap

/-- As a pointer or a header sees it. -/
def Loc.same (l l' : Loc) : Prop := l'.base = l.base ∧ l'.len = l.len ∧ l'.cap = l.cap ∧ l'.sz = l.sz
theorem Loc.same_of {l l' : Loc} (h : l' = l) : Loc.same l l' := by subst h; exact ⟨rfl, rfl, rfl, rfl⟩
theorem Loc.same.hdr {l l' : Loc} (h : Loc.same l l') : l'.hdr = l.hdr := by
  obtain ⟨h1, h2, h3, h4⟩ := h
  simp only [Loc.hdr, h1, h2, h3]
theorem Loc.same.trans {l l' l'' : Loc} (h : Loc.same l l') (k : Loc.same l' l'') : Loc.same l l'' :=
  ⟨k.1.trans h.1, k.2.1.trans h.2.1, k.2.2.1.trans h.2.2.1, k.2.2.2.trans h.2.2.2⟩

mutual
def AVR (β : Nat → Loc) (w : World) (M : Cells) : AV → Value → Prop
  | .undef, _ => True
  | .pv x, c => Rep w M x c
  | .nilSl, c => c = .slice none 0 0
  | .own id, c => c = (β id).hdr
  | .part id lo n, c => ∃ (A : Option Addr) (cap : Nat), c = .slice A n cap ∧ n ≤ cap ∧ (A = none → cap = 0) ∧ (∀ a, A = some a → a.spot = none) ∧ lo + n ≤ (β id).len ∧
      (0 < n → ∃ b o, (β id).base = some (b, o) ∧ A = some ⟨b, o + lo * (β id).sz, none⟩)
  | .addr id i off, c => ∃ b o, (β id).base = some (b, o) ∧ c = .pointer (some ⟨b, o + i * (β id).sz + off, none⟩)
  | .tup vs, c => ∃ cs : Array Value, c = .tuple cs ∧ AVRs β w M vs cs.toList
  | .agg vs, c => ∃ cs : Array Value, c = .agg cs ∧ AVRs β w M vs cs.toList ∧ ∀ d ∈ cs.toList, d.oneCell' = true
  | .clo f a b, c => ∃ x y : Array Value, c = .func (.func f) x y ∧ AVRs β w M a x.toList ∧ AVRs β w M b y.toList
def AVRs (β : Nat → Loc) (w : World) (M : Cells) : List AV → List Value → Prop
  | [], vs => vs = []
  | x :: xs, vs => ∃ c r, vs = c :: r ∧ AVR β w M x c ∧ AVRs β w M xs r
end

mutual
/-- The numbers of objects that a value leads to. -/
def AV.refs : AV → List Nat
  | .own i => [i]
  | .part i _ _ => [i]
  | .addr i _ _ => [i]
  | .tup vs => AV.refsL vs
  | .agg vs => AV.refsL vs
  | .clo _ a b => AV.refsL a ++ AV.refsL b
  | .undef => []
  | .pv _ => []
  | .nilSl => []
def AV.refsL : List AV → List Nat
  | [] => []
  | v :: r => AV.refs v ++ AV.refsL r
end

section mono
variable {w w' : World} {M M' : Cells} {β β' : Nat → Loc}
mutual
theorem AVR.mono (h : ∀ b o v, at_ w b o = some v → ¬ M b o → at_ w' b o = some v ∧ ¬ M' b o) : ∀ (x : AV) (c : Value), (∀ i ∈ x.refs, (β i).same (β' i)) → AVR β w M x c → AVR β' w' M' x c
  | .undef, _, _, _ => by simp only [AVR]
  | .pv x, c, _, k => by simp only [AVR] at k ⊢; exact Rep.mono h x c k
  | .nilSl, _, _, k => by simpa only [AVR] using k
  | .own i, c, hb, k => by simp only [AVR] at k ⊢; rw [(hb i (by simp [AV.refs])).hdr]; exact k
  | .part i lo n, c, hb, k => by
    simp only [AVR] at k ⊢
    obtain ⟨h1, h2, h3, h4⟩ := hb i (by simp [AV.refs])
    rw [h1, h2, h4]; exact k
  | .addr i a b, c, hb, k => by
    simp only [AVR] at k ⊢
    obtain ⟨h1, h2, h3, h4⟩ := hb i (by simp [AV.refs])
    rw [h1, h4]; exact k
  | .tup vs, c, hb, k => by
    simp only [AVR] at k ⊢
    obtain ⟨cs, h1, h2⟩ := k
    exact ⟨cs, h1, AVRs.mono h vs _ (fun i hi => hb i (by simpa only [AV.refs] using hi)) h2⟩
  | .agg vs, c, hb, k => by
    simp only [AVR] at k ⊢
    obtain ⟨cs, h1, h2, h3⟩ := k
    exact ⟨cs, h1, AVRs.mono h vs _ (fun i hi => hb i (by simpa only [AV.refs] using hi)) h2, h3⟩
  | .clo f a b, c, hb, k => by
    simp only [AVR] at k ⊢
    obtain ⟨x, y, h1, h2, h3⟩ := k
    exact ⟨x, y, h1, AVRs.mono h a _ (fun i hi => hb i (by simp only [AV.refs, List.mem_append]; exact .inl hi)) h2, AVRs.mono h b _ (fun i hi => hb i (by simp only [AV.refs, List.mem_append]; exact .inr hi)) h3⟩
theorem AVRs.mono (h : ∀ b o v, at_ w b o = some v → ¬ M b o → at_ w' b o = some v ∧ ¬ M' b o) : ∀ (xs : List AV) (cs : List Value), (∀ i ∈ AV.refsL xs, (β i).same (β' i)) → AVRs β w M xs cs → AVRs β' w' M' xs cs
  | [], _, _, k => by simpa only [AVRs] using k
  | x :: xs, cs, hb, k => by
    simp only [AVRs] at k ⊢
    obtain ⟨c, r, h1, h2, h3⟩ := k
    exact ⟨c, r, h1, AVR.mono h x c (fun i hi => hb i (by simp only [AV.refsL, List.mem_append]; exact .inl hi)) h2, AVRs.mono h xs r (fun i hi => hb i (by simp only [AV.refsL, List.mem_append]; exact .inr hi)) h3⟩
end
end mono

/-- A strings.Builder: two cells, the first nil or its own address, the second its bytes' row. -/
def Rng (w : World) (g cap n : Nat) : Prop := 0 < cap ∧ ∃ (cur : Array Value) (lo hi : Nat), w.heap[g]? = some (.cells cur u8Ty (lo, hi)) ∧ cur.size = cap ∧ (lo = hi ∨ hi ≤ n)
def BldR (w : World) (l : Loc) (bs : List UInt8) : Prop :=
  ∃ b o A cap p, l.base = some (b, o) ∧ (l.k = 2 ∧ o = 0 ∧ w.shape? b = some (bldTy, 2)) ∧ at_ w b o = some p ∧ frz_ w b o = false ∧ (p = .pointer none ∨ p = .pointer (some ⟨b, o, none⟩)) ∧
    at_ w b (o + 1) = some (.slice A bs.length cap) ∧ frz_ w b (o + 1) = false ∧
    ((A = none ∧ bs = [] ∧ cap = 0 ∧ l.ext = none) ∨ ∃ g, A = some ⟨g, 0, none⟩ ∧ l.ext = some (g, cap) ∧ (bs.length ≤ cap ∧ Rng w g cap bs.length) ∧
      (∀ j, j < cap → ∃ n : Int, at_ w g j = some (.int .u8 n)) ∧ (∀ j, bs.length ≤ j → j < cap → frz_ w g j = false) ∧
      (∀ j c, bs[j]? = some c → at_ w g j = some (.int .u8 c.toNat)))

def ObjR (β : Nat → Loc) (w : World) (M : Cells) (l : Loc) : Obj → Prop
  | .box cs => ∃ b o, l.base = some (b, o) ∧ l.k = cs.length ∧ l.ext = none ∧
      ∀ j v, cs[j]? = some v → ∃ c, at_ w b (o + j) = some c ∧ frz_ w b (o + j) = false ∧ c.oneCell' = true ∧ AVR β w M v c
  | .buf sz es => l.sz = sz ∧ 0 < sz ∧ l.len = es.length ∧ l.len ≤ l.cap ∧ l.k = l.cap * sz ∧ l.ext = none ∧ (l.base = none → l.cap = 0) ∧
      (∀ e ∈ es, e.length = sz) ∧ ∀ b o, l.base = some (b, o) →
        (∀ j, j < l.k → (∃ c, at_ w b (o + j) = some c) ∧ frz_ w b (o + j) = false) ∧
        ∀ i e, es[i]? = some e → ∃ vs, RepS w M e vs ∧ ∀ j c, vs[j]? = some c → at_ w b (o + i * sz + j) = some c
  | .bld bs => BldR w l bs

/-- A view stands so to the slots and the world. M0: cells that others may write; M: these and all that is owned here. -/
structure VR (M0 M : Cells) (β : Nat → Loc) (V : View) (tm : Array Value) (w : World) : Prop where
  sup : ∀ b j, M0 b j → M b j
  old : ∀ b j, M b j → b < w.heap.size
  slots : ∀ t, AVR β w M (V.get t) (tm.getD t undef)
  objs : ∀ id o, V.obj id = some o → ObjR β w M (β id) o
  own : ∀ id o, V.obj id = some o → ∀ b j, (β id).F b j → M b j ∧ ¬ M0 b j
  disj : ∀ id id' o o', V.obj id = some o → V.obj id' = some o' → id ≠ id' → ∀ b j, (β id).F b j → ¬ (β id').F b j

def Obj.refs : Obj → List Nat
  | .box cs => AV.refsL cs
  | _ => []
/-- Whatever a view leads to is there. -/
def Closed (V : View) : Prop := (∀ t, ∀ i ∈ (V.get t).refs, ∃ o, V.obj i = some o) ∧ ∀ id o, V.obj id = some o → ∀ i ∈ o.refs, ∃ o', V.obj i = some o'

/-- From w to w' nothing has changed but cells of D, in old blocks. -/
structure Fr (D : Cells) (w w' : World) : Prop where
  os : w'.os = w.os
  tape : w'.tape = w.tape
  output : w'.output = w.output
  size : w.heap.size ≤ w'.heap.size
  block : ∀ b, b < w.heap.size → (∀ j v, at_ w b j = some v → ¬ D b j) → w'.heap[b]? = w.heap[b]?
  cell : ∀ b j, b < w.heap.size → ¬ D b j → at_ w' b j = at_ w b j ∧ frz_ w' b j = frz_ w b j
  shape : ∀ b T, w.shape? b = some T → w'.shape? b = some T

theorem at_heap {w w' : World} {b : Nat} (h : w'.heap[b]? = w.heap[b]?) (j : Nat) : at_ w' b j = at_ w b j := by
  unfold at_ World.cell?
  simp only [h]

theorem Fr.refl (D : Cells) (w : World) : Fr D w w := ⟨rfl, rfl, rfl, Nat.le_refl _, fun _ _ _ => rfl, fun _ _ _ _ => ⟨rfl, rfl⟩, fun _ _ h => h⟩

theorem Fr.trans {D E G : Cells} {a b c : World} (h : Fr D a b) (k : Fr E b c) (hD : ∀ x j, D x j → G x j) (hE : ∀ x j, E x j → G x j ∨ a.heap.size ≤ x) : Fr G a c where
  os := k.os.trans h.os
  tape := k.tape.trans h.tape
  output := k.output.trans h.output
  size := Nat.le_trans h.size k.size
  block x hx hn := by
    have h1 := h.block x hx (fun j v hv hj => hn j v hv (hD x j hj))
    refine (k.block x (Nat.lt_of_lt_of_le hx h.size) (fun j v hv hj => ?_)).trans h1
    rw [at_heap h1] at hv
    exact (hE x j hj).elim (hn j v hv) (fun hh => by omega)
  cell x j hx hn := by
    have h1 := h.cell x j hx (fun hj => hn (hD x j hj))
    have h2 := k.cell x j (Nat.lt_of_lt_of_le hx h.size) (fun hj => (hE x j hj).elim hn (fun hh => by omega))
    exact ⟨h2.1.trans h1.1, h2.2.trans h1.2⟩
  shape x T hx := k.shape x T (h.shape x T hx)

theorem Fr.mono {D E : Cells} {a b : World} (h : Fr D a b) (hD : ∀ x j, D x j → E x j) : Fr E a b :=
  h.trans (Fr.refl D b) hD (fun x j hj => .inl (hD x j hj))

theorem at_lt {w : World} {b o : Nat} {v : Value} (h : at_ w b o = some v) : b < w.heap.size := World.block_lt_of_cell? w ⟨b, o, none⟩ h

/-- What is not changed is still there. -/
theorem Fr.keeps {D : Cells} {w w' : World} (h : Fr D w w') {b o : Nat} {v : Value} (hv : at_ w b o = some v) (hd : ¬ D b o) : at_ w' b o = some v ∧ frz_ w' b o = frz_ w b o := by
  have := h.cell b o (at_lt hv) hd
  exact ⟨this.1.trans hv, this.2⟩

/-- Towards the kit's own word. -/
theorem Fr.below {w w' : World} (h : Fr (fun _ _ => False) w w') : Go.RowKit.Below w.heap.size w w' :=
  ⟨h.os, h.tape, h.output, h.size, fun b hb => h.block b hb (fun _ _ _ hj => hj)⟩

theorem shape_lt {w : World} {b : Nat} {T : TypeId × Nat} (h : w.shape? b = some T) : b < w.heap.size := by
  unfold World.shape? at h
  rcases Nat.lt_or_ge b w.heap.size with h1 | h1
  · exact h1
  · rw [Array.getElem?_eq_none h1] at h; exact absurd h (by simp)
theorem shape_setCell {w : World} {p : Addr} {v : Value} {b : Nat} {T : TypeId × Nat} (h : w.shape? b = some T) : (w.setCell p v).shape? b = some T := by
  unfold World.shape? at h ⊢
  simp only [World.setCell, Array.getElem?_modify]
  by_cases e : p.block = b
  · simp only [e, if_true]
    cases hb : w.heap[b]? with
    | none => rw [hb] at h; exact absurd h (by simp)
    | some o => rw [hb] at h; cases o <;> simp at h ⊢; rw [← h]; split <;> simp
  · simp only [e, if_false]; exact h
theorem Fr.alloc (w : World) (c : Array Value) (t : TypeId) (D : Cells) : Fr D w (w.alloc (.cells c t)) where
  os := rfl
  tape := rfl
  output := rfl
  size := by simp
  block b hb _ := Go.RowKit.Below.heap_alloc _ _ _ hb
  cell b j hb _ := ⟨World.cell?_alloc_lt _ _ _ hb, World.frozen?_alloc_old _ _ _ (Nat.ne_of_lt hb)⟩
  shape b T hT := by
    have hb : b < w.heap.size := shape_lt hT
    have := Go.RowKit.Below.heap_alloc w (.cells c t) _ hb
    unfold World.shape? at hT ⊢
    rw [this]; exact hT
theorem Fr.drew (w : World) (D : Cells) : Fr D w w.drew := ⟨rfl, rfl, rfl, Nat.le_refl _, fun _ _ _ => rfl, fun _ _ _ _ => ⟨rfl, rfl⟩, fun _ _ h => h⟩
theorem heap_setCell_none {w : World} {b o : Nat} {v : Value} (h : ∀ u, at_ w b o ≠ some u) : (w.setCell ⟨b, o, none⟩ v).heap[b]? = w.heap[b]? := by
  simp only [World.setCell, Array.getElem?_modify, if_true]
  cases hb : w.heap[b]? with
  | none => rfl
  | some ob =>
    cases ob <;> simp
    rename_i cs t fz
    refine Array.setIfInBounds_eq_of_size_le ?_
    rcases Nat.lt_or_ge o cs.size with h1 | h1
    · have h2 := h cs[o]
      simp only [at_, World.cell?, hb] at h2
      simp [h1] at h2
    · exact h1
theorem Fr.setCell (w : World) {D : Cells} {b o : Nat} (h : D b o) (v : Value) : Fr D w (w.setCell ⟨b, o, none⟩ v) where
  os := rfl
  tape := rfl
  output := rfl
  size := by simp
  block x hx hn := by
    by_cases e : x = b
    · subst e
      exact heap_setCell_none (fun u hu => hn o u hu h)
    · exact Go.RowKit.Below.heap_setCell _ _ _ _ e
  cell x j hx hn := by
    refine ⟨World.cell?_setCell_other _ _ _ _ ?_, World.frozen?_setCell _ _ _ _⟩
    intro e
    injection e with e1 e2
    subst e1; subst e2; exact hn h
  shape x T hT := shape_setCell hT

/-- A change of the world that touches nothing that is owned here, or read here, and nothing of others. -/
theorem VR.world {M0 M : Cells} {β : Nat → Loc} {V : View} {tm : Array Value} {w w' : World} (h : VR M0 M β V tm w) (hf : Fr (fun _ _ => False) w w') : VR M0 M β V tm w' := by
  have hk : ∀ b o v, at_ w b o = some v → ¬ M b o → at_ w' b o = some v ∧ ¬ M b o := fun b o v hv hm => ⟨(hf.keeps hv (fun x => x)).1, hm⟩
  refine ⟨h.sup, fun b j hb => Nat.lt_of_lt_of_le (h.old b j hb) hf.size, fun t => AVR.mono hk _ _ (fun _ _ => Loc.same_of rfl) (h.slots t), fun id o ho => ?_, h.own, h.disj⟩
  have := h.objs id o ho
  cases o with
  | box cs =>
    obtain ⟨b, o, h1, h2, h3, h4⟩ := this
    refine ⟨b, o, h1, h2, h3, fun j v hj => ?_⟩
    obtain ⟨c, k1, k2, k3, k4⟩ := h4 j v hj
    have kk := hf.keeps k1 (fun x => x)
    exact ⟨c, kk.1, kk.2.trans k2, k3, AVR.mono hk _ _ (fun _ _ => Loc.same_of rfl) k4⟩
  | buf sz es =>
    obtain ⟨h1, h2, h3, h4, h5, h6, h7, h8, h9⟩ := this
    refine ⟨h1, h2, h3, h4, h5, h6, h7, h8, fun b o hb => ?_⟩
    obtain ⟨k1, k2⟩ := h9 b o hb
    refine ⟨fun j hj => ?_, fun i e he => ?_⟩
    · obtain ⟨⟨c, hc⟩, hz⟩ := k1 j hj
      have kk := hf.keeps hc (fun x => x)
      exact ⟨⟨c, kk.1⟩, kk.2.trans hz⟩
    · obtain ⟨vs, hr, hc⟩ := k2 i e he
      exact ⟨vs, RepS.mono hk _ _ hr, fun j c hj => (hf.keeps (hc j c hj) (fun x => x)).1⟩
  | bld bs =>
    obtain ⟨b, o, A, cap, p, h1, h2, h3, h4, h5, h6, h7, h8⟩ := this
    have k1 := hf.keeps h3 (fun x => x)
    have k2 := hf.keeps h6 (fun x => x)
    refine ⟨b, o, A, cap, p, h1, ⟨h2.1, h2.2.1, hf.shape _ _ h2.2.2⟩, k1.1, k1.2.trans h4, h5, k2.1, k2.2.trans h7, ?_⟩
    rcases h8 with h8 | ⟨g, g1, g2, g3, g4, g5, g6⟩
    · exact .inl h8
    · have hgl : g < w.heap.size := by
        obtain ⟨n, hn⟩ := g4 0 g3.2.1
        exact at_lt hn
      refine .inr ⟨g, g1, g2, ⟨g3.1, by unfold Rng; rw [hf.block g hgl (fun _ _ _ h => h)]; exact g3.2⟩, fun j hj => ?_, fun j hj hj' => ?_, fun j c hj => (hf.keeps (g6 j c hj) (fun x => x)).1⟩
      · obtain ⟨n, hn⟩ := g4 j hj; exact ⟨n, (hf.keeps hn (fun x => x)).1⟩
      · obtain ⟨n, hn⟩ := g4 j hj'; exact (hf.keeps hn (fun x => x)).2.trans (g5 j hj hj')

end Go.Proofs.Ytmjkdghcfihfiaa.Vm
