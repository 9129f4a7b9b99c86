/-
  The machine: VmWp, VmWpOk, VmWpC.
-/
import Derived.Test.YtbnjbianobdleaaGreatVmFuel

/-
  What must be shown of a function's code, as one proposition: the machine run over values that are not known.
-/
namespace Go.Proofs.YtbnjbianobdleaaGreat.Vm
open Go
set_option linter.unusedVariables false
set_option linter.unusedSimpArgs false

/-- At each check: is it computed, or shown? -/
inductive H where
  | auto
  | n (k : Nat) (h : H)
  | s (h : H)
  | b (x y : H)
  | r (k : Nat) (h : H)

def chk (p : Prop) [Decidable p] (K : H → Prop) : H → Prop
  | .auto => if p then K .auto else False
  | .n 0 h => chk p K h
  | .n (k + 1) h => if p then K (.n k h) else False
  | .s h => p ∧ K h
  | .b _ _ => False
  | .r _ _ => False
theorem chk_ok {p : Prop} [Decidable p] {K : H → Prop} : ∀ {h : H}, chk p K h → p ∧ ∃ h', K h'
  | .auto, k => by
    simp only [chk] at k
    split at k
    · rename_i hp; exact ⟨hp, _, k⟩
    · exact k.elim
  | .n 0 h, k => chk_ok (h := h) (by simpa only [chk] using k)
  | .n (j + 1) h, k => by
    simp only [chk] at k
    split at k
    · rename_i hp; exact ⟨hp, _, k⟩
    · exact k.elim
  | .s h, k => ⟨k.1, _, k.2⟩
  | .b _ _, k => by simp [chk] at k
  | .r _ _, k => by simp [chk] at k

def fork (b : Bool) (K : H → Bool → Prop) : H → Prop
  | .auto => (match b with | true => K .auto true | false => K .auto false)
  | .n 0 h => fork b K h
  | .n (k + 1) h => (match b with | true => K (.n k h) true | false => K (.n k h) false)
  | .s h => b = true ∧ K h true
  | .b x y => (b = true → K x true) ∧ (b = false → K y false)
  | .r _ _ => False
theorem fork_ok {b : Bool} {K : H → Bool → Prop} : ∀ {h : H}, fork b K h → ∃ h', K h' b
  | .auto, k => by cases b <;> exact ⟨_, k⟩
  | .n 0 h, k => fork_ok (h := h) (by simpa only [fork] using k)
  | .n (j + 1) h, k => by cases b <;> exact ⟨_, k⟩
  | .s h, k => by
    obtain ⟨h1, h2⟩ := k
    subst h1
    exact ⟨_, h2⟩
  | .b x y, k => by
    cases b
    · exact ⟨_, k.2 rfl⟩
    · exact ⟨_, k.1 rfl⟩
  | .r _ _, k => by simp [fork] at k

/-- Leaves of these types. -/
def exRow (P : Program) : List TypeId → (List PV → Prop) → Prop
  | [], K => K []
  | t :: ts, K => match P.underlying t with
    | some (.int k) => ∃ n : Int, exRow P ts fun l => K (.int k n :: l)
    | some .bool => ∃ b : Bool, exRow P ts fun l => K (.bool b :: l)
    | some .string => ∃ s : List UInt8, exRow P ts fun l => K (.str s :: l)
    | some (.slice _) => ∃ es : List (List PV), exRow P ts fun l => K (.sl es :: l)
    | _ => ∃ x : PV, exRow P ts fun l => K (x :: l)
theorem exRow_ok {P : Program} : ∀ {ts : List TypeId} {K : List PV → Prop}, exRow P ts K → ∃ l, K l
  | [], K, h => ⟨_, h⟩
  | t :: ts, K, h => by
    simp only [exRow] at h
    split at h <;> (obtain ⟨x, h⟩ := h; obtain ⟨l, h⟩ := exRow_ok h; exact ⟨_, h⟩)

def wLoad (P : Program) (es : List (List PV)) (i off n : Nat) (ts : List TypeId) (K : H → List PV → Prop) : H → Prop
  | .auto => (match es[i]? with | some c => if off + n ≤ c.length then K .auto ((c.drop off).take n) else False | none => False)
  | .n 0 h => wLoad P es i off n ts K h
  | .n (k + 1) h => (match es[i]? with | some c => if off + n ≤ c.length then K (.n k h) ((c.drop off).take n) else False | none => False)
  | .s h => ∃ c, es[i]? = some c ∧ off + n ≤ c.length ∧ exRow P ts fun l => (c.drop off).take n = l ∧ K h l
  | .b _ _ => False
  | .r _ _ => False
theorem wLoad_ok {P : Program} {es : List (List PV)} {i off n : Nat} {ts : List TypeId} {K : H → List PV → Prop} : ∀ {h : H}, wLoad P es i off n ts K h → ∃ c, es[i]? = some c ∧ off + n ≤ c.length ∧ ∃ h', K h' ((c.drop off).take n)
  | .auto, k => by
    simp only [wLoad] at k
    split at k
    · rename_i c hc
      split at k
      · rename_i hp; exact ⟨c, hc, hp, _, k⟩
      · exact k.elim
    · exact k.elim
  | .n 0 h, k => wLoad_ok (h := h) (by simpa only [wLoad] using k)
  | .n (j + 1) h, k => by
    simp only [wLoad] at k
    split at k
    · rename_i c hc
      split at k
      · rename_i hp; exact ⟨c, hc, hp, _, k⟩
      · exact k.elim
    · exact k.elim
  | .s h, k => by
    obtain ⟨c, k1, k2, k3⟩ := k
    obtain ⟨l, rfl, k4⟩ := exRow_ok k3
    exact ⟨c, k1, k2, _, k4⟩
  | .b _ _, k => by simp [wLoad] at k
  | .r _ _, k => by simp [wLoad] at k

def wElem (P : Program) (es : List (List PV)) (i n : Nat) (ts : List TypeId) (K : H → List PV → Prop) : H → Prop
  | .auto => (match es[i]? with | some c => if c.length = n then K .auto c else False | none => False)
  | .n 0 h => wElem P es i n ts K h
  | .n (k + 1) h => (match es[i]? with | some c => if c.length = n then K (.n k h) c else False | none => False)
  | .s h => exRow P ts fun l => es[i]? = some l ∧ (if l.length = n then K h l else False)
  | .b _ _ => False
  | .r _ _ => False
theorem wElem_ok {P : Program} {es : List (List PV)} {i n : Nat} {ts : List TypeId} {K : H → List PV → Prop} : ∀ {h : H}, wElem P es i n ts K h → ∃ c, es[i]? = some c ∧ c.length = n ∧ ∃ h', K h' c
  | .auto, k => by
    simp only [wElem] at k
    split at k
    · rename_i c hc
      split at k
      · rename_i hp; exact ⟨c, hc, hp, _, k⟩
      · exact k.elim
    · exact k.elim
  | .n 0 h, k => wElem_ok (h := h) (by simpa only [wElem] using k)
  | .n (j + 1) h, k => by
    simp only [wElem] at k
    split at k
    · rename_i c hc
      split at k
      · rename_i hp; exact ⟨c, hc, hp, _, k⟩
      · exact k.elim
    · exact k.elim
  | .s h, k => by
    obtain ⟨l, k1, k2⟩ := exRow_ok k
    split at k2
    · rename_i hp; exact ⟨l, k1, hp, _, k2⟩
    · exact k2.elim
  | .b _ _, k => by simp [wElem] at k
  | .r _ _, k => by simp [wElem] at k

def wHas {α : Type} (es : List α) (i : Nat) (K : H → α → Prop) : H → Prop
  | .auto => (match es[i]? with | some c => K .auto c | none => False)
  | .n 0 h => wHas es i K h
  | .n (k + 1) h => (match es[i]? with | some c => K (.n k h) c | none => False)
  | .s h => ∃ c, es[i]? = some c ∧ K h c
  | .b _ _ => False
  | .r _ _ => False
theorem wHas_ok {α : Type} {es : List α} {i : Nat} {K : H → α → Prop} : ∀ {h : H}, wHas es i K h → ∃ c, es[i]? = some c ∧ ∃ h', K h' c
  | .auto, k => by
    simp only [wHas] at k
    split at k
    · rename_i c hc; exact ⟨c, hc, _, k⟩
    · exact k.elim
  | .n 0 h, k => wHas_ok (h := h) (by simpa only [wHas] using k)
  | .n (j + 1) h, k => by
    simp only [wHas] at k
    split at k
    · rename_i c hc; exact ⟨c, hc, _, k⟩
    · exact k.elim
  | .s h, k => by
    obtain ⟨c, k1, k2⟩ := k
    exact ⟨c, k1, _, k2⟩
  | .b _ _, k => by simp [wHas] at k
  | .r _ _, k => by simp [wHas] at k

/-- What a function is known to answer: in each case, what. -/
abbrev Alts := List (Prop × List TV × List TV)
abbrev Specs := FuncId → Option (List TV → Option Alts)
def SpecOK (C : Cx) (S : Specs) : Prop := ∀ f g, S f = some g → ∀ as l, g as = some l → ∀ a ∈ l, a.1 → Ev C f as a.2

def H.fst : H → H
  | .b x _ => x
  | .n 0 h => h.fst
  | h => h
def H.snd : H → H
  | .b _ y => y
  | .n 0 h => h.snd
  | h => h
def orAll : Alts → Prop
  | [] => False
  | [a] => a.1
  | a :: r => a.1 ∨ orAll r
def eachAlt (K : H → List TV × List TV → Prop) : Alts → H → Prop
  | [], _ => True
  | a :: r, h => (a.1 → K h.fst a.2) ∧ eachAlt K r h.snd
def wAlts (K : H → List TV × List TV → Prop) : Alts → H → Prop
  | [a], h => a.1 ∧ K h a.2
  | l, h => orAll l ∧ eachAlt K l h

theorem orAll_mem : ∀ {l : Alts}, orAll l → ∃ a ∈ l, a.1
  | [], h => by simp [orAll] at h
  | [a], h => ⟨a, by simp, h⟩
  | a :: b :: r, h => by
    simp only [orAll] at h
    rcases h with h | h
    · exact ⟨a, by simp, h⟩
    · obtain ⟨c, h1, h2⟩ := orAll_mem (l := b :: r) h
      exact ⟨c, by simp [h1], h2⟩
theorem eachAlt_mem {K : H → List TV × List TV → Prop} : ∀ {l : Alts} {h : H}, eachAlt K l h → ∀ a ∈ l, a.1 → ∃ h', K h' a.2
  | [], h, _, a, ha => by simp at ha
  | b :: r, h, k, a, ha => by
    rcases List.mem_cons.1 ha with rfl | ha
    · exact fun p => ⟨_, k.1 p⟩
    · exact eachAlt_mem k.2 a ha
theorem wAlts_ok {K : H → List TV × List TV → Prop} {l : Alts} {h : H} (k : wAlts K l h) : ∃ a ∈ l, a.1 ∧ ∃ h', K h' a.2 := by
  unfold wAlts at k
  split at k
  · exact ⟨_, by simp, k.1, _, k.2⟩
  · obtain ⟨a, h1, h2⟩ := orAll_mem k.1
    exact ⟨a, h1, h2, eachAlt_mem k.2 a h1 h2⟩

section
variable (C : Cx) (S : Specs)

def wCall (f : FuncId) (as : List TV) (K : H → List TV × List TV → Prop) (h : H) : Prop :=
  match S f with
  | some g => (match g as with | some l => wAlts K l h | none => False)
  | none => match callN C 100000 f as with | some r => K h r | none => False

/-- Which rows that were lent stay frozen. -/
def wLent (lent : List Nat) (rs fs : List TV) (K : H → List Nat → Prop) (h : H) : Prop :=
  match lent with
  | [] => K h []
  | l => fork (flatTVs rs && flatTVs fs) (fun h b => K h (if b then [] else l)) h

def wCallM (d : Nat) (c : Call) (st : View) (K : H → Made → Prop) (h : H) : Prop :=
  match calleeOf st c.callee, evalAll st c.args.toList with
  | some (f, first, caps), some as => (match C.P.funcs[f]? with
    | some fn => (match argsTV C.P st (C.modes f) fn.params.toList (first ++ as ++ caps) with
      | some g => if nodup (g.dels ++ Back.idsL g.bs) && freeOf g.lent (g.dels ++ Back.idsL g.bs) then
          wCall C S f g.vs (fun h r => match backTV g.bs r.2 with
            | some (ws, os) => wLent g.lent r.1 r.2 (fun h fz => K h ⟨(resTV d r.1).1, (resTV d r.1).2 ++ os, ws, [], g.dels, fz⟩) h
            | none => False) h else False
      | none => False)
    | none => False)
  | _, _ => False

def noCall : FuncId → List TV → Option (List TV × List TV) := fun _ _ => none
def gen (o : Oper) (V : View) (K : H → Made → Prop) (h : H) : Prop := match made C noCall o V with | some m => K h m | none => False

def wSliceOf (lo hi : Option AV) (len : Nat) (K : H → Nat → Nat → Prop) (h : H) : Prop :=
  match (match hi with | none => some (Int.ofNat len) | some h => asInt h), (match lo with | none => some 0 | some l => asInt l) with
  | some b, some a => chk (0 ≤ a ∧ a ≤ b ∧ b ≤ Int.ofNat len) (fun h => K h a.toNat b.toNat) h
  | _, _ => False

def wPick (c a b : Operand) (V : View) (K : H → Made → Prop) (h : H) : Prop :=
  match V.eval c with
  | some (.pv (.bool t)) => fork t (fun h t => match V.eval (if t then a else b) with | some v => K h (.only v []) | none => False) h
  | _ => False
def wLd (o : Oper) (t : TypeId) (a : Operand) (V : View) (K : H → Made → Prop) (h : H) : Prop :=
  match V.eval a with
  | some (.addr id i off) => (match V.obj id with
    | some (.buf _ es) => if okT C.P t = false then False else wLoad C.P es i off (sizeT C.P t) (leafTypes C.P 8 t) (fun h l => match ofCells (aggT C.P t) l with | some v => K h (.only v []) | none => False) h
    | _ => gen C o V K h)
  | _ => gen C o V K h
def wBin (o : Oper) (op : BinOp) (x y : Operand) (V : View) (K : H → Made → Prop) (h : H) : Prop :=
  match V.eval x, V.eval y with
  | some (.pv (.int k a)), some (.pv (.int k' b)) => (match op with
    | .quo => if k = k' then chk (¬ b = 0) (fun h => K h (.only (.pv (.int k (k.wrap (a.tdiv b)))) [])) h else False
    | .rem => if k = k' then chk (¬ b = 0) (fun h => K h (.only (.pv (.int k (a.tmod b))) [])) h else False
    | .shl => chk (¬ b < 0) (fun h => K h (.only (.pv (.int k (k.wrap (a * 2 ^ min b.toNat k.bits)))) [])) h
    | .shr => chk (¬ b < 0) (fun h => K h (.only (.pv (.int k (a.fdiv (2 ^ min b.toNat k.bits)))) [])) h
    | _ => gen C o V K h)
  | some (.pv (.str a)), some (.pv (.str b)) => (match op with
    | .add => chk (a.length + b.length ≤ maxInt) (fun h => K h (.only (.pv (.str (a ++ b))) [])) h
    | _ => gen C o V K h)
  | _, _ => gen C o V K h
def wSlice (t : TypeId) (x : Operand) (lo hi : Option Operand) (V : View) (K : H → Made → Prop) (h : H) : Prop :=
  match C.P.underlying t, V.eval x, evalOpt V lo, evalOpt V hi with
  | some .string, some (.pv (.str s)), some l, some r => wSliceOf l r s.length (fun h a b => K h (.only (.pv (.str ((s.drop a).take (b - a)))) [])) h
  | some (.slice e), some v, some l, some r => if okT C.P e = false then False else (match v with
    | .pv (.sl es) => chk (rowOk (sizeT C.P e) es = true) (fun h => wSliceOf l r es.length (fun h a b => K h (.only (.pv (.sl ((es.drop a).take (b - a)))) [])) h) h
    | .nilSl => wSliceOf l r 0 (fun h a b => K h (.only .nilSl [])) h
    | .own id => (match V.obj id with
      | some (.buf sz es) => if sz = sizeT C.P e then wSliceOf l r es.length (fun h a b => K h (.only (.part id a (b - a)) [])) h else False
      | _ => False)
    | .part id lo n => (match V.obj id with
      | some (.buf sz _) => if sz = sizeT C.P e then wSliceOf l r n (fun h a b => K h (.only (.part id (lo + a) (b - a)) [])) h else False
      | _ => False)
    | _ => False)
  | _, _, _, _ => False
def wIxA (t : TypeId) (x ix : Operand) (V : View) (K : H → Made → Prop) (h : H) : Prop :=
  match elemT C.P t, V.eval x, V.eval ix with
  | some e, some (.own id), some (.pv (.int _ i)) => (match V.obj id with
    | some (.buf sz es) => if sz = sizeT C.P e then chk (0 ≤ i ∧ i < es.length) (fun h => K h (.only (.addr id i.toNat 0) [])) h else False
    | _ => False)
  | some e, some (.part id lo n), some (.pv (.int _ i)) => (match V.obj id with
    | some (.buf sz es) => if sz = sizeT C.P e then chk (0 ≤ i ∧ i < n ∧ lo + n ≤ es.length) (fun h => K h (.only (.addr id (lo + i.toNat) 0) [])) h else False
    | _ => False)
  | some e, some (.pv (.sl es)), some (.pv (.int _ i)) => chk (0 ≤ i) (fun h => wElem C.P es i.toNat (sizeT C.P e) (leafTypes C.P 8 e) (fun h c => K h (.only (.pv (.iptr c)) [])) h) h
  | _, _, _ => False
def wIx (t : TypeId) (x ix : Operand) (V : View) (K : H → Made → Prop) (h : H) : Prop :=
  match C.P.underlying t, V.eval x, V.eval ix with
  | some .string, some (.pv (.str s)), some (.pv (.int _ i)) => chk (0 ≤ i) (fun h => wHas s i.toNat (fun h b => K h (.only (.pv (.int .u8 b.toNat)) [])) h) h
  | _, _, _ => False
def wStore (o : Oper) (t : TypeId) (a x : Operand) (V : View) (K : H → Made → Prop) (h : H) : Prop :=
  match V.eval a, V.eval x with
  | some (.addr id i off), some v => (match V.obj id with
    | some (.buf sz es) => if okT C.P t ∧ v.fit ∧ (leaves v).length = sizeT C.P t then (match pvs (leaves v) with
      | some l => wHas es i (fun h c => chk (off + sizeT C.P t ≤ c.length) (fun h => K h ⟨.tup [], [], [.buf id sz (es.set i (setFrom off l c))], [], [], []⟩) h) h
      | none => False) else False
    | _ => gen C o V K h)
  | _, _ => False
def wAppend (d : Nat) (as : Array Operand) (ts : Array TypeId) (V : View) (K : H → Made → Prop) (h : H) : Prop :=
  match as.toList, ts.toList with
  | [x, y], [t, u] => (match elemT C.P t with
    | some e => (match rowOf (sizeT C.P e) V x, behind C.P u V y with
      | some (es, id), some l => if (zeroV C.P e).isSome then
          chk ((es.length + l.length) * bytesT C.P e ≤ room ∧ es.length + l.length ≤ maxInt) (fun h => chk (rowOk (sizeT C.P e) l = true) (fun h => K h ⟨.own (dstId d), [(dstId d, .buf (sizeT C.P e) (es ++ l))], [], id.toList, [], []⟩) h) h else False
      | _, _ => False)
    | none => False)
  | _, _ => False
/-- A row of the call's own, or a part of it. -/
def wRowIn (sz : Nat) (V : View) (K : H → Nat → Nat → Nat → List (List PV) → Prop) : AV → H → Prop
  | .own id, h => (match V.obj id with | some (.buf n es) => if n = sz then K h id 0 es.length es else False | _ => False)
  | .part id lo n, h => (match V.obj id with | some (.buf k es) => if k = sz then chk (lo + n ≤ es.length) (fun h => K h id lo n es) h else False | _ => False)
  | _, _ => False
def wCopy (as : Array Operand) (ts : Array TypeId) (V : View) (K : H → Made → Prop) (h : H) : Prop :=
  match as.toList, ts.toList with
  | [x, y], [t, u] => (match elemT C.P t, V.eval x with
    | some e, some xv => (match behind C.P u V y with
      | some l => wRowIn (sizeT C.P e) V (fun h id lo m es => chk (rowOk (sizeT C.P e) l = true) (fun h => K h ⟨i64 (min l.length m : Nat), [], [.buf id (sizeT C.P e) (es.take lo ++ (l.take (min l.length m) ++ es.drop (lo + min l.length m)))], [], [], []⟩) h) xv h
      | none => False)
    | _, _ => False)
  | _, _ => False
def wMkSl (d : Nat) (t : TypeId) (l c : Operand) (V : View) (K : H → Made → Prop) (h : H) : Prop :=
  match elemT C.P t, V.eval l, V.eval c with
  | some e, some (.pv (.int _ n)), some (.pv (.int _ m)) => (match zeroV C.P e with
    | some vs => (match litPVs vs with
      | some z => chk (0 ≤ n ∧ n ≤ m ∧ m ≤ maxInt ∧ m * bytesT C.P e ≤ room) (fun h => K h (.only (.own (dstId d)) [(dstId d, .buf (sizeT C.P e) (List.replicate n.toNat z))])) h
      | none => False)
    | none => False)
  | _, _, _ => False
def wConv (o : Oper) (s t : TypeId) (x : Operand) (V : View) (K : H → Made → Prop) (h : H) : Prop :=
  match V.eval x, C.P.underlying t, C.P.underlying s with
  | some v, some .string, some (.slice e) => (match C.P.underlying e, asList V v with
    | some (.int .u8), some es => chk (u8Row es = true) (fun h => K h (.only (.pv (.str (ofU8s es))) [])) h
    | _, _ => False)
  | _, _, _ => gen C o V K h

def wOp (o : Oper) (V : View) (K : H → Made → Prop) (h : H) : Prop :=
  match o.op with
  | .pick c a b => wPick c a b V K h
  | .load t a => wLd C o t a V K h
  | .binOp op t x y _ => wBin C o op x y V K h
  | .slice t x lo hi none => wSlice C t x lo hi V K h
  | .indexAddr t x ix => wIxA C t x ix V K h
  | .index t x ix => wIx C t x ix V K h
  | .store t a x => wStore C o t a x V K h
  | .makeSlice t l c => wMkSl C (o.dst.getD 499) t l c V K h
  | .convert s t x => wConv C o s t x V K h
  | .call c => (match c.callee with
    | .builtin .append => wAppend C (o.dst.getD 499) c.args c.argTypes V K h
    | .builtin .copy => wCopy C c.args c.argTypes V K h
    | .builtin _ => gen C o V K h
    | _ => wCallM C S (o.dst.getD 499) c V K h)
  | _ => gen C o V K h

end
end Go.Proofs.YtbnjbianobdleaaGreat.Vm

/-
  What was shown holds: single operations.
-/
namespace Go.Proofs.YtbnjbianobdleaaGreat.Vm
open Go
set_option linter.unusedVariables false
set_option linter.unusedSimpArgs false

section
variable {C : Cx} {S : Specs}

theorem noCall_le (call : FuncId → List TV → Option (List TV × List TV)) : Le noCall call := by
  intro f xs r h; simp [noCall] at h

/-- What an operation makes is there. -/
def Does1 (C : Cx) (o : Oper) (V : View) (K : H → Made → Prop) : Prop := ∃ k m, made C (callN C k) o V = some m ∧ ∃ h', K h' m

theorem gen_ok {o : Oper} {V : View} {K : H → Made → Prop} {h : H} (k : gen C o V K h) : Does1 C o V K := by
  unfold gen at k
  split at k
  · rename_i m hm
    exact ⟨0, m, made_up (noCall_le _) hm, _, k⟩
  · exact k.elim

theorem made_q {call : FuncId → List TV → Option (List TV × List TV)} {o : Oper} {V : View} {v : AV} {os : List (Nat × Obj)} (h1 : isCall o.op = none) (h2 : opQ C.P C.bldT (o.dst.getD 499) o.op V = some (v, os)) : made C call o V = some (.only v os) := by
  unfold made
  simp only [h1, h2]
theorem does_q {o : Oper} {V : View} {K : H → Made → Prop} {v : AV} {os : List (Nat × Obj)} (h1 : isCall o.op = none) (h2 : opQ C.P C.bldT (o.dst.getD 499) o.op V = some (v, os)) {h' : H} (k : K h' (.only v os)) : Does1 C o V K :=
  ⟨0, _, made_q h1 h2, _, k⟩

theorem wCall_ok (hS : SpecOK C S) {f : FuncId} {as : List TV} {K : H → List TV × List TV → Prop} {h : H} (k : wCall C S f as K h) : ∃ n r, callN C n f as = some r ∧ ∃ h', K h' r := by
  unfold wCall at k
  split at k
  · rename_i g hg
    split at k
    · rename_i l hl
      obtain ⟨a, h1, h2, h', h3⟩ := wAlts_ok k
      obtain ⟨n, hn⟩ := (hS f g hg as l hl a h1 h2).get
      exact ⟨n, _, hn, h', h3⟩
    · exact k.elim
  · split at k
    · rename_i r hr; exact ⟨_, r, hr, _, k⟩
    · exact k.elim

theorem wLent_ok {lent : List Nat} {rs fs : List TV} {K : H → List Nat → Prop} {h : H} (k : wLent lent rs fs K h) : (lent = [] ∧ ∃ h', K h' []) ∨ ∃ a l, lent = a :: l ∧ ∃ h', K h' (if flatTVs rs && flatTVs fs then [] else a :: l) := by
  cases lent with
  | nil => exact .inl ⟨rfl, _, k⟩
  | cons a l =>
    obtain ⟨h', k⟩ := fork_ok (show fork _ _ _ from k)
    exact .inr ⟨a, l, rfl, h', k⟩

theorem wCallM_ok (hS : SpecOK C S) {d : Nat} {c : Call} {V : View} {K : H → Made → Prop} {h : H} (k : wCallM C S d c V K h) : ∃ n m, callM C (callN C n) d c V = some m ∧ ∃ h', K h' m := by
  unfold wCallM at k
  split at k
  · rename_i f first caps as e1 e2
    split at k
    · rename_i fn e3
      split at k
      · rename_i g e4
        split at k
        · rename_i e5
          obtain ⟨n, r, e6, h1, k⟩ := wCall_ok hS k
          split at k
          · rename_i ws os e7
            rcases wLent_ok k with ⟨e8, h2, k⟩ | ⟨a, l, e8, h2, k⟩
            · refine ⟨n, _, ?_, h2, k⟩
              rw [e8] at e5
              unfold callM
              simp only [e1, e2, e3, e4, e8, e5, if_true, e6, e7]
            · refine ⟨n, _, ?_, h2, k⟩
              rw [e8] at e5
              unfold callM
              simp only [e1, e2, e3, e4, e8, e5, if_true, e6, e7]
          · exact k.elim
        · exact k.elim
      · exact k.elim
    · exact k.elim
  · exact k.elim

theorem wSliceOf_ok {lo hi : Option AV} {len : Nat} {K : H → Nat → Nat → Prop} {h : H} (k : wSliceOf lo hi len K h) : ∃ a b, sliceOf lo hi len = some (a, b) ∧ ∃ h', K h' a b := by
  have key : ∀ (x y : Option Int) (h : H), (match x, y with | some b, some a => chk (0 ≤ a ∧ a ≤ b ∧ b ≤ Int.ofNat len) (fun h => K h a.toNat b.toNat) h | _, _ => False) →
      ∃ a b, (match (generalizing := false) x, y with | some h, some l => if 0 ≤ l ∧ l ≤ h ∧ h ≤ Int.ofNat len then some (l.toNat, h.toNat) else none | _, _ => none) = some (a, b) ∧ ∃ h', K h' a b := by
    intro x y h k
    split at k
    · rename_i b a
      obtain ⟨hp, h', k⟩ := chk_ok k
      exact ⟨_, _, if_pos hp, h', k⟩
    · exact k.elim
  exact key _ _ h k

theorem wPick_ok {o : Oper} {c a b : Operand} (ho : o.op = .pick c a b) {V : View} {K : H → Made → Prop} {h : H} (k : wPick c a b V K h) : Does1 C o V K := by
  unfold wPick at k
  split at k
  · rename_i t e1
    obtain ⟨h', k⟩ := fork_ok k
    split at k
    · rename_i v e2
      exact does_q (by rw [ho]; rfl) (by rw [ho]; simp only [opQ, e1, e2]) k
    · exact k.elim
  · exact k.elim

theorem wLd_ok {o : Oper} {t : TypeId} {a : Operand} (ho : o.op = .load t a) {V : View} {K : H → Made → Prop} {h : H} (k : wLd C o t a V K h) : Does1 C o V K := by
  unfold wLd at k
  split at k
  · rename_i id i off e1
    split at k
    · rename_i sz es e2
      split at k
      · exact k.elim
      · rename_i e3
        obtain ⟨c, e4, e5, h', k⟩ := wLoad_ok k
        split at k
        · rename_i v e6
          exact does_q (by rw [ho]; rfl) (by rw [ho]; simp only [opQ, e1, e2]; rw [if_neg e3]; simp only [e4]; rw [if_pos e5]; simp only [e6]) k
        · exact k.elim
    · exact gen_ok k
  · exact gen_ok k

theorem wBin_ok {o : Oper} {op : BinOp} {t u : TypeId} {x y : Operand} (ho : o.op = .binOp op t x y u) {V : View} {K : H → Made → Prop} {h : H} (k : wBin C o op x y V K h) : Does1 C o V K := by
  unfold wBin at k
  split at k
  · rename_i kk a kk' b e1 e2
    split at k
    · split at k
      · rename_i e3
        obtain ⟨hp, h', k⟩ := chk_ok k
        refine does_q (by rw [ho]; rfl) (by rw [ho]; simp only [opQ, e1, e2, vbin]; rw [if_pos e3]; simp only [intOp]; rw [if_neg hp]) k
      · exact k.elim
    · split at k
      · rename_i e3
        obtain ⟨hp, h', k⟩ := chk_ok k
        refine does_q (by rw [ho]; rfl) (by rw [ho]; simp only [opQ, e1, e2, vbin]; rw [if_pos e3]; simp only [intOp]; rw [if_neg hp]) k
      · exact k.elim
    · obtain ⟨hp, h', k⟩ := chk_ok k
      refine does_q (by rw [ho]; rfl) (by rw [ho]; simp only [opQ, e1, e2, vbin, shiftOp]; rw [if_neg hp]) k
    · obtain ⟨hp, h', k⟩ := chk_ok k
      refine does_q (by rw [ho]; rfl) (by rw [ho]; simp only [opQ, e1, e2, vbin, shiftOp]; rw [if_neg hp]) k
    · exact gen_ok k
  · rename_i a b e1 e2
    split at k
    · obtain ⟨hp, h', k⟩ := chk_ok k
      refine does_q (by rw [ho]; rfl) (by rw [ho]; simp only [opQ, e1, e2, vbin, strOp]; rw [if_pos hp]) k
    · exact gen_ok k
  · exact gen_ok k

theorem wSlice_ok {o : Oper} {t : TypeId} {x : Operand} {lo hi : Option Operand} (ho : o.op = .slice t x lo hi none) {V : View} {K : H → Made → Prop} {h : H} (k : wSlice C t x lo hi V K h) : Does1 C o V K := by
  unfold wSlice at k
  split at k
  · rename_i s l r e1 e2 e3 e4
    obtain ⟨a, b, e5, h', k⟩ := wSliceOf_ok k
    exact does_q (by rw [ho]; rfl) (by rw [ho]; simp only [opQ, e1, e2, e3, e4, e5]) k
  · rename_i e v l r e1 e2 e3 e4
    split at k
    · exact k.elim
    · rename_i e0
      split at k
      · obtain ⟨hp, h1, k⟩ := chk_ok k
        obtain ⟨a, b, e5, h', k⟩ := wSliceOf_ok k
        exact does_q (by rw [ho]; rfl) (by rw [ho]; simp only [opQ, e1, e2, e3, e4]; rw [if_neg e0, if_pos hp]; simp only [e5]) k
      · obtain ⟨a, b, e5, h', k⟩ := wSliceOf_ok k
        exact does_q (by rw [ho]; rfl) (by rw [ho]; simp only [opQ, e1, e2, e3, e4]; rw [if_neg e0]; simp only [e5]) k
      · split at k
        · rename_i e6
          split at k
          · rename_i e7
            obtain ⟨a, b, e5, h', k⟩ := wSliceOf_ok k
            exact does_q (by rw [ho]; rfl) (by rw [ho]; simp only [opQ, e1, e2, e3, e4]; rw [if_neg e0]; simp only [e6]; rw [if_pos e7]; simp only [e5]) k
          · exact k.elim
        · exact k.elim
      · split at k
        · rename_i e6
          split at k
          · rename_i e7
            obtain ⟨a, b, e5, h', k⟩ := wSliceOf_ok k
            exact does_q (by rw [ho]; rfl) (by rw [ho]; simp only [opQ, e1, e2, e3, e4]; rw [if_neg e0]; simp only [e6]; rw [if_pos e7]; simp only [e5]) k
          · exact k.elim
        · exact k.elim
      · exact k.elim
  · exact k.elim

theorem wIxA_ok {o : Oper} {t : TypeId} {x ix : Operand} (ho : o.op = .indexAddr t x ix) {V : View} {K : H → Made → Prop} {h : H} (k : wIxA C t x ix V K h) : Does1 C o V K := by
  unfold wIxA at k
  split at k
  · rename_i e id kk i e1 e2 e3
    split at k
    · rename_i sz es e4
      split at k
      · rename_i e5
        obtain ⟨hp, h', k⟩ := chk_ok k
        exact does_q (by rw [ho]; rfl) (by rw [ho]; simp only [opQ, e1, e2, e3, e4]; rw [if_pos ⟨hp.1, hp.2, e5⟩]) k
      · exact k.elim
    · exact k.elim
  · rename_i e id lo n kk i e1 e2 e3
    split at k
    · rename_i sz es e4
      split at k
      · rename_i e5
        obtain ⟨hp, h', k⟩ := chk_ok k
        exact does_q (by rw [ho]; rfl) (by rw [ho]; simp only [opQ, e1, e2, e3, e4]; rw [if_pos ⟨hp.1, hp.2.1, hp.2.2, e5⟩]) k
      · exact k.elim
    · exact k.elim
  · rename_i e es kk i e1 e2 e3
    obtain ⟨hp, h1, k⟩ := chk_ok k
    obtain ⟨c, e4, e5, h', k⟩ := wElem_ok k
    exact does_q (by rw [ho]; rfl) (by rw [ho]; simp only [opQ, e1, e2, e3]; rw [if_pos hp]; simp only [e4]; rw [if_pos e5]) k
  · exact k.elim

theorem wIx_ok {o : Oper} {t : TypeId} {x ix : Operand} (ho : o.op = .index t x ix) {V : View} {K : H → Made → Prop} {h : H} (k : wIx C t x ix V K h) : Does1 C o V K := by
  unfold wIx at k
  split at k
  · rename_i s kk i e1 e2 e3
    obtain ⟨hp, h1, k⟩ := chk_ok k
    obtain ⟨c, e4, h', k⟩ := wHas_ok k
    exact does_q (by rw [ho]; rfl) (by rw [ho]; simp only [opQ, e1, e2, e3]; rw [if_pos hp]; simp only [e4]) k
  · exact k.elim

theorem wMkSl_ok {o : Oper} {t : TypeId} {l c : Operand} (ho : o.op = .makeSlice t l c) {V : View} {K : H → Made → Prop} {h : H} (k : wMkSl C (o.dst.getD 499) t l c V K h) : Does1 C o V K := by
  unfold wMkSl at k
  split at k
  · rename_i e kn n km m e1 e2 e3
    split at k
    · rename_i vs e4
      split at k
      · rename_i z e5
        obtain ⟨hp, h', k⟩ := chk_ok k
        exact does_q (by rw [ho]; rfl) (by rw [ho]; simp only [opQ, e1, e2, e3]; rw [if_pos hp]; simp only [e4, e5]) k
      · exact k.elim
    · exact k.elim
  · exact k.elim

theorem wConv_ok {o : Oper} {s t : TypeId} {x : Operand} (ho : o.op = .convert s t x) {V : View} {K : H → Made → Prop} {h : H} (k : wConv C o s t x V K h) : Does1 C o V K := by
  unfold wConv at k
  split at k
  · rename_i v e e1 e2 e3
    split at k
    · rename_i es e4 e5
      obtain ⟨hp, h', k⟩ := chk_ok k
      exact does_q (by rw [ho]; rfl) (by rw [ho]; simp only [opQ, e1, vconv, e2, e3, e4, e5]; rw [if_pos hp]) k
    · exact k.elim
  · exact gen_ok k

theorem made_l {call : FuncId → List TV → Option (List TV × List TV)} {o : Oper} {V : View} {m : Made} (h1 : isCall o.op = none) (h2 : opL C.P o.op V = some m) : made C call o V = some m := by
  unfold made
  obtain ⟨n1, n2⟩ := opQ_none_L (W' := V) (bt := C.bldT) (d := o.dst.getD 499) h2
  simp only [h1, n1, n2, h2]
theorem made_a {call : FuncId → List TV → Option (List TV × List TV)} {o : Oper} {V : View} {v : AV} {os : List (Nat × Obj)} {id : Option Nat} (h1 : isCall o.op = none) (h2 : opA C.P (o.dst.getD 499) o.op V = some (v, os, id)) : made C call o V = some ⟨v, os, [], id.toList, [], []⟩ := by
  unfold made
  have n1 := opQ_none_A (W' := V) (bt := C.bldT) h2
  simp only [h1, n1, h2]

theorem wStore_ok {o : Oper} {t : TypeId} {a x : Operand} (ho : o.op = .store t a x) {V : View} {K : H → Made → Prop} {h : H} (k : wStore C o t a x V K h) : Does1 C o V K := by
  unfold wStore at k
  split at k
  · rename_i id i off v e1 e2
    split at k
    · rename_i sz es e3
      split at k
      · rename_i e4
        split at k
        · rename_i l e5
          obtain ⟨c, e6, h1, k⟩ := wHas_ok k
          obtain ⟨hp, h', k⟩ := chk_ok k
          exact ⟨0, _, made_l (by rw [ho]; rfl) (by rw [ho]; simp only [opL, e1, e2]; rw [if_pos e4]; simp only [e3, e5, e6]; rw [if_pos hp]), h', k⟩
        · exact k.elim
      · exact k.elim
    · exact gen_ok k
  · exact k.elim

theorem wAppend_ok {o : Oper} {as : Array Operand} {ts : Array TypeId} (ho : o.op = .call ⟨.builtin .append, as, ts⟩) {V : View} {K : H → Made → Prop} {h : H} (k : wAppend C (o.dst.getD 499) as ts V K h) : Does1 C o V K := by
  unfold wAppend at k
  split at k
  · rename_i x y t u e1 e2
    split at k
    · rename_i e e3
      split at k
      · rename_i es id l e4 e5
        split at k
        · rename_i e6
          obtain ⟨hp, h1, k⟩ := chk_ok k
          obtain ⟨hq, h', k⟩ := chk_ok k
          exact ⟨0, _, made_a (by rw [ho]; rfl) (by rw [ho]; simp only [opA, e1, e2, e3, e4, e5]; rw [if_pos ⟨hp.1, hp.2, hq, e6⟩]), h', k⟩
        · exact k.elim
      · exact k.elim
    · exact k.elim
  · exact k.elim

theorem wRowIn_ok {sz : Nat} {V : View} {K : H → Nat → Nat → Nat → List (List PV) → Prop} {xv : AV} {h : H} (k : wRowIn sz V K xv h) : ∃ id lo m es, rowIn sz V xv = some (id, lo, m, es) ∧ ∃ h', K h' id lo m es := by
  unfold wRowIn at k
  split at k
  · split at k
    · rename_i n es e1
      split at k
      · rename_i e2
        exact ⟨_, _, _, _, by simp only [rowIn, e1]; rw [if_pos e2], _, k⟩
      · exact k.elim
    · exact k.elim
  · split at k
    · rename_i k' es e1
      split at k
      · rename_i e2
        obtain ⟨hp, h', k⟩ := chk_ok k
        exact ⟨_, _, _, _, by simp only [rowIn, e1]; rw [if_pos ⟨e2, hp⟩], h', k⟩
      · exact k.elim
    · exact k.elim
  · exact k.elim
theorem wCopy_ok {o : Oper} {as : Array Operand} {ts : Array TypeId} (ho : o.op = .call ⟨.builtin .copy, as, ts⟩) {V : View} {K : H → Made → Prop} {h : H} (k : wCopy C as ts V K h) : Does1 C o V K := by
  unfold wCopy at k
  split at k
  · rename_i x y t u e1 e2
    split at k
    · rename_i e xv e3 e4
      split at k
      · rename_i l e5
        obtain ⟨id, lo, m, es, e6, h1, k⟩ := wRowIn_ok k
        obtain ⟨hp, h', k⟩ := chk_ok k
        exact ⟨0, _, made_l (by rw [ho]; rfl) (by rw [ho]; simp only [opL, e1, e2, e3, e4, e6, e5]; rw [if_pos hp]), h', k⟩
      · exact k.elim
    · exact k.elim
  · exact k.elim

theorem wOp_ok (hS : SpecOK C S) {o : Oper} {V : View} {K : H → Made → Prop} {h : H} (k : wOp C S o V K h) : Does1 C o V K := by
  unfold wOp at k
  split at k
  · rename_i ho; exact wPick_ok ho k
  · rename_i ho; exact wLd_ok ho k
  · rename_i ho; exact wBin_ok ho k
  · rename_i ho; exact wSlice_ok ho k
  · rename_i ho; exact wIxA_ok ho k
  · rename_i ho; exact wIx_ok ho k
  · rename_i ho; exact wStore_ok ho k
  · rename_i ho; exact wMkSl_ok ho k
  · rename_i ho; exact wConv_ok ho k
  · rename_i c ho
    obtain ⟨callee, as, ts⟩ := c
    simp only at k
    split at k
    · exact wAppend_ok ho k
    · exact wCopy_ok ho k
    · exact gen_ok k
    · rename_i n1 n2 n3
      obtain ⟨n, m, hm, h', k⟩ := wCallM_ok hS k
      refine ⟨n, m, ?_, h', k⟩
      unfold made
      have : isCall o.op = some ⟨callee, as, ts⟩ := by
        rw [ho]
        cases callee with
        | builtin b => exact absurd rfl (n3 b)
        | value f => rfl
        | invoke r m => rfl
      simp only [this, hm]
  · exact gen_ok k

end
end Go.Proofs.YtbnjbianobdleaaGreat.Vm

/-
  What must be shown of regions, of code, of a function.
-/
namespace Go.Proofs.YtbnjbianobdleaaGreat.Vm
open Go
set_option linter.unusedVariables false
set_option linter.unusedSimpArgs false

/-- A slot's truth is known. -/
def setFst (t : Nat) (v : AV) : List (Nat × AV) → List (Nat × AV)
  | [] => []
  | (m, a) :: r => if t = m then (m, v) :: r else (m, a) :: setFst t v r
theorem setFst_same {t : Nat} {v : AV} : ∀ {l : List (Nat × AV)}, lkp t l = some v → setFst t v l = l
  | [], h => rfl
  | (m, a) :: r, h => by
    simp only [lkp] at h
    simp only [setFst]
    split at h
    · rename_i e; rw [if_pos e]; simp only [Option.some.injEq] at h; rw [h]
    · rename_i e; rw [if_neg e, setFst_same h]
def St.setB (t : Nat) (b : Bool) (st : St) : St := ⟨setFst t (.pv (.bool b)) st.tmps, st.objs⟩
theorem setB_same {t : Nat} {b : Bool} {st : St} (h : st.get t = .pv (.bool b)) : st.setB t b = st := by
  unfold St.get at h
  cases hl : lkp t st.tmps with
  | none => rw [hl] at h; simp at h
  | some v =>
    rw [hl] at h
    simp only [Option.getD_some] at h
    subst h
    unfold St.setB
    rw [setFst_same hl]

section
variable (C : Cx) (S : Specs)

def wPatches : List Patch → St → (H → St → Prop) → H → Prop
  | [], st, K, h => K h st
  | p :: r, st, K, h => match p, st.obj p.id with
    | .buf id sz es, some (.buf sz0 es0) => if sz = sz0 then chk (es.length = es0.length) (fun h => wPatches r (st.upd id (.buf sz es)) K h) h else False
    | p, ob => match p.on ob with | some o => wPatches r (st.upd p.id o) K h | none => False
def wLay (o : Oper) (m : Made) (st : St) (K : H → St → Prop) (h : H) : Prop :=
  match freezeAll m.frz st with
  | some s => wPatches m.ws (killAll (m.dels ++ m.use) s) (fun h s => match s.add m.os with | some s => K h (putD o m.v s) | none => False) h
  | none => False
def wOper (pl : List Nat) (o : Oper) (st : St) (K : H → St → Prop) (h : H) : Prop :=
  match freezeAll (prep C.P o.op st.view) st with
  | some s => wOp C S o s.view (fun h m => wLay o (arrive pl o s.obj m) s K h) h
  | none => False
def wWanted (all : List Oper) (o : Oper) (st : St) (K : H → Bool → St → Prop) (h : H) : Prop :=
  match o.guard with
  | none => K h true st
  | some (j, want) => match (all[j]?).bind (·.dst) with
    | some t => (match st.get t with
      | .pv (.bool b) => fork b (fun h b => K h (b == want) (st.setB t b)) h
      | .tup [] => K h false st
      | _ => False)
    | none => False
def wOpers (all : List Oper) (pl : List Nat) : List Oper → St → (H → St → Prop) → H → Prop
  | [], st, K, h => K h st
  | o :: r, st, K, h => wWanted all o st (fun h w st => match w with
    | true => wOper C S pl o st (fun h s => wOpers all pl r s K h) h
    | false => wOpers all pl r (putD o (.tup []) st) K h) h
def wOks (V : View) : List Patch → (H → Prop) → H → Prop
  | [], K, h => K h
  | p :: r, K, h => match p, V.obj p.id with
    | .buf id sz es, some (.buf sz0 es0) => if sz = sz0 then chk (es.length = es0.length) (fun h => wOks V r K h) h else False
    | p, ob => if (p.on ob).isSome then wOks V r K h else False
def wOkM (V : View) (m : Made) (K : H → Prop) (h : H) : Prop :=
  if m.frz.isEmpty && m.dead.all (fun i => (V.obj i).isSome) && m.ws.all (fun p => !m.dead.contains p.id) then wOks V m.ws K h else False
def wPO : List Patch → List (Nat × Obj) → (H → List (Nat × Obj) → Prop) → H → Prop
  | [], l, K, h => K h l
  | p :: r, l, K, h => match p, lkp p.id l with
    | .buf id sz es, some (.buf sz0 es0) => if sz = sz0 then chk (es.length = es0.length) (fun h => wPO r ((id, .buf sz es) :: del id l) K h) h else False
    | p, ob => match p.on ob with | some o => wPO r ((p.id, o) :: del p.id l) K h | none => False
def wStepD (o : Oper) (m : Made) (st : St) (K : H → St → Prop) (h : H) : Prop :=
  wPO m.ws (delAll m.dead st.objs) (fun h l => K h (putD o m.v ⟨st.tmps, m.os ++ l⟩)) h
def wText (all : List Oper) (pl : List Nat) (ob : Nat → Option Obj) : List Oper → Nat → List Done → St → (H → List Done → St → Prop) → H → Prop
  | [], _, done, st, K, h => K h done st
  | o :: r, i, done, st, K, h =>
    if befOne (bOf done) o < 2 ^ i then wWanted all o st (fun h w st => match w with
      | true => if (prep C.P o.op st.view).isEmpty then wOp C S o (st.view.only (readsOf o.op st)) (fun h m =>
          wOkM st.view (arrive pl o ob m) (fun h => wStepD o (arrive pl o ob m) st (fun h s =>
            wText all pl ob r (i + 1) (⟨i, befOne (bOf done) o, o, arrive pl o ob m, m.os.map (·.1), readsOf o.op st⟩ :: done) s K h) h) h) h else False
      | false => wText all pl ob r (i + 1) (⟨i, befOne (bOf done) o, o, .only (.tup []) [], [], []⟩ :: done) (stepD o (.only (.tup []) []) st) K h) h else False
def wRegion (ops : Array Oper) (pre : List Nat) (draw : Bool) (st : St) (K : H → St → Prop) (h : H) : Prop :=
  if draw then
    if slotsT ops.toList then wText C S ops.toList (pre ++ plainDsts ops.toList) st.obj ops.toList 0 [] st (fun h done s =>
      if apart done done && nodup (done.flatMap Done.raw) && (done.flatMap Done.raw).all (fun i => (st.obj i).isNone) then K h (forgetAll (done.flatMap fun x => x.m.dead) s) else False) h
    else False
  else wOpers C S ops.toList (pre ++ plainDsts ops.toList) ops.toList st K h

end

section
variable {C : Cx} {S : Specs}

theorem wPatches_ok : ∀ {ws : List Patch} {st : St} {K : H → St → Prop} {h : H}, wPatches ws st K h → ∃ s, patchAll ws st = some s ∧ ∃ h', K h' s
  | [], st, K, h, k => ⟨st, rfl, _, k⟩
  | p :: r, st, K, h, k => by
    simp only [wPatches] at k
    split at k
    · rename_i id sz es sz0 es0 e1
      split at k
      · rename_i e2
        obtain ⟨hp, h1, k⟩ := chk_ok k
        obtain ⟨s, e3, k⟩ := wPatches_ok k
        refine ⟨s, ?_, k⟩
        simp only [patchAll, e1, Patch.on]
        rw [if_pos ⟨e2, hp⟩]; exact e3
      · exact k.elim
    · split at k
      · rename_i o e1
        obtain ⟨s, e3, k⟩ := wPatches_ok k
        refine ⟨s, ?_, k⟩
        simp only [patchAll, e1]; exact e3
      · exact k.elim

theorem wLay_ok {o : Oper} {m : Made} {st : St} {K : H → St → Prop} {h : H} (k : wLay o m st K h) : ∃ s, lay o m st = some s ∧ ∃ h', K h' s := by
  unfold wLay at k
  split at k
  · rename_i s e1
    obtain ⟨s2, e2, h1, k⟩ := wPatches_ok k
    split at k
    · rename_i s3 e3
      exact ⟨_, by unfold lay; simp only [e1, e2, e3], _, k⟩
    · exact k.elim
  · exact k.elim

theorem wOper_ok (hS : SpecOK C S) {pl : List Nat} {o : Oper} {st : St} {K : H → St → Prop} {h : H} (k : wOper C S pl o st K h) : ∃ n s, oper C (callN C n) pl o st = some s ∧ ∃ h', K h' s := by
  unfold wOper at k
  split at k
  · rename_i s e1
    obtain ⟨n, m, e2, h1, k⟩ := wOp_ok hS k
    obtain ⟨s2, e3, k⟩ := wLay_ok k
    exact ⟨n, s2, by unfold oper; simp only [e1, e2, e3], k⟩
  · exact k.elim

theorem wWanted_ok {all : List Oper} {o : Oper} {st : St} {K : H → Bool → St → Prop} {h : H} (k : wWanted all o st K h) : ∃ w, wanted all st.view o = some w ∧ ∃ h', K h' w st := by
  unfold wWanted at k
  unfold wanted
  split at k
  · rename_i e1
    exact ⟨true, by simp only [e1], _, k⟩
  · rename_i j want e1
    split at k
    · rename_i t e2
      split at k
      · rename_i b e3
        obtain ⟨h', k⟩ := fork_ok k
        rw [setB_same e3] at k
        refine ⟨b == want, ?_, _, k⟩
        simp only [e1, e2, St.view, e3]
      · rename_i e3
        refine ⟨false, ?_, _, k⟩
        simp only [e1, e2, St.view, e3]
      · exact k.elim
    · exact k.elim

theorem wOpers_ok (hS : SpecOK C S) {all : List Oper} {pl : List Nat} : ∀ {l : List Oper} {st : St} {K : H → St → Prop} {h : H}, wOpers C S all pl l st K h → ∃ n s, opers C (callN C n) all pl l st = some s ∧ ∃ h', K h' s
  | [], st, K, h, k => ⟨0, st, rfl, _, k⟩
  | o :: r, st, K, h, k => by
    simp only [wOpers] at k
    obtain ⟨w, e1, h1, k⟩ := wWanted_ok k
    cases w with
    | true =>
      obtain ⟨n, s, e2, h2, k⟩ := wOper_ok hS k
      obtain ⟨n', s', e3, k⟩ := wOpers_ok hS k
      refine ⟨max n n', s', ?_, k⟩
      simp only [opers, e1, oper_up (callN_up (Nat.le_max_left n n')) e2]
      exact opers_up (callN_up (Nat.le_max_right n n')) e3
    | false =>
      obtain ⟨n, s, e2, k⟩ := wOpers_ok hS k
      exact ⟨n, s, by simp only [opers, e1]; exact e2, k⟩

theorem wOks_ok {V : View} {m : Made} : ∀ {ws : List Patch} {K : H → Prop} {h : H}, wOks V ws K h → (ws.all fun p => (p.on (V.obj p.id)).isSome) = true ∧ ∃ h', K h'
  | [], K, h, k => ⟨rfl, _, k⟩
  | p :: r, K, h, k => by
    simp only [wOks] at k
    split at k
    · rename_i id sz es sz0 es0 e1
      split at k
      · rename_i e2
        obtain ⟨hp, h1, k⟩ := chk_ok k
        obtain ⟨e3, k⟩ := wOks_ok (m := m) k
        refine ⟨?_, k⟩
        have e4 : ((Patch.buf id sz es).on (V.obj (Patch.buf id sz es).id)).isSome = true := by
          rw [e1]; simp only [Patch.on]; rw [if_pos ⟨e2, hp⟩]; rfl
        rw [List.all_cons, e4, e3]; rfl
      · exact k.elim
    · split at k
      · rename_i e1
        obtain ⟨e3, k⟩ := wOks_ok (m := m) k
        exact ⟨by simp only [List.all_cons, e1, e3]; rfl, k⟩
      · exact k.elim

theorem wOkM_ok {V : View} {m : Made} {K : H → Prop} {h : H} (k : wOkM V m K h) : okMade V m = true ∧ ∃ h', K h' := by
  unfold wOkM at k
  split at k
  · rename_i e1
    obtain ⟨e2, k⟩ := wOks_ok (m := m) k
    refine ⟨?_, k⟩
    simp only [Bool.and_eq_true, List.all_eq_true] at e1 e2
    unfold okMade
    simp only [Bool.and_eq_true, List.all_eq_true]
    exact ⟨e1.1, fun p hp => ⟨e1.2 p hp, e2 p hp⟩⟩
  · exact k.elim

theorem wPO_ok : ∀ {ws : List Patch} {l : List (Nat × Obj)} {K : H → List (Nat × Obj) → Prop} {h : H}, wPO ws l K h → ∃ h', K h' (patchObjs ws l)
  | [], l, K, h, k => ⟨_, k⟩
  | p :: r, l, K, h, k => by
    simp only [wPO] at k
    split at k
    · rename_i id sz es sz0 es0 e1
      split at k
      · rename_i e2
        obtain ⟨hp, h1, k⟩ := chk_ok k
        obtain ⟨h2, k⟩ := wPO_ok k
        refine ⟨h2, ?_⟩
        simp only [patchObjs, e1, Patch.on]
        rw [if_pos ⟨e2, hp⟩]; exact k
      · exact k.elim
    · split at k
      · rename_i o e1
        obtain ⟨h2, k⟩ := wPO_ok k
        exact ⟨h2, by simp only [patchObjs, e1]; exact k⟩
      · exact k.elim

theorem wText_ok (hS : SpecOK C S) {all : List Oper} {pl : List Nat} {ob : Nat → Option Obj} : ∀ {l : List Oper} {i : Nat} {done : List Done} {st : St} {K : H → List Done → St → Prop} {h : H}, wText C S all pl ob l i done st K h →
    ∃ n d s, textR C (callN C n) all pl ob l i done st = some (d, s) ∧ ∃ h', K h' d s
  | [], i, done, st, K, h, k => ⟨0, done, st, rfl, _, k⟩
  | o :: r, i, done, st, K, h, k => by
    simp only [wText] at k
    split at k
    · rename_i hb
      obtain ⟨w, e1, h1, k⟩ := wWanted_ok k
      cases w with
      | true =>
        simp only at k
        split at k
        · rename_i e2
          obtain ⟨n, m, e3, h2, k⟩ := wOp_ok hS k
          obtain ⟨e4, h3, k⟩ := wOkM_ok k
          obtain ⟨h4, k⟩ := wPO_ok (show wPO _ _ _ _ from k)
          obtain ⟨n', d, s, e5, k⟩ := wText_ok hS k
          refine ⟨max n n', d, s, ?_, k⟩
          simp only [textR]
          rw [if_pos hb]
          simp only [e1]
          rw [if_pos e2]
          simp only [made_up (callN_up (Nat.le_max_left n n')) e3]
          rw [if_pos e4]
          exact textR_up (callN_up (Nat.le_max_right n n')) e5
        · exact k.elim
      | false =>
        obtain ⟨n, d, s, e2, k⟩ := wText_ok hS k
        refine ⟨n, d, s, ?_, k⟩
        simp only [textR]
        rw [if_pos hb]
        simp only [e1]
        exact e2
    · exact k.elim

theorem wRegion_ok (hS : SpecOK C S) {ops : Array Oper} {pre : List Nat} {draw : Bool} {st : St} {K : H → St → Prop} {h : H} (k : wRegion C S ops pre draw st K h) : ∃ n s, region C (callN C n) ops pre draw st = some s ∧ ∃ h', K h' s := by
  unfold wRegion at k
  cases draw with
  | true =>
    simp only [if_true] at k
    split at k
    · rename_i e1
      obtain ⟨n, d, s, e2, h1, k⟩ := wText_ok hS k
      split at k
      · rename_i e3
        refine ⟨n, _, ?_, h1, k⟩
        unfold region
        simp only [if_true]
        rw [if_pos e1]
        simp only [e2]
        rw [if_pos e3]
      · exact k.elim
    · exact k.elim
  | false =>
    obtain ⟨n, s, e, k⟩ := wOpers_ok hS (show wOpers C S ops.toList (pre ++ plainDsts ops.toList) ops.toList st K h from k)
    exact ⟨n, s, by unfold region; exact e, k⟩

end

/-! ### Code -/
/-- A place in a function's code: the body; behind a label of a scope; a part. -/
inductive CP where
  | top
  | lab (p : CP) (l : Nat)
  | dn (p : CP) (i : Nat)

def child : Code → Nat → Option Code
  | .seq a _, 0 => some a
  | .seq _ b, 1 => some b
  | .cond _ a _, 0 => some a
  | .cond _ _ b, 1 => some b
  | .block _ b, 0 => some b
  | .loop b, 0 => some b
  | .scope b, 0 => some b
  | _, _ => none

section
variable (C : Cx) (S : Specs) (f : FuncId)

def codeOf : CP → Option Code
  | .top => match C.P.funcs[f]? with | some fn => fn.body | none => none
  | .lab p l => match codeOf p with | some (.scope b) => findLabel b l | _ => none
  | .dn p i => match codeOf p with | some c => child c i | none => none

abbrev KT := H → Ex → St → Prop
def exK (K : KT) : Ex → St → Prop := fun e s => ∃ h, K h e s
def seqK (w : St → KT → H → Prop) (K : KT) : KT := fun h e s => match e with | .normal => w s K h | e => K h e s
def blockK (id : Nat) (K : KT) : KT := fun h e s => match e with | .exit i => if i = id then K h .normal s else K h (.exit i) s | e => K h e s

/-- A loop's body once more. -/
def bodyN (call : FuncId → List TV → Option (List TV × List TV)) (k : Nat) (b : Code) : St → Option (Ex × St) := fun s => match norm (C.loops f (tag b)) s with | some s => code C call f k (againN C call f k k) b s | none => none
/-- From a loop's head on. -/
def loopAtN (k : Nat) (b : Code) (s : St) : Option (Ex × St) :=
  match code C (callN C k) f k (againN C (callN C k) f k k) b s with
  | some (.normal, s2) => loopN (bodyN C f (callN C k) k b) k s2
  | r => r
def LoopAt (cp : CP) (s : St) (K : Ex → St → Prop) : Prop := ∃ b, codeOf C f cp = some (.loop b) ∧ ∃ k e s', loopAtN C f k b s = some (e, s') ∧ K e s'
/-- A loop, by what must be shown of it, or (where all is known) run. -/
def loopW (cp : CP) (b : Code) (s : St) (K : KT) : H → Prop
  | .r k h => (match loopAtN C f k b s with | some (e, s') => K h e s' | none => False)
  | .n 0 h => loopW cp b s K h
  | _ => LoopAt C f cp s (exK K)
def AgainAt (cp : CP) (l : Nat) (s : St) (K : Ex → St → Prop) : Prop :=
  ∃ b rest, codeOf C f cp = some (.scope b) ∧ findLabel b l = some rest ∧ ∃ k e s', againN C (callN C k) f k k b rest s = some (e, s') ∧ K e s'
def scopeK (cp : CP) (K : KT) : KT := fun h e s => match e with
  | .goto l => (match codeOf C f cp with
    | some (.scope b) => (match findLabel b l, norm (C.loops f (labelTag l)) s with
      | some _, some s' => AgainAt C f cp l s' (exK K)
      | _, _ => False)
    | _ => False)
  | e => K h e s
def loopK (cp : CP) (J : St → Prop) (K : Ex → St → Prop) : KT := fun h e s => match e with
  | .normal => (match codeOf C f cp with
    | some (.loop b) => (match norm (C.loops f (tag b)) s with | some s1 => J s1 | none => False)
    | _ => False)
  | e => K e s
def againK (cp : CP) (J : Nat → St → Prop) (K : Ex → St → Prop) : KT := fun h e s => match e with
  | .goto l => (match codeOf C f cp with
    | some (.scope b) => (match findLabel b l, norm (C.loops f (labelTag l)) s with
      | some _, some s' => J l s'
      | _, _ => False)
    | _ => False)
  | e => K e s
def retK (as : List TV) (Q : List TV × List TV → Prop) : KT := fun h e s => match e with
  | .normal => (match C.P.funcs[f]? with | some fn => (match leave C f fn.results.toList as s with | some r => Q r | none => False) | none => False)
  | .ret => (match C.P.funcs[f]? with | some fn => (match leave C f fn.results.toList as s with | some r => Q r | none => False) | none => False)
  | _ => False

def wAt : Nat → CP → St → KT → H → Prop
  | 0, _, _, _, _ => False
  | n + 1, cp, st, K, h => match codeOf C f cp with
    | some .skip => K h .normal st
    | some (.label l) => (match norm (C.loops f (labelTag l)) st with | some s => K h .normal s | none => False)
    | some (.region id ops draw) => (match freezeSlots (C.pre f id) st with
      | some s => wRegion C S ops (C.pre f id) draw s (fun h s => K h .normal s) h
      | none => False)
    | some (.seq _ _) => wAt n (.dn cp 0) st (seqK (wAt n (.dn cp 1)) K) h
    | some (.cond c _ _) => (match c with
      | .tmp t => (match st.get t with
        | .pv (.bool b) => fork b (fun h b => wAt n (.dn cp (if b then 0 else 1)) (st.setB t b) K h) h
        | _ => False)
      | c => (match st.view.eval c with
        | some (.pv (.bool b)) => fork b (fun h b => wAt n (.dn cp (if b then 0 else 1)) st K h) h
        | _ => False))
    | some (.block id _) => wAt n (.dn cp 0) st (blockK id K) h
    | some (.loop b) => (match norm (C.loops f (tag b)) st with | some s => loopW C f cp b s K h | none => False)
    | some (.scope _) => wAt n (.dn cp 0) st (scopeK C f cp K) h
    | some (.exit id) => K h (.exit id) st
    | some (.goto l) => K h (.goto l) st
    | some .ret => K h .ret st
    | _ => False

def wFun (as : List TV) (Q : List TV × List TV → Prop) (h : H) : Prop :=
  match C.ext f with
  | some _ => False
  | none => match C.P.funcs[f]? with
    | some fn => if fn.body.isSome && decide (as.length ≤ fn.ntmps) then
        (match enter 0 as ⟨[], []⟩ with
        | some s => wAt C S f 100000 .top s (retK C f as Q) h
        | none => False) else False
    | none => False

/-- A part of a function's code, carried out. -/
def Runs (c : Code) (st : St) (K : Ex → St → Prop) : Prop := ∃ k e s, code C (callN C k) f k (againN C (callN C k) f k k) c st = some (e, s) ∧ K e s
end

section
variable {C : Cx} {S : Specs} {f : FuncId}

theorem code_fuel {k k' : Nat} (hk : k ≤ k') {c : Code} {st : St} {r : Ex × St} (h : code C (callN C k) f k (againN C (callN C k) f k k) c st = some r) : code C (callN C k') f k' (againN C (callN C k') f k' k') c st = some r :=
  code_up (callN_up hk) hk (againN_up (callN_up hk) hk hk) c st r h

theorem bodyN_up {k k' : Nat} (hk : k ≤ k') {b : Code} {s : St} {r : Ex × St} (h : bodyN C f (callN C k) k b s = some r) : bodyN C f (callN C k') k' b s = some r := by
  unfold bodyN at h ⊢
  split at h
  · exact code_fuel hk h
  · exact absurd h (by simp)
theorem loopW_at {cp : CP} {b : Code} {s : St} {K : KT} (hb : codeOf C f cp = some (.loop b)) : ∀ {h : H}, loopW C f cp b s K h → LoopAt C f cp s (exK K)
  | .r k h, w => by
    simp only [loopW] at w
    split at w
    · rename_i e s' hs
      exact ⟨b, hb, k, e, s', hs, h, w⟩
    · exact w.elim
  | .auto, w => w
  | .n 0 h, w => loopW_at hb (h := h) (by simpa only [loopW] using w)
  | .n (_ + 1) _, w => w
  | .s _, w => w
  | .b _ _, w => w
theorem loopAtN_up {k k' : Nat} (hk : k ≤ k') {b : Code} {s : St} {r : Ex × St} (h : loopAtN C f k b s = some r) : loopAtN C f k' b s = some r := by
  unfold loopAtN at h ⊢
  split at h
  · rename_i s2 hs
    rw [code_fuel hk hs]
    exact loopN_up (fun s r h => bodyN_up hk h) hk h
  · rename_i hne
    rw [code_fuel hk h]
    obtain ⟨e, s⟩ := r
    cases e with
    | normal => exact absurd h (hne s)
    | _ => rfl

theorem Runs.seq {a b : Code} {st : St} {K : Ex → St → Prop} (h : Runs C f a st (fun e s => match e with | .normal => Runs C f b s K | e => K e s)) : Runs C f (.seq a b) st K := by
  obtain ⟨k, e, s, h1, h2⟩ := h
  cases e with
  | normal =>
    obtain ⟨k', e', s', h3, h4⟩ := h2
    refine ⟨max k k', e', s', ?_, h4⟩
    simp only [code]
    rw [code_fuel (Nat.le_max_left k k') h1]
    exact code_fuel (Nat.le_max_right k k') h3
  | _ => exact ⟨k, _, s, by simp only [code]; rw [h1], h2⟩

theorem wAt_ok (hS : SpecOK C S) : ∀ {n : Nat} {cp : CP} {st : St} {K : KT} {h : H}, wAt C S f n cp st K h → ∃ c, codeOf C f cp = some c ∧ Runs C f c st (exK K)
  | 0, cp, st, K, h, k => by simp [wAt] at k
  | n + 1, cp, st, K, h, k => by
    simp only [wAt] at k
    split at k
    · rename_i e1
      exact ⟨_, e1, 0, _, st, by simp only [code], _, k⟩
    · rename_i l e1
      split at k
      · rename_i s e2
        exact ⟨_, e1, 0, _, s, by simp only [code, e2], _, k⟩
      · exact k.elim
    · rename_i id ops draw e1
      split at k
      · rename_i s e2
        obtain ⟨m, s', e3, h', k⟩ := wRegion_ok hS k
        exact ⟨_, e1, m, _, s', by simp only [code, e2, e3], h', k⟩
      · exact k.elim
    · rename_i a b e1
      refine ⟨_, e1, Runs.seq ?_⟩
      obtain ⟨c, e2, m, e, s, e3, h', k⟩ := wAt_ok hS k
      have : codeOf C f (.dn cp 0) = some a := by simp only [codeOf, e1, child]
      rw [this] at e2; simp only [Option.some.injEq] at e2; subst e2
      refine ⟨m, e, s, e3, ?_⟩
      cases e with
      | normal =>
        obtain ⟨c, e2, k⟩ := wAt_ok hS (show wAt C S f n (.dn cp 1) s K h' from k)
        have : codeOf C f (.dn cp 1) = some b := by simp only [codeOf, e1, child]
        rw [this] at e2; simp only [Option.some.injEq] at e2; subst e2
        exact k
      | _ => exact ⟨_, k⟩
    · rename_i c a b e1
      refine ⟨_, e1, ?_⟩
      have key : ∀ (t : Bool) (h : H), st.view.eval c = some (.pv (.bool t)) → wAt C S f n (.dn cp (if t then 0 else 1)) st K h → Runs C f (.cond c a b) st (exK K) := by
        intro t h e2 k
        obtain ⟨c', e3, m, e, s, e4, k2⟩ := wAt_ok hS k
        clear k
        cases t with
        | true =>
          have : codeOf C f (.dn cp (if true then 0 else 1)) = some a := by simp only [codeOf, e1, child, if_true]
          rw [this] at e3; simp only [Option.some.injEq] at e3; subst e3
          exact ⟨m, e, s, by simp only [code, e2, if_true]; exact e4, k2⟩
        | false =>
          have : codeOf C f (.dn cp (if false then 0 else 1)) = some b := by simp [codeOf, e1, child]
          rw [this] at e3; simp only [Option.some.injEq] at e3; subst e3
          exact ⟨m, e, s, by simp only [code, e2]; exact e4, k2⟩
      split at k
      · rename_i t
        split at k
        · rename_i v e2
          obtain ⟨h', k⟩ := fork_ok k
          rw [setB_same e2] at k
          exact key v h' (by show some (st.get t) = _; rw [e2]) k
        · exact k.elim
      · split at k
        · rename_i v e2
          obtain ⟨h', k⟩ := fork_ok k
          exact key v h' e2 k
        · exact k.elim
    · rename_i id b e1
      refine ⟨_, e1, ?_⟩
      obtain ⟨c, e2, m, e, s, e3, h', k⟩ := wAt_ok hS k
      have : codeOf C f (.dn cp 0) = some b := by simp only [codeOf, e1, child]
      rw [this] at e2; simp only [Option.some.injEq] at e2; subst e2
      cases e with
      | exit i =>
        simp only [blockK] at k
        by_cases hi : i = id
        · rw [if_pos hi] at k
          exact ⟨m, .normal, s, by simp only [code, e3, hi, if_true], h', k⟩
        · rw [if_neg hi] at k
          exact ⟨m, .exit i, s, by simp only [code, e3]; rw [if_neg hi], h', k⟩
      | _ => exact ⟨m, _, s, by simp only [code, e3], h', k⟩
    · rename_i b e1
      split at k
      · rename_i s e2
        obtain ⟨b', e3, m, e, s', e4, k⟩ := loopW_at e1 k
        rw [e1] at e3; simp only [Option.some.injEq, Code.loop.injEq] at e3; subst e3
        refine ⟨_, e1, m + 1, e, s', ?_, k⟩
        simp only [code]
        have e4' := loopAtN_up (Nat.le_succ m) e4
        unfold loopAtN at e4
        simp only [loopN, e2]
        split at e4
        · rename_i s2 hs
          rw [code_fuel (Nat.le_succ m) hs]
          exact loopN_up (fun s r h => bodyN_up (Nat.le_succ m) h) (Nat.le_refl _) e4
        · rename_i hne
          rw [code_fuel (Nat.le_succ m) e4]
          cases e with
          | normal => exact absurd e4 (hne s')
          | _ => rfl
      · exact k.elim
    · rename_i b e1
      refine ⟨_, e1, ?_⟩
      obtain ⟨c, e2, m, e, s, e3, h', k⟩ := wAt_ok hS k
      have : codeOf C f (.dn cp 0) = some b := by simp only [codeOf, e1, child]
      rw [this] at e2; simp only [Option.some.injEq] at e2; subst e2
      cases e with
      | goto l =>
        simp only [scopeK, e1] at k
        split at k
        · rename_i x1 x2 rest s1 e4 e5
          obtain ⟨b', rest', e6, e7, m', e', s', e8, k⟩ := k
          rw [e1] at e6; simp only [Option.some.injEq, Code.scope.injEq] at e6; subst e6
          rw [e4] at e7; simp only [Option.some.injEq] at e7; subst e7
          refine ⟨max m m', e', s', ?_, k⟩
          simp only [code, handle]
          rw [code_fuel (Nat.le_max_left m m') e3]
          simp only [e4, e5]
          exact againN_up (callN_up (Nat.le_max_right m m')) (Nat.le_max_right m m') (Nat.le_max_right m m') _ _ _ _ e8
        · exact k.elim
      | _ => exact ⟨m, _, s, by simp only [code, handle, e3], h', k⟩
    · rename_i id e1
      exact ⟨_, e1, 0, _, st, by simp only [code], _, k⟩
    · rename_i l e1
      exact ⟨_, e1, 0, _, st, by simp only [code], _, k⟩
    · rename_i e1
      exact ⟨_, e1, 0, _, st, by simp only [code], _, k⟩
    · exact k.elim

def isLoop (C : Cx) (f : FuncId) (cp : CP) : Bool := match codeOf C f cp with | some (.loop _) => true | _ => false
/-- A LOOP: what holds at its head, with a number that falls. -/
theorem loop_rule (hS : SpecOK C S) {cp : CP} {K : Ex → St → Prop} (hlp : isLoop C f cp = true) (N : Nat) (I : Nat → St → Prop) (hstep : ∀ n s, I n s → ∃ h, wAt C S f N (.dn cp 0) s (loopK C f cp (fun s' => ∃ m, m < n ∧ I m s') K) h) {n : Nat} {s : St} (h : I n s) : LoopAt C f cp s K := by
  induction n using Nat.strongRecOn generalizing s with
  | _ n ih =>
    obtain ⟨hh, k⟩ := hstep n s h
    obtain ⟨c, e1, m, e, s2, e2, h', k⟩ := wAt_ok hS k
    have hb : codeOf C f cp = some (.loop c) := by
      unfold isLoop at hlp
      simp only [codeOf] at e1
      split at hlp
      · rename_i b e3
        simp only [e3, child, Option.some.injEq] at e1; subst e1; exact e3
      · exact absurd hlp (by simp)
    by_cases he : e = .normal
    · subst he
      simp only [loopK, hb] at k
      split at k
      · rename_i s1 e3
        obtain ⟨m', hm', k⟩ := k
        obtain ⟨b', e4, n2, e', s', e5, k⟩ := ih m' hm' k
        rw [hb] at e4; simp only [Option.some.injEq, Code.loop.injEq] at e4; subst e4
        refine ⟨c, hb, max m n2 + 1, e', s', ?_, k⟩
        have le1 : m ≤ max m n2 + 1 := by omega
        have le2 : n2 ≤ max m n2 + 1 := by omega
        unfold loopAtN
        rw [code_fuel le1 e2]
        simp only [loopN]
        unfold loopAtN at e5
        split at e5
        · rename_i s3 e6
          have : bodyN C f (callN C (max m n2 + 1)) (max m n2 + 1) c s2 = some (.normal, s3) := by
            unfold bodyN; simp only [e3]; exact code_fuel le2 e6
          rw [this]
          exact loopN_up (fun s r h => bodyN_up le2 h) (by omega) e5
        · rename_i hne
          have : bodyN C f (callN C (max m n2 + 1)) (max m n2 + 1) c s2 = some (e', s') := by
            unfold bodyN; simp only [e3]; exact code_fuel le2 e5
          rw [this]
          cases e' with
          | normal => exact absurd e5 (hne s')
          | _ => rfl
      · exact k.elim
    · refine ⟨c, hb, m, e, s2, ?_, ?_⟩
      · unfold loopAtN
        rw [e2]
        cases e with
        | normal => exact absurd rfl he
        | _ => rfl
      · cases e with
        | normal => exact absurd rfl he
        | _ => exact k

/-- LABELS OF A SCOPE: what holds behind them, with a number that falls. -/
theorem again_rule (hS : SpecOK C S) {cp : CP} {K : Ex → St → Prop} (N : Nat) (I : Nat → Nat → St → Prop) (hstep : ∀ n l s, I n l s → ∃ h, wAt C S f N (.lab cp l) s (againK C f cp (fun l' s' => ∃ m, m < n ∧ I m l' s') K) h) {n l : Nat} {s : St} (h : I n l s) : AgainAt C f cp l s K := by
  induction n using Nat.strongRecOn generalizing l s with
  | _ n ih =>
    obtain ⟨hh, k⟩ := hstep n l s h
    obtain ⟨c, e1, m, e, s2, e2, h', k⟩ := wAt_ok hS k
    have hb : ∃ b, codeOf C f cp = some (.scope b) ∧ findLabel b l = some c := by
      simp only [codeOf] at e1
      split at e1
      · rename_i b e3; exact ⟨b, e3, e1⟩
      · exact absurd e1 (by simp)
    obtain ⟨b, e3, e4⟩ := hb
    cases e with
    | goto l' =>
      simp only [againK, e3] at k
      split at k
      · rename_i x1 x2 rest s1 e5 e6
        obtain ⟨m', hm', k⟩ := k
        obtain ⟨b', rest', e7, e8, n2, e', s', e9, k⟩ := ih m' hm' k
        rw [e3] at e7; simp only [Option.some.injEq, Code.scope.injEq] at e7; subst e7
        rw [e5] at e8; simp only [Option.some.injEq] at e8; subst e8
        refine ⟨b, c, e3, e4, max m n2 + 1, e', s', ?_, k⟩
        simp only [againN, handle]
        rw [code_up (callN_up (show m ≤ max m n2 + 1 by omega)) (by omega) (againN_up (callN_up (by omega)) (by omega) (show m ≤ max m n2 by omega)) c s _ e2]
        simp only [e5, e6]
        exact againN_up (callN_up (by omega)) (by omega) (show n2 ≤ max m n2 by omega) _ _ _ _ e9
      · exact k.elim
    | _ =>
      refine ⟨b, c, e3, e4, m + 1, _, s2, ?_, k⟩
      simp only [againN, handle]
      rw [code_up (callN_up (show m ≤ m + 1 by omega)) (by omega) (againN_up (callN_up (by omega)) (by omega) (Nat.le_refl m)) c s _ e2]

theorem fun_rule (hS : SpecOK C S) {ag : List TV} {Q : List TV × List TV → Prop} {h : H} (k : wFun C S f ag Q h) : ∃ r, Ev C f ag r ∧ Q r := by
  unfold wFun at k
  split at k
  · exact k.elim
  · rename_i e0
    split at k
    · rename_i fn e1
      split at k
      · rename_i e2
        simp only [Bool.and_eq_true, decide_eq_true_eq] at e2
        obtain ⟨c, e3⟩ := Option.isSome_iff_exists.1 e2.1
        split at k
        · rename_i s e4
          obtain ⟨c', e5, m, e, s', e6, h', k⟩ := wAt_ok hS k
          simp only [codeOf, e1, e3, Option.some.injEq] at e5; subst e5
          have key : (e = .normal ∨ e = .ret) → (match leave C f fn.results.toList ag s' with | some r => Q r | none => False) → ∃ r, Ev C f ag r ∧ Q r := by
            intro he k
            split at k
            · rename_i r e7
              refine ⟨r, Ev.of (k := m + 1) ?_, k⟩
              simp only [callN, e0, e1, e3, e2.2, if_true, e4, bodyOf, e6, he, e7]
            · exact k.elim
          cases e with
          | normal => simp only [retK, e1] at k; exact key (.inl rfl) k
          | ret => simp only [retK, e1] at k; exact key (.inr rfl) k
          | _ => exact k.elim
        · exact k.elim
      · exact k.elim
    · exact k.elim

end
end Go.Proofs.YtbnjbianobdleaaGreat.Vm
