/-
  What must be shown of a function's code, as one proposition: the machine run over values that are not known.
-/
import Derived.Test.YtmjkdghcfihfiaaVmFuel
namespace Go.Proofs.Ytmjkdghcfihfiaa.Vm
open Go
set_option linter.unusedVariables false
set_option linter.unusedSimpArgs false

/-- At each check: is it computed, or shown? -/
inductive H where
  | auto
  | n (k : Nat) (h : H)
  | s (h : H)
  | b (x y : H)
  | r (k : Nat) (h : H)

def chk (p : Prop) [Decidable p] (K : H → Prop) : H → Prop
  | .auto => if p then K .auto else False
  | .n 0 h => chk p K h
  | .n (k + 1) h => if p then K (.n k h) else False
  | .s h => p ∧ K h
  | .b _ _ => False
  | .r _ _ => False
theorem chk_ok {p : Prop} [Decidable p] {K : H → Prop} : ∀ {h : H}, chk p K h → p ∧ ∃ h', K h'
  | .auto, k => by
    simp only [chk] at k
    split at k
    · rename_i hp; exact ⟨hp, _, k⟩
    · exact k.elim
  | .n 0 h, k => chk_ok (h := h) (by simpa only [chk] using k)
  | .n (j + 1) h, k => by
    simp only [chk] at k
    split at k
    · rename_i hp; exact ⟨hp, _, k⟩
    · exact k.elim
  | .s h, k => ⟨k.1, _, k.2⟩
  | .b _ _, k => by simp [chk] at k
  | .r _ _, k => by simp [chk] at k

def fork (b : Bool) (K : H → Bool → Prop) : H → Prop
  | .auto => (match b with | true => K .auto true | false => K .auto false)
  | .n 0 h => fork b K h
  | .n (k + 1) h => (match b with | true => K (.n k h) true | false => K (.n k h) false)
  | .s h => b = true ∧ K h true
  | .b x y => (b = true → K x true) ∧ (b = false → K y false)
  | .r _ _ => False
theorem fork_ok {b : Bool} {K : H → Bool → Prop} : ∀ {h : H}, fork b K h → ∃ h', K h' b
  | .auto, k => by cases b <;> exact ⟨_, k⟩
  | .n 0 h, k => fork_ok (h := h) (by simpa only [fork] using k)
  | .n (j + 1) h, k => by cases b <;> exact ⟨_, k⟩
  | .s h, k => by
    obtain ⟨h1, h2⟩ := k
    subst h1
    exact ⟨_, h2⟩
  | .b x y, k => by
    cases b
    · exact ⟨_, k.2 rfl⟩
    · exact ⟨_, k.1 rfl⟩
  | .r _ _, k => by simp [fork] at k

/-- Leaves of these types. -/
def exRow (P : Program) : List TypeId → (List PV → Prop) → Prop
  | [], K => K []
  | t :: ts, K => match P.underlying t with
    | some (.int k) => ∃ n : Int, exRow P ts fun l => K (.int k n :: l)
    | some .bool => ∃ b : Bool, exRow P ts fun l => K (.bool b :: l)
    | some .string => ∃ s : List UInt8, exRow P ts fun l => K (.str s :: l)
    | some (.slice _) => ∃ es : List (List PV), exRow P ts fun l => K (.sl es :: l)
    | _ => ∃ x : PV, exRow P ts fun l => K (x :: l)
theorem exRow_ok {P : Program} : ∀ {ts : List TypeId} {K : List PV → Prop}, exRow P ts K → ∃ l, K l
  | [], K, h => ⟨_, h⟩
  | t :: ts, K, h => by
    simp only [exRow] at h
    split at h <;> (obtain ⟨x, h⟩ := h; obtain ⟨l, h⟩ := exRow_ok h; exact ⟨_, h⟩)

def wLoad (P : Program) (es : List (List PV)) (i off n : Nat) (ts : List TypeId) (K : H → List PV → Prop) : H → Prop
  | .auto => (match es[i]? with | some c => if off + n ≤ c.length then K .auto ((c.drop off).take n) else False | none => False)
  | .n 0 h => wLoad P es i off n ts K h
  | .n (k + 1) h => (match es[i]? with | some c => if off + n ≤ c.length then K (.n k h) ((c.drop off).take n) else False | none => False)
  | .s h => ∃ c, es[i]? = some c ∧ off + n ≤ c.length ∧ exRow P ts fun l => (c.drop off).take n = l ∧ K h l
  | .b _ _ => False
  | .r _ _ => False
theorem wLoad_ok {P : Program} {es : List (List PV)} {i off n : Nat} {ts : List TypeId} {K : H → List PV → Prop} : ∀ {h : H}, wLoad P es i off n ts K h → ∃ c, es[i]? = some c ∧ off + n ≤ c.length ∧ ∃ h', K h' ((c.drop off).take n)
  | .auto, k => by
    simp only [wLoad] at k
    split at k
    · rename_i c hc
      split at k
      · rename_i hp; exact ⟨c, hc, hp, _, k⟩
      · exact k.elim
    · exact k.elim
  | .n 0 h, k => wLoad_ok (h := h) (by simpa only [wLoad] using k)
  | .n (j + 1) h, k => by
    simp only [wLoad] at k
    split at k
    · rename_i c hc
      split at k
      · rename_i hp; exact ⟨c, hc, hp, _, k⟩
      · exact k.elim
    · exact k.elim
  | .s h, k => by
    obtain ⟨c, k1, k2, k3⟩ := k
    obtain ⟨l, rfl, k4⟩ := exRow_ok k3
    exact ⟨c, k1, k2, _, k4⟩
  | .b _ _, k => by simp [wLoad] at k
  | .r _ _, k => by simp [wLoad] at k

def wElem (P : Program) (es : List (List PV)) (i n : Nat) (ts : List TypeId) (K : H → List PV → Prop) : H → Prop
  | .auto => (match es[i]? with | some c => if c.length = n then K .auto c else False | none => False)
  | .n 0 h => wElem P es i n ts K h
  | .n (k + 1) h => (match es[i]? with | some c => if c.length = n then K (.n k h) c else False | none => False)
  | .s h => exRow P ts fun l => es[i]? = some l ∧ (if l.length = n then K h l else False)
  | .b _ _ => False
  | .r _ _ => False
theorem wElem_ok {P : Program} {es : List (List PV)} {i n : Nat} {ts : List TypeId} {K : H → List PV → Prop} : ∀ {h : H}, wElem P es i n ts K h → ∃ c, es[i]? = some c ∧ c.length = n ∧ ∃ h', K h' c
  | .auto, k => by
    simp only [wElem] at k
    split at k
    · rename_i c hc
      split at k
      · rename_i hp; exact ⟨c, hc, hp, _, k⟩
      · exact k.elim
    · exact k.elim
  | .n 0 h, k => wElem_ok (h := h) (by simpa only [wElem] using k)
  | .n (j + 1) h, k => by
    simp only [wElem] at k
    split at k
    · rename_i c hc
      split at k
      · rename_i hp; exact ⟨c, hc, hp, _, k⟩
      · exact k.elim
    · exact k.elim
  | .s h, k => by
    obtain ⟨l, k1, k2⟩ := exRow_ok k
    split at k2
    · rename_i hp; exact ⟨l, k1, hp, _, k2⟩
    · exact k2.elim
  | .b _ _, k => by simp [wElem] at k
  | .r _ _, k => by simp [wElem] at k

def wHas {α : Type} (es : List α) (i : Nat) (K : H → α → Prop) : H → Prop
  | .auto => (match es[i]? with | some c => K .auto c | none => False)
  | .n 0 h => wHas es i K h
  | .n (k + 1) h => (match es[i]? with | some c => K (.n k h) c | none => False)
  | .s h => ∃ c, es[i]? = some c ∧ K h c
  | .b _ _ => False
  | .r _ _ => False
theorem wHas_ok {α : Type} {es : List α} {i : Nat} {K : H → α → Prop} : ∀ {h : H}, wHas es i K h → ∃ c, es[i]? = some c ∧ ∃ h', K h' c
  | .auto, k => by
    simp only [wHas] at k
    split at k
    · rename_i c hc; exact ⟨c, hc, _, k⟩
    · exact k.elim
  | .n 0 h, k => wHas_ok (h := h) (by simpa only [wHas] using k)
  | .n (j + 1) h, k => by
    simp only [wHas] at k
    split at k
    · rename_i c hc; exact ⟨c, hc, _, k⟩
    · exact k.elim
  | .s h, k => by
    obtain ⟨c, k1, k2⟩ := k
    exact ⟨c, k1, _, k2⟩
  | .b _ _, k => by simp [wHas] at k
  | .r _ _, k => by simp [wHas] at k

/-- What a function is known to answer: in each case, what. -/
abbrev Alts := List (Prop × List TV × List TV)
abbrev Specs := FuncId → Option (List TV → Option Alts)
def SpecOK (C : Cx) (S : Specs) : Prop := ∀ f g, S f = some g → ∀ as l, g as = some l → ∀ a ∈ l, a.1 → Ev C f as a.2

def H.fst : H → H
  | .b x _ => x
  | .n 0 h => h.fst
  | h => h
def H.snd : H → H
  | .b _ y => y
  | .n 0 h => h.snd
  | h => h
def orAll : Alts → Prop
  | [] => False
  | [a] => a.1
  | a :: r => a.1 ∨ orAll r
def eachAlt (K : H → List TV × List TV → Prop) : Alts → H → Prop
  | [], _ => True
  | a :: r, h => (a.1 → K h.fst a.2) ∧ eachAlt K r h.snd
def wAlts (K : H → List TV × List TV → Prop) : Alts → H → Prop
  | [a], h => a.1 ∧ K h a.2
  | l, h => orAll l ∧ eachAlt K l h

theorem orAll_mem : ∀ {l : Alts}, orAll l → ∃ a ∈ l, a.1
  | [], h => by simp [orAll] at h
  | [a], h => ⟨a, by simp, h⟩
  | a :: b :: r, h => by
    simp only [orAll] at h
    rcases h with h | h
    · exact ⟨a, by simp, h⟩
    · obtain ⟨c, h1, h2⟩ := orAll_mem (l := b :: r) h
      exact ⟨c, by simp [h1], h2⟩
theorem eachAlt_mem {K : H → List TV × List TV → Prop} : ∀ {l : Alts} {h : H}, eachAlt K l h → ∀ a ∈ l, a.1 → ∃ h', K h' a.2
  | [], h, _, a, ha => by simp at ha
  | b :: r, h, k, a, ha => by
    rcases List.mem_cons.1 ha with rfl | ha
    · exact fun p => ⟨_, k.1 p⟩
    · exact eachAlt_mem k.2 a ha
theorem wAlts_ok {K : H → List TV × List TV → Prop} {l : Alts} {h : H} (k : wAlts K l h) : ∃ a ∈ l, a.1 ∧ ∃ h', K h' a.2 := by
  unfold wAlts at k
  split at k
  · exact ⟨_, by simp, k.1, _, k.2⟩
  · obtain ⟨a, h1, h2⟩ := orAll_mem k.1
    exact ⟨a, h1, h2, eachAlt_mem k.2 a h1 h2⟩

section
variable (C : Cx) (S : Specs)

def wCall (f : FuncId) (as : List TV) (K : H → List TV × List TV → Prop) (h : H) : Prop :=
  match S f with
  | some g => (match g as with | some l => wAlts K l h | none => False)
  | none => match callN C 100000 f as with | some r => K h r | none => False

/-- Which rows that were lent stay frozen. -/
def wLent (lent : List Nat) (rs fs : List TV) (K : H → List Nat → Prop) (h : H) : Prop :=
  match lent with
  | [] => K h []
  | l => fork (flatTVs rs && flatTVs fs) (fun h b => K h (if b then [] else l)) h

def wCallM (d : Nat) (c : Call) (st : View) (K : H → Made → Prop) (h : H) : Prop :=
  match calleeOf st c.callee, evalAll st c.args.toList with
  | some (f, first, caps), some as => (match C.P.funcs[f]? with
    | some fn => (match argsTV C.P st (C.modes f) fn.params.toList (first ++ as ++ caps) with
      | some g => if nodup (g.dels ++ Back.idsL g.bs) && freeOf g.lent (g.dels ++ Back.idsL g.bs) then
          wCall C S f g.vs (fun h r => match backTV g.bs r.2 with
            | some (ws, os) => wLent g.lent r.1 r.2 (fun h fz => K h ⟨(resTV d r.1).1, (resTV d r.1).2 ++ os, ws, [], g.dels, fz⟩) h
            | none => False) h else False
      | none => False)
    | none => False)
  | _, _ => False

def noCall : FuncId → List TV → Option (List TV × List TV) := fun _ _ => none
def gen (o : Oper) (V : View) (K : H → Made → Prop) (h : H) : Prop := match made C noCall o V with | some m => K h m | none => False

def wSliceOf (lo hi : Option AV) (len : Nat) (K : H → Nat → Nat → Prop) (h : H) : Prop :=
  match (match hi with | none => some (Int.ofNat len) | some h => asInt h), (match lo with | none => some 0 | some l => asInt l) with
  | some b, some a => chk (0 ≤ a ∧ a ≤ b ∧ b ≤ Int.ofNat len) (fun h => K h a.toNat b.toNat) h
  | _, _ => False

def wPick (c a b : Operand) (V : View) (K : H → Made → Prop) (h : H) : Prop :=
  match V.eval c with
  | some (.pv (.bool t)) => fork t (fun h t => match V.eval (if t then a else b) with | some v => K h (.only v []) | none => False) h
  | _ => False
def wLd (o : Oper) (t : TypeId) (a : Operand) (V : View) (K : H → Made → Prop) (h : H) : Prop :=
  match V.eval a with
  | some (.addr id i off) => (match V.obj id with
    | some (.buf _ es) => if okT C.P t = false then False else wLoad C.P es i off (sizeT C.P t) (leafTypes C.P 8 t) (fun h l => match ofCells (aggT C.P t) l with | some v => K h (.only v []) | none => False) h
    | _ => gen C o V K h)
  | _ => gen C o V K h
def wBin (o : Oper) (op : BinOp) (x y : Operand) (V : View) (K : H → Made → Prop) (h : H) : Prop :=
  match V.eval x, V.eval y with
  | some (.pv (.int k a)), some (.pv (.int k' b)) => (match op with
    | .quo => if k = k' then chk (¬ b = 0) (fun h => K h (.only (.pv (.int k (k.wrap (a.tdiv b)))) [])) h else False
    | .rem => if k = k' then chk (¬ b = 0) (fun h => K h (.only (.pv (.int k (a.tmod b))) [])) h else False
    | .shl => chk (¬ b < 0) (fun h => K h (.only (.pv (.int k (k.wrap (a * 2 ^ min b.toNat k.bits)))) [])) h
    | .shr => chk (¬ b < 0) (fun h => K h (.only (.pv (.int k (a.fdiv (2 ^ min b.toNat k.bits)))) [])) h
    | _ => gen C o V K h)
  | some (.pv (.str a)), some (.pv (.str b)) => (match op with
    | .add => chk (a.length + b.length ≤ maxInt) (fun h => K h (.only (.pv (.str (a ++ b))) [])) h
    | _ => gen C o V K h)
  | _, _ => gen C o V K h
def wSlice (t : TypeId) (x : Operand) (lo hi : Option Operand) (V : View) (K : H → Made → Prop) (h : H) : Prop :=
  match C.P.underlying t, V.eval x, evalOpt V lo, evalOpt V hi with
  | some .string, some (.pv (.str s)), some l, some r => wSliceOf l r s.length (fun h a b => K h (.only (.pv (.str ((s.drop a).take (b - a)))) [])) h
  | some (.slice e), some v, some l, some r => if okT C.P e = false then False else (match v with
    | .pv (.sl es) => chk (rowOk (sizeT C.P e) es = true) (fun h => wSliceOf l r es.length (fun h a b => K h (.only (.pv (.sl ((es.drop a).take (b - a)))) [])) h) h
    | .nilSl => wSliceOf l r 0 (fun h a b => K h (.only .nilSl [])) h
    | .own id => (match V.obj id with
      | some (.buf sz es) => if sz = sizeT C.P e then wSliceOf l r es.length (fun h a b => K h (.only (.part id a (b - a)) [])) h else False
      | _ => False)
    | .part id lo n => (match V.obj id with
      | some (.buf sz _) => if sz = sizeT C.P e then wSliceOf l r n (fun h a b => K h (.only (.part id (lo + a) (b - a)) [])) h else False
      | _ => False)
    | _ => False)
  | _, _, _, _ => False
def wIxA (t : TypeId) (x ix : Operand) (V : View) (K : H → Made → Prop) (h : H) : Prop :=
  match elemT C.P t, V.eval x, V.eval ix with
  | some e, some (.own id), some (.pv (.int _ i)) => (match V.obj id with
    | some (.buf sz es) => if sz = sizeT C.P e then chk (0 ≤ i ∧ i < es.length) (fun h => K h (.only (.addr id i.toNat 0) [])) h else False
    | _ => False)
  | some e, some (.part id lo n), some (.pv (.int _ i)) => (match V.obj id with
    | some (.buf sz es) => if sz = sizeT C.P e then chk (0 ≤ i ∧ i < n ∧ lo + n ≤ es.length) (fun h => K h (.only (.addr id (lo + i.toNat) 0) [])) h else False
    | _ => False)
  | some e, some (.pv (.sl es)), some (.pv (.int _ i)) => chk (0 ≤ i) (fun h => wElem C.P es i.toNat (sizeT C.P e) (leafTypes C.P 8 e) (fun h c => K h (.only (.pv (.iptr c)) [])) h) h
  | _, _, _ => False
def wIx (t : TypeId) (x ix : Operand) (V : View) (K : H → Made → Prop) (h : H) : Prop :=
  match C.P.underlying t, V.eval x, V.eval ix with
  | some .string, some (.pv (.str s)), some (.pv (.int _ i)) => chk (0 ≤ i) (fun h => wHas s i.toNat (fun h b => K h (.only (.pv (.int .u8 b.toNat)) [])) h) h
  | _, _, _ => False
def wStore (o : Oper) (t : TypeId) (a x : Operand) (V : View) (K : H → Made → Prop) (h : H) : Prop :=
  match V.eval a, V.eval x with
  | some (.addr id i off), some v => (match V.obj id with
    | some (.buf sz es) => if okT C.P t ∧ v.fit ∧ (leaves v).length = sizeT C.P t then (match pvs (leaves v) with
      | some l => wHas es i (fun h c => chk (off + sizeT C.P t ≤ c.length) (fun h => K h ⟨.tup [], [], [.buf id sz (es.set i (setFrom off l c))], [], [], []⟩) h) h
      | none => False) else False
    | _ => gen C o V K h)
  | _, _ => False
def wAppend (d : Nat) (as : Array Operand) (ts : Array TypeId) (V : View) (K : H → Made → Prop) (h : H) : Prop :=
  match as.toList, ts.toList with
  | [x, y], [t, u] => (match elemT C.P t with
    | some e => (match rowOf (sizeT C.P e) V x, behind C.P u V y with
      | some (es, id), some l => if (zeroV C.P e).isSome then
          chk ((es.length + l.length) * bytesT C.P e ≤ room ∧ es.length + l.length ≤ maxInt) (fun h => chk (rowOk (sizeT C.P e) l = true) (fun h => K h ⟨.own (dstId d), [(dstId d, .buf (sizeT C.P e) (es ++ l))], [], id.toList, [], []⟩) h) h else False
      | _, _ => False)
    | none => False)
  | _, _ => False
/-- A row of the call's own, or a part of it. -/
def wRowIn (sz : Nat) (V : View) (K : H → Nat → Nat → Nat → List (List PV) → Prop) : AV → H → Prop
  | .own id, h => (match V.obj id with | some (.buf n es) => if n = sz then K h id 0 es.length es else False | _ => False)
  | .part id lo n, h => (match V.obj id with | some (.buf k es) => if k = sz then chk (lo + n ≤ es.length) (fun h => K h id lo n es) h else False | _ => False)
  | _, _ => False
def wCopy (as : Array Operand) (ts : Array TypeId) (V : View) (K : H → Made → Prop) (h : H) : Prop :=
  match as.toList, ts.toList with
  | [x, y], [t, u] => (match elemT C.P t, V.eval x with
    | some e, some xv => (match behind C.P u V y with
      | some l => wRowIn (sizeT C.P e) V (fun h id lo m es => chk (rowOk (sizeT C.P e) l = true) (fun h => K h ⟨i64 (min l.length m : Nat), [], [.buf id (sizeT C.P e) (es.take lo ++ (l.take (min l.length m) ++ es.drop (lo + min l.length m)))], [], [], []⟩) h) xv h
      | none => False)
    | _, _ => False)
  | _, _ => False
def wMkSl (d : Nat) (t : TypeId) (l c : Operand) (V : View) (K : H → Made → Prop) (h : H) : Prop :=
  match elemT C.P t, V.eval l, V.eval c with
  | some e, some (.pv (.int _ n)), some (.pv (.int _ m)) => (match zeroV C.P e with
    | some vs => (match litPVs vs with
      | some z => chk (0 ≤ n ∧ n ≤ m ∧ m ≤ maxInt ∧ m * bytesT C.P e ≤ room) (fun h => K h (.only (.own (dstId d)) [(dstId d, .buf (sizeT C.P e) (List.replicate n.toNat z))])) h
      | none => False)
    | none => False)
  | _, _, _ => False
def wConv (o : Oper) (s t : TypeId) (x : Operand) (V : View) (K : H → Made → Prop) (h : H) : Prop :=
  match V.eval x, C.P.underlying t, C.P.underlying s with
  | some v, some .string, some (.slice e) => (match C.P.underlying e, asList V v with
    | some (.int .u8), some es => chk (u8Row es = true) (fun h => K h (.only (.pv (.str (ofU8s es))) [])) h
    | _, _ => False)
  | _, _, _ => gen C o V K h

def wOp (o : Oper) (V : View) (K : H → Made → Prop) (h : H) : Prop :=
  match o.op with
  | .pick c a b => wPick c a b V K h
  | .load t a => wLd C o t a V K h
  | .binOp op t x y _ => wBin C o op x y V K h
  | .slice t x lo hi none => wSlice C t x lo hi V K h
  | .indexAddr t x ix => wIxA C t x ix V K h
  | .index t x ix => wIx C t x ix V K h
  | .store t a x => wStore C o t a x V K h
  | .makeSlice t l c => wMkSl C (o.dst.getD 499) t l c V K h
  | .convert s t x => wConv C o s t x V K h
  | .call c => (match c.callee with
    | .builtin .append => wAppend C (o.dst.getD 499) c.args c.argTypes V K h
    | .builtin .copy => wCopy C c.args c.argTypes V K h
    | .builtin _ => gen C o V K h
    | _ => wCallM C S (o.dst.getD 499) c V K h)
  | _ => gen C o V K h

end
end Go.Proofs.Ytmjkdghcfihfiaa.Vm
