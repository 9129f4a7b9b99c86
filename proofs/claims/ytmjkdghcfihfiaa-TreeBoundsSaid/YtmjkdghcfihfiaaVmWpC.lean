/-
  What must be shown of regions, of code, of a function.
-/
import Derived.Test.YtmjkdghcfihfiaaVmWpOk
namespace Go.Proofs.Ytmjkdghcfihfiaa.Vm
open Go
set_option linter.unusedVariables false
set_option linter.unusedSimpArgs false

/-- A slot's truth is known. -/
def setFst (t : Nat) (v : AV) : List (Nat × AV) → List (Nat × AV)
  | [] => []
  | (m, a) :: r => if t = m then (m, v) :: r else (m, a) :: setFst t v r
theorem setFst_same {t : Nat} {v : AV} : ∀ {l : List (Nat × AV)}, lkp t l = some v → setFst t v l = l
  | [], h => rfl
  | (m, a) :: r, h => by
    simp only [lkp] at h
    simp only [setFst]
    split at h
    · rename_i e; rw [if_pos e]; simp only [Option.some.injEq] at h; rw [h]
    · rename_i e; rw [if_neg e, setFst_same h]
def St.setB (t : Nat) (b : Bool) (st : St) : St := ⟨setFst t (.pv (.bool b)) st.tmps, st.objs⟩
theorem setB_same {t : Nat} {b : Bool} {st : St} (h : st.get t = .pv (.bool b)) : st.setB t b = st := by
  unfold St.get at h
  cases hl : lkp t st.tmps with
  | none => rw [hl] at h; simp at h
  | some v =>
    rw [hl] at h
    simp only [Option.getD_some] at h
    subst h
    unfold St.setB
    rw [setFst_same hl]

section
variable (C : Cx) (S : Specs)

def wPatches : List Patch → St → (H → St → Prop) → H → Prop
  | [], st, K, h => K h st
  | p :: r, st, K, h => match p, st.obj p.id with
    | .buf id sz es, some (.buf sz0 es0) => if sz = sz0 then chk (es.length = es0.length) (fun h => wPatches r (st.upd id (.buf sz es)) K h) h else False
    | p, ob => match p.on ob with | some o => wPatches r (st.upd p.id o) K h | none => False
def wLay (o : Oper) (m : Made) (st : St) (K : H → St → Prop) (h : H) : Prop :=
  match freezeAll m.frz st with
  | some s => wPatches m.ws (killAll (m.dels ++ m.use) s) (fun h s => match s.add m.os with | some s => K h (putD o m.v s) | none => False) h
  | none => False
def wOper (pl : List Nat) (o : Oper) (st : St) (K : H → St → Prop) (h : H) : Prop :=
  match freezeAll (prep C.P o.op st.view) st with
  | some s => wOp C S o s.view (fun h m => wLay o (arrive pl o s.obj m) s K h) h
  | none => False
def wWanted (all : List Oper) (o : Oper) (st : St) (K : H → Bool → St → Prop) (h : H) : Prop :=
  match o.guard with
  | none => K h true st
  | some (j, want) => match (all[j]?).bind (·.dst) with
    | some t => (match st.get t with
      | .pv (.bool b) => fork b (fun h b => K h (b == want) (st.setB t b)) h
      | .tup [] => K h false st
      | _ => False)
    | none => False
def wOpers (all : List Oper) (pl : List Nat) : List Oper → St → (H → St → Prop) → H → Prop
  | [], st, K, h => K h st
  | o :: r, st, K, h => wWanted all o st (fun h w st => match w with
    | true => wOper C S pl o st (fun h s => wOpers all pl r s K h) h
    | false => wOpers all pl r (putD o (.tup []) st) K h) h
def wOks (V : View) : List Patch → (H → Prop) → H → Prop
  | [], K, h => K h
  | p :: r, K, h => match p, V.obj p.id with
    | .buf id sz es, some (.buf sz0 es0) => if sz = sz0 then chk (es.length = es0.length) (fun h => wOks V r K h) h else False
    | p, ob => if (p.on ob).isSome then wOks V r K h else False
def wOkM (V : View) (m : Made) (K : H → Prop) (h : H) : Prop :=
  if m.frz.isEmpty && m.dead.all (fun i => (V.obj i).isSome) && m.ws.all (fun p => !m.dead.contains p.id) then wOks V m.ws K h else False
def wPO : List Patch → List (Nat × Obj) → (H → List (Nat × Obj) → Prop) → H → Prop
  | [], l, K, h => K h l
  | p :: r, l, K, h => match p, lkp p.id l with
    | .buf id sz es, some (.buf sz0 es0) => if sz = sz0 then chk (es.length = es0.length) (fun h => wPO r ((id, .buf sz es) :: del id l) K h) h else False
    | p, ob => match p.on ob with | some o => wPO r ((p.id, o) :: del p.id l) K h | none => False
def wStepD (o : Oper) (m : Made) (st : St) (K : H → St → Prop) (h : H) : Prop :=
  wPO m.ws (delAll m.dead st.objs) (fun h l => K h (putD o m.v ⟨st.tmps, m.os ++ l⟩)) h
def wText (all : List Oper) (pl : List Nat) (ob : Nat → Option Obj) : List Oper → Nat → List Done → St → (H → List Done → St → Prop) → H → Prop
  | [], _, done, st, K, h => K h done st
  | o :: r, i, done, st, K, h =>
    if befOne (bOf done) o < 2 ^ i then wWanted all o st (fun h w st => match w with
      | true => if (prep C.P o.op st.view).isEmpty then wOp C S o (st.view.only (readsOf o.op st)) (fun h m =>
          wOkM st.view (arrive pl o ob m) (fun h => wStepD o (arrive pl o ob m) st (fun h s =>
            wText all pl ob r (i + 1) (⟨i, befOne (bOf done) o, o, arrive pl o ob m, m.os.map (·.1), readsOf o.op st⟩ :: done) s K h) h) h) h else False
      | false => wText all pl ob r (i + 1) (⟨i, befOne (bOf done) o, o, .only (.tup []) [], [], []⟩ :: done) (stepD o (.only (.tup []) []) st) K h) h else False
def wRegion (ops : Array Oper) (pre : List Nat) (draw : Bool) (st : St) (K : H → St → Prop) (h : H) : Prop :=
  if draw then
    if slotsT ops.toList then wText C S ops.toList (pre ++ plainDsts ops.toList) st.obj ops.toList 0 [] st (fun h done s =>
      if apart done done && nodup (done.flatMap Done.raw) && (done.flatMap Done.raw).all (fun i => (st.obj i).isNone) then K h (forgetAll (done.flatMap fun x => x.m.dead) s) else False) h
    else False
  else wOpers C S ops.toList (pre ++ plainDsts ops.toList) ops.toList st K h

end

section
variable {C : Cx} {S : Specs}

theorem wPatches_ok : ∀ {ws : List Patch} {st : St} {K : H → St → Prop} {h : H}, wPatches ws st K h → ∃ s, patchAll ws st = some s ∧ ∃ h', K h' s
  | [], st, K, h, k => ⟨st, rfl, _, k⟩
  | p :: r, st, K, h, k => by
    simp only [wPatches] at k
    split at k
    · rename_i id sz es sz0 es0 e1
      split at k
      · rename_i e2
        obtain ⟨hp, h1, k⟩ := chk_ok k
        obtain ⟨s, e3, k⟩ := wPatches_ok k
        refine ⟨s, ?_, k⟩
        simp only [patchAll, e1, Patch.on]
        rw [if_pos ⟨e2, hp⟩]; exact e3
      · exact k.elim
    · split at k
      · rename_i o e1
        obtain ⟨s, e3, k⟩ := wPatches_ok k
        refine ⟨s, ?_, k⟩
        simp only [patchAll, e1]; exact e3
      · exact k.elim

theorem wLay_ok {o : Oper} {m : Made} {st : St} {K : H → St → Prop} {h : H} (k : wLay o m st K h) : ∃ s, lay o m st = some s ∧ ∃ h', K h' s := by
  unfold wLay at k
  split at k
  · rename_i s e1
    obtain ⟨s2, e2, h1, k⟩ := wPatches_ok k
    split at k
    · rename_i s3 e3
      exact ⟨_, by unfold lay; simp only [e1, e2, e3], _, k⟩
    · exact k.elim
  · exact k.elim

theorem wOper_ok (hS : SpecOK C S) {pl : List Nat} {o : Oper} {st : St} {K : H → St → Prop} {h : H} (k : wOper C S pl o st K h) : ∃ n s, oper C (callN C n) pl o st = some s ∧ ∃ h', K h' s := by
  unfold wOper at k
  split at k
  · rename_i s e1
    obtain ⟨n, m, e2, h1, k⟩ := wOp_ok hS k
    obtain ⟨s2, e3, k⟩ := wLay_ok k
    exact ⟨n, s2, by unfold oper; simp only [e1, e2, e3], k⟩
  · exact k.elim

theorem wWanted_ok {all : List Oper} {o : Oper} {st : St} {K : H → Bool → St → Prop} {h : H} (k : wWanted all o st K h) : ∃ w, wanted all st.view o = some w ∧ ∃ h', K h' w st := by
  unfold wWanted at k
  unfold wanted
  split at k
  · rename_i e1
    exact ⟨true, by simp only [e1], _, k⟩
  · rename_i j want e1
    split at k
    · rename_i t e2
      split at k
      · rename_i b e3
        obtain ⟨h', k⟩ := fork_ok k
        rw [setB_same e3] at k
        refine ⟨b == want, ?_, _, k⟩
        simp only [e1, e2, St.view, e3]
      · rename_i e3
        refine ⟨false, ?_, _, k⟩
        simp only [e1, e2, St.view, e3]
      · exact k.elim
    · exact k.elim

theorem wOpers_ok (hS : SpecOK C S) {all : List Oper} {pl : List Nat} : ∀ {l : List Oper} {st : St} {K : H → St → Prop} {h : H}, wOpers C S all pl l st K h → ∃ n s, opers C (callN C n) all pl l st = some s ∧ ∃ h', K h' s
  | [], st, K, h, k => ⟨0, st, rfl, _, k⟩
  | o :: r, st, K, h, k => by
    simp only [wOpers] at k
    obtain ⟨w, e1, h1, k⟩ := wWanted_ok k
    cases w with
    | true =>
      obtain ⟨n, s, e2, h2, k⟩ := wOper_ok hS k
      obtain ⟨n', s', e3, k⟩ := wOpers_ok hS k
      refine ⟨max n n', s', ?_, k⟩
      simp only [opers, e1, oper_up (callN_up (Nat.le_max_left n n')) e2]
      exact opers_up (callN_up (Nat.le_max_right n n')) e3
    | false =>
      obtain ⟨n, s, e2, k⟩ := wOpers_ok hS k
      exact ⟨n, s, by simp only [opers, e1]; exact e2, k⟩

theorem wOks_ok {V : View} {m : Made} : ∀ {ws : List Patch} {K : H → Prop} {h : H}, wOks V ws K h → (ws.all fun p => (p.on (V.obj p.id)).isSome) = true ∧ ∃ h', K h'
  | [], K, h, k => ⟨rfl, _, k⟩
  | p :: r, K, h, k => by
    simp only [wOks] at k
    split at k
    · rename_i id sz es sz0 es0 e1
      split at k
      · rename_i e2
        obtain ⟨hp, h1, k⟩ := chk_ok k
        obtain ⟨e3, k⟩ := wOks_ok (m := m) k
        refine ⟨?_, k⟩
        have e4 : ((Patch.buf id sz es).on (V.obj (Patch.buf id sz es).id)).isSome = true := by
          rw [e1]; simp only [Patch.on]; rw [if_pos ⟨e2, hp⟩]; rfl
        rw [List.all_cons, e4, e3]; rfl
      · exact k.elim
    · split at k
      · rename_i e1
        obtain ⟨e3, k⟩ := wOks_ok (m := m) k
        exact ⟨by simp only [List.all_cons, e1, e3]; rfl, k⟩
      · exact k.elim

theorem wOkM_ok {V : View} {m : Made} {K : H → Prop} {h : H} (k : wOkM V m K h) : okMade V m = true ∧ ∃ h', K h' := by
  unfold wOkM at k
  split at k
  · rename_i e1
    obtain ⟨e2, k⟩ := wOks_ok (m := m) k
    refine ⟨?_, k⟩
    simp only [Bool.and_eq_true, List.all_eq_true] at e1 e2
    unfold okMade
    simp only [Bool.and_eq_true, List.all_eq_true]
    exact ⟨e1.1, fun p hp => ⟨e1.2 p hp, e2 p hp⟩⟩
  · exact k.elim

theorem wPO_ok : ∀ {ws : List Patch} {l : List (Nat × Obj)} {K : H → List (Nat × Obj) → Prop} {h : H}, wPO ws l K h → ∃ h', K h' (patchObjs ws l)
  | [], l, K, h, k => ⟨_, k⟩
  | p :: r, l, K, h, k => by
    simp only [wPO] at k
    split at k
    · rename_i id sz es sz0 es0 e1
      split at k
      · rename_i e2
        obtain ⟨hp, h1, k⟩ := chk_ok k
        obtain ⟨h2, k⟩ := wPO_ok k
        refine ⟨h2, ?_⟩
        simp only [patchObjs, e1, Patch.on]
        rw [if_pos ⟨e2, hp⟩]; exact k
      · exact k.elim
    · split at k
      · rename_i o e1
        obtain ⟨h2, k⟩ := wPO_ok k
        exact ⟨h2, by simp only [patchObjs, e1]; exact k⟩
      · exact k.elim

theorem wText_ok (hS : SpecOK C S) {all : List Oper} {pl : List Nat} {ob : Nat → Option Obj} : ∀ {l : List Oper} {i : Nat} {done : List Done} {st : St} {K : H → List Done → St → Prop} {h : H}, wText C S all pl ob l i done st K h →
    ∃ n d s, textR C (callN C n) all pl ob l i done st = some (d, s) ∧ ∃ h', K h' d s
  | [], i, done, st, K, h, k => ⟨0, done, st, rfl, _, k⟩
  | o :: r, i, done, st, K, h, k => by
    simp only [wText] at k
    split at k
    · rename_i hb
      obtain ⟨w, e1, h1, k⟩ := wWanted_ok k
      cases w with
      | true =>
        simp only at k
        split at k
        · rename_i e2
          obtain ⟨n, m, e3, h2, k⟩ := wOp_ok hS k
          obtain ⟨e4, h3, k⟩ := wOkM_ok k
          obtain ⟨h4, k⟩ := wPO_ok (show wPO _ _ _ _ from k)
          obtain ⟨n', d, s, e5, k⟩ := wText_ok hS k
          refine ⟨max n n', d, s, ?_, k⟩
          simp only [textR]
          rw [if_pos hb]
          simp only [e1]
          rw [if_pos e2]
          simp only [made_up (callN_up (Nat.le_max_left n n')) e3]
          rw [if_pos e4]
          exact textR_up (callN_up (Nat.le_max_right n n')) e5
        · exact k.elim
      | false =>
        obtain ⟨n, d, s, e2, k⟩ := wText_ok hS k
        refine ⟨n, d, s, ?_, k⟩
        simp only [textR]
        rw [if_pos hb]
        simp only [e1]
        exact e2
    · exact k.elim

theorem wRegion_ok (hS : SpecOK C S) {ops : Array Oper} {pre : List Nat} {draw : Bool} {st : St} {K : H → St → Prop} {h : H} (k : wRegion C S ops pre draw st K h) : ∃ n s, region C (callN C n) ops pre draw st = some s ∧ ∃ h', K h' s := by
  unfold wRegion at k
  cases draw with
  | true =>
    simp only [if_true] at k
    split at k
    · rename_i e1
      obtain ⟨n, d, s, e2, h1, k⟩ := wText_ok hS k
      split at k
      · rename_i e3
        refine ⟨n, _, ?_, h1, k⟩
        unfold region
        simp only [if_true]
        rw [if_pos e1]
        simp only [e2]
        rw [if_pos e3]
      · exact k.elim
    · exact k.elim
  | false =>
    obtain ⟨n, s, e, k⟩ := wOpers_ok hS (show wOpers C S ops.toList (pre ++ plainDsts ops.toList) ops.toList st K h from k)
    exact ⟨n, s, by unfold region; exact e, k⟩

end

/-! ### Code -/
/-- A place in a function's code: the body; behind a label of a scope; a part. -/
inductive CP where
  | top
  | lab (p : CP) (l : Nat)
  | dn (p : CP) (i : Nat)

def child : Code → Nat → Option Code
  | .seq a _, 0 => some a
  | .seq _ b, 1 => some b
  | .cond _ a _, 0 => some a
  | .cond _ _ b, 1 => some b
  | .block _ b, 0 => some b
  | .loop b, 0 => some b
  | .scope b, 0 => some b
  | _, _ => none

section
variable (C : Cx) (S : Specs) (f : FuncId)

def codeOf : CP → Option Code
  | .top => match C.P.funcs[f]? with | some fn => fn.body | none => none
  | .lab p l => match codeOf p with | some (.scope b) => findLabel b l | _ => none
  | .dn p i => match codeOf p with | some c => child c i | none => none

abbrev KT := H → Ex → St → Prop
def exK (K : KT) : Ex → St → Prop := fun e s => ∃ h, K h e s
def seqK (w : St → KT → H → Prop) (K : KT) : KT := fun h e s => match e with | .normal => w s K h | e => K h e s
def blockK (id : Nat) (K : KT) : KT := fun h e s => match e with | .exit i => if i = id then K h .normal s else K h (.exit i) s | e => K h e s

/-- A loop's body once more. -/
def bodyN (call : FuncId → List TV → Option (List TV × List TV)) (k : Nat) (b : Code) : St → Option (Ex × St) := fun s => match norm (C.loops f (tag b)) s with | some s => code C call f k (againN C call f k k) b s | none => none
/-- From a loop's head on. -/
def loopAtN (k : Nat) (b : Code) (s : St) : Option (Ex × St) :=
  match code C (callN C k) f k (againN C (callN C k) f k k) b s with
  | some (.normal, s2) => loopN (bodyN C f (callN C k) k b) k s2
  | r => r
def LoopAt (cp : CP) (s : St) (K : Ex → St → Prop) : Prop := ∃ b, codeOf C f cp = some (.loop b) ∧ ∃ k e s', loopAtN C f k b s = some (e, s') ∧ K e s'
/-- A loop, by what must be shown of it, or (where all is known) run. -/
def loopW (cp : CP) (b : Code) (s : St) (K : KT) : H → Prop
  | .r k h => (match loopAtN C f k b s with | some (e, s') => K h e s' | none => False)
  | .n 0 h => loopW cp b s K h
  | _ => LoopAt C f cp s (exK K)
def AgainAt (cp : CP) (l : Nat) (s : St) (K : Ex → St → Prop) : Prop :=
  ∃ b rest, codeOf C f cp = some (.scope b) ∧ findLabel b l = some rest ∧ ∃ k e s', againN C (callN C k) f k k b rest s = some (e, s') ∧ K e s'
def scopeK (cp : CP) (K : KT) : KT := fun h e s => match e with
  | .goto l => (match codeOf C f cp with
    | some (.scope b) => (match findLabel b l, norm (C.loops f (labelTag l)) s with
      | some _, some s' => AgainAt C f cp l s' (exK K)
      | _, _ => False)
    | _ => False)
  | e => K h e s
def loopK (cp : CP) (J : St → Prop) (K : Ex → St → Prop) : KT := fun h e s => match e with
  | .normal => (match codeOf C f cp with
    | some (.loop b) => (match norm (C.loops f (tag b)) s with | some s1 => J s1 | none => False)
    | _ => False)
  | e => K e s
def againK (cp : CP) (J : Nat → St → Prop) (K : Ex → St → Prop) : KT := fun h e s => match e with
  | .goto l => (match codeOf C f cp with
    | some (.scope b) => (match findLabel b l, norm (C.loops f (labelTag l)) s with
      | some _, some s' => J l s'
      | _, _ => False)
    | _ => False)
  | e => K e s
def retK (as : List TV) (Q : List TV × List TV → Prop) : KT := fun h e s => match e with
  | .normal => (match C.P.funcs[f]? with | some fn => (match leave C f fn.results.toList as s with | some r => Q r | none => False) | none => False)
  | .ret => (match C.P.funcs[f]? with | some fn => (match leave C f fn.results.toList as s with | some r => Q r | none => False) | none => False)
  | _ => False

def wAt : Nat → CP → St → KT → H → Prop
  | 0, _, _, _, _ => False
  | n + 1, cp, st, K, h => match codeOf C f cp with
    | some .skip => K h .normal st
    | some (.label l) => (match norm (C.loops f (labelTag l)) st with | some s => K h .normal s | none => False)
    | some (.region id ops draw) => (match freezeSlots (C.pre f id) st with
      | some s => wRegion C S ops (C.pre f id) draw s (fun h s => K h .normal s) h
      | none => False)
    | some (.seq _ _) => wAt n (.dn cp 0) st (seqK (wAt n (.dn cp 1)) K) h
    | some (.cond c _ _) => (match c with
      | .tmp t => (match st.get t with
        | .pv (.bool b) => fork b (fun h b => wAt n (.dn cp (if b then 0 else 1)) (st.setB t b) K h) h
        | _ => False)
      | c => (match st.view.eval c with
        | some (.pv (.bool b)) => fork b (fun h b => wAt n (.dn cp (if b then 0 else 1)) st K h) h
        | _ => False))
    | some (.block id _) => wAt n (.dn cp 0) st (blockK id K) h
    | some (.loop b) => (match norm (C.loops f (tag b)) st with | some s => loopW C f cp b s K h | none => False)
    | some (.scope _) => wAt n (.dn cp 0) st (scopeK C f cp K) h
    | some (.exit id) => K h (.exit id) st
    | some (.goto l) => K h (.goto l) st
    | some .ret => K h .ret st
    | _ => False

def wFun (as : List TV) (Q : List TV × List TV → Prop) (h : H) : Prop :=
  match C.ext f with
  | some _ => False
  | none => match C.P.funcs[f]? with
    | some fn => if fn.body.isSome && decide (as.length ≤ fn.ntmps) then
        (match enter 0 as ⟨[], []⟩ with
        | some s => wAt C S f 100000 .top s (retK C f as Q) h
        | none => False) else False
    | none => False

/-- A part of a function's code, carried out. -/
def Runs (c : Code) (st : St) (K : Ex → St → Prop) : Prop := ∃ k e s, code C (callN C k) f k (againN C (callN C k) f k k) c st = some (e, s) ∧ K e s
end

section
variable {C : Cx} {S : Specs} {f : FuncId}

theorem code_fuel {k k' : Nat} (hk : k ≤ k') {c : Code} {st : St} {r : Ex × St} (h : code C (callN C k) f k (againN C (callN C k) f k k) c st = some r) : code C (callN C k') f k' (againN C (callN C k') f k' k') c st = some r :=
  code_up (callN_up hk) hk (againN_up (callN_up hk) hk hk) c st r h

theorem bodyN_up {k k' : Nat} (hk : k ≤ k') {b : Code} {s : St} {r : Ex × St} (h : bodyN C f (callN C k) k b s = some r) : bodyN C f (callN C k') k' b s = some r := by
  unfold bodyN at h ⊢
  split at h
  · exact code_fuel hk h
  · exact absurd h (by simp)
theorem loopW_at {cp : CP} {b : Code} {s : St} {K : KT} (hb : codeOf C f cp = some (.loop b)) : ∀ {h : H}, loopW C f cp b s K h → LoopAt C f cp s (exK K)
  | .r k h, w => by
    simp only [loopW] at w
    split at w
    · rename_i e s' hs
      exact ⟨b, hb, k, e, s', hs, h, w⟩
    · exact w.elim
  | .auto, w => w
  | .n 0 h, w => loopW_at hb (h := h) (by simpa only [loopW] using w)
  | .n (_ + 1) _, w => w
  | .s _, w => w
  | .b _ _, w => w
theorem loopAtN_up {k k' : Nat} (hk : k ≤ k') {b : Code} {s : St} {r : Ex × St} (h : loopAtN C f k b s = some r) : loopAtN C f k' b s = some r := by
  unfold loopAtN at h ⊢
  split at h
  · rename_i s2 hs
    rw [code_fuel hk hs]
    exact loopN_up (fun s r h => bodyN_up hk h) hk h
  · rename_i hne
    rw [code_fuel hk h]
    obtain ⟨e, s⟩ := r
    cases e with
    | normal => exact absurd h (hne s)
    | _ => rfl

theorem Runs.seq {a b : Code} {st : St} {K : Ex → St → Prop} (h : Runs C f a st (fun e s => match e with | .normal => Runs C f b s K | e => K e s)) : Runs C f (.seq a b) st K := by
  obtain ⟨k, e, s, h1, h2⟩ := h
  cases e with
  | normal =>
    obtain ⟨k', e', s', h3, h4⟩ := h2
    refine ⟨max k k', e', s', ?_, h4⟩
    simp only [code]
    rw [code_fuel (Nat.le_max_left k k') h1]
    exact code_fuel (Nat.le_max_right k k') h3
  | _ => exact ⟨k, _, s, by simp only [code]; rw [h1], h2⟩

theorem wAt_ok (hS : SpecOK C S) : ∀ {n : Nat} {cp : CP} {st : St} {K : KT} {h : H}, wAt C S f n cp st K h → ∃ c, codeOf C f cp = some c ∧ Runs C f c st (exK K)
  | 0, cp, st, K, h, k => by simp [wAt] at k
  | n + 1, cp, st, K, h, k => by
    simp only [wAt] at k
    split at k
    · rename_i e1
      exact ⟨_, e1, 0, _, st, by simp only [code], _, k⟩
    · rename_i l e1
      split at k
      · rename_i s e2
        exact ⟨_, e1, 0, _, s, by simp only [code, e2], _, k⟩
      · exact k.elim
    · rename_i id ops draw e1
      split at k
      · rename_i s e2
        obtain ⟨m, s', e3, h', k⟩ := wRegion_ok hS k
        exact ⟨_, e1, m, _, s', by simp only [code, e2, e3], h', k⟩
      · exact k.elim
    · rename_i a b e1
      refine ⟨_, e1, Runs.seq ?_⟩
      obtain ⟨c, e2, m, e, s, e3, h', k⟩ := wAt_ok hS k
      have : codeOf C f (.dn cp 0) = some a := by simp only [codeOf, e1, child]
      rw [this] at e2; simp only [Option.some.injEq] at e2; subst e2
      refine ⟨m, e, s, e3, ?_⟩
      cases e with
      | normal =>
        obtain ⟨c, e2, k⟩ := wAt_ok hS (show wAt C S f n (.dn cp 1) s K h' from k)
        have : codeOf C f (.dn cp 1) = some b := by simp only [codeOf, e1, child]
        rw [this] at e2; simp only [Option.some.injEq] at e2; subst e2
        exact k
      | _ => exact ⟨_, k⟩
    · rename_i c a b e1
      refine ⟨_, e1, ?_⟩
      have key : ∀ (t : Bool) (h : H), st.view.eval c = some (.pv (.bool t)) → wAt C S f n (.dn cp (if t then 0 else 1)) st K h → Runs C f (.cond c a b) st (exK K) := by
        intro t h e2 k
        obtain ⟨c', e3, m, e, s, e4, k2⟩ := wAt_ok hS k
        clear k
        cases t with
        | true =>
          have : codeOf C f (.dn cp (if true then 0 else 1)) = some a := by simp only [codeOf, e1, child, if_true]
          rw [this] at e3; simp only [Option.some.injEq] at e3; subst e3
          exact ⟨m, e, s, by simp only [code, e2, if_true]; exact e4, k2⟩
        | false =>
          have : codeOf C f (.dn cp (if false then 0 else 1)) = some b := by simp [codeOf, e1, child]
          rw [this] at e3; simp only [Option.some.injEq] at e3; subst e3
          exact ⟨m, e, s, by simp only [code, e2]; exact e4, k2⟩
      split at k
      · rename_i t
        split at k
        · rename_i v e2
          obtain ⟨h', k⟩ := fork_ok k
          rw [setB_same e2] at k
          exact key v h' (by show some (st.get t) = _; rw [e2]) k
        · exact k.elim
      · split at k
        · rename_i v e2
          obtain ⟨h', k⟩ := fork_ok k
          exact key v h' e2 k
        · exact k.elim
    · rename_i id b e1
      refine ⟨_, e1, ?_⟩
      obtain ⟨c, e2, m, e, s, e3, h', k⟩ := wAt_ok hS k
      have : codeOf C f (.dn cp 0) = some b := by simp only [codeOf, e1, child]
      rw [this] at e2; simp only [Option.some.injEq] at e2; subst e2
      cases e with
      | exit i =>
        simp only [blockK] at k
        by_cases hi : i = id
        · rw [if_pos hi] at k
          exact ⟨m, .normal, s, by simp only [code, e3, hi, if_true], h', k⟩
        · rw [if_neg hi] at k
          exact ⟨m, .exit i, s, by simp only [code, e3]; rw [if_neg hi], h', k⟩
      | _ => exact ⟨m, _, s, by simp only [code, e3], h', k⟩
    · rename_i b e1
      split at k
      · rename_i s e2
        obtain ⟨b', e3, m, e, s', e4, k⟩ := loopW_at e1 k
        rw [e1] at e3; simp only [Option.some.injEq, Code.loop.injEq] at e3; subst e3
        refine ⟨_, e1, m + 1, e, s', ?_, k⟩
        simp only [code]
        have e4' := loopAtN_up (Nat.le_succ m) e4
        unfold loopAtN at e4
        simp only [loopN, e2]
        split at e4
        · rename_i s2 hs
          rw [code_fuel (Nat.le_succ m) hs]
          exact loopN_up (fun s r h => bodyN_up (Nat.le_succ m) h) (Nat.le_refl _) e4
        · rename_i hne
          rw [code_fuel (Nat.le_succ m) e4]
          cases e with
          | normal => exact absurd e4 (hne s')
          | _ => rfl
      · exact k.elim
    · rename_i b e1
      refine ⟨_, e1, ?_⟩
      obtain ⟨c, e2, m, e, s, e3, h', k⟩ := wAt_ok hS k
      have : codeOf C f (.dn cp 0) = some b := by simp only [codeOf, e1, child]
      rw [this] at e2; simp only [Option.some.injEq] at e2; subst e2
      cases e with
      | goto l =>
        simp only [scopeK, e1] at k
        split at k
        · rename_i x1 x2 rest s1 e4 e5
          obtain ⟨b', rest', e6, e7, m', e', s', e8, k⟩ := k
          rw [e1] at e6; simp only [Option.some.injEq, Code.scope.injEq] at e6; subst e6
          rw [e4] at e7; simp only [Option.some.injEq] at e7; subst e7
          refine ⟨max m m', e', s', ?_, k⟩
          simp only [code, handle]
          rw [code_fuel (Nat.le_max_left m m') e3]
          simp only [e4, e5]
          exact againN_up (callN_up (Nat.le_max_right m m')) (Nat.le_max_right m m') (Nat.le_max_right m m') _ _ _ _ e8
        · exact k.elim
      | _ => exact ⟨m, _, s, by simp only [code, handle, e3], h', k⟩
    · rename_i id e1
      exact ⟨_, e1, 0, _, st, by simp only [code], _, k⟩
    · rename_i l e1
      exact ⟨_, e1, 0, _, st, by simp only [code], _, k⟩
    · rename_i e1
      exact ⟨_, e1, 0, _, st, by simp only [code], _, k⟩
    · exact k.elim

def isLoop (C : Cx) (f : FuncId) (cp : CP) : Bool := match codeOf C f cp with | some (.loop _) => true | _ => false
/-- A LOOP: what holds at its head, with a number that falls. -/
theorem loop_rule (hS : SpecOK C S) {cp : CP} {K : Ex → St → Prop} (hlp : isLoop C f cp = true) (N : Nat) (I : Nat → St → Prop) (hstep : ∀ n s, I n s → ∃ h, wAt C S f N (.dn cp 0) s (loopK C f cp (fun s' => ∃ m, m < n ∧ I m s') K) h) {n : Nat} {s : St} (h : I n s) : LoopAt C f cp s K := by
  induction n using Nat.strongRecOn generalizing s with
  | _ n ih =>
    obtain ⟨hh, k⟩ := hstep n s h
    obtain ⟨c, e1, m, e, s2, e2, h', k⟩ := wAt_ok hS k
    have hb : codeOf C f cp = some (.loop c) := by
      unfold isLoop at hlp
      simp only [codeOf] at e1
      split at hlp
      · rename_i b e3
        simp only [e3, child, Option.some.injEq] at e1; subst e1; exact e3
      · exact absurd hlp (by simp)
    by_cases he : e = .normal
    · subst he
      simp only [loopK, hb] at k
      split at k
      · rename_i s1 e3
        obtain ⟨m', hm', k⟩ := k
        obtain ⟨b', e4, n2, e', s', e5, k⟩ := ih m' hm' k
        rw [hb] at e4; simp only [Option.some.injEq, Code.loop.injEq] at e4; subst e4
        refine ⟨c, hb, max m n2 + 1, e', s', ?_, k⟩
        have le1 : m ≤ max m n2 + 1 := by omega
        have le2 : n2 ≤ max m n2 + 1 := by omega
        unfold loopAtN
        rw [code_fuel le1 e2]
        simp only [loopN]
        unfold loopAtN at e5
        split at e5
        · rename_i s3 e6
          have : bodyN C f (callN C (max m n2 + 1)) (max m n2 + 1) c s2 = some (.normal, s3) := by
            unfold bodyN; simp only [e3]; exact code_fuel le2 e6
          rw [this]
          exact loopN_up (fun s r h => bodyN_up le2 h) (by omega) e5
        · rename_i hne
          have : bodyN C f (callN C (max m n2 + 1)) (max m n2 + 1) c s2 = some (e', s') := by
            unfold bodyN; simp only [e3]; exact code_fuel le2 e5
          rw [this]
          cases e' with
          | normal => exact absurd e5 (hne s')
          | _ => rfl
      · exact k.elim
    · refine ⟨c, hb, m, e, s2, ?_, ?_⟩
      · unfold loopAtN
        rw [e2]
        cases e with
        | normal => exact absurd rfl he
        | _ => rfl
      · cases e with
        | normal => exact absurd rfl he
        | _ => exact k

/-- LABELS OF A SCOPE: what holds behind them, with a number that falls. -/
theorem again_rule (hS : SpecOK C S) {cp : CP} {K : Ex → St → Prop} (N : Nat) (I : Nat → Nat → St → Prop) (hstep : ∀ n l s, I n l s → ∃ h, wAt C S f N (.lab cp l) s (againK C f cp (fun l' s' => ∃ m, m < n ∧ I m l' s') K) h) {n l : Nat} {s : St} (h : I n l s) : AgainAt C f cp l s K := by
  induction n using Nat.strongRecOn generalizing l s with
  | _ n ih =>
    obtain ⟨hh, k⟩ := hstep n l s h
    obtain ⟨c, e1, m, e, s2, e2, h', k⟩ := wAt_ok hS k
    have hb : ∃ b, codeOf C f cp = some (.scope b) ∧ findLabel b l = some c := by
      simp only [codeOf] at e1
      split at e1
      · rename_i b e3; exact ⟨b, e3, e1⟩
      · exact absurd e1 (by simp)
    obtain ⟨b, e3, e4⟩ := hb
    cases e with
    | goto l' =>
      simp only [againK, e3] at k
      split at k
      · rename_i x1 x2 rest s1 e5 e6
        obtain ⟨m', hm', k⟩ := k
        obtain ⟨b', rest', e7, e8, n2, e', s', e9, k⟩ := ih m' hm' k
        rw [e3] at e7; simp only [Option.some.injEq, Code.scope.injEq] at e7; subst e7
        rw [e5] at e8; simp only [Option.some.injEq] at e8; subst e8
        refine ⟨b, c, e3, e4, max m n2 + 1, e', s', ?_, k⟩
        simp only [againN, handle]
        rw [code_up (callN_up (show m ≤ max m n2 + 1 by omega)) (by omega) (againN_up (callN_up (by omega)) (by omega) (show m ≤ max m n2 by omega)) c s _ e2]
        simp only [e5, e6]
        exact againN_up (callN_up (by omega)) (by omega) (show n2 ≤ max m n2 by omega) _ _ _ _ e9
      · exact k.elim
    | _ =>
      refine ⟨b, c, e3, e4, m + 1, _, s2, ?_, k⟩
      simp only [againN, handle]
      rw [code_up (callN_up (show m ≤ m + 1 by omega)) (by omega) (againN_up (callN_up (by omega)) (by omega) (Nat.le_refl m)) c s _ e2]

theorem fun_rule (hS : SpecOK C S) {ag : List TV} {Q : List TV × List TV → Prop} {h : H} (k : wFun C S f ag Q h) : ∃ r, Ev C f ag r ∧ Q r := by
  unfold wFun at k
  split at k
  · exact k.elim
  · rename_i e0
    split at k
    · rename_i fn e1
      split at k
      · rename_i e2
        simp only [Bool.and_eq_true, decide_eq_true_eq] at e2
        obtain ⟨c, e3⟩ := Option.isSome_iff_exists.1 e2.1
        split at k
        · rename_i s e4
          obtain ⟨c', e5, m, e, s', e6, h', k⟩ := wAt_ok hS k
          simp only [codeOf, e1, e3, Option.some.injEq] at e5; subst e5
          have key : (e = .normal ∨ e = .ret) → (match leave C f fn.results.toList ag s' with | some r => Q r | none => False) → ∃ r, Ev C f ag r ∧ Q r := by
            intro he k
            split at k
            · rename_i r e7
              refine ⟨r, Ev.of (k := m + 1) ?_, k⟩
              simp only [callN, e0, e1, e3, e2.2, if_true, e4, bodyOf, e6, he, e7]
            · exact k.elim
          cases e with
          | normal => simp only [retK, e1] at k; exact key (.inl rfl) k
          | ret => simp only [retK, e1] at k; exact key (.inr rfl) k
          | _ => exact k.elim
        · exact k.elim
      · exact k.elim
    · exact k.elim

end
end Go.Proofs.Ytmjkdghcfihfiaa.Vm
