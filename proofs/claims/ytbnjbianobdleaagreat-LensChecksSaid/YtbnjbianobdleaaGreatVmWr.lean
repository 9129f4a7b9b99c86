/-
  The machine: VmQ, VmPost, VmWr.
-/
import Derived.Test.YtbnjbianobdleaaGreatVmOps
import Derived.Laws.BytesString
import Derived.Laws.IdiomCopy
import Derived.Laws.AppendOwn

/-
  Every operation that only reads, in the model.
-/
namespace Go.Proofs.YtbnjbianobdleaaGreat.Vm
open Go
set_option linter.unusedVariables false
set_option linter.unusedSimpArgs false

/-- What a view leads to is of this set. -/
def ClosedIn (R : Nat → Prop) (V : View) : Prop := (∀ t, ∀ i ∈ (V.get t).refs, R i) ∧ ∀ id o, V.obj id = some o → R id ∧ ∀ i ∈ o.refs, R i

/-- An operation that only reads: what it gives, what it makes. -/
def QOk (P : Program) (ρ : Operand → Value) (o : Op) (w : World) (M : Cells) (β : Nat → Loc) (R : Nat → Prop) (v : AV) (os : List (Nat × Obj)) : Prop :=
  ∃ c w' M' β', Gives P ρ o w c w' ∧ NewOK M β w os M' β' w' ∧ AVR β' w' M' v c ∧ (∀ b j, M' b j → b < w'.heap.size) ∧
    (∀ i ∈ v.refs, R i ∨ i ∈ os.map (·.1)) ∧ ∀ p ∈ os, ∀ i ∈ p.2.refs, R i ∨ i ∈ os.map (·.1)

section ops
variable {P : Program} {M0 M : Cells} {β : Nat → Loc} {V : View} {a : Act} {w : World} {R : Nat → Prop}

theorem QOk.pure {ρ : Operand → Value} {o : Op} {v : AV} {c : Value} (hV : VR M0 M β V a.tmps w) (hg : Gives P ρ o w c w) (hc : AVR β w M v c) (hr : ∀ i ∈ v.refs, R i) : QOk P ρ o w M β R v [] :=
  ⟨c, w, M, β, hg, NewOK.none M β w, hc, hV.old, fun i hi => .inl (hr i hi), fun p hp => by simp at hp⟩

theorem eval_refs (hR : ClosedIn R V) {x : Operand} {v : AV} (h : V.eval x = some v) : ∀ i ∈ v.refs, R i := by
  cases x with
  | tmp t => simp only [View.eval, Option.some.injEq] at h; subst h; exact hR.1 t
  | const c => simp only [View.eval] at h; rw [litAV_refs h]; simp
  | func f => simp only [View.eval, Option.some.injEq] at h; subst h; simp [AV.refs]
  | global g => simp [View.eval] at h

theorem evalAll_refs (hR : ClosedIn R V) : ∀ {xs : List Operand} {vs : List AV}, evalAll V xs = some vs → ∀ i ∈ AV.refsL vs, R i
  | [], vs, h => by simp only [evalAll, Option.some.injEq] at h; subst h; simp [AV.refsL]
  | x :: xs, vs, h => by
    simp only [evalAll] at h
    split at h
    · rename_i v l hv hl
      injection h with h; subst h
      intro i hi
      simp only [AV.refsL, List.mem_append] at hi
      rcases hi with hi | hi
      · exact eval_refs hR hv i hi
      · exact evalAll_refs hR hl i hi
    · exact absurd h (by simp)

theorem leaves_refs (v : AV) : ∀ i ∈ AV.refsL (leaves v), i ∈ v.refs := by
  intro i hi
  cases v with
  | pv x =>
    cases x with
    | agg fs =>
      simp only [leaves] at hi
      obtain ⟨v, hv, hi⟩ := refsL_mem.1 hi
      obtain ⟨y, _, rfl⟩ := List.mem_map.1 hv
      simp [AV.refs] at hi
    | _ => simp [leaves, refsL_mem, AV.refs] at hi
  | agg fs => simpa [leaves, AV.refs] using hi
  | _ => simpa [leaves, AV.refsL] using hi

theorem q_load (hV : VR M0 M β V a.tmps w) (hR : ClosedIn R V) {d : Nat} {bt : TypeId} {t : TypeId} {x : Operand} {v : AV} {os : List (Nat × Obj)} (h : opQ P bt d (.load t x) V = some (v, os)) : QOk P a.eval (.load t x) w M β R v os := by
  simp only [opQ] at h
  split at h
  · exact absurd h (by simp)
  · rename_i ht
    have ht : okT P t = true := by simpa using ht
    split at h
    · rename_i id i off hx
      have hx' := eval_ok hV hx
      simp only [AVR] at hx'
      obtain ⟨b, o, hb, hc⟩ := hx'
      split at h
      · rename_i cs ho
        split at h
        · rename_i hcond
          obtain ⟨rfl, hl⟩ := hcond
          rw [Nat.zero_mul, Nat.add_zero] at hc
          have hos : os = [] := by
            split at h
            · split at h
              · injection h with h; injection h with h1 h2; exact h2.symm
              · exact absurd h (by simp)
            · split at h
              · injection h with h; injection h with h1 h2; exact h2.symm
              · exact absurd h (by simp)
          subst hos
          obtain ⟨c, k1, k2, k3⟩ := load_box (P := P) ht (hV.objs id _ ho) hb hl h
          exact QOk.pure hV (gives_load hc k1) k2 (fun i hi => (hR.2 id _ ho).2 i (by simpa only [Obj.refs] using k3 i hi))
        · exact absurd h (by simp)
      · rename_i sz es ho
        split at h
        · rename_i e he
          split at h
          · rename_i hl
            split at h
            · rename_i v' hv
              injection h with h; injection h with h1 h2; subst h1; subst h2
              obtain ⟨q1, q2, q3, q4, q5, q6, q7, q8, q9⟩ := hV.objs id _ ho
              obtain ⟨vs, hr, hcs⟩ := (q9 b o hb).2 i e he
              have hd := RepS.take (sizeT P t) (RepS.drop off hr)
              obtain ⟨c, k1, k2, k3⟩ := load_cells (P := P) (β := β) (w := w) (b := b) (o := o + i * (β id).sz + off) ht hd (fun j c hj => by
                rw [List.getElem?_take] at hj
                split at hj
                · rw [List.getElem?_drop] at hj
                  have := hcs _ _ hj
                  rw [q1, Nat.add_assoc (o + i * sz) off j]; exact this
                · exact absurd hj (by simp)) (by simp; omega) hv
              exact QOk.pure hV (gives_load hc k1) k2 (by rw [k3]; simp)
            · exact absurd h (by simp)
          · exact absurd h (by simp)
        · exact absurd h (by simp)
      · exact absurd h (by simp)
    · rename_i cs hx
      have hx' := eval_ok hV hx
      simp only [AVR, Rep] at hx'
      obtain ⟨b, o, vs, hc, hr, hh⟩ := hx'
      split at h
      · rename_i hl
        split at h
        · rename_i v' hv
          injection h with h; injection h with h1 h2; subst h1; subst h2
          obtain ⟨c, k1, k2, k3⟩ := load_cells (P := P) (β := β) (w := w) (b := b) (o := o) ht (RepS.take (sizeT P t) hr) (fun j c hj => by
            rw [List.getElem?_take] at hj
            split at hj
            · exact (hh _ _ hj).1
            · exact absurd hj (by simp)) (by simp; omega) hv
          exact QOk.pure hV (gives_load hc k1) k2 (by rw [k3]; simp)
        · exact absurd h (by simp)
      · exact absurd h (by simp)
    · exact absurd h (by simp)

theorem q_move (hV : VR M0 M β V a.tmps w) (hR : ClosedIn R V) {x : Operand} {v : AV} (h : V.eval x = some v) : QOk P a.eval (.move x) w M β R v [] :=
  QOk.pure hV (gives_move _) (eval_ok hV h) (eval_refs hR h)
theorem q_assign (hV : VR M0 M β V a.tmps w) (hR : ClosedIn R V) {x : Operand} {v : AV} (h : V.eval x = some v) : QOk P a.eval (.assign x) w M β R v [] :=
  QOk.pure hV (gives_assign _) (eval_ok hV h) (eval_refs hR h)
theorem q_pick (hV : VR M0 M β V a.tmps w) (hR : ClosedIn R V) {c x y : Operand} {t : Bool} {v : AV} (hc : V.eval c = some (.pv (.bool t))) (h : V.eval (if t then x else y) = some v) : QOk P a.eval (.pick c x y) w M β R v [] := by
  have hb := eval_ok hV hc
  simp only [AVR, Rep] at hb
  exact QOk.pure hV (gives_pick hb) (eval_ok hV h) (eval_refs hR h)

/-- New memory: what it is, with the state's own numbers kept. -/
theorem QOk.one {ρ : Operand → Value} {o : Op} {v : AV} {c : Value} {id : Nat} {ob : Obj} {w' : World} (hg : Gives P ρ o w c w') {M' : Cells} {β' : Nat → Loc} (hn : NewOK M β w [(id, ob)] M' β' w') (hc : AVR β' w' M' v c)
    (hold : ∀ b j, M' b j → b < w.heap.size + 1) (hs : w'.heap.size = w.heap.size + 1) (hr : v.refs = [id]) (ho : ∀ i ∈ ob.refs, R i) : QOk P ρ o w M β R v [(id, ob)] :=
  ⟨c, w', M', β', hg, hn, hc, fun b j h => by rw [hs]; exact hold b j h, fun i hi => by rw [hr] at hi; exact .inr (by simpa using hi), fun p hp i hi => by simp at hp; subst hp; exact .inl (ho i hi)⟩

theorem q_box (hV : VR M0 M β V a.tmps w) (hR : ClosedIn R V) {t : TypeId} {x : Operand} {v : AV} {d : Nat} (h : V.eval x = some v) (hf : v.fit = true) (hd : ¬ R (dstId d)) : QOk P a.eval (.box t x) w M β R (.addr (dstId d) 0 0) [(dstId d, .box (leaves v))] := by
  have hl := leaves_ok (eval_ok hV h) hf
  have hr : ∀ i ∈ AV.refsL (leaves v), R i := fun i hi => eval_refs hR h i (leaves_refs v i hi)
  obtain ⟨β', M', k1, k2, k3⟩ := new_box (t := t) (id := dstId d) hV.old hl (fun hi => hd (hr _ hi))
  have hx : (a.eval x).cells.toList.toArray = (a.eval x).cells := by simp
  rw [hx] at k1
  exact QOk.one gives_box k1 (by simp only [AVR]; exact ⟨_, _, k2, by simp⟩) k3 (by simp) (by simp [AV.refs]) (by simpa only [Obj.refs] using hr)

theorem litLeaves_ok : ∀ {vs : List Value} {xs : List AV}, litLeaves vs = some xs → AVS β w M xs vs ∧ AV.refsL xs = []
  | [], xs, h => by simp only [litLeaves, Option.some.injEq] at h; subst h; exact ⟨⟨rfl, fun j x v hx => by simp at hx⟩, rfl⟩
  | v :: vs, xs, h => by
    simp only [litLeaves] at h
    split at h
    · rename_i x l hx hl
      injection h with h; subst h
      obtain ⟨k1, k2⟩ := litLeaves_ok hl
      have hxr : x.refs = [] := by
        unfold litLeaf at hx
        split at hx
        · injection hx with hx; subst hx; rfl
        · split at hx
          · injection hx with hx; subst hx; rfl
          · exact absurd hx (by simp)
      refine ⟨⟨by simp [k1.1], fun j y u hy hu => ?_⟩, by simp [AV.refsL, k2, hxr]⟩
      cases j with
      | zero => simp at hy hu; subst hy; subst hu; exact litLeaf_ok hx
      | succ j => exact k1.2 j y u (by simpa using hy) (by simpa using hu)
    · exact absurd h (by simp)

theorem buildParts_refs (hR : ClosedIn R V) : ∀ {ps : List (Nat × Operand)} {qs : List (Nat × AV)}, buildParts V ps = some qs → ∀ q ∈ qs, ∀ i ∈ q.2.refs, R i
  | [], qs, h => by simp only [buildParts, Option.some.injEq] at h; subst h; simp
  | (i, o) :: ps, qs, h => by
    simp only [buildParts] at h
    split at h
    · rename_i v l hv hl
      injection h with h; subst h
      intro q hq
      rcases List.mem_cons.1 hq with rfl | hq
      · exact eval_refs hR hv
      · exact buildParts_refs hR hl q hq
    · exact absurd h (by simp)

theorem q_build (hV : VR M0 M β V a.tmps w) (hR : ClosedIn R V) {t : TypeId} {parts : Array (Nat × Operand)} {vs : List Value} {ps : List (Nat × AV)} {zs l : List AV} (hz : zeroV P t = some vs) (hp : buildParts V parts.toList = some ps)
    (hzs : litLeaves vs = some zs) (hf : fieldsOk P t = true) (hl : setField P t zs ps = some l) : QOk P a.eval (.build t parts) w M β R (ofLeaves true l) [] := by
  obtain ⟨fs, ht, hfs⟩ := fields_ok hf
  obtain ⟨k1, k2⟩ := buildParts_ok hV hp
  obtain ⟨z1, z2⟩ := litLeaves_ok (β := β) (w := w) (M := M) hzs
  obtain ⟨us, u1, u2, u3⟩ := fill_fields (w := w) (M := M) (β := β) ht a.eval parts.toList ps zs vs l k1 k2 z1 hl
  obtain ⟨r1, r2⟩ := ofLeaves_ok u2
  refine QOk.pure hV (gives_build ht hfs hz u1) r1 (fun i hi => ?_)
  rcases u3 i (r2 i hi) with h | ⟨q, hq, h⟩
  · rw [z2] at h; simp at h
  · exact buildParts_refs hR hp q hq i h

theorem q_buildSlice (hV : VR M0 M β V a.tmps w) {t e : TypeId} {n d : Nat} {parts : Array (Nat × Operand)} {vs : List Value} {zs : List PV} {ps : List (Nat × AV)} {es : List (List PV)} (he : elemT P t = some e) (hp : buildParts V parts.toList = some ps)
    (hz : zeroV P e = some vs) (hzs : litPVs vs = some zs) (hl : setElem (sizeT P e) (List.replicate n zs) ps = some es) (hn : n * sizeT P e ≤ 16777216) :
    QOk P a.eval (.buildSlice t n parts) w M β R (.own (dstId d)) [(dstId d, .buf (sizeT P e) es)] := by
  obtain ⟨ht, hk, h0⟩ := elemT_eq he
  obtain ⟨k1, k2⟩ := buildParts_ok hV hp
  obtain ⟨_, _, _, _, _, hlen⟩ := zeroV_eq hz
  have hrow := zeros_row (litPVs_ok (w := w) (M := M) hzs) n n (Nat.le_refl _)
  rw [hlen] at hrow
  obtain ⟨us, u1, u2, u3, u4⟩ := fill_elems (w := w) (M := M) (β := β) h0 a.eval parts.toList ps (List.replicate n zs) _ es k1 k2 (by simp [hlen]) hrow hl
  have hlen' : es.length = n := by rw [u3]; simp
  obtain ⟨β', M', n1, n2, n3⟩ := new_buf (t := e) (id := dstId d) (cap := n) (β := β) hV.old h0 u4 (by rw [u2]; simp [hlen]) (by omega)
  have g := gives_buildSlice (w := w) (ρ := a.eval) ht hk hz hn (cells := us.toArray) (parts := parts) (by rw [hlen]; simpa only [Array.toArray_toList] using u1)
  refine QOk.one g n1 ?_ n3 (by simp) (by simp [AV.refs]) (by simp [Obj.refs])
  simp only [AVR]
  rw [n2, hlen']

theorem q_makeSlice (hV : VR M0 M β V a.tmps w) {t e : TypeId} {d : Nat} {x y : Operand} {kx ky : IntKind} {n m : Int} {vs : List Value} {z : List PV} (he : elemT P t = some e) (hx : V.eval x = some (.pv (.int kx n))) (hy : V.eval y = some (.pv (.int ky m)))
    (h0 : 0 ≤ n) (hn : n ≤ m) (hm : m ≤ maxInt) (hb : m * bytesT P e ≤ room) (hz : zeroV P e = some vs) (hzs : litPVs vs = some z) :
    QOk P a.eval (.makeSlice t x y) w M β R (.own (dstId d)) [(dstId d, .buf (sizeT P e) (List.replicate n.toNat z))] := by
  obtain ⟨ht, hk, hp⟩ := elemT_eq he
  obtain ⟨_, _, _, _, _, hlen⟩ := zeroV_eq hz
  have ex := eval_ok hV hx
  have ey := eval_ok hV hy
  simp only [AVR, Rep] at ex ey
  have hrow := zeros_row (litPVs_ok (w := w) (M := M) hzs) m.toNat n.toNat (by omega)
  rw [hlen] at hrow
  obtain ⟨β', M', n1, n2, n3⟩ := new_buf (t := e) (id := dstId d) (cap := m.toNat) (β := β) hV.old hp hrow (by simp [hlen]) (by simp; omega)
  have g := gives_makeSlice (w := w) (ρ := a.eval) ht hk ex ey h0 hn hm hb hz
  refine QOk.one g (by rw [hlen]; simpa only [Array.toArray_toList] using n1) ?_ n3 (by simp) (by simp [AV.refs]) (by simp [Obj.refs])
  simp only [AVR]
  rw [n2]
  simp

theorem addr_shift {pa : Addr} (h : pa.spot = none) (n : Nat) : pa.add n = ⟨pa.block, pa.off + n, none⟩ := by
  cases pa with
  | mk b o sp => simp at h; subst h; exact addr_add b o _
theorem spot_shift {A : Option Addr} {k p n : Nat} (h : ∀ a, A = some a → a.spot = none) : ∀ a, (if k = p then A else A.map (·.add n)) = some a → a.spot = none := by
  intro pa hpa
  split at hpa
  · exact h pa hpa
  · simp only [Option.map_eq_some_iff] at hpa
    obtain ⟨pb, hpb, rfl⟩ := hpa
    rw [addr_shift (h pb hpb)]

theorem q_slice (hV : VR M0 M β V a.tmps w) (hR : ClosedIn R V) {bt : TypeId} {d : Nat} {t : TypeId} {x : Operand} {lo hi : Option Operand} {v : AV} {os : List (Nat × Obj)} (h : opQ P bt d (.slice t x lo hi none) V = some (v, os)) :
    QOk P a.eval (.slice t x lo hi none) w M β R v os := by
  simp only [opQ] at h
  split at h
  · rename_i s l h' ht hx hl hh
    have ex := eval_ok hV hx
    simp only [AVR, Rep] at ex
    split at h
    · rename_i p q hs
      injection h with h; injection h with h1 h2; subst h1; subst h2
      obtain ⟨_, _, k3⟩ := sliceOf_ok (P := P) hV hl hh hs (Nat.le_refl _) false
      have hsz : (⟨s.toArray⟩ : ByteArray).size = s.length := by simp [ByteArray.size]
      refine QOk.pure hV (gives_slice (c := .string ((⟨s.toArray⟩ : ByteArray).extract p q)) ?_) ?_ (by simp [AV.refs])
      · rw [ex]; exact run_slice_string ht (by rw [hsz]; exact k3)
      · simp only [AVR, Rep]; rw [extract_mk]
    · exact absurd h (by simp)
  · rename_i e u l h' ht hx hl hh
    have ex := eval_ok hV hx
    split at h
    · exact absurd h (by simp)
    · rename_i hk
      have hk : okT P e = true := by simpa using hk
      split at h
      · rename_i es
        split at h
        · rename_i hrok
          split at h
          · rename_i p q hs
            injection h with h; injection h with h1 h2; subst h1; subst h2
            simp only [AVR, Rep] at ex
            obtain ⟨A, cap, hc, hle, hnone, hspot, sz, hrow⟩ := ex
            obtain ⟨k1, k2, k3⟩ := sliceOf_ok (P := P) hV hl hh hs hle true
            have hlen : ((es.drop p).take (q - p)).length = q - p := by simp; omega
            refine QOk.pure hV (gives_slice (c := .slice (if cap = p then A else A.map (·.add (p * sizeT P e))) (q - p) (cap - p)) (by rw [hc]; exact run_slice_slice ht hk k3)) ?_ (by simp [AV.refs])
            simp only [AVR, Rep]
            refine ⟨_, cap - p, by rw [hlen], by rw [hlen]; omega, ?_, ?_, sz, ?_⟩
            · intro hA
              have : A = none := by
                split at hA
                · exact hA
                · simpa using hA
              have := hnone this; omega
            · exact fun pa hpa hne => spot_shift (fun pb hpb => hspot pb hpb (by rintro rfl; simp at hne)) pa hpa
            · by_cases hq : q - p = 0
              · rw [hq]; simp [RepRow]
              · refine RepRow.cut hrow p (q - p) _ (fun _ => ?_)
                have hes : p < es.length := by omega
                obtain ⟨pa, us, hA, hsz, _, _⟩ := hrow.get p es[p] (List.getElem?_eq_getElem hes)
                have hsz' : sz = sizeT P e := by
                  have := List.all_eq_true.1 hrok es[p] (List.getElem_mem hes)
                  rw [← hsz]; simpa using this
                refine ⟨pa, hA, ?_⟩
                rw [if_neg (by omega), hA]
                simp only [Option.map_some, Option.some.injEq]
                rw [addr_shift (hspot pa hA (List.ne_nil_of_length_pos (by omega))), hsz']
          · exact absurd h (by simp)
        · exact absurd h (by simp)
      · simp only [AVR] at ex
        split at h
        · rename_i r hs
          injection h with h; injection h with h1 h2; subst h1; subst h2
          obtain ⟨p, q⟩ := r
          obtain ⟨k1, k2, k3⟩ := sliceOf_ok (P := P) hV hl hh hs (Nat.le_refl 0) true
          have : p = 0 ∧ q = 0 := ⟨by omega, by omega⟩
          obtain ⟨rfl, rfl⟩ := this
          refine QOk.pure hV (gives_slice (by rw [ex]; exact run_slice_slice ht hk k3)) ?_ (by simp [AV.refs])
          simp [AVR]
        · exact absurd h (by simp)
      · rename_i id
        split at h
        · rename_i sz es ho
          split at h
          · rename_i hsz
            split at h
            · rename_i p q hs
              injection h with h; injection h with h1 h2; subst h1; subst h2
              obtain ⟨q1, q2, q3, q4, q5, q6, q7, q8, q9⟩ := hV.objs id _ ho
              simp only [AVR, Loc.hdr] at ex
              have hc : ∃ A, a.eval x = .slice A (β id).len (β id).cap ∧ ((β id).base = none → A = none) ∧ ∀ b o, (β id).base = some (b, o) → A = some ⟨b, o, none⟩ := by
                cases hb : (β id).base with
                | none =>
                  rw [hb] at ex
                  have hcap := q7 hb
                  have hl0 : (β id).len = 0 := by omega
                  exact ⟨none, by rw [ex, hl0, hcap], fun _ => rfl, fun b o h => by simp at h⟩
                | some bo =>
                  rw [hb] at ex
                  exact ⟨_, ex, fun h => by simp at h, fun b o h => by injection h with h; subst h; rfl⟩
              obtain ⟨A, hc, hA0, hA1⟩ := hc
              obtain ⟨k1, k2, k3⟩ := sliceOf_ok (P := P) hV hl hh hs (by omega : es.length ≤ (β id).cap) true
              rw [q3] at hc
              refine QOk.pure hV (gives_slice (c := .slice (if (β id).cap = p then A else A.map (·.add (p * sizeT P e))) (q - p) ((β id).cap - p)) (by rw [hc]; exact run_slice_slice ht hk k3)) ?_
                (fun i hi => by simp [AV.refs] at hi; rw [hi]; exact (hR.2 id _ ho).1)
              simp only [AVR]
              refine ⟨_, _, rfl, by omega, ?_, ?_, by omega, ?_⟩
              · intro hA
                have : A = none := by
                  split at hA
                  · exact hA
                  · simpa using hA
                cases hb : (β id).base with
                | none => have := q7 hb; omega
                | some bo => obtain ⟨b, o⟩ := bo; rw [hA1 b o hb] at this; simp at this
              · refine spot_shift (fun pa hpa => ?_)
                cases hb : (β id).base with
                | none => rw [hA0 hb] at hpa; simp at hpa
                | some bo => obtain ⟨b, o⟩ := bo; rw [hA1 b o hb] at hpa; injection hpa with hpa; subst hpa; rfl
              · intro hq
                cases hb : (β id).base with
                | none => have := q7 hb; omega
                | some bo =>
                  obtain ⟨b, o⟩ := bo
                  refine ⟨b, o, rfl, ?_⟩
                  rw [if_neg (by omega), hA1 b o hb]
                  simp only [Option.map_some, Option.some.injEq]
                  rw [addr_add, q1, hsz]
            · exact absurd h (by simp)
          · exact absurd h (by simp)
        · exact absurd h (by simp)
      · rename_i id lo' n
        split at h
        · rename_i sz es ho
          split at h
          · rename_i hsz
            split at h
            · rename_i p q hs
              injection h with h; injection h with h1 h2; subst h1; subst h2
              obtain ⟨q1, q2, q3, q4, q5, q6, q7, q8, q9⟩ := hV.objs id _ ho
              simp only [AVR] at ex
              obtain ⟨A, cap, hc, hle, hnone, hspot, hln, hpos⟩ := ex
              obtain ⟨k1, k2, k3⟩ := sliceOf_ok (P := P) hV hl hh hs hle true
              refine QOk.pure hV (gives_slice (c := .slice (if cap = p then A else A.map (·.add (p * sizeT P e))) (q - p) (cap - p)) (by rw [hc]; exact run_slice_slice ht hk k3)) ?_
                (fun i hi => by simp [AV.refs] at hi; rw [hi]; exact (hR.2 id _ ho).1)
              simp only [AVR]
              refine ⟨_, _, rfl, by omega, ?_, spot_shift hspot, by omega, ?_⟩
              · intro hA
                have : A = none := by
                  split at hA
                  · exact hA
                  · simpa using hA
                have := hnone this; omega
              · intro hq
                obtain ⟨b, o, hb, hA⟩ := hpos (by omega)
                refine ⟨b, o, hb, ?_⟩
                rw [if_neg (by omega), hA]
                simp only [Option.map_some, Option.some.injEq]
                rw [addr_add, q1, hsz, Nat.add_mul, Nat.add_assoc]
            · exact absurd h (by simp)
          · exact absurd h (by simp)
        · exact absurd h (by simp)
      · exact absurd h (by simp)
  · exact absurd h (by simp)

theorem q_nilCheck (hV : VR M0 M β V a.tmps w) (hR : ClosedIn R V) {bt : TypeId} {d : Nat} {x : Operand} {v : AV} {os : List (Nat × Obj)} (h : opQ P bt d (.nilCheck x) V = some (v, os)) : QOk P a.eval (.nilCheck x) w M β R v os := by
  simp only [opQ] at h
  split at h
  · rename_i hx
    injection h with h; injection h with h1 h2; subst h1; subst h2
    have ex := eval_ok hV hx
    have rx := eval_refs hR hx
    simp only [AVR] at ex
    obtain ⟨b, o, hb, hc⟩ := ex
    exact QOk.pure hV (gives_nilCheck hc) (by simp only [AVR]; exact ⟨b, o, hb, rfl⟩) rx
  · rename_i hx
    injection h with h; injection h with h1 h2; subst h1; subst h2
    have ex := eval_ok hV hx
    simp only [AVR, Rep] at ex
    obtain ⟨b, o, vs, hc, h1, h2⟩ := ex
    exact QOk.pure hV (gives_nilCheck hc) (by simp only [AVR, Rep]; exact ⟨b, o, vs, rfl, h1, h2⟩) (by simp [AV.refs])
  · rename_i hx
    injection h with h; injection h with h1 h2; subst h1; subst h2
    have ex := eval_ok hV hx
    simp only [AVR, Rep] at ex
    obtain ⟨cs, hc, h1⟩ := ex
    exact QOk.pure hV (gives_nilCheck_func hc) (by simp only [AVR, Rep]; exact ⟨cs, rfl, h1⟩) (by simp [AV.refs])
  · rename_i hx
    injection h with h; injection h with h1 h2; subst h1; subst h2
    have ex := eval_ok hV hx
    have rx := eval_refs hR hx
    simp only [AVR] at ex
    obtain ⟨p, q, hc, h1, h2⟩ := ex
    exact QOk.pure hV (gives_nilCheck_func hc) (by simp only [AVR]; exact ⟨p, q, rfl, h1, h2⟩) rx
  · exact absurd h (by simp)

theorem q_binOp (hV : VR M0 M β V a.tmps w) {op : BinOp} {t ty : TypeId} {x y : Operand} {av bv : AV} {r : PV} (hx : V.eval x = some av) (hy : V.eval y = some bv) (h : vbin P op t av bv = some r) : QOk P a.eval (.binOp op t x y ty) w M β R (.pv r) [] := by
  obtain ⟨k1, e, k2, k3⟩ := vbin_ok (w := w) (x := x) (y := y) h (eval_ok hV hx) (eval_ok hV hy)
  exact QOk.pure hV (gives_binOp k1 k2) (by simp only [AVR]; exact k3) (by simp [AV.refs])

theorem q_unOp (hV : VR M0 M β V a.tmps w) {op : UnOp} {t : TypeId} {x : Operand} {av : AV} {r : PV} (hx : V.eval x = some av) (h : vun op av = some r) : QOk P a.eval (.unOp op t x) w M β R (.pv r) [] := by
  obtain ⟨e, k2, k3⟩ := unOp_ok (P := P) (w := w) h (eval_ok hV hx)
  exact QOk.pure hV (gives_unOp k2) (by simp only [AVR]; exact k3) (by simp [AV.refs])

theorem q_makeFunc (hV : VR M0 M β V a.tmps w) (hR : ClosedIn R V) {f : FuncId} {first caps : Array Operand} {x y : List AV} (hx : evalAll V first.toList = some x) (hy : evalAll V caps.toList = some y) : QOk P a.eval (.makeFunc (.func f) first caps) w M β R (.clo f x y) [] := by
  refine QOk.pure hV (gives_makeFunc _) ?_ (fun i hi => ?_)
  · simp only [AVR]
    exact ⟨_, _, rfl, by simpa using evalAll_ok hV hx, by simpa using evalAll_ok hV hy⟩
  · simp only [AV.refs, List.mem_append] at hi
    rcases hi with hi | hi
    · exact evalAll_refs hR hx i hi
    · exact evalAll_refs hR hy i hi

theorem q_extract (hV : VR M0 M β V a.tmps w) (hR : ClosedIn R V) {x : Operand} {i : Nat} {vs : List AV} {v : AV} (hx : V.eval x = some (.tup vs)) (hv : vs[i]? = some v) : QOk P a.eval (.extract x i) w M β R v [] := by
  have ex := eval_ok hV hx
  simp only [AVR] at ex
  obtain ⟨cs, hc, h1⟩ := ex
  have hlt : i < cs.toList.length := by rw [AVRs.length h1]; exact (List.getElem?_eq_some_iff.1 hv).1
  have hi : cs.toList[i]? = some cs.toList[i] := List.getElem?_eq_getElem hlt
  exact QOk.pure hV (gives_extract hc (by simp [hlt])) (AVRs.get h1 i v _ hv hi) (fun j hj => eval_refs hR hx j (by simp only [AV.refs]; exact refsL_mem.2 ⟨v, List.mem_of_getElem? hv, hj⟩))

theorem q_fieldAddr (hV : VR M0 M β V a.tmps w) (hR : ClosedIn R V) {bt : TypeId} {d : Nat} {t : TypeId} {x : Operand} {f : Nat} {v : AV} {os : List (Nat × Obj)} (h : opQ P bt d (.fieldAddr t x f) V = some (v, os)) : QOk P a.eval (.fieldAddr t x f) w M β R v os := by
  simp only [opQ] at h
  split at h
  · rename_i g id i off hg hx
    split at h
    · exact absurd h (by simp)
    · rename_i h0
      have h0 := Classical.not_not.1 h0
      injection h with h; injection h with h1 h2; subst h1; subst h2
      obtain ⟨fs, ht, hf⟩ := fieldT_eq hg
      have ex := eval_ok hV hx
      have rx := eval_refs hR hx
      simp only [AVR] at ex
      obtain ⟨b, o, hb, hc⟩ := ex
      refine QOk.pure hV (gives_fieldAddr ht hf h0.1 h0.2 hc) ?_ (by simpa [AV.refs] using rx)
      simp only [AVR]
      exact ⟨b, o, hb, by rw [Nat.add_assoc (o + i * (β id).sz) off]⟩
  · rename_i g cs hg hx
    split at h
    · exact absurd h (by simp)
    · rename_i h0
      have h0 := Classical.not_not.1 h0
      injection h with h; injection h with h1 h2; subst h1; subst h2
      obtain ⟨fs, ht, hf⟩ := fieldT_eq hg
      have ex := eval_ok hV hx
      simp only [AVR, Rep] at ex
      obtain ⟨b, o, vs, hc, h1, h2⟩ := ex
      refine QOk.pure hV (gives_fieldAddr ht hf h0.1 h0.2 hc) ?_ (by simp [AV.refs])
      simp only [AVR, Rep]
      exact ⟨b, o + g.offset, vs.drop g.offset, rfl, RepS.drop _ h1, fun j c hj => by
        rw [List.getElem?_drop] at hj
        have := h2 _ _ hj
        rwa [← Nat.add_assoc] at this⟩
  · exact absurd h (by simp)

theorem q_field (hV : VR M0 M β V a.tmps w) (hR : ClosedIn R V) {bt : TypeId} {d : Nat} {t : TypeId} {x : Operand} {f : Nat} {v : AV} {os : List (Nat × Obj)} (h : opQ P bt d (.field t x f) V = some (v, os)) : QOk P a.eval (.field t x f) w M β R v os := by
  simp only [opQ] at h
  split at h
  · rename_i g fs hg hx
    split at h
    · rename_i hc
      split at h
      · rename_i v' hv
        injection h with h; injection h with h1 h2; subst h1; subst h2
        obtain ⟨fs', ht, hf⟩ := fieldT_eq hg
        have ex := eval_ok hV hx
        simp only [AVR, Rep] at ex
        obtain ⟨cs, hcs, hr⟩ := ex
        obtain ⟨c, k1, k2, k3⟩ := field_pv (P := P) (β := β) hc.1 hr hv
        exact QOk.pure hV (gives_field ht hf hcs k1) k2 (by rw [k3]; simp)
      · exact absurd h (by simp)
    · exact absurd h (by simp)
  · rename_i g fs hg hx
    split at h
    · rename_i hc
      injection h with h; injection h with h1 h2; subst h1; subst h2
      obtain ⟨fs', ht, hf⟩ := fieldT_eq hg
      have hl := eval_ok hV hx
      have rx := eval_refs hR hx
      simp only [AVR] at hl
      obtain ⟨cs, hcs, hr, hone⟩ := hl
      have hs : AVS β w M fs cs.toList := ⟨(AVRs.length hr).symm, fun j x v hx hv => ⟨hone v (List.mem_of_getElem? hv), AVRs.get hr j x v hx hv⟩⟩
      obtain ⟨c, k1, k2, k3⟩ := field_agg (P := P) hc.1 hs hc.2.1 hc.2.2
      exact QOk.pure hV (gives_field ht hf hcs k1) k2 (fun i hi => rx i (by simp only [AV.refs]; exact k3 i hi))
    · exact absurd h (by simp)
  · exact absurd h (by simp)

theorem q_indexAddr (hV : VR M0 M β V a.tmps w) (hR : ClosedIn R V) {bt : TypeId} {d : Nat} {t : TypeId} {x ix : Operand} {v : AV} {os : List (Nat × Obj)} (h : opQ P bt d (.indexAddr t x ix) V = some (v, os)) : QOk P a.eval (.indexAddr t x ix) w M β R v os := by
  simp only [opQ] at h
  split at h
  · rename_i e id k i he hx hi
    obtain ⟨ht, hk, h0⟩ := elemT_eq he
    have ex := eval_ok hV hx
    have rx := eval_refs hR hx
    have ei := eval_ok hV hi
    simp only [AVR, Rep] at ex ei
    split at h
    · rename_i sz es ho
      split at h
      · rename_i hc
        injection h with h; injection h with h1 h2; subst h1; subst h2
        obtain ⟨q1, q2, q3, q4, q5, q6, q7, q8, q9⟩ := hV.objs id _ ho
        cases hb : (β id).base with
        | none => have := q7 hb; omega
        | some bo =>
          obtain ⟨b, o⟩ := bo
          simp only [Loc.hdr, hb] at ex
          refine QOk.pure hV (gives_indexAddr (by rw [ex, ei]; exact run_indexAt ht hk hc.1 (by rw [q3]; exact hc.2.1))) ?_ (by simpa [AV.refs] using rx)
          simp only [AVR]
          exact ⟨b, o, hb, by rw [q1, hc.2.2]; simp⟩
      · exact absurd h (by simp)
    · exact absurd h (by simp)
  · rename_i e id lo n k i he hx hi
    obtain ⟨ht, hk, h0⟩ := elemT_eq he
    have ex := eval_ok hV hx
    have rx := eval_refs hR hx
    have ei := eval_ok hV hi
    simp only [AVR, Rep] at ex ei
    split at h
    · rename_i sz es ho
      split at h
      · rename_i hc
        injection h with h; injection h with h1 h2; subst h1; subst h2
        obtain ⟨q1, q2, q3, q4, q5, q6, q7, q8, q9⟩ := hV.objs id _ ho
        obtain ⟨A, cap, hca, hle, hnone, hspot, hln, hpos⟩ := ex
        obtain ⟨b, o, hb, hA⟩ := hpos (by omega)
        subst hA
        refine QOk.pure hV (gives_indexAddr (by rw [hca, ei]; exact run_indexAt ht hk hc.1 hc.2.1)) ?_ (by simpa [AV.refs] using rx)
        simp only [AVR]
        refine ⟨b, o, hb, ?_⟩
        rw [q1, hc.2.2.2, Nat.add_mul, Nat.add_zero, ← Nat.add_assoc]
      · exact absurd h (by simp)
    · exact absurd h (by simp)
  · rename_i e es k i he hx hi
    obtain ⟨ht, hk, h0⟩ := elemT_eq he
    have ex := eval_ok hV hx
    have ei := eval_ok hV hi
    simp only [AVR, Rep] at ex ei
    split at h
    · rename_i hi0
      split at h
      · rename_i c hc
        split at h
        · rename_i hcl
          injection h with h; injection h with h1 h2; subst h1; subst h2
          obtain ⟨A, cap, hca, hle, hnone, hspot, sz, hrow⟩ := ex
          obtain ⟨pa, vs, hA, hl, hr, hh⟩ := hrow.get i.toNat c hc
          have hlt := (List.getElem?_eq_some_iff.1 hc).1
          subst hA
          have hpa := hspot pa rfl (List.ne_nil_of_length_pos (by omega))
          obtain ⟨pb, po, ps⟩ := pa
          simp only at hpa; subst hpa
          refine QOk.pure hV (gives_indexAddr (by rw [hca, ei]; exact run_indexAt ht hk hi0 (by omega))) ?_ (by simp [AV.refs])
          simp only [AVR, Rep]
          refine ⟨pb, _, vs, rfl, hr, ?_⟩
          have : sz = sizeT P e := by rw [← hl]; exact hcl
          rw [← this]
          simpa using hh
        · exact absurd h (by simp)
      · exact absurd h (by simp)
    · exact absurd h (by simp)
  · exact absurd h (by simp)

theorem q_index (hV : VR M0 M β V a.tmps w) {bt : TypeId} {d : Nat} {t : TypeId} {x ix : Operand} {v : AV} {os : List (Nat × Obj)} (h : opQ P bt d (.index t x ix) V = some (v, os)) : QOk P a.eval (.index t x ix) w M β R v os := by
  simp only [opQ] at h
  split at h
  · rename_i s k i ht hx hi
    have ex := eval_ok hV hx
    have ei := eval_ok hV hi
    simp only [AVR, Rep] at ex ei
    split at h
    · rename_i h0
      split at h
      · rename_i b hb
        injection h with h; injection h with h1 h2; subst h1; subst h2
        exact QOk.pure hV (gives_index (by rw [ex, ei]; exact index_str ht h0 hb)) (by simp only [AVR, Rep]) (by simp [AV.refs])
      · exact absurd h (by simp)
    · exact absurd h (by simp)
  · exact absurd h (by simp)

/-- A slice that is read: where its elements lie. -/
theorem asList_ok (hV : VR M0 M β V a.tmps w) {v : AV} {c : Value} {es : List (List PV)} (hc : AVR β w M v c) (h : asList V v = some es) :
    ∃ A cap sz, c = .slice A es.length cap ∧ es.length ≤ cap ∧ (A = none → cap = 0) ∧ (∀ p, A = some p → es ≠ [] → p.spot = none) ∧
      ∀ i e, es[i]? = some e → ∃ b o vs, A = some ⟨b, o, none⟩ ∧ e.length = sz ∧ RepS w M e vs ∧ ∀ j d, vs[j]? = some d → at_ w b (o + i * sz + j) = some d := by
  unfold asList at h
  split at h
  · injection h with h; subst h
    simp only [AVR, Rep] at hc
    obtain ⟨A, cap, h1, h2, h3, h4, sz, h5⟩ := hc
    refine ⟨A, cap, sz, h1, h2, h3, h4, fun i e he => ?_⟩
    obtain ⟨pa, vs, k1, k2, k3, k4⟩ := h5.get i e he
    have := h4 pa k1 (by rintro rfl; simp at he)
    obtain ⟨pb, po, ps⟩ := pa
    simp only at this; subst this
    refine ⟨pb, po, vs, k1, k2, k3, fun j d hj => ?_⟩
    have := (k4 j d hj).1
    simpa using this
  · injection h with h; subst h
    simp only [AVR] at hc
    exact ⟨none, 0, 0, hc, Nat.le_refl _, fun _ => rfl, fun p hp _ => by simp at hp, fun i e he => by simp at he⟩
  · rename_i id
    split at h
    · rename_i sz es' ho
      injection h with h; subst h
      obtain ⟨q1, q2, q3, q4, q5, q6, q7, q8, q9⟩ := hV.objs id _ ho
      simp only [AVR, Loc.hdr] at hc
      cases hb : (β id).base with
      | none =>
        rw [hb] at hc
        have hcap := q7 hb
        have hl0 : es'.length = 0 := by omega
        refine ⟨none, 0, sz, by rw [hc, hl0], by omega, fun _ => rfl, fun p hp _ => by simp at hp, fun i e he => ?_⟩
        have := (List.getElem?_eq_some_iff.1 he).1
        omega
      | some bo =>
        obtain ⟨b, o⟩ := bo
        rw [hb] at hc
        refine ⟨_, (β id).cap, sz, by rw [hc, q3], by omega, fun h => by simp at h, fun p hp _ => by injection hp with hp; subst hp; rfl, fun i e he => ?_⟩
        obtain ⟨vs, k1, k2⟩ := (q9 b o hb).2 i e he
        exact ⟨b, o, vs, rfl, q8 e (List.mem_of_getElem? he), k1, k2⟩
    · exact absurd h (by simp)
  · rename_i id lo n
    split at h
    · rename_i sz es' ho
      injection h with h; subst h
      obtain ⟨q1, q2, q3, q4, q5, q6, q7, q8, q9⟩ := hV.objs id _ ho
      simp only [AVR] at hc
      obtain ⟨A, cap, h1, h2, h3, h4, h5, h6⟩ := hc
      have hlen : ((es'.drop lo).take n).length = n := by simp; omega
      refine ⟨A, cap, sz, by rw [hlen]; exact h1, by rw [hlen]; exact h2, h3, fun p hp _ => h4 p hp, fun i e he => ?_⟩
      rw [List.getElem?_take] at he
      split at he
      · rename_i hi
        rw [List.getElem?_drop] at he
        obtain ⟨b, o, hb, hA⟩ := h6 (by omega)
        obtain ⟨vs, k1, k2⟩ := (q9 b o hb).2 _ e he
        refine ⟨b, _, vs, hA, q8 e (List.mem_of_getElem? he), k1, fun j d hj => ?_⟩
        have := k2 j d hj
        rw [Nat.add_mul] at this
        rw [q1]
        rwa [Nat.add_assoc o (lo * sz)]
      · exact absurd he (by simp)
    · exact absurd h (by simp)
  · exact absurd h (by simp)

/-- The cells of a slice that is read, one behind the other. -/
theorem row_cells {A : Option Addr} {sz : Nat} {es : List (List PV)} (hsz : 0 < sz)
    (h : ∀ i e, es[i]? = some e → ∃ b o vs, A = some ⟨b, o, none⟩ ∧ e.length = sz ∧ RepS w M e vs ∧ ∀ j d, vs[j]? = some d → at_ w b (o + i * sz + j) = some d) :
    ∃ vs : List Value, vs.length = es.length * sz ∧ (∀ d ∈ vs, d.oneCell' = true) ∧ RowS w M sz es vs ∧ ∀ b o, A = some ⟨b, o, none⟩ → ∀ j d, vs[j]? = some d → at_ w b (o + j) = some d := by
  cases A with
  | none =>
    have : es = [] := by
      cases es with
      | nil => rfl
      | cons e es => obtain ⟨b, o, vs, hA, _⟩ := h 0 e rfl; simp at hA
    subst this
    exact ⟨[], by simp, by simp, ⟨by simp, fun i e he => by simp at he⟩, fun b o hA => by simp at hA⟩
  | some pa =>
    obtain ⟨pb, po, ps⟩ := pa
    have hx : ∀ j, j < es.length * sz → ∃ d, at_ w pb (po + j) = some d ∧ d.oneCell' = true := by
      intro j hj
      have hi : j / sz < es.length := Nat.div_lt_of_lt_mul (by rw [Nat.mul_comm]; exact hj)
      obtain ⟨b, o, vs, hA, hl, hr, hc⟩ := h (j / sz) _ (List.getElem?_eq_getElem hi)
      injection hA with hA; injection hA with e1 e2 e3; subst e1; subst e2
      have hm : j % sz < vs.length := by rw [hr.length, hl]; exact Nat.mod_lt _ hsz
      have := hc (j % sz) _ (List.getElem?_eq_getElem hm)
      refine ⟨_, ?_, RepS.one hr _ (List.getElem_mem hm)⟩
      rwa [Nat.add_assoc, Nat.mul_comm, Nat.div_add_mod] at this
    refine ⟨(List.range (es.length * sz)).map fun j => (at_ w pb (po + j)).getD undef, by simp, fun d hd => ?_, ⟨by simp, fun i e he => ?_⟩, fun b o hA j d hj => ?_⟩
    · obtain ⟨j, hj, rfl⟩ := List.mem_map.1 hd
      obtain ⟨d, h1, h2⟩ := hx j (by simpa using hj)
      rw [h1]; exact h2
    · obtain ⟨b, o, vs, hA, hl, hr, hc⟩ := h i e he
      injection hA with hA; injection hA with e1 e2 e3; subst e1; subst e2
      have hi := (List.getElem?_eq_some_iff.1 he).1
      refine ⟨hl, ?_⟩
      have : ((((List.range (es.length * sz)).map fun j => (at_ w pb (po + j)).getD undef).drop (i * sz)).take sz) = vs := by
        apply List.ext_getElem?
        intro j
        rw [List.getElem?_take]
        split
        · rename_i hj
          have hm : j < vs.length := by rw [hr.length, hl]; exact hj
          have hlt : i * sz + j < es.length * sz := by
            have : (i + 1) * sz ≤ es.length * sz := Nat.mul_le_mul_right _ hi
            rw [Nat.add_mul] at this; omega
          rw [List.getElem?_drop, List.getElem?_map, List.getElem?_range hlt, List.getElem?_eq_getElem hm]
          have := hc j _ (List.getElem?_eq_getElem hm)
          simp only [Option.map_some, ← Nat.add_assoc, this, Option.getD_some]
        · rw [List.getElem?_eq_none (by rw [hr.length, hl]; omega)]
      rw [this]; exact hr
    · injection hA with hA; injection hA with e1 e2 e3; subst e1; subst e2
      have hlt : j < es.length * sz := by
        have := (List.getElem?_eq_some_iff.1 hj).1
        simpa using this
      obtain ⟨d', h1, h2⟩ := hx j hlt
      rw [List.getElem?_map, List.getElem?_range hlt] at hj
      simp only [Option.map_some, h1, Option.getD_some, Option.some.injEq] at hj
      subst hj; exact h1

theorem q_len (hV : VR M0 M β V a.tmps w) {bt : TypeId} {d : Nat} {as : Array Operand} {ts : Array TypeId} {v : AV} {os : List (Nat × Obj)} (h : opQ P bt d (.call { callee := .builtin .len, args := as, argTypes := ts }) V = some (v, os)) :
    QOk P a.eval (.call { callee := .builtin .len, args := as, argTypes := ts }) w M β R v os := by
  simp only [opQ] at h
  split at h
  · rename_i x t r ha hts
    have hx' : as = #[x] := by apply Array.ext'; simpa using ha
    have ht' : ts = (t :: r).toArray := by apply Array.ext'; simpa using hts
    subst hx'; subst ht'
    split at h
    · rename_i s hu hx
      injection h with h; injection h with h1 h2; subst h1; subst h2
      have ex := eval_ok hV hx
      simp only [AVR, Rep] at ex
      exact QOk.pure hV (gives_len (n := s.length) (.inl ⟨hu, _, ex, by simp [ByteArray.size]⟩)) (by simp only [i64, AVR, Rep]) (by simp [i64, AV.refs])
    · rename_i e v' hu hx
      split at h
      · rename_i l hl
        injection h with h; injection h with h1 h2; subst h1; subst h2
        obtain ⟨A, cap, sz, hc, _⟩ := asList_ok hV (eval_ok hV hx) hl
        exact QOk.pure hV (gives_len (n := l.length) (.inr ⟨⟨_, hu⟩, _, _, hc⟩)) (by simp only [i64, AVR, Rep]) (by simp [i64, AV.refs])
      · exact absurd h (by simp)
    · exact absurd h (by simp)
  · exact absurd h (by simp)

theorem minmax1_ok (mx : Bool) {k : IntKind} : ∀ {l : List AV} {vs : List Value} {n r : Int}, AVRs β w M l vs → minmax1 mx k n l = some r →
    (vs.foldlM (if mx then Builtin.max2 else Builtin.min2) (.int k n)).run P w = .ok (.int k r) w
  | [], vs, n, r, hl, h => by
    simp only [AVRs] at hl; subst hl
    simp only [minmax1, Option.some.injEq] at h; subst h
    simp
  | x :: l, vs, n, r, hl, h => by
    simp only [AVRs] at hl
    obtain ⟨c, us, rfl, hc, hl⟩ := hl
    unfold minmax1 at h
    split at h
    · rename_i heq; cases heq
    · rename_i k' b l' heq
      cases heq
      simp only [AVR, Rep] at hc
      subst hc
      have ih := minmax1_ok mx hl h
      rw [List.foldlM_cons]
      cases mx
      · simpa [Builtin.min2] using ih
      · simpa [Builtin.max2] using ih
    · exact absurd h (by simp)

theorem q_minmax (hV : VR M0 M β V a.tmps w) (mx : Bool) {as : Array Operand} {ts : Array TypeId} {l : List AV} {x : PV} (ha : evalAll V as.toList = some l) (h : minmax mx l = some x) :
    QOk P a.eval (.call { callee := .builtin (if mx then .max else .min), args := as, argTypes := ts }) w M β R (.pv x) [] := by
  have hl := evalAll_ok hV ha
  unfold minmax at h
  split at h
  · rename_i k n r
    split at h
    · rename_i m hm
      injection h with h; subst h
      simp only [AVRs] at hl
      obtain ⟨c, us, hus, hc, hl⟩ := hl
      simp only [AVR, Rep] at hc; subst hc
      have key := minmax1_ok (P := P) mx hl hm
      refine QOk.pure hV (c := .int k m) (fun oo ho => ?_) (by simp only [AVR, Rep]) (by simp [AV.refs])
      cases mx
      · simp only [Bool.false_eq_true, if_false] at key
        simp [execOp, ho, resolve, invoke, Go.builtin, Builtin.min_, hus, key]
      · simp only [if_true] at key
        simp [execOp, ho, resolve, invoke, Go.builtin, Builtin.max_, hus, key]
    · exact absurd h (by simp)
  · exact absurd h (by simp)

theorem gives_convert {s t : TypeId} {x : Operand} {ρ : Operand → Value} {c : Value} {w' : World} (h : (convert s t (ρ x)).run P w = .ok c w') : Gives P ρ (.convert s t x) w c w' :=
  fun oo ho => by simp [execOp, ho, h]

theorem ofU8s_push : ∀ (ns : List Int) (s : List UInt8), (ns.foldl (fun r n => r.push (UInt8.ofNat n.toNat)) (⟨s.toArray⟩ : ByteArray)) = ⟨(s ++ ns.map fun n => UInt8.ofNat n.toNat).toArray⟩
  | [], s => by simp
  | n :: ns, s => by
    rw [List.foldl_cons]
    have : (⟨s.toArray⟩ : ByteArray).push (UInt8.ofNat n.toNat) = ⟨(s ++ [UInt8.ofNat n.toNat]).toArray⟩ := by
      simp [ByteArray.push]
    rw [this, ofU8s_push ns]
    simp

theorem u8Row_ok {es : List (List PV)} (h : u8Row es = true) : ∃ ns : List Int, es = ns.map (fun n => [.int .u8 n]) ∧ ofU8s es = ns.map fun n => UInt8.ofNat n.toNat := by
  induction es with
  | nil => exact ⟨[], rfl, rfl⟩
  | cons e es ih =>
    unfold u8Row at h
    rw [List.all_cons, Bool.and_eq_true] at h
    obtain ⟨ns, h1, h2⟩ := ih h.2
    have h0 := h.1
    split at h0
    · rename_i n
      exact ⟨n :: ns, by simp [h1], by simp only [ofU8s, List.map_cons] at h2 ⊢; rw [h2]⟩
    · exact absurd h0 (by simp)

theorem q_convert (hV : VR M0 M β V a.tmps w) {bt : TypeId} {d : Nat} {s t : TypeId} {x : Operand} {v : AV} {os : List (Nat × Obj)} (h : opQ P bt d (.convert s t x) V = some (v, os)) : QOk P a.eval (.convert s t x) w M β R v os := by
  simp only [opQ] at h
  split at h
  · rename_i av hx
    have ex := eval_ok hV hx
    unfold vconv at h
    split at h
    · rename_i k hd
      split at h
      · rename_i k' k'' n hs
        injection h with h; injection h with h1 h2; subst h1; subst h2
        simp only [AVR, Rep] at ex
        exact QOk.pure hV (gives_convert (c := .int k (k.wrap n)) (by simp [convert, run_underlying hs, run_underlying hd, ex, Conv.intToInt])) (by simp only [AVR, Rep]) (by simp [AV.refs])
      · exact absurd h (by simp)
    · rename_i hd
      split at h
      · rename_i hs
        split at h
        · rename_i l
          injection h with h; injection h with h1 h2; subst h1; subst h2
          have ex' := ex
          simp only [AVR, Rep] at ex
          exact QOk.pure hV (gives_convert (c := a.eval x) (by simp [convert, run_underlying hs, run_underlying hd, ex])) ex' (by simp [AV.refs])
        · exact absurd h (by simp)
      · rename_i e hs
        split at h
        · rename_i es he hl
          split at h
          · rename_i hu
            injection h with h; injection h with h1 h2; subst h1; subst h2
            obtain ⟨A, cap, sz, hc, hle, hnone, hspot, hrow⟩ := asList_ok hV ex hl
            obtain ⟨ns, hns, hof⟩ := u8Row_ok hu
            have key : (Conv.bytesToString (.slice A es.length cap)).run P w = .ok (.string ⟨(ofU8s es).toArray⟩) w := by
              cases A with
              | none =>
                have hl0 : es.length = 0 := by have := hnone rfl; omega
                have : es = [] := List.length_eq_zero_iff.1 hl0
                subst this
                simp [Conv.bytesToString, ofU8s]; rfl
              | some pa =>
                have hload : (loadCells pa es.length).run P w = .ok (ns.map (Value.int .u8)).toArray w := by
                  have := run_loadCells_list (P := P) w pa (ns.map (Value.int .u8)) (fun j u hj => by
                    rw [List.getElem?_map] at hj
                    cases hnj : ns[j]? with
                    | none => rw [hnj] at hj; simp at hj
                    | some n =>
                      rw [hnj] at hj; simp at hj; subst hj
                      obtain ⟨b, o, vs, hA, hl1, hr, hcc⟩ := hrow j [.int .u8 n] (by rw [hns, List.getElem?_map, hnj]; rfl)
                      injection hA with hA; subst hA
                      have hsz : sz = 1 := by rw [← hl1]; rfl
                      subst hsz
                      simp only [RepS] at hr
                      obtain ⟨c, r, rfl, _, h3, rfl⟩ := hr
                      simp only [Rep] at h3; subst h3
                      have := hcc 0 _ rfl
                      rw [addr_add]
                      exact (by simpa using this : at_ w b (o + j) = some (.int .u8 n)))
                  rw [show es.length = (ns.map (Value.int .u8)).length by rw [hns]; simp]
                  exact this
                rw [run_bytesToString w pa es.length cap ns hload]
                have := ofU8s_push ns []
                simp only [List.nil_append] at this
                rw [hof, ← this]
                rfl
            exact QOk.pure hV (gives_convert (c := .string ⟨(ofU8s es).toArray⟩) (by rw [hc, run_convert_bytes_string w s t e A es.length cap hs he hd]; exact key)) (by simp only [AVR, Rep]) (by simp [AV.refs])
          · exact absurd h (by simp)
        · exact absurd h (by simp)
      · exact absurd h (by simp)
    · rename_i e hd
      split at h
      · rename_i l hs he
        split at h
        · rename_i hsz
          injection h with h; injection h with h1 h2; subst h1; subst h2
          simp only [AVR, Rep] at ex
          let cap := (Question.appendCap l.length 0 e).cut (w.tape w.drawn (.appendCap l.length 0 e))
          have hcap : l.length ≤ cap := by simp [cap, Question.cut]
          let vs : List Value := l.map (fun b => Value.int .u8 b.toNat) ++ List.replicate (cap - l.length) (.int .u8 0)
          have hvl : vs.length = cap := by simp [vs]; omega
          let w1 : World := w.drew.alloc (.cells vs.toArray e)
          let w2 : World := w1.freeze ⟨w.heap.size, cap, none⟩ 1
          have hblock : w1.heap[w.heap.size]? = some (.cells vs.toArray e (0, 0)) := by
            have := heap_alloc_new w.drew (.cells vs.toArray e)
            simpa [w1] using this
          have hrun : (convert s t (a.eval x)).run P w = .ok (.slice (some ⟨w.heap.size, 0, none⟩) l.length cap) w2 := by
            have hq : (Question.appendCap l.length 0 e).forced = false := rfl
            have hc1 : (choose (.appendCap l.length 0 e)).run P w = .ok cap w.drew := by rw [run_choose_drew]; simp [hq, cap]
            have hba : (⟨l.toArray⟩ : ByteArray).size = l.length := by simp [ByteArray.size]
            have hcs : ((⟨l.toArray⟩ : ByteArray).data.map (fun b => Value.int .u8 b.toNat) ++ Array.replicate (cap - l.length) (Value.int .u8 0)) = vs.toArray := by
              apply Array.ext'; simp [vs]
            have hsh : w1.shape? w.heap.size = some (e, cap) := by
              simp only [World.shape?, hblock]
              simp [hvl]
            have hmk : (markStringish ⟨w.heap.size, 0, none⟩).run P w1 = .ok () w2 := by
              simp [markStringish, hsh, w2]
            have hstb : (Conv.stringToBytes e ⟨l.toArray⟩).run P w = .ok (.slice (some ⟨w.heap.size, 0, none⟩) l.length cap) w2 := by
              simp only [Conv.stringToBytes, hba, Sem.run_bind, hc1, Result.andThen_ok, hcs]
              have hnr : (newRow e vs.toArray).run P w.drew = .ok ⟨w.heap.size, 0, none⟩ w1 := by simp [newRow, w1]
              simp only [hnr, Result.andThen_ok, hmk, Sem.run_pure]
            simp only [ex, convert, Sem.run_bind, run_underlying hs, run_underlying hd, run_underlying he, Result.andThen_ok]
            exact hstb
          have hblock2 : w2.heap[w.heap.size]? = some (.cells vs.toArray e (cap, cap + 1)) := by
            simp only [w2, World.freeze]
            rw [if_neg (by omega)]
            simp only [Array.getElem?_modify, if_true, hblock, Option.map_some]
            simp
          have hat : ∀ j : Nat, at_ w2 w.heap.size j = vs[j]? := fun j => by
            simp [at_, World.cell?, hblock2]
          have hz : ∀ j, j < vs.length → frz_ w2 w.heap.size j = false := fun j hj => by
            simp [frz_, World.frozen?, hblock2]
            omega
          have hs2 : w2.heap.size = w.heap.size + 1 := by simp [w2, World.freeze, w1]
          have hfr : Fr (fun _ _ => False) w w2 := by
            have h1 : ∀ b, b < w.heap.size → w2.heap[b]? = w.heap[b]? := fun b hb => by
              have h2 : w1.heap[b]? = w.heap[b]? := heap_alloc_old w.drew (.cells vs.toArray e) hb
              rw [← h2]
              have hne : w.heap.size ≠ b := by omega
              simp [w2, World.freeze, Array.getElem?_modify, hne]
            refine ⟨by simp [w2, World.freeze, w1]; rfl, by simp [w2, World.freeze, w1]; try rfl, by simp [w2, World.freeze, w1]; try rfl, by omega, fun b hb _ => h1 b hb, fun b j hb _ => ?_, fun b T hT => by have hb := shape_lt hT; unfold World.shape? at hT ⊢; rw [h1 b hb]; exact hT, fun b T n hT hz => by have hb := shape_lt hT; simp only [frz_, World.frozen?, h1 b hb] at hz ⊢; exact hz⟩
            constructor
            · simp [at_, World.cell?, h1 b hb]
            · simp [frz_, World.frozen?, h1 b hb]
          have hrow : RowS w M 1 (u8s l) vs := by
            refine ⟨by simp [u8s, hvl]; exact hcap, fun i c hi => ?_⟩
            rw [u8s, List.getElem?_map] at hi
            cases hli : l[i]? with
            | none => rw [hli] at hi; simp at hi
            | some b =>
              rw [hli] at hi; simp at hi; subst hi
              refine ⟨rfl, ?_⟩
              have hlt := (List.getElem?_eq_some_iff.1 hli).1
              have : (vs.drop (i * 1)).take 1 = [.int .u8 b.toNat] := by
                apply List.ext_getElem?
                intro j
                rw [List.getElem?_take]
                cases j with
                | zero =>
                  have he := (List.getElem?_eq_some_iff.1 hli).2
                  simp [vs, List.getElem?_append, hlt, he]
                | succ j => simp
              rw [this]
              simp only [RepS]
              exact ⟨_, _, rfl, rfl, by simp only [Rep], rfl⟩
          obtain ⟨β', M', n1, n2, n3⟩ := new_buf_at (id := dstId d) (β := β) (cap := cap) hV.old (by omega) hrow (by simp [hvl]) (by simp [u8s]; exact hcap) hat hz hfr hs2 (fun h => absurd h (by decide))
          refine QOk.one (gives_convert hrun) n1 ?_ n3 hs2 (by simp [AV.refs]) (by simp [Obj.refs])
          simp only [AVR]
          rw [n2]; simp [u8s]
        · exact absurd h (by simp)
      · exact absurd h (by simp)
    · exact absurd h (by simp)
  · exact absurd h (by simp)

theorem cellId_inj {id j k : Nat} (h : cellId id j = cellId id k) : j = k := by unfold cellId at h; omega
theorem zeroBox_ok (id : Nat) : ∀ (vs : List Value) (j : Nat) (ts : List TypeId) (l : List AV) (os : List (Nat × Obj)), zeroBox P id j vs ts = some (l, os) →
    l.length = vs.length ∧ (∀ p ∈ os, ∃ k sz, j ≤ k ∧ p = (cellId id k, .buf sz []) ∧ 0 < sz ∧ lkp p.1 os = some p.2) ∧
    ∀ (i : Nat) (x : AV) (v : Value), l[i]? = some x → vs[i]? = some v → v.oneCell' = true ∧
      ((∃ y, x = .pv y ∧ litPV v = some y) ∨ (v = .slice none 0 0 ∧ x = .own (cellId id (j + i)) ∧ ∃ sz, (cellId id (j + i), Obj.buf sz []) ∈ os))
  | [], j, ts, l, os, h => by
    simp only [zeroBox, Option.some.injEq, Prod.mk.injEq] at h
    obtain ⟨rfl, rfl⟩ := h
    exact ⟨rfl, by simp, fun i x v hx => by simp at hx⟩
  | v :: vs, j, ts, l, os, h => by
    simp only [zeroBox] at h
    split at h
    · rename_i es l' os' hv hr
      split at h
      · rename_i e he
        injection h with h; injection h with h1 h2; subst h1; subst h2
        obtain ⟨k1, k2, k3⟩ := zeroBox_ok id vs (j + 1) ts.tail l' os' hr
        have hv0 : v = .slice none 0 0 := by
          unfold litPV at hv
          split at hv <;> first | rfl | (injection hv with hv; cases hv) | (cases hv)
        refine ⟨by simp [k1], fun p hp => ?_, fun i x u hx hu => ?_⟩
        · rcases List.mem_cons.1 hp with rfl | hp
          · exact ⟨j, _, Nat.le_refl _, rfl, (elemT_eq he).2.2, by simp [lkp]⟩
          · obtain ⟨k, sz, a1, a2, a3, a4⟩ := k2 p hp
            refine ⟨k, sz, by omega, a2, a3, ?_⟩
            have : ¬ p.1 = cellId id j := by rw [a2]; unfold cellId; omega
            simp only [lkp]
            rw [if_neg this]; exact a4
        · cases i with
          | zero =>
            simp at hx hu; subst hx; subst hu; subst hv0
            exact ⟨rfl, .inr ⟨rfl, by simp, _, by simp; exact .inl rfl⟩⟩
          | succ i =>
            obtain ⟨a1, a2⟩ := k3 i x u (by simpa using hx) (by simpa using hu)
            refine ⟨a1, a2.imp (fun h => h) ?_⟩
            rintro ⟨b1, b2, sz, b3⟩
            rw [show j + (i + 1) = j + 1 + i by omega]
            exact ⟨b1, b2, sz, List.mem_cons_of_mem _ b3⟩
      · exact absurd h (by simp)
    · rename_i y l' os' _ hv hr
      injection h with h; injection h with h1 h2; subst h1; subst h2
      obtain ⟨k1, k2, k3⟩ := zeroBox_ok id vs (j + 1) ts.tail l' os' hr
      refine ⟨by simp [k1], fun p hp => ?_, fun i x u hx hu => ?_⟩
      · obtain ⟨k, sz, a1, a2, a3, a4⟩ := k2 p hp
        exact ⟨k, sz, by omega, a2, a3, a4⟩
      · cases i with
        | zero =>
          simp at hx hu; subst hx; subst hu
          exact ⟨(litPV_ok (w := default) (M := fun _ _ => False) hv).1, .inl ⟨_, rfl, hv⟩⟩
        | succ i =>
          obtain ⟨a1, a2⟩ := k3 i x u (by simpa using hx) (by simpa using hu)
          refine ⟨a1, a2.imp (fun h => h) ?_⟩
          rintro ⟨b1, b2, sz, b3⟩
          rw [show j + (i + 1) = j + 1 + i by omega]
          exact ⟨b1, b2, sz, b3⟩
    · exact absurd h (by simp)

theorem lkp_mem {α : Type} {n : Nat} : ∀ {l : List (Nat × α)} {a : α}, lkp n l = some a → (n, a) ∈ l
  | [], a, h => by simp [lkp] at h
  | (m, b) :: r, a, h => by
    simp only [lkp] at h
    split at h
    · rename_i e; subst e; injection h with h; subst h; simp
    · exact List.mem_cons_of_mem _ (lkp_mem h)
theorem lkp_none {α : Type} {n : Nat} : ∀ {l : List (Nat × α)}, lkp n l = none → n ∉ l.map (·.1)
  | [], h => by simp
  | (m, b) :: r, h => by
    simp only [lkp] at h
    split at h
    · exact absurd h (by simp)
    · rename_i e
      simp only [List.map_cons, List.mem_cons, not_or]
      exact ⟨e, lkp_none h⟩

theorem q_alloc_box (hV : VR M0 M β V a.tmps w) {d : Nat} {t : TypeId} {vs : List Value} {ts : List TypeId} {l : List AV} {os : List (Nat × Obj)} (hz : zeroV P t = some vs) (h : zeroBox P (dstId d) 0 vs ts = some (l, os)) :
    QOk P a.eval (.alloc t) w M β R (.addr (dstId d) 0 0) ((dstId d, .box l) :: os) := by
  obtain ⟨i, z, hi, hzz, rfl, hl⟩ := zeroV_eq hz
  obtain ⟨k1, k2, k3⟩ := zeroBox_ok (P := P) (dstId d) _ _ _ _ _ h
  let l0 : Loc := { base := some (w.heap.size, 0), len := 0, cap := 0, sz := 0, k := l.length, ext := none }
  let nl : Nat → Loc := fun sz => { base := none, len := 0, cap := 0, sz := sz, k := 0, ext := none }
  let β' : Nat → Loc := fun i => if i = dstId d then l0 else match lkp i os with | some (.buf sz _) => nl sz | _ => β i
  let M' : Cells := fun b j => M b j ∨ l0.F b j
  have hβ : β' (dstId d) = l0 := by simp [β']
  have hne : ∀ k, cellId (dstId d) k ≠ dstId d := by intro k; unfold cellId dstId; omega
  have hsub : ∀ p ∈ os, ∃ k sz, p = (cellId (dstId d) k, .buf sz []) ∧ 0 < sz ∧ β' p.1 = nl sz := by
    intro p hp
    obtain ⟨k, sz, _, hpe, h0, hlk⟩ := k2 p hp
    subst hpe
    exact ⟨k, sz, rfl, h0, by simp [β', hne k, hlk]⟩
  have hF : ∀ b j, l0.F b j → b = w.heap.size := by
    rintro b j (⟨o, h1, h2, h3⟩ | ⟨n, h1, _⟩)
    · simp only [l0, Option.some.injEq, Prod.mk.injEq] at h1
      exact h1.1.symm
    · simp [l0] at h1
  have hF0 : ∀ p ∈ os, ∀ b j, ¬ (β' p.1).F b j := by
    intro p hp b j hb
    obtain ⟨k, sz, _, _, e⟩ := hsub p hp
    rw [e] at hb
    rcases hb with ⟨o, h1, _⟩ | ⟨n, h1, _⟩
    · simp [nl] at h1
    · simp [nl] at h1
  have hF1 : ∀ id ∈ ((dstId d, Obj.box l) :: os).map (·.1), ∀ b j, (β' id).F b j → id = dstId d ∧ b = w.heap.size := by
    intro id hid b j hb
    simp only [List.map_cons, List.mem_cons] at hid
    rcases hid with rfl | hid
    · rw [hβ] at hb; exact ⟨rfl, hF b j hb⟩
    · obtain ⟨p, hp, rfl⟩ := List.mem_map.1 hid
      exact absurd hb (hF0 p hp b j)
  have hat : ∀ j : Nat, at_ (w.alloc (.cells z.cells t)) w.heap.size j = z.cells.toList[j]? := fun j => by simp [at_]
  refine ⟨_, _, M', β', gives_alloc hi hzz, ⟨fun i hi => ?_, fun b j => ?_, fun id hid b j hb => ?_, fun p hp => ?_, fun id hid id' hid' hn b j hb hb' => ?_, Fr.alloc _ _ _ _⟩, ?_, ?_, ?_, ?_⟩
  · simp only [List.map_cons, List.mem_cons, not_or] at hi
    have hlk : lkp i os = none := by
      cases hlk : lkp i os with
      | none => rfl
      | some o => exact absurd (List.mem_map_of_mem (f := (·.1)) (lkp_mem hlk)) hi.2
    simp [β', hi.1, hlk]
  · constructor
    · rintro (h | h)
      · exact .inl h
      · exact .inr ⟨dstId d, by simp, by rw [hβ]; exact h⟩
    · rintro (h | ⟨id, hid, hb⟩)
      · exact .inl h
      · obtain ⟨rfl, _⟩ := hF1 id hid b j hb
        rw [hβ] at hb; exact .inr hb
  · have := (hF1 id hid b j hb).2
    subst this; simp
  · rcases List.mem_cons.1 hp with rfl | hp
    · rw [hβ]
      refine ⟨w.heap.size, 0, rfl, rfl, rfl, fun j v hj => ?_⟩
      have hlt : j < z.cells.toList.length := by rw [← k1]; exact (List.getElem?_eq_some_iff.1 hj).1
      have hv := List.getElem?_eq_getElem hlt
      obtain ⟨a1, a2⟩ := k3 j v _ hj hv
      refine ⟨_, by rw [Nat.zero_add, hat]; exact hv, by simp [frz_], a1, ?_⟩
      rcases a2 with ⟨y, rfl, hy⟩ | ⟨b1, b2, sz, b3⟩
      · simp only [AVR]; exact (litPV_ok hy).2
      · rw [b1, b2]
        simp only [AVR]
        obtain ⟨k, sz', e1, _, e2⟩ := hsub _ b3
        rw [e2]; rfl
    · obtain ⟨k, sz, e1, e0, e2⟩ := hsub p hp
      rw [e2, e1]
      refine ⟨rfl, e0, rfl, Nat.le_refl _, by simp [nl], ⟨rfl, fun b o hb => by simp [nl] at hb⟩, fun _ => rfl, by simp, fun b o hb => by simp [nl] at hb⟩
  · obtain ⟨e1, _⟩ := hF1 id hid b j hb
    obtain ⟨e2, _⟩ := hF1 id' hid' b j hb'
    exact hn (e1.trans e2.symm)
  · simp only [AVR]; exact ⟨w.heap.size, 0, by rw [hβ], by simp⟩
  · rintro b j (h | h)
    · have := hV.old b j h; simp; omega
    · have := hF b j h; subst this; simp
  · intro i hi; simp [AV.refs] at hi; subst hi; exact .inr (by simp)
  · intro p hp i hi
    rcases List.mem_cons.1 hp with rfl | hp
    · simp only [Obj.refs] at hi
      obtain ⟨x, hx, hxi⟩ := refsL_mem.1 hi
      obtain ⟨j, hj⟩ := List.mem_iff_getElem?.1 hx
      have hlt : j < z.cells.toList.length := by rw [← k1]; exact (List.getElem?_eq_some_iff.1 hj).1
      rcases (k3 j x _ hj (List.getElem?_eq_getElem hlt)).2 with ⟨y, rfl, _⟩ | ⟨_, rfl, sz, b3⟩
      · simp [AV.refs] at hxi
      · simp only [AV.refs, List.mem_singleton] at hxi; subst hxi
        exact .inr (by simp only [List.map_cons, List.mem_cons]; exact .inr (List.mem_map_of_mem (f := (·.1)) b3))
    · obtain ⟨k, sz, e1, _, _⟩ := hsub p hp
      rw [e1] at hi; simp [Obj.refs] at hi

theorem q_alloc_bld (hV : VR M0 M β V a.tmps w) {d : Nat} {t : TypeId} (hbt : t = bldTy) (hz : zeroV P t = some [.pointer none, .slice none 0 0]) : QOk P a.eval (.alloc t) w M β R (.addr (dstId d) 0 0) [(dstId d, .bld [])] := by
  obtain ⟨i, z, hi, hzz, hzl, hl⟩ := zeroV_eq hz
  let l0 : Loc := { base := some (w.heap.size, 0), len := 0, cap := 0, sz := 0, k := 2, ext := none }
  let β' : Nat → Loc := fun i => if i = dstId d then l0 else β i
  let M' : Cells := fun b j => M b j ∨ l0.F b j
  have hβ : β' (dstId d) = l0 := by simp [β']
  have hF : ∀ b j, l0.F b j → b = w.heap.size := by
    rintro b j (⟨o, h1, h2, h3⟩ | ⟨n, h1, _⟩)
    · simp only [l0, Option.some.injEq, Prod.mk.injEq] at h1
      exact h1.1.symm
    · simp [l0] at h1
  have hat : ∀ j : Nat, at_ (w.alloc (.cells z.cells t)) w.heap.size j = [Value.pointer none, .slice none 0 0][j]? := fun j => by rw [← hzl]; simp [at_]
  refine QOk.one (gives_alloc hi hzz) (β' := β') (M' := M') ⟨fun i hi => ?_, fun b j => ?_, fun i hi b j hb => ?_, fun p hp => ?_, fun i hi i' hi' hne => ?_, Fr.alloc _ _ _ _⟩ ?_ ?_ (by simp) (by simp [AV.refs]) (by simp [Obj.refs])
  · simp at hi; simp [β', hi]
  · simp [M', hβ]
  · simp at hi; subst hi; rw [hβ] at hb; have := hF b j hb; subst this; simp
  · simp at hp; subst hp
    rw [hβ]
    have e : z.cells.size = 2 := by rw [← Array.length_toList, hzl]; rfl
    have hsh : (w.alloc (.cells z.cells t)).shape? w.heap.size = some (bldTy, 2) := by
      rw [← hbt]
      have hb : (w.alloc (.cells z.cells t)).heap[w.heap.size]? = some (.cells z.cells t (0, 0)) := by
        show (w.heap.push (.cells z.cells t (0, 0)))[w.heap.size]? = _
        simp
      unfold World.shape?
      rw [hb]
      simp [e]
    refine ⟨w.heap.size, 0, none, 0, .pointer none, rfl, ⟨rfl, rfl, hsh⟩, by rw [hat]; rfl, by simp [frz_], .inl rfl, by rw [hat]; rfl, by simp [frz_], .inl ⟨rfl, rfl, rfl, rfl⟩⟩
  · simp at hi hi'; omega
  · simp only [AVR]; exact ⟨w.heap.size, 0, by rw [hβ], by simp⟩
  · rintro b j (h | h)
    · have := hV.old b j h; omega
    · have := hF b j h; omega

/-- EVERY OPERATION THAT ONLY READS. -/
theorem opQ_ok (hV : VR M0 M β V a.tmps w) (hR : ClosedIn R V) {bt : TypeId} {d : Nat} {o : Op} {v : AV} {os : List (Nat × Obj)} (hd : ∀ p ∈ os, ¬ R p.1) (h : opQ P bt d o V = some (v, os)) : QOk P a.eval o w M β R v os := by
  have one : ∀ {x : Option AV} {v : AV} {os : List (Nat × Obj)}, (match x with | some y => some (y, ([] : List (Nat × Obj))) | none => none) = some (v, os) → x = some v ∧ os = [] := by
    intro x v os h
    cases x with
    | none => simp at h
    | some y => simp at h; exact ⟨by rw [h.1], h.2⟩
  cases o
  case move x => simp only [opQ] at h; obtain ⟨h1, rfl⟩ := one h; exact q_move hV hR h1
  case assign x => simp only [opQ] at h; obtain ⟨h1, rfl⟩ := one h; exact q_assign hV hR h1
  case pick c x y =>
    simp only [opQ] at h
    split at h
    · rename_i t hc
      obtain ⟨h1, rfl⟩ := one h
      exact q_pick hV hR hc h1
    · exact absurd h (by simp)
  case alloc t =>
    simp only [opQ] at h
    split at h
    · split at h
      · exact absurd h (by simp)
      · rename_i hbt
        split at h
        · rename_i hz
          injection h with h; injection h with h1 h2; subst h1; subst h2
          exact q_alloc_bld hV (by simpa using hbt) hz
        · exact absurd h (by simp)
    · split at h
      · rename_i vs hz
        split at h
        · rename_i l os' hb
          injection h with h; injection h with h1 h2; subst h1; subst h2
          exact q_alloc_box hV hz hb
        · exact absurd h (by simp)
      · exact absurd h (by simp)
  case box t x =>
    simp only [opQ] at h
    split at h
    · rename_i v' hx
      split at h
      · rename_i hc
        injection h with h; injection h with h1 h2; subst h1; subst h2
        exact q_box hV hR hx hc.1 (hd (dstId d, .box (leaves v')) (by simp))
      · exact absurd h (by simp)
    · exact absurd h (by simp)
  case build t parts =>
    simp only [opQ] at h
    split at h
    · rename_i vs ps hz hp
      split at h
      · rename_i zs hzs
        split at h
        · rename_i hc
          split at h
          · rename_i l hl
            injection h with h; injection h with h1 h2; subst h1; subst h2
            exact q_build hV hR hz hp hzs hc.1 hl
          · exact absurd h (by simp)
        · exact absurd h (by simp)
      · exact absurd h (by simp)
    · exact absurd h (by simp)
  case buildSlice t n parts =>
    simp only [opQ] at h
    split at h
    · rename_i e ps he hp
      split at h
      · rename_i vs hz
        split at h
        · rename_i zs hzs
          split at h
          · rename_i es hl
            split at h
            · rename_i hn
              injection h with h; injection h with h1 h2; subst h1; subst h2
              exact q_buildSlice hV he hp hz hzs hl hn
            · exact absurd h (by simp)
          · exact absurd h (by simp)
        · exact absurd h (by simp)
      · exact absurd h (by simp)
    · exact absurd h (by simp)
  case load t x => exact q_load hV hR h
  case nilCheck x => exact q_nilCheck hV hR h
  case binOp op t x y ty =>
    simp only [opQ] at h
    split at h
    · rename_i av bv hx hy
      split at h
      · rename_i r hr
        injection h with h; injection h with h1 h2; subst h1; subst h2
        exact q_binOp hV hx hy hr
      · exact absurd h (by simp)
    · exact absurd h (by simp)
  case unOp op t x =>
    simp only [opQ] at h
    split at h
    · rename_i av hx
      split at h
      · rename_i r hr
        injection h with h; injection h with h1 h2; subst h1; subst h2
        exact q_unOp hV hx hr
      · exact absurd h (by simp)
    · exact absurd h (by simp)
  case convert s t x => exact q_convert hV h
  case makeFunc g first caps =>
    cases g
    case func f =>
      simp only [opQ] at h
      split at h
      · rename_i x y hx hy
        injection h with h; injection h with h1 h2; subst h1; subst h2
        exact q_makeFunc hV hR hx hy
      · exact absurd h (by simp)
    all_goals (simp only [opQ] at h; exact absurd h (by simp))
  case makeSlice t x y =>
    simp only [opQ] at h
    split at h
    · rename_i e k n k' m he hx hy
      split at h
      · rename_i hc
        split at h
        · rename_i vs hz
          split at h
          · rename_i z hzs
            injection h with h; injection h with h1 h2; subst h1; subst h2
            exact q_makeSlice hV he hx hy hc.1 hc.2.1 hc.2.2.1 hc.2.2.2 hz hzs
          · exact absurd h (by simp)
        · exact absurd h (by simp)
      · exact absurd h (by simp)
    · exact absurd h (by simp)
  case slice t x lo hi mx =>
    cases mx
    case none => exact q_slice hV hR h
    case some m => simp only [opQ] at h; exact absurd h (by simp)
  case fieldAddr t x f => exact q_fieldAddr hV hR h
  case field t x f => exact q_field hV hR h
  case indexAddr t x ix => exact q_indexAddr hV hR h
  case index t x ix => exact q_index hV h
  case extract x i =>
    simp only [opQ] at h
    split at h
    · rename_i vs hx
      obtain ⟨h1, rfl⟩ := one h
      exact q_extract hV hR hx h1
    · exact absurd h (by simp)
  case call c =>
    obtain ⟨callee, as, ts⟩ := c
    cases callee
    case builtin b =>
      cases b
      case len => exact q_len hV h
      case max =>
        simp only [opQ] at h
        split at h
        · rename_i l hl
          split at h
          · rename_i x hx
            injection h with h; injection h with h1 h2; subst h1; subst h2
            exact q_minmax hV true hl hx
          · exact absurd h (by simp)
        · exact absurd h (by simp)
      case min =>
        simp only [opQ] at h
        split at h
        · rename_i l hl
          split at h
          · rename_i x hx
            injection h with h; injection h with h1 h2; subst h1; subst h2
            exact q_minmax hV false hl hx
          · exact absurd h (by simp)
        · exact absurd h (by simp)
      all_goals (simp only [opQ] at h; exact absurd h (by simp))
    all_goals (simp only [opQ] at h; exact absurd h (by simp))
  all_goals (simp only [opQ] at h; exact absurd h (by simp))

end ops
end Go.Proofs.YtbnjbianobdleaaGreat.Vm

/-
  What an operation that writes leaves behind: how the new state stands to the new world.
-/
namespace Go.Proofs.YtbnjbianobdleaaGreat.Vm
open Go
set_option linter.unusedVariables false
set_option linter.unusedSimpArgs false

/-- A change elsewhere leaves an object as it was. -/
theorem ObjR.mono {β β' : Nat → Loc} {w w' : World} {M M' : Cells} {l : Loc} (hk : ∀ b o v, at_ w b o = some v → ¬ M b o → at_ w' b o = some v ∧ ¬ M' b o)
    (hF : ∀ b j v, l.F b j → at_ w b j = some v → at_ w' b j = some v ∧ frz_ w' b j = frz_ w b j) (hs : ∀ b T, w.shape? b = some T → w'.shape? b = some T) (hg : ∀ g, g < w.heap.size → (∀ j v, at_ w g j = some v → l.F g j) → w'.heap[g]? = w.heap[g]?) (hm : ∀ b, Unm w b → Unm w' b) : ∀ {o : Obj}, (∀ i ∈ o.refs, (β i).same (β' i)) → ObjR β w M l o → ObjR β' w' M' l o
  | .box cs, hb, h => by
    obtain ⟨b, o, h1, h2, h3, h4⟩ := h
    refine ⟨b, o, h1, h2, h3, fun j v hj => ?_⟩
    obtain ⟨c, k1, k2, k3, k4⟩ := h4 j v hj
    have hlt := (List.getElem?_eq_some_iff.1 hj).1
    have kk := hF b (o + j) c (.inl ⟨o, h1, by omega, by omega⟩) k1
    exact ⟨c, kk.1, kk.2.trans k2, k3, AVR.mono hk _ _ (fun i hi => hb i (by simp only [Obj.refs]; exact refsL_mem.2 ⟨v, List.mem_of_getElem? hj, hi⟩)) k4⟩
  | .buf sz es, hb, h => by
    obtain ⟨h1, h2, h3, h4, h5, h6, h7, h8, h9⟩ := h
    refine ⟨h1, h2, h3, h4, h5, ⟨h6.1, fun b o hb' hz => hm b (h6.2 b o hb' hz)⟩, h7, h8, fun b o hb' => ?_⟩
    obtain ⟨k1, k2⟩ := h9 b o hb'
    refine ⟨fun j hj => ?_, fun i e he => ?_⟩
    · obtain ⟨⟨c, hc⟩, hz⟩ := k1 j hj
      have kk := hF b (o + j) c (.inl ⟨o, hb', by omega, by omega⟩) hc
      exact ⟨⟨c, kk.1⟩, kk.2.trans hz⟩
    · obtain ⟨vs, hr, hc⟩ := k2 i e he
      refine ⟨vs, RepS.mono hk _ _ hr, fun j c hj => ?_⟩
      have hj' : j < sz := by
        have := (List.getElem?_eq_some_iff.1 hj).1
        rw [hr.length, h8 e (List.mem_of_getElem? he)] at this; exact this
      have hi := (List.getElem?_eq_some_iff.1 he).1
      have : (i + 1) * sz ≤ l.cap * sz := Nat.mul_le_mul_right _ (by omega)
      rw [Nat.add_mul] at this
      exact (hF b (o + i * sz + j) c (.inl ⟨o, hb', by omega, by omega⟩) (hc j c hj)).1
  | .bld bs, hb, h => by
    obtain ⟨b, o, A, cap, p, h1, h2, h3, h4, h5, h6, h7, h8⟩ := h
    have k1 := hF b o p (.inl ⟨o, h1, by omega, by have := h2.1; omega⟩) h3
    have k2 := hF b (o + 1) _ (.inl ⟨o, h1, by omega, by have := h2.1; omega⟩) h6
    obtain ⟨h2, h2', h2''⟩ := h2
    refine ⟨b, o, A, cap, p, h1, ⟨h2, h2', hs _ _ h2''⟩, k1.1, k1.2.trans h4, h5, k2.1, k2.2.trans h7, ?_⟩
    rcases h8 with h8 | ⟨g, g1, g2, g3, g4, g5, g6⟩
    · exact .inl h8
    · have hx : ∀ j v, j < cap → at_ w g j = some v → at_ w' g j = some v ∧ frz_ w' g j = frz_ w g j := fun j v hj hv => hF g j v (.inr ⟨cap, g2, hj⟩) hv
      have hgl : g < w.heap.size := by
        obtain ⟨n, hn⟩ := g4 0 g3.2.1
        exact at_lt hn
      have hgs : w'.heap[g]? = w.heap[g]? := hg g hgl (fun j v hv => by
        obtain ⟨_, cur, lo, hi, hh, hc, _⟩ := g3.2
        refine .inr ⟨cap, g2, ?_⟩
        simp only [at_, World.cell?, hh] at hv
        have := (Array.getElem?_eq_some_iff.1 hv).1
        omega)
      refine .inr ⟨g, g1, g2, ⟨g3.1, by unfold Rng; rw [hgs]; exact g3.2⟩, fun j hj => ?_, fun j hj hj' => ?_, fun j c hj => ?_⟩
      · obtain ⟨n, hn⟩ := g4 j hj; exact ⟨n, (hx j _ hj hn).1⟩
      · obtain ⟨n, hn⟩ := g4 j hj'; exact (hx j _ hj' hn).2.trans (g5 j hj hj')
      · have := (List.getElem?_eq_some_iff.1 hj).1
        exact (hx j _ (by omega) (g6 j c hj)).1

/-- Which cells a patch may change. -/
def Patch.touch (l : Loc) : Patch → Cells
  | .box _ off cells => fun b j => ∃ o, l.base = some (b, o) ∧ o + off ≤ j ∧ j < o + off + cells.length
  | _ => l.F

def Dm (β : Nat → Loc) (dom : Nat → Prop) (m : Made) : Cells :=
  fun b j => (∃ g ∈ m.dels ++ m.use, dom g ∧ (β g).F b j) ∨ ∃ p ∈ m.ws, dom p.id ∧ p.touch (β p.id) b j

/-- Cells that need not stay anybody's: of what is gone, of a Builder that is written. -/
def Gone (β : Nat → Loc) (dom : Nat → Prop) (m : Made) : Cells :=
  fun b j => (∃ g ∈ m.dels ++ m.use, dom g ∧ (β g).F b j) ∨ ∃ id bs, Patch.bld id bs ∈ m.ws ∧ (β id).F b j

/-- What a patch leaves. -/
def PatchR (β β' : Nat → Loc) (G : Cells) (w w' : World) (M' : Cells) : Patch → Prop
  | .box id off cells => β' id = β id ∧ ∃ b o, (β id).base = some (b, o) ∧ ∀ (j : Nat) (v : AV), cells[j]? = some v → ∃ c, at_ w' b (o + off + j) = some c ∧ frz_ w' b (o + off + j) = false ∧ c.oneCell' = true ∧ AVR β' w' M' v c
  | .buf id sz es => β' id = β id ∧ ObjR β' w' M' (β' id) (.buf sz es)
  | .bld id bs => ObjR β' w' M' (β' id) (.bld bs) ∧ ∀ b j, (β' id).F b j → M' b j ∧ (w.heap.size ≤ b ∨ G b j)

/-- What an operation leaves behind. M: cells that may be written, the frozen ones' left out. -/
structure Post (M : Cells) (β : Nat → Loc) (w : World) (dom : Nat → Prop) (m : Made) (M' : Cells) (β' : Nat → Loc) (w' : World) (c : Value) : Prop where
  same : ∀ id, id ∉ m.os.map (·.1) → (β id).same (β' id)
  keep : ∀ id, id ∉ m.os.map (·.1) → id ∉ m.ws.map Patch.id → β' id = β id
  kept : ∀ b j, M b j → M' b j ∨ Gone β dom m b j
  only : ∀ b j, M' b j → M b j ∨ w.heap.size ≤ b
  old : ∀ b j, M' b j → b < w'.heap.size
  new : ∀ p ∈ m.os, ObjR β' w' M' (β' p.1) p.2 ∧ ∀ b j, (β' p.1).F b j → M' b j ∧ (w.heap.size ≤ b ∨ Gone β dom m b j)
  patch : ∀ p ∈ m.ws, PatchR β β' (Gone β dom m) w w' M' p
  nd : (m.ws.map Patch.id).Nodup
  disj : ∀ id id', (id ∈ m.os.map (·.1) ∨ ∃ bs, Patch.bld id bs ∈ m.ws) → (id' ∈ m.os.map (·.1) ∨ ∃ bs, Patch.bld id' bs ∈ m.ws) → id ≠ id' → ∀ b j, (β' id).F b j → ¬ (β' id').F b j
  fr : Fr (Dm β dom m) w w'
  val : AVR β' w' M' m.v c

def patched (ws : List Patch) (id : Nat) (o : Option Obj) : Option Obj := ws.foldl (fun o p => if p.id = id then p.on o else o) o

theorem patched_other {id : Nat} : ∀ {ws : List Patch} {o : Option Obj}, id ∉ ws.map Patch.id → patched ws id o = o
  | [], o, _ => rfl
  | p :: ws, o, h => by
    simp only [List.map_cons, List.mem_cons, not_or] at h
    simp only [patched, List.foldl_cons]
    rw [if_neg (fun e => h.1 e.symm)]
    exact patched_other h.2
theorem patched_at {p : Patch} : ∀ {ws : List Patch} {o : Option Obj}, (ws.map Patch.id).Nodup → p ∈ ws → patched ws p.id o = p.on o
  | [], o, _, h => by simp at h
  | q :: ws, o, hn, h => by
    simp only [List.map_cons, List.nodup_cons] at hn
    simp only [patched, List.foldl_cons]
    rcases List.mem_cons.1 h with rfl | h
    · rw [if_pos rfl]; exact patched_other hn.1
    · have : ¬ q.id = p.id := fun e => hn.1 (e ▸ List.mem_map_of_mem (f := Patch.id) h)
      rw [if_neg this]
      exact patched_at hn.2 h

theorem lkp_of_mem {α : Type} {n : Nat} {a : α} : ∀ {l : List (Nat × α)}, (l.map (·.1)).Nodup → (n, a) ∈ l → lkp n l = some a
  | [], _, h => by simp at h
  | (m, b) :: r, hn, h => by
    simp only [List.map_cons, List.nodup_cons] at hn
    simp only [lkp]
    rcases List.mem_cons.1 h with h | h
    · injection h with h1 h2; subst h1; subst h2; rw [if_pos rfl]
    · have : ¬ n = m := fun e => hn.1 (e ▸ List.mem_map_of_mem (f := (·.1)) h)
      rw [if_neg this]; exact lkp_of_mem hn.2 h

theorem Patch.touch_F {p : Patch} {l : Loc} {b j : Nat} (h : p.touch l b j) (hp : ∀ id off cells, p = .box id off cells → off + cells.length ≤ l.k) : l.F b j := by
  cases p with
  | box id off cells =>
    obtain ⟨o, h1, h2, h3⟩ := h
    exact .inl ⟨o, h1, by omega, by have := hp id off cells rfl; omega⟩
  | buf _ _ _ => exact h
  | bld _ _ => exact h

/-- The new view stands to the new world. -/
theorem Post.view {M0 M : Cells} {β : Nat → Loc} {V0 V1 : View} {tm tm' : Array Value} {w : World} {dom : Nat → Prop} {m : Made} {M' : Cells} {β' : Nat → Loc} {w' : World} {c : Value} {R : Nat → Prop}
    (hV : VR M0 M β V0 tm w) (hP : Post M β w dom m M' β' w' c) (hR : ClosedIn R V0) (hos : ∀ id ∈ m.os.map (·.1), ¬ R id) (hon : (m.os.map (·.1)).Nodup)
    (hg : ∀ g ∈ m.dels ++ m.use, dom g → (∀ b j, (β g).F b j → M b j ∧ ¬ M0 b j) ∧ ∀ id o, V0.obj id = some o → ∀ b j, (β g).F b j → ¬ (β id).F b j)
    (hw : ∀ p ∈ m.ws, ∃ o o', V0.obj p.id = some o ∧ p.on (some o) = some o')
    {d : Option Nat} (h1 : ∀ t, V1.get t = if d = some t then m.v else V0.get t) (h2 : ∀ id, V1.obj id = match lkp id m.os with | some o => some o | none => patched m.ws id (V0.obj id))
    (htm : ∀ t, tm'.getD t undef = if d = some t then c else tm.getD t undef) : VR M0 M' β' V1 tm' w' := by
  have hbox : ∀ p ∈ m.ws, ∀ id off cells, p = .box id off cells → off + cells.length ≤ (β p.id).k := by
    intro p hp id off cells he
    subst he
    obtain ⟨o, o', ho, hon⟩ := hw _ hp
    cases o <;> simp only [Patch.on] at hon <;> try (cases hon; done)
    obtain ⟨b0, o0, q1, q2, q3, q4⟩ := hV.objs _ _ ho
    split at hon
    · rw [q2]; assumption
    · exact absurd hon (by simp)
  have htouch : ∀ p ∈ m.ws, ∀ b j, p.touch (β p.id) b j → (β p.id).F b j := fun p hp b j h => Patch.touch_F h (hbox p hp)
  have hDM : ∀ b j, Dm β dom m b j → M b j := by
    rintro b j (⟨g, hgm, hgd, hgf⟩ | ⟨p, hp, hpd, hpt⟩)
    · exact ((hg g hgm hgd).1 b j hgf).1
    · obtain ⟨o, _, ho, _⟩ := hw p hp
      exact (hV.own _ _ ho b j (htouch p hp b j hpt)).1
  have hk : ∀ b o v, at_ w b o = some v → ¬ M b o → at_ w' b o = some v ∧ ¬ M' b o := by
    intro b o v hv hm
    refine ⟨(hP.fr.keeps hv (fun h => hm (hDM b o h))).1, fun h => ?_⟩
    rcases hP.only b o h with h | h
    · exact hm h
    · have := at_lt hv; omega
  have hsame : ∀ i, R i → (β i).same (β' i) := fun i hi => hP.same i (fun h => hos i h hi)
  -- cells of an object that is there and is not patched here
  have hout : ∀ id o, V0.obj id = some o → ∀ b j, (β id).F b j → (∀ p ∈ m.ws, p.id = id → ¬ p.touch (β id) b j) → ¬ Dm β dom m b j := by
    rintro id o ho b j hF hn (⟨g, hgm, hgd, hgf⟩ | ⟨p, hp, hpd, hpt⟩)
    · exact (hg g hgm hgd).2 id o ho b j hgf hF
    · by_cases e : p.id = id
      · exact hn p hp e (e ▸ hpt)
      · obtain ⟨o', _, ho', _⟩ := hw p hp
        exact hV.disj _ _ _ _ ho' ho e b j (htouch p hp b j hpt) hF
  have hfr : ∀ id o, V0.obj id = some o → ∀ b j v, (β id).F b j → at_ w b j = some v → (∀ p ∈ m.ws, p.id = id → ¬ p.touch (β id) b j) → at_ w' b j = some v ∧ frz_ w' b j = frz_ w b j :=
    fun id o ho b j v hF hv hn => hP.fr.keeps hv (hout id o ho b j hF hn)
  have hGM0 : ∀ b j, Gone β dom m b j → M b j ∧ ¬ M0 b j := by
    rintro b j (⟨g, hgm, hgd, hgf⟩ | ⟨id, bs, hm, hf⟩)
    · exact (hg g hgm hgd).1 b j hgf
    · obtain ⟨o, _, ho, _⟩ := hw _ hm
      exact hV.own id o ho b j hf
  have hGd : ∀ id o, V0.obj id = some o → (∀ bs, Patch.bld id bs ∉ m.ws) → ∀ b j, (β id).F b j → ¬ Gone β dom m b j := by
    rintro id o ho hnb b j hF (⟨g, hgm, hgd, hgf⟩ | ⟨i, bs, hm, hf⟩)
    · exact (hg g hgm hgd).2 id o ho b j hgf hF
    · obtain ⟨o', _, ho', _⟩ := hw _ hm
      exact hV.disj i id o' o ho' ho (fun e => hnb bs (e ▸ hm)) b j hf hF
  have hMM : ∀ id o, V0.obj id = some o → (∀ bs, Patch.bld id bs ∉ m.ws) → ∀ b j, (β id).F b j → M' b j := by
    intro id o ho hnb b j hF
    rcases hP.kept b j (hV.own id o ho b j hF).1 with h | h
    · exact h
    · exact absurd h (hGd id o ho hnb b j hF)
  have hone : ∀ p ∈ m.ws, ∀ q ∈ m.ws, p.id = q.id → p = q := by
    intro p hp q hq he
    obtain ⟨k, hk⟩ := List.mem_iff_getElem?.1 hp
    obtain ⟨k', hk'⟩ := List.mem_iff_getElem?.1 hq
    have n1 : (m.ws.map Patch.id)[k]? = some p.id := by rw [List.getElem?_map, hk]; rfl
    have n2 : (m.ws.map Patch.id)[k']? = some p.id := by rw [List.getElem?_map, hk', he]; rfl
    have hkk := (List.getElem?_inj (List.getElem?_eq_some_iff.1 n1).1 hP.nd).1 (n1.trans n2.symm)
    subst hkk
    rw [hk] at hk'; injection hk' 
  -- an object of the new view: a new one, or one that was there
  have cases1 : ∀ id o, V1.obj id = some o → ((id, o) ∈ m.os ∧ id ∈ m.os.map (·.1)) ∨ (id ∉ m.os.map (·.1) ∧ ∃ o0, V0.obj id = some o0 ∧ ((∃ p ∈ m.ws, p.id = id ∧ p.on (some o0) = some o) ∨ (id ∉ m.ws.map Patch.id ∧ o = o0))) := by
    intro id o ho
    rw [h2] at ho
    split at ho
    · rename_i o1 hl
      injection ho with ho; subst ho
      exact .inl ⟨lkp_mem hl, List.mem_map_of_mem (f := (·.1)) (lkp_mem hl)⟩
    · rename_i hl
      refine .inr ⟨lkp_none hl, ?_⟩
      by_cases hid : id ∈ m.ws.map Patch.id
      · obtain ⟨p, hp, rfl⟩ := List.mem_map.1 hid
        rw [patched_at hP.nd hp] at ho
        obtain ⟨o0, o1, ho0, _⟩ := hw p hp
        rw [ho0] at ho
        exact ⟨o0, ho0, .inl ⟨p, hp, rfl, ho⟩⟩
      · rw [patched_other hid] at ho
        exact ⟨o, ho, .inr ⟨hid, rfl⟩⟩
  -- where its cells lie
  have cells1 : ∀ id o, V1.obj id = some o → (∀ b j, (β' id).F b j → M' b j ∧ ¬ M0 b j) ∧
      ((id ∈ m.os.map (·.1) ∨ ∃ bs, Patch.bld id bs ∈ m.ws) ∨ (β' id = β id ∧ (∀ bs, Patch.bld id bs ∉ m.ws) ∧ ∃ o0, V0.obj id = some o0)) ∧
      ∀ b j, (β' id).F b j → w.heap.size ≤ b ∨ Gone β dom m b j ∨ ((β id).F b j ∧ ∃ o0, V0.obj id = some o0) := by
    intro id o ho
    rcases cases1 id o ho with ⟨hm, hid⟩ | ⟨hid, o0, ho0, hh⟩
    · have hn := (hP.new _ hm).2
      refine ⟨fun b j hF => ⟨(hn b j hF).1, fun h0 => ?_⟩, .inl (.inl hid), fun b j hF => ?_⟩
      · rcases (hn b j hF).2 with h | h
        · have := hV.old b j (hV.sup b j h0); omega
        · exact (hGM0 b j h).2 h0
      · rcases (hn b j hF).2 with h | h
        · exact .inl h
        · exact .inr (.inl h)
    · have plain : β' id = β id → (∀ bs, Patch.bld id bs ∉ m.ws) → (∀ b j, (β' id).F b j → M' b j ∧ ¬ M0 b j) ∧
          ((id ∈ m.os.map (·.1) ∨ ∃ bs, Patch.bld id bs ∈ m.ws) ∨ (β' id = β id ∧ (∀ bs, Patch.bld id bs ∉ m.ws) ∧ ∃ o0, V0.obj id = some o0)) ∧
          ∀ b j, (β' id).F b j → w.heap.size ≤ b ∨ Gone β dom m b j ∨ ((β id).F b j ∧ ∃ o0, V0.obj id = some o0) := by
        intro e hnb
        rw [e]
        exact ⟨fun b j hF => ⟨hMM id o0 ho0 hnb b j hF, (hV.own id o0 ho0 b j hF).2⟩, .inr ⟨rfl, hnb, o0, ho0⟩, fun b j hF => .inr (.inr ⟨hF, o0, ho0⟩)⟩
      rcases hh with ⟨p, hp, hpid, hpo⟩ | ⟨hnw, _⟩
      · have hpr := hP.patch p hp
        cases p with
        | box i off cs => simp only [Patch.id] at hpid; subst hpid; exact plain hpr.1 (fun bs hb => by have := hone _ hp _ hb rfl; cases this)
        | buf i sz es => simp only [Patch.id] at hpid; subst hpid; exact plain hpr.1 (fun bs hb => by have := hone _ hp _ hb rfl; cases this)
        | bld i bs =>
          simp only [Patch.id] at hpid; subst hpid
          refine ⟨fun b j hF => ⟨(hpr.2 b j hF).1, fun h0 => ?_⟩, .inl (.inr ⟨bs, hp⟩), fun b j hF => ?_⟩
          · rcases (hpr.2 b j hF).2 with h | h
            · have := hV.old b j (hV.sup b j h0); omega
            · exact (hGM0 b j h).2 h0
          · rcases (hpr.2 b j hF).2 with h | h
            · exact .inl h
            · exact .inr (.inl h)
      · exact plain (hP.keep id hid hnw) (fun bs hb => hnw (List.mem_map_of_mem (f := Patch.id) hb))
  refine ⟨fun b j h0 => ?_, hP.old, fun t => ?_, fun id o ho => ?_, fun id o ho => (cells1 id o ho).1, fun id id' o o' ho ho' hne b j hF hF' => ?_⟩
  · rcases hP.kept b j (hV.sup b j h0) with h | h
    · exact h
    · exact absurd h0 (hGM0 b j h).2
  · rw [h1, htm]
    split
    · exact hP.val
    · exact AVR.mono hk _ _ (fun i hi => hsame i (hR.1 t i hi)) (hV.slots t)
  · rcases cases1 id o ho with ⟨hm, hid⟩ | ⟨hid, o0, ho0, hh⟩
    · exact (hP.new _ hm).1
    · rcases hh with ⟨p, hp, hpid, hpo⟩ | ⟨hnw, rfl⟩
      · have hpr := hP.patch p hp
        cases p with
        | box i off cs =>
          simp only [Patch.id] at hpid; subst hpid
          obtain ⟨hb, b0, p0, hbase, hcells⟩ := hpr
          cases o0 <;> simp only [Patch.on] at hpo <;> try (cases hpo; done)
          rename_i cs0
          split at hpo
          · rename_i hle
            injection hpo with hpo; subst hpo
            rw [hb]
            obtain ⟨b1, o1, q1, q2, q3, q4⟩ := hV.objs _ _ ho0
            rw [hbase] at q1; injection q1 with q1; injection q1 with e1 e2; subst e1; subst e2
            refine ⟨b0, p0, hbase, by rw [setFrom_length _ _ _ hle]; exact q2, q3, fun j v hj => ?_⟩
            rw [setFrom_get _ _ _ hle] at hj
            split at hj
            · rename_i hr
              obtain ⟨cc, k1, k2, k3, k4⟩ := hcells _ v hj
              rw [show p0 + off + (j - off) = p0 + j by omega] at k1 k2
              exact ⟨cc, k1, k2, k3, k4⟩
            · rename_i hr
              obtain ⟨cc, k1, k2, k3, k4⟩ := q4 j v hj
              have hlt := (List.getElem?_eq_some_iff.1 hj).1
              have kk := hfr i _ ho0 b0 (p0 + j) cc (.inl ⟨p0, hbase, by omega, by omega⟩) k1 (fun p' hp' he ht => by
                have : p' = .box i off cs := hone _ hp' _ hp he
                subst this
                obtain ⟨o', t1, t2, t3⟩ := ht
                rw [hbase] at t1; injection t1 with t1; injection t1 with _ t1; subst t1
                exact hr ⟨by omega, by omega⟩)
              exact ⟨cc, kk.1, kk.2.trans k2, k3, AVR.mono hk _ _ (fun i' hi' => hsame i' ((hR.2 _ _ ho0).2 i' (by simp only [Obj.refs]; exact refsL_mem.2 ⟨v, List.mem_of_getElem? hj, hi'⟩))) k4⟩
          · exact absurd hpo (by simp)
        | buf i sz es =>
          simp only [Patch.id] at hpid; subst hpid
          cases o0 <;> simp only [Patch.on] at hpo <;> try (cases hpo; done)
          split at hpo
          · injection hpo with hpo; subst hpo
            exact hpr.2
          · exact absurd hpo (by simp)
        | bld i bs =>
          simp only [Patch.id] at hpid; subst hpid
          cases o0 <;> simp only [Patch.on] at hpo <;> try (cases hpo; done)
          injection hpo with hpo; subst hpo
          exact hpr.1
      · have e := hP.keep id hid hnw
        rw [e]
        refine ObjR.mono hk (fun b j v hF hv => hfr id _ ho0 b j v hF hv (fun p hp he _ => hnw (he ▸ List.mem_map_of_mem (f := Patch.id) hp))) hP.fr.shape (fun g hg hF => hP.fr.block g hg (fun j v hv => hout id _ ho0 g j (hF j v hv) (fun p hp he _ => hnw (he ▸ List.mem_map_of_mem (f := Patch.id) hp)))) (fun b hb => hP.fr.unm hb) (fun i hi => hsame i ((hR.2 _ _ ho0).2 i hi)) (hV.objs id _ ho0)
  · obtain ⟨a1, a2, a3⟩ := cells1 id o ho
    obtain ⟨b1, b2, b3⟩ := cells1 id' o' ho'
    have apart : ∀ {x y : Nat}, (β' x = β x ∧ (∀ bs, Patch.bld x bs ∉ m.ws) ∧ ∃ o0, V0.obj x = some o0) → (β' x).F b j → x ≠ y →
        (w.heap.size ≤ b ∨ Gone β dom m b j ∨ ((β y).F b j ∧ ∃ o0, V0.obj y = some o0)) → False := by
      rintro x y ⟨e, hnb, o0, ho0⟩ hx hxy hy
      rw [e] at hx
      rcases hy with h | h | ⟨h, o1, ho1⟩
      · have := hV.old b j (hV.own x o0 ho0 b j hx).1; omega
      · exact hGd x o0 ho0 hnb b j hx h
      · exact hV.disj x y o0 o1 ho0 ho1 hxy b j hx h
    rcases a2 with a2 | a2
    · rcases b2 with b2 | b2
      · exact hP.disj id id' a2 b2 hne b j hF hF'
      · exact apart b2 hF' (fun e => hne e.symm) (a3 b j hF)
    · exact apart a2 hF hne (b3 b j hF')

end Go.Proofs.YtbnjbianobdleaaGreat.Vm

/-
  The operations that write: append, store, copy.
-/
namespace Go.Proofs.YtbnjbianobdleaaGreat.Vm
open Go
set_option linter.unusedVariables false
set_option linter.unusedSimpArgs false

/-- What an operation makes leads only where it may. -/
def MRefs (R : Nat → Prop) (m : Made) : Prop :=
  (∀ i ∈ m.v.refs, R i ∨ i ∈ m.os.map (·.1)) ∧ (∀ p ∈ m.os, ∀ i ∈ p.2.refs, R i ∨ i ∈ m.os.map (·.1)) ∧ ∀ id off cells, Patch.box id off cells ∈ m.ws → ∀ i ∈ AV.refsL cells, R i ∨ i ∈ m.os.map (·.1)

/-- The operation gives this value, or nothing; this is the world then. -/
def Does (P : Program) (ρ : Operand → Value) (o : Op) (w : World) (c : Value) (w' : World) : Prop :=
  ∀ oo : Oper, oo.op = o → (execOp ρ oo).run P w = .ok (.value c) w' ∨ (c = undef ∧ (execOp ρ oo).run P w = .ok .skip w')
theorem Gives.does {P : Program} {ρ : Operand → Value} {o : Op} {w : World} {c : Value} {w' : World} (h : Gives P ρ o w c w') : Does P ρ o w c w' := fun oo ho => .inl (h oo ho)

def WOk (P : Program) (ρ : Operand → Value) (o : Op) (w : World) (M : Cells) (β : Nat → Loc) (dom : Nat → Prop) (R : Nat → Prop) (m : Made) : Prop :=
  ∃ c w' M' β', Does P ρ o w c w' ∧ Post M β w dom m M' β' w' c ∧ MRefs R m

theorem QOk.wok {P : Program} {ρ : Operand → Value} {o : Op} {w : World} {M : Cells} {β : Nat → Loc} {R : Nat → Prop} {v : AV} {os : List (Nat × Obj)} {dom : Nat → Prop} (h : QOk P ρ o w M β R v os) : WOk P ρ o w M β dom R (.only v os) := by
  obtain ⟨c, w', M', β', h1, h2, h3, h4, h5, h6⟩ := h
  refine ⟨c, w', M', β', h1.does, ⟨fun id hid => Loc.same_of (h2.keep id hid), fun id hid _ => h2.keep id hid, fun b j hm => .inl ((h2.grow b j).2 (.inl hm)), fun b j hm => ?_, h4, fun p hp => ⟨h2.objs p hp, fun b j hF => ?_⟩, by simp [Made.only], by simp [Made.only], fun id id' hi hi' hne => ?_, h2.fr.mono (fun _ _ h => h.elim), h3⟩, h5, h6, by simp [Made.only]⟩
  · rcases (h2.grow b j).1 hm with h | ⟨id, hid, hF⟩
    · exact .inl h
    · exact .inr (h2.fresh id hid b j hF).1
  · have hid : p.1 ∈ os.map (·.1) := List.mem_map_of_mem (f := (·.1)) hp
    exact ⟨(h2.grow b j).2 (.inr ⟨_, hid, hF⟩), .inl (h2.fresh _ hid b j hF).1⟩
  · rcases hi with hi | ⟨_, hi⟩
    · rcases hi' with hi' | ⟨_, hi'⟩
      · exact h2.disj id hi id' hi' hne
      · simp [Made.only] at hi'
    · simp [Made.only] at hi

section ops
variable {P : Program} {M0 M : Cells} {β : Nat → Loc} {V : View} {a : Act} {w : World} {R : Nat → Prop} {dom : Nat → Prop}

theorem at_setCells_out {w : World} {b : Nat} {vs : List Value} {o x y : Nat} (h : x = b → y < o ∨ o + vs.length ≤ y) : at_ (w.setCells b o vs) x y = at_ w x y :=
  World.cell?_setCells_out b vs o w ⟨x, y, none⟩ (fun e _ => h e)
theorem at_setCells_in {w : World} {b : Nat} {vs : List Value} {o : Nat} (h : ∀ j, j < vs.length → ∃ c, at_ w b (o + j) = some c) {j : Nat} {v : Value} (hv : vs[j]? = some v) : at_ (w.setCells b o vs) b (o + j) = some v := by
  obtain ⟨hj, hv⟩ := List.getElem?_eq_some_iff.1 hv
  have := World.cell?_setCells_in b vs o w (fun j hj => by obtain ⟨c, hc⟩ := h j hj; exact Option.isSome_iff_exists.2 ⟨c, hc⟩) j hj
  rw [hv] at this; exact this
theorem frz_setCells {w : World} {b : Nat} {vs : List Value} {o x y : Nat} : frz_ (w.setCells b o vs) x y = frz_ w x y := World.frozen?_setCells b vs o w ⟨x, y, none⟩

theorem Fr.setCells {D : Cells} (b : Nat) : ∀ (vs : List Value) (o : Nat) (w : World), (∀ j, j < vs.length → D b (o + j)) → Fr D w (w.setCells b o vs)
  | [], o, w, _ => Fr.refl D w
  | v :: vs, o, w, h => by
    have h1 := Fr.setCell w (h 0 (by simp)) v
    have h2 := Fr.setCells b vs (o + 1) (w.setCell ⟨b, o, none⟩ v) (fun j hj => by
      have := h (j + 1) (by simp; omega)
      rwa [show o + 1 + j = o + (j + 1) by omega])
    exact h1.trans h2 (fun _ _ h => h) (fun _ _ h => .inl h)
theorem size_setCells (b : Nat) : ∀ (vs : List Value) (o : Nat) (w : World), (w.setCells b o vs).heap.size = w.heap.size
  | [], o, w => rfl
  | v :: vs, o, w => by rw [World.setCells, size_setCells b vs]; simp

/-- What is joined, its cells. -/
theorem behind_ok (hV : VR M0 M β V a.tmps w) {e u : TypeId} {y : Operand} {l : List (List PV)} (hs : 0 < sizeT P e) (hl : behind P u V y = some l) (hr : rowOk (sizeT P e) l = true) :
    (P.underlying u = some .string ∨ ∃ e', P.underlying u = some (.slice e')) ∧ ∃ news : List Value, news.length = l.length * sizeT P e ∧ (∀ v ∈ news, v.oneCell' = true) ∧ RowS w M (sizeT P e) l news ∧
      (∀ W, (Builtin.lenOf (a.eval y)).run P W = .ok l.length W) ∧
      ∀ W k, k ≤ l.length → (∀ b j v, at_ w b j = some v → at_ W b j = some v) → (Builtin.firstCells (sizeT P e) k (a.eval y)).run P W = .ok (news.take (k * sizeT P e)).toArray W := by
  unfold behind at hl
  split at hl
  · rename_i s hu hy
    injection hl with hl; subst hl
    have ey := eval_ok hV hy
    simp only [AVR, Rep] at ey
    refine ⟨.inl hu, ?_⟩
    have hsz : ∀ b ∈ s, sizeT P e = 1 := fun b hb => by
      have := List.all_eq_true.1 hr [.int .u8 b.toNat] (List.mem_map_of_mem (f := fun b : UInt8 => [PV.int .u8 b.toNat]) hb)
      simp at this; omega
    have hba : (⟨s.toArray⟩ : ByteArray).size = s.length := by simp [ByteArray.size]
    have hlen : (u8s s).length = s.length := by simp [u8s]
    refine ⟨s.map fun b => Value.int .u8 b.toNat, ?_, fun v hv => ?_, ⟨?_, fun i c hi => ?_⟩, fun W => ?_, fun W k hk _ => ?_⟩
    · cases s with
      | nil => simp [u8s]
      | cons b s => rw [hsz b (by simp)]; simp [u8s]
    · obtain ⟨b, _, rfl⟩ := List.mem_map.1 hv; rfl
    · cases s with
      | nil => simp [u8s]
      | cons b s => rw [hsz b (by simp)]; simp [u8s]
    · rw [u8s, List.getElem?_map] at hi
      cases hsi : s[i]? with
      | none => rw [hsi] at hi; simp at hi
      | some b =>
        rw [hsi] at hi; simp at hi; subst hi
        have h1 := hsz b (List.mem_of_getElem? hsi)
        refine ⟨by simp [h1], ?_⟩
        have : (((s.map fun b => Value.int .u8 b.toNat).drop (i * sizeT P e)).take (sizeT P e)) = [.int .u8 b.toNat] := by
          rw [h1]
          apply List.ext_getElem?
          intro j
          rw [List.getElem?_take]
          cases j with
          | zero => simp [hsi]
          | succ j => simp
        rw [this]
        simp only [RepS]
        exact ⟨_, _, rfl, rfl, by simp only [Rep], rfl⟩
    · rw [ey, hlen, ← hba]; rfl
    · rw [ey]
      have hx := extract_mk s 0 k
      simp only [Builtin.firstCells, hx, Sem.run_pure]
      congr 1
      apply Array.ext'
      cases s with
      | nil => simp
      | cons b s => rw [hsz b (by simp)]; simp
  · rename_i e' v hu hy
    refine ⟨.inr ⟨_, hu⟩, ?_⟩
    obtain ⟨A, cap, sz, hc, hle, hnone, hspot, hrow⟩ := asList_ok hV (eval_ok hV hy) hl
    have hrow' : ∀ i e0, l[i]? = some e0 → ∃ b o vs, A = some ⟨b, o, none⟩ ∧ e0.length = sizeT P e ∧ RepS w M e0 vs ∧ ∀ j d, vs[j]? = some d → at_ w b (o + i * sizeT P e + j) = some d := by
      intro i e0 he
      obtain ⟨b, o, vs, h1, h2, h3, h4⟩ := hrow i e0 he
      have : e0.length = sizeT P e := by simpa using List.all_eq_true.1 hr e0 (List.mem_of_getElem? he)
      have hsz : sz = sizeT P e := by rw [← h2, this]
      subst hsz
      exact ⟨b, o, vs, h1, h2, h3, h4⟩
    obtain ⟨news, k1, k2, k3, k4⟩ := row_cells hs hrow'
    refine ⟨news, k1, k2, k3, fun W => by rw [hc]; rfl, fun W k hk hW => ?_⟩
    rw [hc]
    cases A with
    | none =>
      have : l = [] := by
        cases l with
        | nil => rfl
        | cons e0 l => obtain ⟨b, o, vs, hA, _⟩ := hrow 0 e0 rfl; simp at hA
      subst this
      have : news = [] := List.length_eq_zero_iff.1 (by simpa using k1)
      subst this
      simpa using run_firstCells_none W _ _ _ _
    | some pa =>
      by_cases hl0 : l = []
      · subst hl0
        have : news = [] := List.length_eq_zero_iff.1 (by simpa using k1)
        subst this
        have hk0 : k = 0 := by simpa using hk
        subst hk0
        simpa using run_firstCells_some W _ 0 pa _ _ [] (by simp) (fun j v hj => by simp at hj)
      have := hspot pa rfl hl0
      obtain ⟨pb, po, ps⟩ := pa
      simp only at this; subst this
      refine run_firstCells_some W _ _ _ _ _ _ ?_ (fun j v hj => by
        rw [addr_add]
        rw [List.getElem?_take] at hj
        split at hj
        · exact hW _ _ _ (k4 pb po rfl j v hj)
        · exact absurd hj (by simp))
      have : k * sizeT P e ≤ l.length * sizeT P e := Nat.mul_le_mul_right _ hk
      simp only [List.length_take, k1]; omega
  · exact absurd hl (by simp)

/-- In place. -/
theorem run_append_in {t u ty e : TypeId} {i : TypeInfo} (ht : P.underlying t = some (.slice e)) (hi : P.info? e = some i) (hu : P.underlying u = some .string ∨ ∃ e', P.underlying u = some (.slice e')) {y : Value} {m : Nat} {news : List Value}
    (hl : (Builtin.lenOf y).run P w = .ok m w) (hf : (Builtin.firstCells i.size m y).run P w = .ok news.toArray w) (h1 : ∀ v ∈ news, v.oneCell' = true)
    {b off n cap : Nat} (hroom : n + m ≤ cap) (hc : ∀ j, j < news.length → (w.cell? ⟨b, off + n * i.size + j, none⟩).isSome = true) (hz : ∀ j, j < news.length → w.frozen? ⟨b, off + n * i.size + j, none⟩ = false) :
    (Builtin.append_ #[t, u] ty #[.slice (some ⟨b, off, none⟩) n cap, y]).run P w = .ok (.slice (some ⟨b, off, none⟩) (n + m) cap) (w.setCells b (off + n * i.size) news) := by
  have hst := run_storeCells_cells (P := P) b (off + n * i.size) news 0 w (by simpa using hc) (by simpa using hz) h1
  simp only [Nat.add_zero] at hst
  rcases hu with hd | ⟨e', hd⟩ <;> simp [Builtin.append_, run_underlying ht, run_underlying hd, sizeOf, typeInfo, hi, hl, hroom, hf, addr_add, hst]

/-- In place, where there is no memory. -/
theorem run_append_in0 {t u ty e : TypeId} {i : TypeInfo} (ht : P.underlying t = some (.slice e)) (hi : P.info? e = some i) (hu : P.underlying u = some .string ∨ ∃ e', P.underlying u = some (.slice e')) {y : Value}
    (hl : (Builtin.lenOf y).run P w = .ok 0 w) {news : Array Value} (hf : (Builtin.firstCells i.size 0 y).run P w = .ok news w) :
    (Builtin.append_ #[t, u] ty #[.slice none 0 0, y]).run P w = .ok (.slice none 0 0) w := by
  rcases hu with hd | ⟨e', hd⟩ <;> simp [Builtin.append_, run_underlying ht, run_underlying hd, sizeOf, typeInfo, hi, hl, hf]

/-- To a new row. -/
theorem run_append_new {t u ty e : TypeId} {i : TypeInfo} {z : Value} (ht : P.underlying t = some (.slice e)) (hi : P.info? e = some i) (hz : i.zero = some z) (hu : P.underlying u = some .string ∨ ∃ e', P.underlying u = some (.slice e')) {x y : Value} {n m cap : Nat} {olds news : List Value}
    {A : Option Addr} (hx : x = .slice A n cap) (hl : (Builtin.lenOf y).run P w = .ok m w) (hfo : (Builtin.firstCells i.size n x).run P w.drew = .ok olds.toArray w.drew) (hf : (Builtin.firstCells i.size m y).run P w.drew = .ok news.toArray w.drew)
    (hroom : cap < n + m) (h63 : n + m ≤ 9223372036854775807) (hfit : (n + m) * i.bytes ≤ 140737488355328) :
    (Builtin.append_ #[t, u] ty #[x, y]).run P w = .ok (.slice (some ⟨w.heap.size, 0, none⟩) (n + m) (grownCap w (n + m) cap e)) (w.drew.alloc (.cells (olds.toArray ++ news.toArray ++ Builtin.zeroCells z.cells (grownCap w (n + m) cap e - (n + m))) e)) := by
  subst hx
  have hn : ¬ (n + m ≤ cap) := by omega
  have h63' : ¬ (9223372036854775807 < ((n : Int) + (m : Int))) := by omega
  have hfit' := growslice_fits hroom hfit
  have h48' : ¬ (281474976710656 < Builtin.nextslicecap (n + m) cap * i.bytes) := by omega
  rcases hu with hd | ⟨e', hd⟩ <;> simp [Builtin.append_, run_underlying ht, run_underlying hd, sizeOf, typeInfo, zeroValue, hi, hz, hl, hn, h63', h48', Question.forced, hf, hfo, newRow, grownCap]
  all_goals
    congr 2
    apply Array.ext'
    simp [List.append_assoc]

theorem gives_append {x y : Operand} {t u : TypeId} {ρ : Operand → Value} {c : Value} {w' : World} (h : ∀ ty, (Builtin.append_ #[t, u] ty #[ρ x, ρ y]).run P w = .ok c w') :
    Gives P ρ (.call { callee := .builtin .append, args := #[x, y], argTypes := #[t, u] }) w c w' :=
  fun oo ho => by simp [execOp, ho, resolve, invoke, Go.builtin, h]

/-- What is new, and what is gone. -/
theorem NewOK.post {m : Made} {M' : Cells} {β' : Nat → Loc} {w' : World} {c : Value} (h2 : NewOK M β w m.os M' β' w') (hws : m.ws = []) (h3 : AVR β' w' M' m.v c) (h4 : ∀ b j, M' b j → b < w'.heap.size) : Post M β w dom m M' β' w' c := by
  refine ⟨fun id hid => Loc.same_of (h2.keep id hid), fun id hid _ => h2.keep id hid, fun b j hm => .inl ((h2.grow b j).2 (.inl hm)), fun b j hm => ?_, h4, fun p hp => ⟨h2.objs p hp, fun b j hF => ?_⟩, by simp [hws], by simp [hws], fun id id' hi hi' hne => ?_, h2.fr.mono (fun _ _ h => h.elim), h3⟩
  · rcases (h2.grow b j).1 hm with h | ⟨id, hid, hF⟩
    · exact .inl h
    · exact .inr (h2.fresh id hid b j hF).1
  · have hid : p.1 ∈ m.os.map (·.1) := List.mem_map_of_mem (f := (·.1)) hp
    exact ⟨(h2.grow b j).2 (.inr ⟨_, hid, hF⟩), .inl (h2.fresh _ hid b j hF).1⟩
  · rcases hi with hi | ⟨_, hi⟩
    · rcases hi' with hi' | ⟨_, hi'⟩
      · exact h2.disj id hi id' hi' hne
      · simp [hws] at hi'
    · simp [hws] at hi

theorem RowS.append {sz : Nat} {es l : List (List PV)} {olds news : List Value} (h : RowS w M sz es olds) (k : RowS w M sz l news) (ho : olds.length = es.length * sz) (rest : List Value) : RowS w M sz (es ++ l) (olds ++ news ++ rest) := by
  refine ⟨by have := k.1; simp [Nat.add_mul]; omega, fun i e he => ?_⟩
  rw [List.getElem?_append] at he
  split at he
  · rename_i hi
    obtain ⟨h1, h2⟩ := h.2 i e he
    refine ⟨h1, ?_⟩
    have hle : (i + 1) * sz ≤ es.length * sz := Nat.mul_le_mul_right _ hi
    rw [Nat.add_mul] at hle
    have : ((olds ++ news ++ rest).drop (i * sz)).take sz = (olds.drop (i * sz)).take sz := by
      apply List.ext_getElem?
      intro j
      rw [List.getElem?_take, List.getElem?_take]
      split
      · rename_i hj
        rw [List.getElem?_drop, List.getElem?_drop, List.append_assoc, List.getElem?_append_left (by omega)]
      · rfl
    rw [this]; exact h2
  · rename_i hi
    obtain ⟨h1, h2⟩ := k.2 _ e he
    refine ⟨h1, ?_⟩
    have hlt := (List.getElem?_eq_some_iff.1 he).1
    have hle : (i - es.length + 1) * sz ≤ l.length * sz := Nat.mul_le_mul_right _ hlt
    have hk1 := k.1
    rw [Nat.add_mul] at hle
    have hsub : i * sz = es.length * sz + (i - es.length) * sz := by rw [← Nat.add_mul]; congr 1; omega
    have : ((olds ++ news ++ rest).drop (i * sz)).take sz = (news.drop ((i - es.length) * sz)).take sz := by
      apply List.ext_getElem?
      intro j
      rw [List.getElem?_take, List.getElem?_take]
      split
      · rename_i hj
        rw [List.getElem?_drop, List.getElem?_drop, List.append_assoc, List.getElem?_append_right (by omega), List.getElem?_append_left (by omega)]
        congr 1; omega
      · rfl
    rw [this]; exact h2

theorem opA_ok (hV : VR M0 M β V a.tmps w) (hR : ClosedIn R V) (hdom : ∀ id o, V.obj id = some o → dom id) {d : Nat} {o : Op} {v : AV} {os : List (Nat × Obj)} {id : Option Nat} (h : opA P d o V = some (v, os, id)) : WOk P a.eval o w M β dom R ⟨v, os, [], id.toList, [], []⟩ := by
  unfold opA at h
  split at h
  · rename_i as ts
    split at h
    · rename_i x y t u ha hts
      have hx' : as = #[x, y] := by apply Array.ext'; simpa using ha
      have ht' : ts = #[t, u] := by apply Array.ext'; simpa using hts
      subst hx'; subst ht'
      split at h
      · rename_i e he
        obtain ⟨ht, hk, h0⟩ := elemT_eq he
        split at h
        · rename_i es id' l hrow hb
          split at h
          · rename_i hc
            obtain ⟨c1, c2, c3, c4⟩ := hc
            injection h with h; injection h with h1 h; injection h with h2 h3; subst h1; subst h2; subst h3
            obtain ⟨zs, hzs⟩ := Option.isSome_iff_exists.1 c4
            obtain ⟨i, z, hi, hz, hzc, hzl⟩ := zeroV_eq hzs
            have hst : sizeT P e = i.size := by simp [sizeT, hi]
            have hbt : bytesT P e = i.bytes := by simp [bytesT, hi]
            obtain ⟨hu, news, n1, n2, n3, n4, n5'⟩ := behind_ok hV h0 hb c3
            have n5 : ∀ W, (∀ b j v, at_ w b j = some v → at_ W b j = some v) → (Builtin.firstCells (sizeT P e) l.length (a.eval y)).run P W = .ok news.toArray W := fun W hW => by
              have := n5' W l.length (Nat.le_refl _) hW
              rwa [List.take_of_length_le (by omega)] at this
            have hrefs : ∀ m : Made, m = ⟨.own (dstId d), [(dstId d, .buf (sizeT P e) (es ++ l))], [], id'.toList, [], []⟩ → MRefs R m := by
              rintro m rfl
              exact ⟨fun i hi => by simp [AV.refs] at hi; subst hi; exact .inr (by simp), fun p hp i hi => by simp at hp; subst hp; simp [Obj.refs] at hi, by simp⟩
            -- what x is
            have hxs : ∃ xv, V.eval x = some xv ∧ asList V xv = some es ∧ (xv = .nilSl ∧ es = [] ∧ id' = none ∨ ∃ i0, xv = .own i0 ∧ id' = some i0 ∧ V.obj i0 = some (.buf (sizeT P e) es)) := by
              unfold rowOf at hrow
              simp only at hrow
              split at hrow
              · rename_i hx
                injection hrow with hrow; injection hrow with e1 e2
                exact ⟨_, hx, by simp [asList, ← e1], .inl ⟨rfl, e1.symm, e2.symm⟩⟩
              · rename_i i0 hx
                split at hrow
                · rename_i n0 es0 ho
                  split at hrow
                  · rename_i hn
                    injection hrow with hrow; injection hrow with e1 e2
                    subst e1; subst hn
                    exact ⟨_, hx, by simp [asList, ho], .inr ⟨i0, rfl, e2.symm, ho⟩⟩
                  · exact absurd hrow (by simp)
                · exact absurd hrow (by simp)
              · exact absurd hrow (by simp)
            obtain ⟨xv, hx, hxl, hkind⟩ := hxs
            obtain ⟨A, cap, sz, hxc, hle, hnone, hspot, hrows⟩ := asList_ok hV (eval_ok hV hx) hxl
            have hrows' : ∀ i e0, es[i]? = some e0 → ∃ b o vs, A = some ⟨b, o, none⟩ ∧ e0.length = sizeT P e ∧ RepS w M e0 vs ∧ ∀ j d, vs[j]? = some d → at_ w b (o + i * sizeT P e + j) = some d := by
              intro k e0 hk0
              obtain ⟨b, o, vs, q1, q2, q3, q4⟩ := hrows k e0 hk0
              have hes : e0.length = sizeT P e := by
                rcases hkind with ⟨_, rfl, _⟩ | ⟨i0, _, _, ho⟩
                · simp at hk0
                · exact (hV.objs i0 _ ho).2.2.2.2.2.2.2.1 e0 (List.mem_of_getElem? hk0)
              have : sz = sizeT P e := by rw [← q2, hes]
              subst this
              exact ⟨b, o, vs, q1, q2, q3, q4⟩
            obtain ⟨olds, o1, o2, o3, o4⟩ := row_cells h0 hrows'
            by_cases hroom : es.length + l.length ≤ cap
            · -- in place
              cases hA : A with
              | none =>
                have hcap := hnone hA
                have he0 : es = [] := List.length_eq_zero_iff.1 (by omega)
                have hl0 : l = [] := List.length_eq_zero_iff.1 (by omega)
                subst he0; subst hl0
                have hf := n5 w (fun _ _ _ h => h)
                have hrun := fun ty => run_append_in0 (P := P) (w := w) (ty := ty) ht hi hu (y := a.eval y) (n4 w) (by simpa [hst] using hf)
                rw [hA, hcap] at hxc
                let l0 : Loc := { base := none, len := 0, cap := 0, sz := sizeT P e, k := 0, ext := none }
                have hF : ∀ b j, ¬ l0.F b j := by
                  rintro b j (⟨o, q1, _⟩ | ⟨n, q1, _⟩)
                  · simp [l0] at q1
                  · simp [l0] at q1
                let β' : Nat → Loc := fun i => if i = dstId d then l0 else β i
                have hβ : β' (dstId d) = l0 := by simp [β']
                refine ⟨.slice none 0 0, w, M, β', (gives_append (fun ty => by rw [hxc]; exact hrun ty)).does, NewOK.post ⟨fun i hi => ?_, fun b j => ?_, fun i hi b j hb => ?_, fun p hp => ?_, fun i hi i' hi' hne => ?_, Fr.refl _ _⟩ rfl ?_ hV.old, hrefs _ rfl⟩
                · simp at hi; simp [β', hi]
                · simp [hβ, hF]
                · simp at hi; subst hi; rw [hβ] at hb; exact absurd hb (hF b j)
                · simp at hp; subst hp
                  rw [hβ]
                  exact ⟨rfl, h0, rfl, Nat.le_refl _, by simp [l0], ⟨rfl, fun b o hb => by simp [l0] at hb⟩, fun _ => rfl, by simp, fun b o hb => by simp [l0] at hb⟩
                · simp at hi hi'; omega
                · simp only [AVR]; rw [hβ]; rfl
              | some pa =>
                have hsp : pa.spot = none := by
                  rcases hkind with ⟨rfl, rfl, rfl⟩ | ⟨i0, rfl, rfl, ho⟩
                  · have ex := eval_ok hV hx
                    simp only [AVR] at ex
                    rw [hxc, hA] at ex; simp at ex
                  · have ex := eval_ok hV hx
                    simp only [AVR, Loc.hdr] at ex
                    cases hb0 : (β i0).base with
                    | none => rw [hb0, hxc, hA] at ex; simp at ex
                    | some bo =>
                      obtain ⟨b0, o0⟩ := bo
                      rw [hb0, hxc, hA] at ex; simp at ex; rw [ex.1]
                obtain ⟨b, o, ps⟩ := pa
                simp only at hsp; subst hsp
                rcases hkind with ⟨rfl, rfl, rfl⟩ | ⟨i0, rfl, rfl, ho⟩
                · have ex := eval_ok hV hx
                  simp only [AVR] at ex
                  rw [hxc, hA] at ex; simp at ex
                · obtain ⟨q1, q2, q3, q4, q5, q6, q7, q8, q9⟩ := hV.objs i0 _ ho
                  have ex := eval_ok hV hx
                  simp only [AVR, Loc.hdr] at ex
                  cases hb0 : (β i0).base with
                  | none => rw [hb0, hxc, hA] at ex; simp at ex
                  | some bo =>
                    obtain ⟨b1, p1⟩ := bo
                    rw [hb0, hxc, hA] at ex
                    simp only [Value.slice.injEq, Option.some.injEq, Addr.mk.injEq, and_true] at ex
                    obtain ⟨⟨rfl, rfl⟩, e3, rfl⟩ := ex
                    obtain ⟨r1, r2⟩ := q9 b o hb0
                    have hin : ∀ j, j < news.length → es.length * sizeT P e + j < (β i0).k := by
                      intro j hj
                      rw [q5]
                      have : (es.length + l.length) * sizeT P e ≤ (β i0).cap * sizeT P e := Nat.mul_le_mul_right _ hroom
                      rw [Nat.add_mul] at this; omega
                    have hcell : ∀ j, j < news.length → ∃ c, at_ w b (o + es.length * sizeT P e + j) = some c := by
                      intro j hj
                      have := (r1 _ (hin j hj)).1
                      rwa [← Nat.add_assoc] at this
                    have hrun := fun ty => run_append_in (P := P) (w := w) (ty := ty) ht hi hu (y := a.eval y) (n4 w) (by simpa [hst] using n5 w (fun _ _ _ h => h)) n2 (b := b) (off := o) (n := es.length) (cap := (β i0).cap) hroom
                      (fun j hj => by rw [← hst]; obtain ⟨c, hc⟩ := hcell j hj; exact Option.isSome_iff_exists.2 ⟨c, hc⟩)
                      (fun j hj => by
                        rw [← hst]
                        have := (r1 _ (hin j hj)).2
                        rw [← Nat.add_assoc] at this; exact this)
                    let l0 : Loc := { β i0 with len := es.length + l.length }
                    let β' : Nat → Loc := fun i => if i = dstId d then l0 else β i
                    have hβ : β' (dstId d) = l0 := by simp [β']
                    have hF : ∀ x j, l0.F x j → (β i0).F x j := fun x j h => h
                    have hown := hV.own i0 _ ho
                    let w' := w.setCells b (o + es.length * i.size) news
                    have hD : ∀ j, j < news.length → (β i0).F b (o + es.length * i.size + j) := fun j hj => by
                      rw [← hst]
                      exact .inl ⟨o, hb0, by omega, by have := hin j hj; omega⟩
                    have hfr : Fr (Dm β dom ⟨.own (dstId d), [(dstId d, .buf (sizeT P e) (es ++ l))], [], [i0], [], []⟩) w w' := Fr.setCells b news _ w (fun j hj => .inl ⟨i0, by simp, hdom i0 _ ho, hD j hj⟩)
                    have hk : ∀ x y u, at_ w x y = some u → ¬ M x y → at_ w' x y = some u ∧ ¬ M x y := fun x y u hu hm => by
                      refine ⟨?_, hm⟩
                      have : at_ w' x y = at_ w x y := at_setCells_out (fun e1 => by
                        subst e1
                        rcases Nat.lt_or_ge y (o + es.length * i.size) with h | h
                        · exact .inl h
                        · rcases Nat.lt_or_ge y (o + es.length * i.size + news.length) with h' | h'
                          · have := hD (y - (o + es.length * i.size)) (by omega)
                            rw [show o + es.length * i.size + (y - (o + es.length * i.size)) = y by omega] at this
                            exact absurd (hown _ _ this).1 hm
                          · exact .inr h')
                      rw [this]; exact hu
                    refine ⟨_, w', M, β', (gives_append (fun ty => by rw [hxc, hA]; exact hrun ty)).does, ⟨fun j hj => Loc.same_of ?_, fun j hj _ => ?_, fun x j h => .inl h, fun x j h => .inl h, fun x j h => ?_, fun p hp => ?_, by simp, by simp, fun j j' hj hj' hne => ?_, hfr, ?_⟩, hrefs _ rfl⟩
                    · simp at hj; simp [β', hj]
                    · simp at hj; simp [β', hj]
                    · rw [size_setCells]; exact hV.old x j h
                    · simp at hp; subst hp
                      rw [hβ]
                      refine ⟨⟨q1, h0, by simp [l0], hroom, q5, ⟨q6.1, fun b' o' hb' hz => hfr.unm (q6.2 b' o' hb' hz)⟩, fun hb => by simp [l0, hb0] at hb, fun e0 he0 => ?_, fun b' o' hb' => ?_⟩, fun x j hx => ⟨(hown x j (hF x j hx)).1, .inr (.inl ⟨i0, by simp, hdom i0 _ ho, hF x j hx⟩)⟩⟩
                      · rcases List.mem_append.1 he0 with he0 | he0
                        · exact q8 e0 he0
                        · simpa using List.all_eq_true.1 c3 e0 he0
                      · simp only [l0, hb0, Option.some.injEq, Prod.mk.injEq] at hb'
                        obtain ⟨rfl, rfl⟩ := hb'
                        refine ⟨fun j hj => ?_, fun k e0 hk0 => ?_⟩
                        · obtain ⟨⟨c, hc⟩, hz0⟩ := r1 j hj
                          refine ⟨?_, by rw [frz_setCells]; exact hz0⟩
                          by_cases hin' : o + es.length * i.size ≤ o + j ∧ o + j < o + es.length * i.size + news.length
                          · have hlt : j - es.length * i.size < news.length := by omega
                            refine ⟨news[j - es.length * i.size], ?_⟩
                            have := at_setCells_in (w := w) (b := b) (vs := news) (o := o + es.length * i.size) (fun j hj => by rw [← hst]; exact hcell j hj) (List.getElem?_eq_getElem hlt)
                            rwa [show o + es.length * i.size + (j - es.length * i.size) = o + j by omega] at this
                          · exact ⟨c, by rw [at_setCells_out (fun _ => by omega)]; exact hc⟩
                        · rw [List.getElem?_append] at hk0
                          split at hk0
                          · rename_i hlt
                            obtain ⟨vs, s1, s2⟩ := r2 k e0 hk0
                            refine ⟨vs, RepS.mono hk _ _ s1, fun j c hj => ?_⟩
                            have hj' : j < sizeT P e := by
                              have := (List.getElem?_eq_some_iff.1 hj).1
                              rw [s1.length, q8 e0 (List.mem_of_getElem? hk0)] at this; exact this
                            have : (k + 1) * sizeT P e ≤ es.length * sizeT P e := Nat.mul_le_mul_right _ hlt
                            rw [Nat.add_mul] at this
                            rw [at_setCells_out (fun _ => .inl (by rw [← hst]; omega))]
                            exact s2 j c hj
                          · rename_i hge
                            obtain ⟨s1, s2⟩ := n3.2 _ e0 hk0
                            refine ⟨_, RepS.mono hk _ _ s2, fun j c hj => ?_⟩
                            rw [List.getElem?_take] at hj
                            split at hj
                            · rw [List.getElem?_drop] at hj
                              have := at_setCells_in (w := w) (b := b) (vs := news) (o := o + es.length * i.size) (fun j hj => by rw [← hst]; exact hcell j hj) hj
                              have hsub : k * sizeT P e = es.length * i.size + (k - es.length) * sizeT P e := by
                                rw [← hst, ← Nat.add_mul]; congr 1; omega
                              rw [hsub, ← Nat.add_assoc o, Nat.add_assoc (o + es.length * i.size)]
                              exact this
                            · exact absurd hj (by simp)
                    · rcases hj with hj | ⟨_, hj⟩
                      · rcases hj' with hj' | ⟨_, hj'⟩
                        · simp at hj hj'; omega
                        · simp at hj'
                      · simp at hj
                    · simp only [AVR]; rw [hβ]; simp [Loc.hdr, l0, hb0]
            · -- a new row
              have hfo : (Builtin.firstCells i.size es.length (a.eval x)).run P w.drew = .ok olds.toArray w.drew := by
                rw [hxc]
                cases hA : A with
                | none =>
                  have hcap := hnone hA
                  have he0 : es = [] := List.length_eq_zero_iff.1 (by omega)
                  subst he0
                  have : olds = [] := List.length_eq_zero_iff.1 (by simpa using o1)
                  subst this
                  exact run_firstCells_none _ _ _ _ _
                | some pa =>
                  have hsp : pa.spot = none := by
                    rcases hkind with ⟨rfl, rfl, rfl⟩ | ⟨i0, rfl, rfl, ho⟩
                    · have ex := eval_ok hV hx
                      simp only [AVR] at ex
                      rw [hxc, hA] at ex; simp at ex
                    · have ex := eval_ok hV hx
                      simp only [AVR, Loc.hdr] at ex
                      cases hb0 : (β i0).base with
                      | none => rw [hb0, hxc, hA] at ex; simp at ex
                      | some bo =>
                        obtain ⟨b0, o0⟩ := bo
                        rw [hb0, hxc, hA] at ex; simp at ex; rw [ex.1]
                  obtain ⟨b, o, ps⟩ := pa
                  simp only at hsp; subst hsp
                  exact run_firstCells_some w.drew _ _ _ _ _ _ (by rw [o1, hst]) (fun j u hj => by
                    rw [addr_add]; exact o4 b o hA j u hj)
              have hfn : (Builtin.firstCells i.size l.length (a.eval y)).run P w.drew = .ok news.toArray w.drew := by
                have := n5 w.drew (fun _ _ _ h => h)
                simpa [hst] using this
              have hrun := fun ty => run_append_new (P := P) (w := w) (ty := ty) ht hi hz hu (x := a.eval x) (y := a.eval y) (n := es.length) (m := l.length) (cap := cap) hxc (n4 w) hfo hfn (by omega) (by unfold maxInt at c2; omega) (by rw [← hbt]; exact c1)
              let cp := grownCap w (es.length + l.length) cap e
              have hcp : es.length + l.length ≤ cp := grownCap_ge _ _ _ _
              let vs : List Value := olds ++ news ++ (Builtin.zeroCells z.cells (cp - (es.length + l.length))).toList
              have hvs : (olds.toArray ++ news.toArray ++ Builtin.zeroCells z.cells (cp - (es.length + l.length))) = vs.toArray := by
                apply Array.ext'; simp [vs]
              have hzs' : z.cells.size = sizeT P e := by rw [← hzl, ← hzc]; simp
              have hvl : vs.length = cp * sizeT P e := by
                simp only [vs, List.length_append, Array.length_toList, size_zeroCells, o1, n1, hzs', ← Nat.add_mul]
                congr 1; omega
              have hblk : (w.drew.alloc (.cells vs.toArray e)).heap[w.heap.size]? = some (.cells vs.toArray e (0, 0)) := heap_alloc_new w.drew _
              obtain ⟨β', M', m1, m2, m3⟩ := new_buf_at (id := dstId d) (β := β) (cap := cp) (w' := w.drew.alloc (.cells vs.toArray e)) hV.old h0 (RowS.append o3 n3 o1 _) hvl (by simpa using hcp)
                (fun j => by have := cell_of_row (w.drew.alloc (.cells vs.toArray e)) w.heap.size j vs.toArray e (0, 0) hblk; exact this.trans (List.getElem?_toArray ..)) (fun j _ => by show World.frozen? _ _ = false; unfold World.frozen?; simp only [hblk]; simp) ((Fr.drew w _).trans (Fr.alloc w.drew _ _ _) (fun _ _ h => h) (fun _ _ h => .inl h)) (by simp) (fun _ => unm_alloc w.drew _ _)
              refine ⟨_, _, M', β', (gives_append (fun ty => by rw [hrun ty, hvs])).does, NewOK.post m1 rfl ?_ (fun b j h => by simpa using m3 b j h), hrefs _ rfl⟩
              simp only [AVR]
              rw [m2]; simp [cp]
          · exact absurd h (by simp)
        · exact absurd h (by simp)
      · exact absurd h (by simp)
    · exact absurd h (by simp)
  · exact absurd h (by simp)

theorem does_store {t : TypeId} {x y : Operand} {ρ : Operand → Value} {b o : Nat} {vs : List Value} (ht : okT P t = true) (hx : ρ x = .pointer (some ⟨b, o, none⟩)) (hy : (ρ y).cells.toList = vs) (hl : vs.length = sizeT P t)
    (hc : ∀ j, j < vs.length → ∃ c, at_ w b (o + j) = some c) (hz : ∀ j, j < vs.length → frz_ w b (o + j) = false) (h1 : ∀ v ∈ vs, v.oneCell' = true) : Does P ρ (.store t x y) w undef (w.setCells b o vs) := by
  intro oo ho
  subst hy
  have hst := run_storeCells_cells (P := P) b o (ρ y).cells.toList 0 w (fun j hj => by obtain ⟨c, hc⟩ := hc j hj; exact Option.isSome_iff_exists.2 ⟨c, by simp only [Nat.add_zero]; exact hc⟩) (fun j hj => by simp only [Nat.add_zero]; exact hz j hj) h1
  simp only [Nat.add_zero] at hst
  have hsz : (ρ y).cells.size = sizeT P t := by rw [← hl]; simp
  refine .inr ⟨rfl, ?_⟩
  simp [execOp, ho, hx, Instr.storeAt, Instr.sureAddr, storeVar, run_sizeT ht, hsz, hst]

/-- What others read is not written. -/
theorem keep_setCells {b o : Nat} {vs : List Value} (hM : ∀ j, j < vs.length → M b (o + j)) : ∀ x y u, at_ w x y = some u → ¬ M x y → at_ (w.setCells b o vs) x y = some u ∧ ¬ M x y := fun x y u hu hm => by
  refine ⟨?_, hm⟩
  rw [at_setCells_out (fun e1 => by
    subst e1
    rcases Nat.lt_or_ge y o with h | h
    · exact .inl h
    · rcases Nat.lt_or_ge y (o + vs.length) with h' | h'
      · have := hM (y - o) (by omega)
        rw [show o + (y - o) = y by omega] at this
        exact absurd this hm
      · exact .inr h')]
  exact hu

/-- Elements of an owned slice that are written. -/
theorem Post.buf (hV : VR M0 M β V a.tmps w) (hdom : ∀ id o, V.obj id = some o → dom id) {id sz : Nat} {es es' : List (List PV)} (ho : V.obj id = some (.buf sz es)) {b o p : Nat} (hb : (β id).base = some (b, o)) {news : List Value}
    (hp : p + news.length ≤ (β id).k) (hlen : es'.length = es.length) (hel : ∀ e ∈ es', e.length = sz)
    (hcells : ∀ k e, es'[k]? = some e → ∃ vs, RepS w M e vs ∧ ∀ j c, vs[j]? = some c → if p ≤ k * sz + j ∧ k * sz + j < p + news.length then news[k * sz + j - p]? = some c else at_ w b (o + k * sz + j) = some c)
    {v : AV} {c : Value} (hc : ∀ w', AVR β w' M v c) : Post M β w dom ⟨v, [], [.buf id sz es'], [], [], []⟩ M β (w.setCells b (o + p) news) c := by
  obtain ⟨q1, q2, q3, q4, q5, q6, q7, q8, q9⟩ := hV.objs id _ ho
  obtain ⟨r1, r2⟩ := q9 b o hb
  have hF : ∀ j, j < news.length → (β id).F b (o + p + j) := fun j hj => .inl ⟨o, hb, by omega, by omega⟩
  have hk := keep_setCells (w := w) (M := M) (vs := news) (b := b) (o := o + p) (fun j hj => (hV.own id _ ho _ _ (hF j hj)).1)
  have hcell : ∀ j, j < news.length → ∃ c, at_ w b (o + p + j) = some c := fun j hj => by
    have := (r1 (p + j) (by omega)).1
    rwa [← Nat.add_assoc] at this
  refine ⟨fun _ _ => Loc.same_of rfl, fun _ _ _ => rfl, fun _ _ h => .inl h, fun _ _ h => .inl h, fun x j h => by rw [size_setCells]; exact hV.old x j h, by simp, fun q hq => ?_, by simp, fun i i' hi => by simp at hi, ?_, hc _⟩
  · simp at hq; subst hq
    refine ⟨rfl, q1, q2, by rw [hlen]; exact q3, q4, q5, ⟨q6.1, fun b' o' hb' hz => (Fr.setCells (D := fun _ _ => True) b news _ w (fun _ _ => trivial)).unm (q6.2 b' o' hb' hz)⟩, q7, hel, fun b' o' hb' => ?_⟩
    rw [hb] at hb'; injection hb' with hb'; injection hb' with e1 e2; subst e1; subst e2
    refine ⟨fun j hj => ?_, fun k e he => ?_⟩
    · obtain ⟨⟨c, hc⟩, hz0⟩ := r1 j hj
      refine ⟨?_, by rw [frz_setCells]; exact hz0⟩
      by_cases hin' : p ≤ j ∧ j < p + news.length
      · have hlt : j - p < news.length := by omega
        refine ⟨news[j - p], ?_⟩
        have := at_setCells_in (w := w) (b := b) (vs := news) (o := o + p) hcell (List.getElem?_eq_getElem hlt)
        rwa [show o + p + (j - p) = o + j by omega] at this
      · exact ⟨c, by rw [at_setCells_out (fun _ => by omega)]; exact hc⟩
    · obtain ⟨vs, s1, s2⟩ := hcells k e he
      refine ⟨vs, RepS.mono hk _ _ s1, fun j c hj => ?_⟩
      have := s2 j c hj
      split at this
      · rename_i hin'
        have h2 := at_setCells_in (w := w) (b := b) (vs := news) (o := o + p) hcell this
        rwa [show o + p + (k * sz + j - p) = o + k * sz + j by omega] at h2
      · rw [at_setCells_out (fun _ => by omega)]; exact this
  · refine Fr.setCells b news _ w (fun j hj => .inr ⟨_, List.mem_singleton.2 rfl, hdom _ _ ho, ?_⟩)
    exact hF j hj

theorem RepS.setFrom {off : Nat} {l xs : List PV} {us vs : List Value} (h : RepS w M l us) (k : RepS w M xs vs) (hle : off + l.length ≤ xs.length) : RepS w M (setFrom off l xs) (setFrom off us vs) := by
  have e1 : Vm.setFrom off l xs = xs.take off ++ (l ++ xs.drop (off + l.length)) := by
    apply List.ext_getElem?
    intro j
    rw [setFrom_get _ _ _ hle, List.getElem?_append, List.getElem?_append, List.getElem?_take, List.getElem?_drop]
    simp only [List.length_take]
    have : min off xs.length = off := by omega
    rw [this]
    by_cases h1 : j < off
    · rw [if_neg (by omega), if_pos h1, if_pos h1]
    · by_cases h2 : j < off + l.length
      · rw [if_pos ⟨by omega, h2⟩, if_neg h1, if_pos (by omega)]
      · rw [if_neg (by omega), if_neg h1, if_neg (by omega)]; congr 1; omega
  have e2 : Vm.setFrom off us vs = vs.take off ++ (us ++ vs.drop (off + l.length)) := by
    have hul := h.length
    have hvl := k.length
    apply List.ext_getElem?
    intro j
    rw [setFrom_get _ _ _ (by omega), List.getElem?_append, List.getElem?_append, List.getElem?_take, List.getElem?_drop]
    simp only [List.length_take]
    have : min off vs.length = off := by omega
    rw [this]
    by_cases h1 : j < off
    · rw [if_neg (by omega), if_pos h1, if_pos h1]
    · by_cases h2 : j < off + us.length
      · rw [if_pos ⟨by omega, h2⟩, if_neg h1, if_pos (by omega)]
      · rw [if_neg (by omega), if_neg h1, if_neg (by omega)]; congr 1; omega
  rw [e1, e2]
  exact RepS.append (RepS.take _ k) (RepS.append h (RepS.drop _ k))

theorem opL_store_ok (hV : VR M0 M β V a.tmps w) (hR : ClosedIn R V) (hdom : ∀ id o, V.obj id = some o → dom id) {t : TypeId} {x y : Operand} {m : Made} (h : opL P (.store t x y) V = some m) : WOk P a.eval (.store t x y) w M β dom R m := by
  simp only [opL] at h
  split at h
  · rename_i id i off v hx hy
    split at h
    · rename_i hc
      obtain ⟨ht, hfit, hl⟩ := hc
      have ex := eval_ok hV hx
      simp only [AVR] at ex
      obtain ⟨b, o, hb, hxc⟩ := ex
      have hlv := leaves_ok (eval_ok hV hy) hfit
      have hvl : (a.eval y).cells.toList.length = sizeT P t := by rw [← hlv.1]; exact hl
      have hone : ∀ u ∈ (a.eval y).cells.toList, u.oneCell' = true := fun u hu => by
        obtain ⟨j, hj⟩ := List.mem_iff_getElem?.1 hu
        have hlt : j < (leaves v).length := by rw [hlv.1]; exact (List.getElem?_eq_some_iff.1 hj).1
        exact (hlv.2 j _ u (List.getElem?_eq_getElem hlt) hj).1
      split at h
      · rename_i cs ho
        split at h
        · rename_i hco
          obtain ⟨rfl, hle⟩ := hco
          injection h with h; subst h
          rw [Nat.zero_mul, Nat.add_zero] at hxc
          obtain ⟨b', o', q1, q2, q3, q4⟩ := hV.objs id _ ho
          rw [hb] at q1; injection q1 with q1; injection q1 with e1 e2; subst e1; subst e2
          have hF : ∀ j, j < (a.eval y).cells.toList.length → (β id).F b (o + off + j) := fun j hj => .inl ⟨o, hb, by omega, by omega⟩
          have hcell : ∀ j, j < (a.eval y).cells.toList.length → ∃ c, at_ w b (o + off + j) = some c ∧ frz_ w b (o + off + j) = false := fun j hj => by
            have hlt : off + j < cs.length := by omega
            obtain ⟨c, k1, k2, _, _⟩ := q4 (off + j) _ (List.getElem?_eq_getElem hlt)
            rw [← Nat.add_assoc] at k1 k2
            exact ⟨c, k1, k2⟩
          have hk := keep_setCells (w := w) (M := M) (vs := (a.eval y).cells.toList) (b := b) (o := o + off) (fun j hj => (hV.own id _ ho _ _ (hF j hj)).1)
          refine ⟨undef, _, M, β, does_store ht hxc rfl hvl (fun j hj => (hcell j hj).imp fun _ h => h.1) (fun j hj => (hcell j hj).elim fun _ h => h.2) hone,
            ⟨fun _ _ => Loc.same_of rfl, fun _ _ _ => rfl, fun _ _ h => .inl h, fun _ _ h => .inl h, fun x j h => by rw [size_setCells]; exact hV.old x j h, by simp, fun q hq => ?_, by simp, fun i i' hi => by simp at hi, ?_, ?_⟩, ?_, by simp, ?_⟩
          · simp at hq; subst hq
            refine ⟨rfl, b, o, hb, fun j u hj => ?_⟩
            have hlt : j < (a.eval y).cells.toList.length := by rw [← hlv.1]; exact (List.getElem?_eq_some_iff.1 hj).1
            obtain ⟨s1, s2⟩ := hlv.2 j u _ hj (List.getElem?_eq_getElem hlt)
            refine ⟨_, at_setCells_in (fun j hj => (hcell j hj).imp fun _ h => h.1) (List.getElem?_eq_getElem hlt), by rw [frz_setCells]; exact (hcell j hlt).elim fun _ h => h.2, s1, AVR.mono hk _ _ (fun _ _ => Loc.same_of rfl) s2⟩
          · refine Fr.setCells b _ _ w (fun j hj => .inr ⟨_, List.mem_singleton.2 rfl, hdom _ _ ho, ?_⟩)
            exact ⟨o, hb, by omega, by rw [hlv.1]; omega⟩
          · simp only [AVR]; exact ⟨#[], rfl, by simp only [AVRs]⟩
          · simp [AV.refs, AV.refsL]
          · intro i off' cells hm i' hi'
            simp at hm; obtain ⟨rfl, rfl, rfl⟩ := hm
            exact .inl (eval_refs hR hy i' (leaves_refs v i' hi'))
        · exact absurd h (by simp)
      · rename_i sz es ho
        split at h
        · rename_i l c hpv hci
          split at h
          · rename_i hle
            injection h with h; subst h
            obtain ⟨q1, q2, q3, q4, q5, q6, q7, q8, q9⟩ := hV.objs id _ ho
            obtain ⟨r1, r2⟩ := q9 b o hb
            have hrep := pvs_ok hlv hpv
            have hll : l.length = sizeT P t := by rw [← hvl, hrep.length]
            have hcl : c.length = sz := q8 c (List.mem_of_getElem? hci)
            have hilt := (List.getElem?_eq_some_iff.1 hci).1
            have hik : (i + 1) * sz ≤ (β id).cap * sz := Nat.mul_le_mul_right _ (by omega)
            rw [Nat.add_mul] at hik
            rw [q1] at hxc
            have hcell : ∀ j, j < (a.eval y).cells.toList.length → (∃ c, at_ w b (o + (i * sz + off) + j) = some c) ∧ frz_ w b (o + (i * sz + off) + j) = false := fun j hj => by
              have := r1 (i * sz + off + j) (by omega)
              rwa [← Nat.add_assoc] at this
            rw [Nat.add_assoc] at hxc
            refine ⟨undef, _, M, β, does_store ht hxc rfl hvl (fun j hj => (hcell j hj).1) (fun j hj => (hcell j hj).2) hone, Post.buf hV hdom ho hb (by rw [hvl]; omega) (by simp) ?_ ?_ (fun w' => ?_), ?_, by simp, by simp⟩
            · intro e he
              obtain ⟨k, hk⟩ := List.mem_iff_getElem?.1 he
              by_cases hik' : i = k
              · subst hik'
                rw [List.getElem?_set_self hilt] at hk
                injection hk with hk; subst hk
                rw [setFrom_length _ _ _ (by omega)]; exact hcl
              · rw [List.getElem?_set_ne hik'] at hk
                exact q8 e (List.mem_of_getElem? hk)
            · intro k e hk
              by_cases hik' : i = k
              · subst hik'
                rw [List.getElem?_set_self hilt] at hk
                injection hk with hk; subst hk
                obtain ⟨vs, s1, s2⟩ := r2 i c hci
                refine ⟨_, RepS.setFrom hrep s1 (by omega), fun j u hj => ?_⟩
                have hvs := s1.length
                have hus := hrep.length
                rw [setFrom_get _ _ _ (by omega)] at hj
                split at hj
                · rename_i hin'
                  rw [if_pos ⟨by omega, by omega⟩]
                  rw [← hj]; congr 1; omega
                · rw [if_neg (by omega)]
                  exact s2 j u hj
              · have hne := hik'
                rw [List.getElem?_set_ne hik'] at hk
                obtain ⟨vs, s1, s2⟩ := r2 k e hk
                refine ⟨vs, s1, fun j u hj => ?_⟩
                have hj' : j < sz := by
                  have := (List.getElem?_eq_some_iff.1 hj).1
                  rw [s1.length, q8 e (List.mem_of_getElem? hk)] at this; exact this
                rw [if_neg]
                · exact s2 j u hj
                · rintro ⟨h1, h2⟩
                  rcases Nat.lt_or_gt_of_ne hne with hlt | hgt
                  · have : (i + 1) * sz ≤ k * sz := Nat.mul_le_mul_right _ hlt
                    rw [Nat.add_mul] at this; omega
                  · have : (k + 1) * sz ≤ i * sz := Nat.mul_le_mul_right _ hgt
                    rw [Nat.add_mul] at this; omega
            · simp only [AVR]; exact ⟨#[], rfl, by simp only [AVRs]⟩
            · simp [AV.refs, AV.refsL]
          · exact absurd h (by simp)
        · exact absurd h (by simp)
      · exact absurd h (by simp)
    · exact absurd h (by simp)
  · exact absurd h (by simp)

theorem rowIn_ok (hV : VR M0 M β V a.tmps w) {xv : AV} {c : Value} {sz id lo m : Nat} {es : List (List PV)} (hc : AVR β w M xv c) (h : rowIn sz V xv = some (id, lo, m, es)) :
    V.obj id = some (.buf sz es) ∧ lo + m ≤ es.length ∧ ∃ A cap, c = .slice A m cap ∧ (0 < m → ∃ b o, (β id).base = some (b, o) ∧ A = some ⟨b, o + lo * sz, none⟩) ∧ (∀ p, A = some p → p.spot = none) := by
  unfold rowIn at h
  split at h
  · rename_i i
    split at h
    · rename_i n es' ho
      split at h
      · rename_i hn
        injection h with h; injection h with e1 h; injection h with e2 h; injection h with e3 e4
        subst e1; subst e2; subst e3; subst e4; subst hn
        obtain ⟨q1, q2, q3, q4, q5, q6, q7, q8, q9⟩ := hV.objs i _ ho
        simp only [AVR, Loc.hdr] at hc
        refine ⟨ho, by omega, ?_⟩
        cases hb : (β i).base with
        | none =>
          rw [hb] at hc
          have := q7 hb
          have hl0 : es'.length = 0 := by omega
          exact ⟨none, 0, by rw [hc, hl0], fun h => by omega, fun p hp => by simp at hp⟩
        | some bo =>
          obtain ⟨b, o⟩ := bo
          rw [hb] at hc
          exact ⟨_, _, by rw [hc, q3], fun _ => ⟨b, o, rfl, by simp⟩, fun p hp => by injection hp with hp; subst hp; rfl⟩
      · exact absurd h (by simp)
    · exact absurd h (by simp)
  · rename_i i l0 n
    split at h
    · rename_i k es' ho
      split at h
      · rename_i hn
        injection h with h; injection h with e1 h; injection h with e2 h; injection h with e3 e4
        subst e1; subst e2; subst e3; subst e4
        obtain ⟨hn1, hn2⟩ := hn
        subst hn1
        obtain ⟨q1, q2, q3, q4, q5, q6, q7, q8, q9⟩ := hV.objs i _ ho
        simp only [AVR] at hc
        obtain ⟨A, cap, h1, h2, h3, h4, h5, h6⟩ := hc
        exact ⟨ho, hn2, A, cap, h1, fun hm => by rw [← q1]; exact h6 hm, h4⟩
      · exact absurd h (by simp)
    · exact absurd h (by simp)
  · exact absurd h (by simp)

theorem does_copy {x y : Operand} {t u e : TypeId} {ρ : Operand → Value} {A : Option Addr} {m cap n : Nat} {news : List Value} {w' : World} (ht : P.underlying t = some (.slice e)) (he : okT P e = true) (hx : ρ x = .slice A m cap) (hl : (Builtin.lenOf (ρ y)).run P w = .ok n w)
    (hf : (Builtin.firstCells (sizeT P e) (min n m) (ρ y)).run P w = .ok news.toArray w) (hw : match A with | some p => (storeCells p news).run P w = .ok () w' | none => w' = w) :
    Does P ρ (.call { callee := .builtin .copy, args := #[x, y], argTypes := #[t, u] }) w (.int .i64 (min n m : Nat)) w' := by
  intro oo ho
  refine .inl ?_
  have hf' : (Builtin.firstCells (sizeT P e) (Nat.min n m) (ρ y)).run P w = .ok news.toArray w := hf
  cases A with
  | none =>
    simp only at hw; subst hw
    simp [execOp, ho, resolve, invoke, Go.builtin, Builtin.copy_, run_underlying ht, hx, hl, run_sizeT he, hf', goInt]
  | some p =>
    simp only at hw
    simp [execOp, ho, resolve, invoke, Go.builtin, Builtin.copy_, run_underlying ht, hx, hl, run_sizeT he, hf', hw, goInt]

theorem opL_copy_ok (hV : VR M0 M β V a.tmps w) (hR : ClosedIn R V) (hdom : ∀ id o, V.obj id = some o → dom id) {as : Array Operand} {ts : Array TypeId} {m : Made} (h : opL P (.call { callee := .builtin .copy, args := as, argTypes := ts }) V = some m) :
    WOk P a.eval (.call { callee := .builtin .copy, args := as, argTypes := ts }) w M β dom R m := by
  simp only [opL] at h
  split at h
  · rename_i x y t u ha hts
    have hx' : as = #[x, y] := by apply Array.ext'; simpa using ha
    have ht' : ts = #[t, u] := by apply Array.ext'; simpa using hts
    subst hx'; subst ht'
    split at h
    · rename_i e xv he hx
      obtain ⟨ht, hk, h0⟩ := elemT_eq he
      split at h
      · rename_i id lo m0 es l hr hb
        split at h
        · rename_i hrow
          injection h with h; subst h
          obtain ⟨ho, hle, A, cap, hxc, hpos, hspot⟩ := rowIn_ok hV (eval_ok hV hx) hr
          obtain ⟨hu, news, n1, n2, n3, n4, n5⟩ := behind_ok hV h0 hb hrow
          obtain ⟨q1, q2, q3, q4, q5, q6, q7, q8, q9⟩ := hV.objs id _ ho
          have hkl : min l.length m0 ≤ l.length := Nat.min_le_left _ _
          have hkm : min l.length m0 ≤ m0 := Nat.min_le_right _ _
          have hdo := fun (news' : List Value) (w' : World) => does_copy (P := P) (w := w) (x := x) (y := y) (t := t) (u := u) (ρ := a.eval) (A := A) (news := news') (w' := w') ht hk hxc (n4 w)
          generalize min l.length m0 = k at hkl hkm hdo ⊢
          have hf := n5 w k hkl (fun _ _ _ h => h)
          have hnl : (news.take (k * sizeT P e)).length = k * sizeT P e := by
            have : k * sizeT P e ≤ l.length * sizeT P e := Nat.mul_le_mul_right _ hkl
            simp only [List.length_take, n1]; omega
          have hrefs : ∀ es' : List (List PV), MRefs R ⟨i64 (k : Nat), [], [.buf id (sizeT P e) es'], [], [], []⟩ := fun es' => ⟨by simp [i64, AV.refs], by simp, by simp⟩
          by_cases hk0 : k = 0
          · -- nothing is copied
            have hn0 : news.take (k * sizeT P e) = [] := List.length_eq_zero_iff.1 (by rw [hnl, hk0]; simp)
            have hes : es.take lo ++ (l.take k ++ es.drop (lo + k)) = es := by rw [hk0]; simp
            show WOk P a.eval _ w M β dom R ⟨i64 (k : Nat), [], [.buf id (sizeT P e) (es.take lo ++ (l.take k ++ es.drop (lo + k)))], [], [], []⟩
            rw [hes]
            refine ⟨_, w, M, β, hdo _ w hf (by rw [hn0]; cases A <;> simp [storeCells]), ?_, hrefs es⟩
            refine ⟨fun _ _ => Loc.same_of rfl, fun _ _ _ => rfl, fun _ _ h => .inl h, fun _ _ h => .inl h, hV.old, by simp, fun q hq => ?_, by simp, fun i i' hi => by simp at hi, Fr.refl _ _, by simp only [i64, AVR, Rep]⟩
            simp at hq; subst hq
            exact ⟨rfl, hV.objs id _ ho⟩
          · have hm0 : 0 < m0 := by omega
            obtain ⟨b, o, hbase, hA⟩ := hpos hm0
            subst hA
            obtain ⟨r1, r2⟩ := q9 b o hbase
            have hcap : lo * sizeT P e + k * sizeT P e ≤ (β id).k := by
              rw [q5, ← Nat.add_mul]; exact Nat.mul_le_mul_right _ (by omega)
            have hst := run_storeCells_cells (P := P) b (o + lo * sizeT P e) (news.take (k * sizeT P e)) 0 w
              (fun j hj => by
                obtain ⟨c, hc⟩ := (r1 (lo * sizeT P e + j) (by omega)).1
                rw [← Nat.add_assoc] at hc
                exact Option.isSome_iff_exists.2 ⟨c, by simp only [Nat.add_zero]; exact hc⟩)
              (fun j hj => by
                have hc := (r1 (lo * sizeT P e + j) (by omega)).2
                rw [← Nat.add_assoc] at hc
                simp only [Nat.add_zero]; exact hc)
              (fun v hv => n2 v (List.mem_of_mem_take hv))
            simp only [Nat.add_zero] at hst
            refine ⟨_, _, M, β, hdo _ _ hf hst, Post.buf hV hdom ho hbase (by rw [hnl]; exact hcap) ?_ ?_ ?_ (fun w' => by simp only [i64, AVR, Rep]), hrefs _⟩
            · simp; omega
            · intro e0 he0
              rcases List.mem_append.1 he0 with he0 | he0
              · exact q8 e0 (List.mem_of_mem_take he0)
              · rcases List.mem_append.1 he0 with he0 | he0
                · simpa using List.all_eq_true.1 hrow e0 (List.mem_of_mem_take he0)
                · exact q8 e0 (List.mem_of_mem_drop he0)
            · intro i e0 hi
              have mono : ∀ x y : Nat, x ≤ y → x * sizeT P e ≤ y * sizeT P e := fun x y h => Nat.mul_le_mul_right _ h
              have old : es[i]? = some e0 → (i < lo ∨ lo + k ≤ i) → ∃ vs, RepS w M e0 vs ∧ ∀ j c, vs[j]? = some c → if lo * sizeT P e ≤ i * sizeT P e + j ∧ i * sizeT P e + j < lo * sizeT P e + (news.take (k * sizeT P e)).length then (news.take (k * sizeT P e))[i * sizeT P e + j - lo * sizeT P e]? = some c else at_ w b (o + i * sizeT P e + j) = some c := by
                intro hi hio
                obtain ⟨vs, s1, s2⟩ := r2 i e0 hi
                refine ⟨vs, s1, fun j u hj => ?_⟩
                have hj' : j < sizeT P e := by
                  have := (List.getElem?_eq_some_iff.1 hj).1
                  rw [s1.length, q8 e0 (List.mem_of_getElem? hi)] at this; exact this
                rw [if_neg]
                · exact s2 j u hj
                · rw [hnl, ← Nat.add_mul]
                  rintro ⟨h1, h2⟩
                  rcases hio with hio | hio
                  · have := mono (i + 1) lo hio; rw [Nat.add_mul] at this; omega
                  · have := mono (lo + k) i hio; omega
              have hlo : (es.take lo).length = lo := by simp; omega
              have hlk : (l.take k).length = k := by simp; omega
              rw [List.getElem?_append] at hi
              split at hi
              · rename_i hlt
                rw [List.getElem?_take] at hi
                split at hi
                · exact old hi (.inl (by omega))
                · exact absurd hi (by simp)
              · rename_i hge
                rw [List.getElem?_append, hlo] at hi
                split at hi
                · rename_i hlt
                  rw [List.getElem?_take] at hi
                  split at hi
                  · rename_i hik
                    obtain ⟨s1, s2⟩ := n3.2 (i - lo) e0 hi
                    refine ⟨_, s2, fun j u hj => ?_⟩
                    have hj' : j < sizeT P e := by
                      have := (List.getElem?_eq_some_iff.1 hj).1
                      rw [s2.length, s1] at this; exact this
                    have hsub : i * sizeT P e = lo * sizeT P e + (i - lo) * sizeT P e := by rw [← Nat.add_mul]; congr 1; omega
                    have hup := mono (i - lo + 1) k (by omega)
                    rw [Nat.add_mul] at hup
                    rw [if_pos ⟨by omega, by rw [hnl]; omega⟩]
                    rw [List.getElem?_take, if_pos hj', List.getElem?_drop] at hj
                    rw [List.getElem?_take, if_pos (by omega), ← hj]
                    congr 1; omega
                  · exact absurd hi (by simp)
                · rename_i hge2
                  rw [List.getElem?_drop, hlk] at hi
                  have : lo + k + (i - lo - k) = i := by omega
                  rw [this] at hi
                  exact old hi (.inr (by omega))
        · exact absurd h (by simp)
      · exact absurd h (by simp)
    · exact absurd h (by simp)
  · exact absurd h (by simp)

theorem opL_ok (hV : VR M0 M β V a.tmps w) (hR : ClosedIn R V) (hdom : ∀ id o, V.obj id = some o → dom id) {o : Op} {m : Made} (h : opL P o V = some m) : WOk P a.eval o w M β dom R m := by
  cases o
  case store t x y => exact opL_store_ok hV hR hdom h
  case call c =>
    obtain ⟨callee, as, ts⟩ := c
    cases callee
    case builtin b =>
      cases b
      case copy => exact opL_copy_ok hV hR hdom h
      all_goals (simp only [opL] at h; exact absurd h (by simp))
    all_goals (simp only [opL] at h; exact absurd h (by simp))
  all_goals (simp only [opL] at h; exact absurd h (by simp))

end ops
end Go.Proofs.YtbnjbianobdleaaGreat.Vm
