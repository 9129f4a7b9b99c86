/-
  Every operation that only reads, in the model.
-/
import Derived.Test.YtmjkdghcfihfiaaVmOps
import Derived.Laws.BytesString
namespace Go.Proofs.Ytmjkdghcfihfiaa.Vm
open Go
set_option linter.unusedVariables false
set_option linter.unusedSimpArgs false

/-- What a view leads to is of this set. -/
def ClosedIn (R : Nat → Prop) (V : View) : Prop := (∀ t, ∀ i ∈ (V.get t).refs, R i) ∧ ∀ id o, V.obj id = some o → R id ∧ ∀ i ∈ o.refs, R i

/-- An operation that only reads: what it gives, what it makes. -/
def QOk (P : Program) (ρ : Operand → Value) (o : Op) (w : World) (M : Cells) (β : Nat → Loc) (R : Nat → Prop) (v : AV) (os : List (Nat × Obj)) : Prop :=
  ∃ c w' M' β', Gives P ρ o w c w' ∧ NewOK M β w os M' β' w' ∧ AVR β' w' M' v c ∧ (∀ b j, M' b j → b < w'.heap.size) ∧
    (∀ i ∈ v.refs, R i ∨ i ∈ os.map (·.1)) ∧ ∀ p ∈ os, ∀ i ∈ p.2.refs, R i ∨ i ∈ os.map (·.1)

section ops
variable {P : Program} {M0 M : Cells} {β : Nat → Loc} {V : View} {a : Act} {w : World} {R : Nat → Prop}

theorem QOk.pure {ρ : Operand → Value} {o : Op} {v : AV} {c : Value} (hV : VR M0 M β V a.tmps w) (hg : Gives P ρ o w c w) (hc : AVR β w M v c) (hr : ∀ i ∈ v.refs, R i) : QOk P ρ o w M β R v [] :=
  ⟨c, w, M, β, hg, NewOK.none M β w, hc, hV.old, fun i hi => .inl (hr i hi), fun p hp => by simp at hp⟩

theorem eval_refs (hR : ClosedIn R V) {x : Operand} {v : AV} (h : V.eval x = some v) : ∀ i ∈ v.refs, R i := by
  cases x with
  | tmp t => simp only [View.eval, Option.some.injEq] at h; subst h; exact hR.1 t
  | const c => simp only [View.eval] at h; rw [litAV_refs h]; simp
  | func f => simp only [View.eval, Option.some.injEq] at h; subst h; simp [AV.refs]
  | global g => simp [View.eval] at h

theorem evalAll_refs (hR : ClosedIn R V) : ∀ {xs : List Operand} {vs : List AV}, evalAll V xs = some vs → ∀ i ∈ AV.refsL vs, R i
  | [], vs, h => by simp only [evalAll, Option.some.injEq] at h; subst h; simp [AV.refsL]
  | x :: xs, vs, h => by
    simp only [evalAll] at h
    split at h
    · rename_i v l hv hl
      injection h with h; subst h
      intro i hi
      simp only [AV.refsL, List.mem_append] at hi
      rcases hi with hi | hi
      · exact eval_refs hR hv i hi
      · exact evalAll_refs hR hl i hi
    · exact absurd h (by simp)

theorem leaves_refs (v : AV) : ∀ i ∈ AV.refsL (leaves v), i ∈ v.refs := by
  intro i hi
  cases v with
  | pv x =>
    cases x with
    | agg fs =>
      simp only [leaves] at hi
      obtain ⟨v, hv, hi⟩ := refsL_mem.1 hi
      obtain ⟨y, _, rfl⟩ := List.mem_map.1 hv
      simp [AV.refs] at hi
    | _ => simp [leaves, refsL_mem, AV.refs] at hi
  | agg fs => simpa [leaves, AV.refs] using hi
  | _ => simpa [leaves, AV.refsL] using hi

theorem q_load (hV : VR M0 M β V a.tmps w) (hR : ClosedIn R V) {d : Nat} {bt : TypeId} {t : TypeId} {x : Operand} {v : AV} {os : List (Nat × Obj)} (h : opQ P bt d (.load t x) V = some (v, os)) : QOk P a.eval (.load t x) w M β R v os := by
  simp only [opQ] at h
  split at h
  · exact absurd h (by simp)
  · rename_i ht
    have ht : okT P t = true := by simpa using ht
    split at h
    · rename_i id i off hx
      have hx' := eval_ok hV hx
      simp only [AVR] at hx'
      obtain ⟨b, o, hb, hc⟩ := hx'
      split at h
      · rename_i cs ho
        split at h
        · rename_i hcond
          obtain ⟨rfl, hl⟩ := hcond
          rw [Nat.zero_mul, Nat.add_zero] at hc
          have hos : os = [] := by
            split at h
            · split at h
              · injection h with h; injection h with h1 h2; exact h2.symm
              · exact absurd h (by simp)
            · split at h
              · injection h with h; injection h with h1 h2; exact h2.symm
              · exact absurd h (by simp)
          subst hos
          obtain ⟨c, k1, k2, k3⟩ := load_box (P := P) ht (hV.objs id _ ho) hb hl h
          exact QOk.pure hV (gives_load hc k1) k2 (fun i hi => (hR.2 id _ ho).2 i (by simpa only [Obj.refs] using k3 i hi))
        · exact absurd h (by simp)
      · rename_i sz es ho
        split at h
        · rename_i e he
          split at h
          · rename_i hl
            split at h
            · rename_i v' hv
              injection h with h; injection h with h1 h2; subst h1; subst h2
              obtain ⟨q1, q2, q3, q4, q5, q6, q7, q8, q9⟩ := hV.objs id _ ho
              obtain ⟨vs, hr, hcs⟩ := (q9 b o hb).2 i e he
              have hd := RepS.take (sizeT P t) (RepS.drop off hr)
              obtain ⟨c, k1, k2, k3⟩ := load_cells (P := P) (β := β) (w := w) (b := b) (o := o + i * (β id).sz + off) ht hd (fun j c hj => by
                rw [List.getElem?_take] at hj
                split at hj
                · rw [List.getElem?_drop] at hj
                  have := hcs _ _ hj
                  rw [q1, Nat.add_assoc (o + i * sz) off j]; exact this
                · exact absurd hj (by simp)) (by simp; omega) hv
              exact QOk.pure hV (gives_load hc k1) k2 (by rw [k3]; simp)
            · exact absurd h (by simp)
          · exact absurd h (by simp)
        · exact absurd h (by simp)
      · exact absurd h (by simp)
    · rename_i cs hx
      have hx' := eval_ok hV hx
      simp only [AVR, Rep] at hx'
      obtain ⟨b, o, vs, hc, hr, hh⟩ := hx'
      split at h
      · rename_i hl
        split at h
        · rename_i v' hv
          injection h with h; injection h with h1 h2; subst h1; subst h2
          obtain ⟨c, k1, k2, k3⟩ := load_cells (P := P) (β := β) (w := w) (b := b) (o := o) ht (RepS.take (sizeT P t) hr) (fun j c hj => by
            rw [List.getElem?_take] at hj
            split at hj
            · exact (hh _ _ hj).1
            · exact absurd hj (by simp)) (by simp; omega) hv
          exact QOk.pure hV (gives_load hc k1) k2 (by rw [k3]; simp)
        · exact absurd h (by simp)
      · exact absurd h (by simp)
    · exact absurd h (by simp)

theorem q_move (hV : VR M0 M β V a.tmps w) (hR : ClosedIn R V) {x : Operand} {v : AV} (h : V.eval x = some v) : QOk P a.eval (.move x) w M β R v [] :=
  QOk.pure hV (gives_move _) (eval_ok hV h) (eval_refs hR h)
theorem q_assign (hV : VR M0 M β V a.tmps w) (hR : ClosedIn R V) {x : Operand} {v : AV} (h : V.eval x = some v) : QOk P a.eval (.assign x) w M β R v [] :=
  QOk.pure hV (gives_assign _) (eval_ok hV h) (eval_refs hR h)
theorem q_pick (hV : VR M0 M β V a.tmps w) (hR : ClosedIn R V) {c x y : Operand} {t : Bool} {v : AV} (hc : V.eval c = some (.pv (.bool t))) (h : V.eval (if t then x else y) = some v) : QOk P a.eval (.pick c x y) w M β R v [] := by
  have hb := eval_ok hV hc
  simp only [AVR, Rep] at hb
  exact QOk.pure hV (gives_pick hb) (eval_ok hV h) (eval_refs hR h)

/-- New memory: what it is, with the state's own numbers kept. -/
theorem QOk.one {ρ : Operand → Value} {o : Op} {v : AV} {c : Value} {id : Nat} {ob : Obj} {w' : World} (hg : Gives P ρ o w c w') {M' : Cells} {β' : Nat → Loc} (hn : NewOK M β w [(id, ob)] M' β' w') (hc : AVR β' w' M' v c)
    (hold : ∀ b j, M' b j → b < w.heap.size + 1) (hs : w'.heap.size = w.heap.size + 1) (hr : v.refs = [id]) (ho : ∀ i ∈ ob.refs, R i) : QOk P ρ o w M β R v [(id, ob)] :=
  ⟨c, w', M', β', hg, hn, hc, fun b j h => by rw [hs]; exact hold b j h, fun i hi => by rw [hr] at hi; exact .inr (by simpa using hi), fun p hp i hi => by simp at hp; subst hp; exact .inl (ho i hi)⟩

theorem q_box (hV : VR M0 M β V a.tmps w) (hR : ClosedIn R V) {t : TypeId} {x : Operand} {v : AV} {d : Nat} (h : V.eval x = some v) (hf : v.fit = true) (hd : ¬ R (dstId d)) : QOk P a.eval (.box t x) w M β R (.addr (dstId d) 0 0) [(dstId d, .box (leaves v))] := by
  have hl := leaves_ok (eval_ok hV h) hf
  have hr : ∀ i ∈ AV.refsL (leaves v), R i := fun i hi => eval_refs hR h i (leaves_refs v i hi)
  obtain ⟨β', M', k1, k2, k3⟩ := new_box (t := t) (id := dstId d) hV.old hl (fun hi => hd (hr _ hi))
  have hx : (a.eval x).cells.toList.toArray = (a.eval x).cells := by simp
  rw [hx] at k1
  exact QOk.one gives_box k1 (by simp only [AVR]; exact ⟨_, _, k2, by simp⟩) k3 (by simp) (by simp [AV.refs]) (by simpa only [Obj.refs] using hr)

theorem litLeaves_ok : ∀ {vs : List Value} {xs : List AV}, litLeaves vs = some xs → AVS β w M xs vs ∧ AV.refsL xs = []
  | [], xs, h => by simp only [litLeaves, Option.some.injEq] at h; subst h; exact ⟨⟨rfl, fun j x v hx => by simp at hx⟩, rfl⟩
  | v :: vs, xs, h => by
    simp only [litLeaves] at h
    split at h
    · rename_i x l hx hl
      injection h with h; subst h
      obtain ⟨k1, k2⟩ := litLeaves_ok hl
      have hxr : x.refs = [] := by
        unfold litLeaf at hx
        split at hx
        · injection hx with hx; subst hx; rfl
        · split at hx
          · injection hx with hx; subst hx; rfl
          · exact absurd hx (by simp)
      refine ⟨⟨by simp [k1.1], fun j y u hy hu => ?_⟩, by simp [AV.refsL, k2, hxr]⟩
      cases j with
      | zero => simp at hy hu; subst hy; subst hu; exact litLeaf_ok hx
      | succ j => exact k1.2 j y u (by simpa using hy) (by simpa using hu)
    · exact absurd h (by simp)

theorem buildParts_refs (hR : ClosedIn R V) : ∀ {ps : List (Nat × Operand)} {qs : List (Nat × AV)}, buildParts V ps = some qs → ∀ q ∈ qs, ∀ i ∈ q.2.refs, R i
  | [], qs, h => by simp only [buildParts, Option.some.injEq] at h; subst h; simp
  | (i, o) :: ps, qs, h => by
    simp only [buildParts] at h
    split at h
    · rename_i v l hv hl
      injection h with h; subst h
      intro q hq
      rcases List.mem_cons.1 hq with rfl | hq
      · exact eval_refs hR hv
      · exact buildParts_refs hR hl q hq
    · exact absurd h (by simp)

theorem q_build (hV : VR M0 M β V a.tmps w) (hR : ClosedIn R V) {t : TypeId} {parts : Array (Nat × Operand)} {vs : List Value} {ps : List (Nat × AV)} {zs l : List AV} (hz : zeroV P t = some vs) (hp : buildParts V parts.toList = some ps)
    (hzs : litLeaves vs = some zs) (hf : fieldsOk P t = true) (hl : setField P t zs ps = some l) : QOk P a.eval (.build t parts) w M β R (ofLeaves true l) [] := by
  obtain ⟨fs, ht, hfs⟩ := fields_ok hf
  obtain ⟨k1, k2⟩ := buildParts_ok hV hp
  obtain ⟨z1, z2⟩ := litLeaves_ok (β := β) (w := w) (M := M) hzs
  obtain ⟨us, u1, u2, u3⟩ := fill_fields (w := w) (M := M) (β := β) ht a.eval parts.toList ps zs vs l k1 k2 z1 hl
  obtain ⟨r1, r2⟩ := ofLeaves_ok u2
  refine QOk.pure hV (gives_build ht hfs hz u1) r1 (fun i hi => ?_)
  rcases u3 i (r2 i hi) with h | ⟨q, hq, h⟩
  · rw [z2] at h; simp at h
  · exact buildParts_refs hR hp q hq i h

theorem q_buildSlice (hV : VR M0 M β V a.tmps w) {t e : TypeId} {n d : Nat} {parts : Array (Nat × Operand)} {vs : List Value} {zs : List PV} {ps : List (Nat × AV)} {es : List (List PV)} (he : elemT P t = some e) (hp : buildParts V parts.toList = some ps)
    (hz : zeroV P e = some vs) (hzs : litPVs vs = some zs) (hl : setElem (sizeT P e) (List.replicate n zs) ps = some es) (hn : n * sizeT P e ≤ 16777216) :
    QOk P a.eval (.buildSlice t n parts) w M β R (.own (dstId d)) [(dstId d, .buf (sizeT P e) es)] := by
  obtain ⟨ht, hk, h0⟩ := elemT_eq he
  obtain ⟨k1, k2⟩ := buildParts_ok hV hp
  obtain ⟨_, _, _, _, _, hlen⟩ := zeroV_eq hz
  have hrow := zeros_row (litPVs_ok (w := w) (M := M) hzs) n n (Nat.le_refl _)
  rw [hlen] at hrow
  obtain ⟨us, u1, u2, u3, u4⟩ := fill_elems (w := w) (M := M) (β := β) h0 a.eval parts.toList ps (List.replicate n zs) _ es k1 k2 (by simp [hlen]) hrow hl
  have hlen' : es.length = n := by rw [u3]; simp
  obtain ⟨β', M', n1, n2, n3⟩ := new_buf (t := e) (id := dstId d) (cap := n) (β := β) hV.old h0 u4 (by rw [u2]; simp [hlen]) (by omega)
  have g := gives_buildSlice (w := w) (ρ := a.eval) ht hk hz hn (cells := us.toArray) (parts := parts) (by rw [hlen]; simpa only [Array.toArray_toList] using u1)
  refine QOk.one g n1 ?_ n3 (by simp) (by simp [AV.refs]) (by simp [Obj.refs])
  simp only [AVR]
  rw [n2, hlen']

theorem q_makeSlice (hV : VR M0 M β V a.tmps w) {t e : TypeId} {d : Nat} {x y : Operand} {kx ky : IntKind} {n m : Int} {vs : List Value} {z : List PV} (he : elemT P t = some e) (hx : V.eval x = some (.pv (.int kx n))) (hy : V.eval y = some (.pv (.int ky m)))
    (h0 : 0 ≤ n) (hn : n ≤ m) (hm : m ≤ maxInt) (hb : m * bytesT P e ≤ room) (hz : zeroV P e = some vs) (hzs : litPVs vs = some z) :
    QOk P a.eval (.makeSlice t x y) w M β R (.own (dstId d)) [(dstId d, .buf (sizeT P e) (List.replicate n.toNat z))] := by
  obtain ⟨ht, hk, hp⟩ := elemT_eq he
  obtain ⟨_, _, _, _, _, hlen⟩ := zeroV_eq hz
  have ex := eval_ok hV hx
  have ey := eval_ok hV hy
  simp only [AVR, Rep] at ex ey
  have hrow := zeros_row (litPVs_ok (w := w) (M := M) hzs) m.toNat n.toNat (by omega)
  rw [hlen] at hrow
  obtain ⟨β', M', n1, n2, n3⟩ := new_buf (t := e) (id := dstId d) (cap := m.toNat) (β := β) hV.old hp hrow (by simp [hlen]) (by simp; omega)
  have g := gives_makeSlice (w := w) (ρ := a.eval) ht hk ex ey h0 hn hm hb hz
  refine QOk.one g (by rw [hlen]; simpa only [Array.toArray_toList] using n1) ?_ n3 (by simp) (by simp [AV.refs]) (by simp [Obj.refs])
  simp only [AVR]
  rw [n2]
  simp

theorem addr_shift {pa : Addr} (h : pa.spot = none) (n : Nat) : pa.add n = ⟨pa.block, pa.off + n, none⟩ := by
  cases pa with
  | mk b o sp => simp at h; subst h; exact addr_add b o _
theorem spot_shift {A : Option Addr} {k p n : Nat} (h : ∀ a, A = some a → a.spot = none) : ∀ a, (if k = p then A else A.map (·.add n)) = some a → a.spot = none := by
  intro pa hpa
  split at hpa
  · exact h pa hpa
  · simp only [Option.map_eq_some_iff] at hpa
    obtain ⟨pb, hpb, rfl⟩ := hpa
    rw [addr_shift (h pb hpb)]

theorem q_slice (hV : VR M0 M β V a.tmps w) (hR : ClosedIn R V) {bt : TypeId} {d : Nat} {t : TypeId} {x : Operand} {lo hi : Option Operand} {v : AV} {os : List (Nat × Obj)} (h : opQ P bt d (.slice t x lo hi none) V = some (v, os)) :
    QOk P a.eval (.slice t x lo hi none) w M β R v os := by
  simp only [opQ] at h
  split at h
  · rename_i s l h' ht hx hl hh
    have ex := eval_ok hV hx
    simp only [AVR, Rep] at ex
    split at h
    · rename_i p q hs
      injection h with h; injection h with h1 h2; subst h1; subst h2
      obtain ⟨_, _, k3⟩ := sliceOf_ok (P := P) hV hl hh hs (Nat.le_refl _) false
      have hsz : (⟨s.toArray⟩ : ByteArray).size = s.length := by simp [ByteArray.size]
      refine QOk.pure hV (gives_slice (c := .string ((⟨s.toArray⟩ : ByteArray).extract p q)) ?_) ?_ (by simp [AV.refs])
      · rw [ex]; exact run_slice_string ht (by rw [hsz]; exact k3)
      · simp only [AVR, Rep]; rw [extract_mk]
    · exact absurd h (by simp)
  · rename_i e u l h' ht hx hl hh
    have ex := eval_ok hV hx
    split at h
    · exact absurd h (by simp)
    · rename_i hk
      have hk : okT P e = true := by simpa using hk
      split at h
      · rename_i es
        split at h
        · rename_i hrok
          split at h
          · rename_i p q hs
            injection h with h; injection h with h1 h2; subst h1; subst h2
            simp only [AVR, Rep] at ex
            obtain ⟨A, cap, hc, hle, hnone, hspot, sz, hrow⟩ := ex
            obtain ⟨k1, k2, k3⟩ := sliceOf_ok (P := P) hV hl hh hs hle true
            have hlen : ((es.drop p).take (q - p)).length = q - p := by simp; omega
            refine QOk.pure hV (gives_slice (c := .slice (if cap = p then A else A.map (·.add (p * sizeT P e))) (q - p) (cap - p)) (by rw [hc]; exact run_slice_slice ht hk k3)) ?_ (by simp [AV.refs])
            simp only [AVR, Rep]
            refine ⟨_, cap - p, by rw [hlen], by rw [hlen]; omega, ?_, ?_, sz, ?_⟩
            · intro hA
              have : A = none := by
                split at hA
                · exact hA
                · simpa using hA
              have := hnone this; omega
            · exact fun pa hpa hne => spot_shift (fun pb hpb => hspot pb hpb (by rintro rfl; simp at hne)) pa hpa
            · by_cases hq : q - p = 0
              · rw [hq]; simp [RepRow]
              · refine RepRow.cut hrow p (q - p) _ (fun _ => ?_)
                have hes : p < es.length := by omega
                obtain ⟨pa, us, hA, hsz, _, _⟩ := hrow.get p es[p] (List.getElem?_eq_getElem hes)
                have hsz' : sz = sizeT P e := by
                  have := List.all_eq_true.1 hrok es[p] (List.getElem_mem hes)
                  rw [← hsz]; simpa using this
                refine ⟨pa, hA, ?_⟩
                rw [if_neg (by omega), hA]
                simp only [Option.map_some, Option.some.injEq]
                rw [addr_shift (hspot pa hA (List.ne_nil_of_length_pos (by omega))), hsz']
          · exact absurd h (by simp)
        · exact absurd h (by simp)
      · simp only [AVR] at ex
        split at h
        · rename_i r hs
          injection h with h; injection h with h1 h2; subst h1; subst h2
          obtain ⟨p, q⟩ := r
          obtain ⟨k1, k2, k3⟩ := sliceOf_ok (P := P) hV hl hh hs (Nat.le_refl 0) true
          have : p = 0 ∧ q = 0 := ⟨by omega, by omega⟩
          obtain ⟨rfl, rfl⟩ := this
          refine QOk.pure hV (gives_slice (by rw [ex]; exact run_slice_slice ht hk k3)) ?_ (by simp [AV.refs])
          simp [AVR]
        · exact absurd h (by simp)
      · rename_i id
        split at h
        · rename_i sz es ho
          split at h
          · rename_i hsz
            split at h
            · rename_i p q hs
              injection h with h; injection h with h1 h2; subst h1; subst h2
              obtain ⟨q1, q2, q3, q4, q5, q6, q7, q8, q9⟩ := hV.objs id _ ho
              simp only [AVR, Loc.hdr] at ex
              have hc : ∃ A, a.eval x = .slice A (β id).len (β id).cap ∧ ((β id).base = none → A = none) ∧ ∀ b o, (β id).base = some (b, o) → A = some ⟨b, o, none⟩ := by
                cases hb : (β id).base with
                | none =>
                  rw [hb] at ex
                  have hcap := q7 hb
                  have hl0 : (β id).len = 0 := by omega
                  exact ⟨none, by rw [ex, hl0, hcap], fun _ => rfl, fun b o h => by simp at h⟩
                | some bo =>
                  rw [hb] at ex
                  exact ⟨_, ex, fun h => by simp at h, fun b o h => by injection h with h; subst h; rfl⟩
              obtain ⟨A, hc, hA0, hA1⟩ := hc
              obtain ⟨k1, k2, k3⟩ := sliceOf_ok (P := P) hV hl hh hs (by omega : es.length ≤ (β id).cap) true
              rw [q3] at hc
              refine QOk.pure hV (gives_slice (c := .slice (if (β id).cap = p then A else A.map (·.add (p * sizeT P e))) (q - p) ((β id).cap - p)) (by rw [hc]; exact run_slice_slice ht hk k3)) ?_
                (fun i hi => by simp [AV.refs] at hi; rw [hi]; exact (hR.2 id _ ho).1)
              simp only [AVR]
              refine ⟨_, _, rfl, by omega, ?_, ?_, by omega, ?_⟩
              · intro hA
                have : A = none := by
                  split at hA
                  · exact hA
                  · simpa using hA
                cases hb : (β id).base with
                | none => have := q7 hb; omega
                | some bo => obtain ⟨b, o⟩ := bo; rw [hA1 b o hb] at this; simp at this
              · refine spot_shift (fun pa hpa => ?_)
                cases hb : (β id).base with
                | none => rw [hA0 hb] at hpa; simp at hpa
                | some bo => obtain ⟨b, o⟩ := bo; rw [hA1 b o hb] at hpa; injection hpa with hpa; subst hpa; rfl
              · intro hq
                cases hb : (β id).base with
                | none => have := q7 hb; omega
                | some bo =>
                  obtain ⟨b, o⟩ := bo
                  refine ⟨b, o, rfl, ?_⟩
                  rw [if_neg (by omega), hA1 b o hb]
                  simp only [Option.map_some, Option.some.injEq]
                  rw [addr_add, q1, hsz]
            · exact absurd h (by simp)
          · exact absurd h (by simp)
        · exact absurd h (by simp)
      · rename_i id lo' n
        split at h
        · rename_i sz es ho
          split at h
          · rename_i hsz
            split at h
            · rename_i p q hs
              injection h with h; injection h with h1 h2; subst h1; subst h2
              obtain ⟨q1, q2, q3, q4, q5, q6, q7, q8, q9⟩ := hV.objs id _ ho
              simp only [AVR] at ex
              obtain ⟨A, cap, hc, hle, hnone, hspot, hln, hpos⟩ := ex
              obtain ⟨k1, k2, k3⟩ := sliceOf_ok (P := P) hV hl hh hs hle true
              refine QOk.pure hV (gives_slice (c := .slice (if cap = p then A else A.map (·.add (p * sizeT P e))) (q - p) (cap - p)) (by rw [hc]; exact run_slice_slice ht hk k3)) ?_
                (fun i hi => by simp [AV.refs] at hi; rw [hi]; exact (hR.2 id _ ho).1)
              simp only [AVR]
              refine ⟨_, _, rfl, by omega, ?_, spot_shift hspot, by omega, ?_⟩
              · intro hA
                have : A = none := by
                  split at hA
                  · exact hA
                  · simpa using hA
                have := hnone this; omega
              · intro hq
                obtain ⟨b, o, hb, hA⟩ := hpos (by omega)
                refine ⟨b, o, hb, ?_⟩
                rw [if_neg (by omega), hA]
                simp only [Option.map_some, Option.some.injEq]
                rw [addr_add, q1, hsz, Nat.add_mul, Nat.add_assoc]
            · exact absurd h (by simp)
          · exact absurd h (by simp)
        · exact absurd h (by simp)
      · exact absurd h (by simp)
  · exact absurd h (by simp)

theorem q_nilCheck (hV : VR M0 M β V a.tmps w) (hR : ClosedIn R V) {bt : TypeId} {d : Nat} {x : Operand} {v : AV} {os : List (Nat × Obj)} (h : opQ P bt d (.nilCheck x) V = some (v, os)) : QOk P a.eval (.nilCheck x) w M β R v os := by
  simp only [opQ] at h
  split at h
  · rename_i hx
    injection h with h; injection h with h1 h2; subst h1; subst h2
    have ex := eval_ok hV hx
    have rx := eval_refs hR hx
    simp only [AVR] at ex
    obtain ⟨b, o, hb, hc⟩ := ex
    exact QOk.pure hV (gives_nilCheck hc) (by simp only [AVR]; exact ⟨b, o, hb, rfl⟩) rx
  · rename_i hx
    injection h with h; injection h with h1 h2; subst h1; subst h2
    have ex := eval_ok hV hx
    simp only [AVR, Rep] at ex
    obtain ⟨b, o, vs, hc, h1, h2⟩ := ex
    exact QOk.pure hV (gives_nilCheck hc) (by simp only [AVR, Rep]; exact ⟨b, o, vs, rfl, h1, h2⟩) (by simp [AV.refs])
  · rename_i hx
    injection h with h; injection h with h1 h2; subst h1; subst h2
    have ex := eval_ok hV hx
    simp only [AVR, Rep] at ex
    obtain ⟨cs, hc, h1⟩ := ex
    exact QOk.pure hV (gives_nilCheck_func hc) (by simp only [AVR, Rep]; exact ⟨cs, rfl, h1⟩) (by simp [AV.refs])
  · rename_i hx
    injection h with h; injection h with h1 h2; subst h1; subst h2
    have ex := eval_ok hV hx
    have rx := eval_refs hR hx
    simp only [AVR] at ex
    obtain ⟨p, q, hc, h1, h2⟩ := ex
    exact QOk.pure hV (gives_nilCheck_func hc) (by simp only [AVR]; exact ⟨p, q, rfl, h1, h2⟩) rx
  · exact absurd h (by simp)

theorem q_binOp (hV : VR M0 M β V a.tmps w) {op : BinOp} {t ty : TypeId} {x y : Operand} {av bv : AV} {r : PV} (hx : V.eval x = some av) (hy : V.eval y = some bv) (h : vbin P op t av bv = some r) : QOk P a.eval (.binOp op t x y ty) w M β R (.pv r) [] := by
  obtain ⟨k1, e, k2, k3⟩ := vbin_ok (w := w) (x := x) (y := y) h (eval_ok hV hx) (eval_ok hV hy)
  exact QOk.pure hV (gives_binOp k1 k2) (by simp only [AVR]; exact k3) (by simp [AV.refs])

theorem q_unOp (hV : VR M0 M β V a.tmps w) {op : UnOp} {t : TypeId} {x : Operand} {av : AV} {r : PV} (hx : V.eval x = some av) (h : vun op av = some r) : QOk P a.eval (.unOp op t x) w M β R (.pv r) [] := by
  obtain ⟨e, k2, k3⟩ := unOp_ok (P := P) (w := w) h (eval_ok hV hx)
  exact QOk.pure hV (gives_unOp k2) (by simp only [AVR]; exact k3) (by simp [AV.refs])

theorem q_makeFunc (hV : VR M0 M β V a.tmps w) (hR : ClosedIn R V) {f : FuncId} {first caps : Array Operand} {x y : List AV} (hx : evalAll V first.toList = some x) (hy : evalAll V caps.toList = some y) : QOk P a.eval (.makeFunc (.func f) first caps) w M β R (.clo f x y) [] := by
  refine QOk.pure hV (gives_makeFunc _) ?_ (fun i hi => ?_)
  · simp only [AVR]
    exact ⟨_, _, rfl, by simpa using evalAll_ok hV hx, by simpa using evalAll_ok hV hy⟩
  · simp only [AV.refs, List.mem_append] at hi
    rcases hi with hi | hi
    · exact evalAll_refs hR hx i hi
    · exact evalAll_refs hR hy i hi

theorem q_extract (hV : VR M0 M β V a.tmps w) (hR : ClosedIn R V) {x : Operand} {i : Nat} {vs : List AV} {v : AV} (hx : V.eval x = some (.tup vs)) (hv : vs[i]? = some v) : QOk P a.eval (.extract x i) w M β R v [] := by
  have ex := eval_ok hV hx
  simp only [AVR] at ex
  obtain ⟨cs, hc, h1⟩ := ex
  have hlt : i < cs.toList.length := by rw [AVRs.length h1]; exact (List.getElem?_eq_some_iff.1 hv).1
  have hi : cs.toList[i]? = some cs.toList[i] := List.getElem?_eq_getElem hlt
  exact QOk.pure hV (gives_extract hc (by simp [hlt])) (AVRs.get h1 i v _ hv hi) (fun j hj => eval_refs hR hx j (by simp only [AV.refs]; exact refsL_mem.2 ⟨v, List.mem_of_getElem? hv, hj⟩))

theorem q_fieldAddr (hV : VR M0 M β V a.tmps w) (hR : ClosedIn R V) {bt : TypeId} {d : Nat} {t : TypeId} {x : Operand} {f : Nat} {v : AV} {os : List (Nat × Obj)} (h : opQ P bt d (.fieldAddr t x f) V = some (v, os)) : QOk P a.eval (.fieldAddr t x f) w M β R v os := by
  simp only [opQ] at h
  split at h
  · rename_i g id i off hg hx
    split at h
    · exact absurd h (by simp)
    · rename_i h0
      have h0 := Classical.not_not.1 h0
      injection h with h; injection h with h1 h2; subst h1; subst h2
      obtain ⟨fs, ht, hf⟩ := fieldT_eq hg
      have ex := eval_ok hV hx
      have rx := eval_refs hR hx
      simp only [AVR] at ex
      obtain ⟨b, o, hb, hc⟩ := ex
      refine QOk.pure hV (gives_fieldAddr ht hf h0.1 h0.2 hc) ?_ (by simpa [AV.refs] using rx)
      simp only [AVR]
      exact ⟨b, o, hb, by rw [Nat.add_assoc (o + i * (β id).sz) off]⟩
  · rename_i g cs hg hx
    split at h
    · exact absurd h (by simp)
    · rename_i h0
      have h0 := Classical.not_not.1 h0
      injection h with h; injection h with h1 h2; subst h1; subst h2
      obtain ⟨fs, ht, hf⟩ := fieldT_eq hg
      have ex := eval_ok hV hx
      simp only [AVR, Rep] at ex
      obtain ⟨b, o, vs, hc, h1, h2⟩ := ex
      refine QOk.pure hV (gives_fieldAddr ht hf h0.1 h0.2 hc) ?_ (by simp [AV.refs])
      simp only [AVR, Rep]
      exact ⟨b, o + g.offset, vs.drop g.offset, rfl, RepS.drop _ h1, fun j c hj => by
        rw [List.getElem?_drop] at hj
        have := h2 _ _ hj
        rwa [← Nat.add_assoc] at this⟩
  · exact absurd h (by simp)

theorem q_field (hV : VR M0 M β V a.tmps w) (hR : ClosedIn R V) {bt : TypeId} {d : Nat} {t : TypeId} {x : Operand} {f : Nat} {v : AV} {os : List (Nat × Obj)} (h : opQ P bt d (.field t x f) V = some (v, os)) : QOk P a.eval (.field t x f) w M β R v os := by
  simp only [opQ] at h
  split at h
  · rename_i g fs hg hx
    split at h
    · rename_i hc
      split at h
      · rename_i v' hv
        injection h with h; injection h with h1 h2; subst h1; subst h2
        obtain ⟨fs', ht, hf⟩ := fieldT_eq hg
        have ex := eval_ok hV hx
        simp only [AVR, Rep] at ex
        obtain ⟨cs, hcs, hr⟩ := ex
        obtain ⟨c, k1, k2, k3⟩ := field_pv (P := P) (β := β) hc.1 hr hv
        exact QOk.pure hV (gives_field ht hf hcs k1) k2 (by rw [k3]; simp)
      · exact absurd h (by simp)
    · exact absurd h (by simp)
  · rename_i g fs hg hx
    split at h
    · rename_i hc
      injection h with h; injection h with h1 h2; subst h1; subst h2
      obtain ⟨fs', ht, hf⟩ := fieldT_eq hg
      have hl := eval_ok hV hx
      have rx := eval_refs hR hx
      simp only [AVR] at hl
      obtain ⟨cs, hcs, hr, hone⟩ := hl
      have hs : AVS β w M fs cs.toList := ⟨(AVRs.length hr).symm, fun j x v hx hv => ⟨hone v (List.mem_of_getElem? hv), AVRs.get hr j x v hx hv⟩⟩
      obtain ⟨c, k1, k2, k3⟩ := field_agg (P := P) hc.1 hs hc.2.1 hc.2.2
      exact QOk.pure hV (gives_field ht hf hcs k1) k2 (fun i hi => rx i (by simp only [AV.refs]; exact k3 i hi))
    · exact absurd h (by simp)
  · exact absurd h (by simp)

theorem q_indexAddr (hV : VR M0 M β V a.tmps w) (hR : ClosedIn R V) {bt : TypeId} {d : Nat} {t : TypeId} {x ix : Operand} {v : AV} {os : List (Nat × Obj)} (h : opQ P bt d (.indexAddr t x ix) V = some (v, os)) : QOk P a.eval (.indexAddr t x ix) w M β R v os := by
  simp only [opQ] at h
  split at h
  · rename_i e id k i he hx hi
    obtain ⟨ht, hk, h0⟩ := elemT_eq he
    have ex := eval_ok hV hx
    have rx := eval_refs hR hx
    have ei := eval_ok hV hi
    simp only [AVR, Rep] at ex ei
    split at h
    · rename_i sz es ho
      split at h
      · rename_i hc
        injection h with h; injection h with h1 h2; subst h1; subst h2
        obtain ⟨q1, q2, q3, q4, q5, q6, q7, q8, q9⟩ := hV.objs id _ ho
        cases hb : (β id).base with
        | none => have := q7 hb; omega
        | some bo =>
          obtain ⟨b, o⟩ := bo
          simp only [Loc.hdr, hb] at ex
          refine QOk.pure hV (gives_indexAddr (by rw [ex, ei]; exact run_indexAt ht hk hc.1 (by rw [q3]; exact hc.2.1))) ?_ (by simpa [AV.refs] using rx)
          simp only [AVR]
          exact ⟨b, o, hb, by rw [q1, hc.2.2]; simp⟩
      · exact absurd h (by simp)
    · exact absurd h (by simp)
  · rename_i e id lo n k i he hx hi
    obtain ⟨ht, hk, h0⟩ := elemT_eq he
    have ex := eval_ok hV hx
    have rx := eval_refs hR hx
    have ei := eval_ok hV hi
    simp only [AVR, Rep] at ex ei
    split at h
    · rename_i sz es ho
      split at h
      · rename_i hc
        injection h with h; injection h with h1 h2; subst h1; subst h2
        obtain ⟨q1, q2, q3, q4, q5, q6, q7, q8, q9⟩ := hV.objs id _ ho
        obtain ⟨A, cap, hca, hle, hnone, hspot, hln, hpos⟩ := ex
        obtain ⟨b, o, hb, hA⟩ := hpos (by omega)
        subst hA
        refine QOk.pure hV (gives_indexAddr (by rw [hca, ei]; exact run_indexAt ht hk hc.1 hc.2.1)) ?_ (by simpa [AV.refs] using rx)
        simp only [AVR]
        refine ⟨b, o, hb, ?_⟩
        rw [q1, hc.2.2.2, Nat.add_mul, Nat.add_zero, ← Nat.add_assoc]
      · exact absurd h (by simp)
    · exact absurd h (by simp)
  · rename_i e es k i he hx hi
    obtain ⟨ht, hk, h0⟩ := elemT_eq he
    have ex := eval_ok hV hx
    have ei := eval_ok hV hi
    simp only [AVR, Rep] at ex ei
    split at h
    · rename_i hi0
      split at h
      · rename_i c hc
        split at h
        · rename_i hcl
          injection h with h; injection h with h1 h2; subst h1; subst h2
          obtain ⟨A, cap, hca, hle, hnone, hspot, sz, hrow⟩ := ex
          obtain ⟨pa, vs, hA, hl, hr, hh⟩ := hrow.get i.toNat c hc
          have hlt := (List.getElem?_eq_some_iff.1 hc).1
          subst hA
          have hpa := hspot pa rfl (List.ne_nil_of_length_pos (by omega))
          obtain ⟨pb, po, ps⟩ := pa
          simp only at hpa; subst hpa
          refine QOk.pure hV (gives_indexAddr (by rw [hca, ei]; exact run_indexAt ht hk hi0 (by omega))) ?_ (by simp [AV.refs])
          simp only [AVR, Rep]
          refine ⟨pb, _, vs, rfl, hr, ?_⟩
          have : sz = sizeT P e := by rw [← hl]; exact hcl
          rw [← this]
          simpa using hh
        · exact absurd h (by simp)
      · exact absurd h (by simp)
    · exact absurd h (by simp)
  · exact absurd h (by simp)

theorem q_index (hV : VR M0 M β V a.tmps w) {bt : TypeId} {d : Nat} {t : TypeId} {x ix : Operand} {v : AV} {os : List (Nat × Obj)} (h : opQ P bt d (.index t x ix) V = some (v, os)) : QOk P a.eval (.index t x ix) w M β R v os := by
  simp only [opQ] at h
  split at h
  · rename_i s k i ht hx hi
    have ex := eval_ok hV hx
    have ei := eval_ok hV hi
    simp only [AVR, Rep] at ex ei
    split at h
    · rename_i h0
      split at h
      · rename_i b hb
        injection h with h; injection h with h1 h2; subst h1; subst h2
        exact QOk.pure hV (gives_index (by rw [ex, ei]; exact index_str ht h0 hb)) (by simp only [AVR, Rep]) (by simp [AV.refs])
      · exact absurd h (by simp)
    · exact absurd h (by simp)
  · exact absurd h (by simp)

/-- A slice that is read: where its elements lie. -/
theorem asList_ok (hV : VR M0 M β V a.tmps w) {v : AV} {c : Value} {es : List (List PV)} (hc : AVR β w M v c) (h : asList V v = some es) :
    ∃ A cap sz, c = .slice A es.length cap ∧ es.length ≤ cap ∧ (A = none → cap = 0) ∧ (∀ p, A = some p → es ≠ [] → p.spot = none) ∧
      ∀ i e, es[i]? = some e → ∃ b o vs, A = some ⟨b, o, none⟩ ∧ e.length = sz ∧ RepS w M e vs ∧ ∀ j d, vs[j]? = some d → at_ w b (o + i * sz + j) = some d := by
  unfold asList at h
  split at h
  · injection h with h; subst h
    simp only [AVR, Rep] at hc
    obtain ⟨A, cap, h1, h2, h3, h4, sz, h5⟩ := hc
    refine ⟨A, cap, sz, h1, h2, h3, h4, fun i e he => ?_⟩
    obtain ⟨pa, vs, k1, k2, k3, k4⟩ := h5.get i e he
    have := h4 pa k1 (by rintro rfl; simp at he)
    obtain ⟨pb, po, ps⟩ := pa
    simp only at this; subst this
    refine ⟨pb, po, vs, k1, k2, k3, fun j d hj => ?_⟩
    have := (k4 j d hj).1
    simpa using this
  · injection h with h; subst h
    simp only [AVR] at hc
    exact ⟨none, 0, 0, hc, Nat.le_refl _, fun _ => rfl, fun p hp _ => by simp at hp, fun i e he => by simp at he⟩
  · rename_i id
    split at h
    · rename_i sz es' ho
      injection h with h; subst h
      obtain ⟨q1, q2, q3, q4, q5, q6, q7, q8, q9⟩ := hV.objs id _ ho
      simp only [AVR, Loc.hdr] at hc
      cases hb : (β id).base with
      | none =>
        rw [hb] at hc
        have hcap := q7 hb
        have hl0 : es'.length = 0 := by omega
        refine ⟨none, 0, sz, by rw [hc, hl0], by omega, fun _ => rfl, fun p hp _ => by simp at hp, fun i e he => ?_⟩
        have := (List.getElem?_eq_some_iff.1 he).1
        omega
      | some bo =>
        obtain ⟨b, o⟩ := bo
        rw [hb] at hc
        refine ⟨_, (β id).cap, sz, by rw [hc, q3], by omega, fun h => by simp at h, fun p hp _ => by injection hp with hp; subst hp; rfl, fun i e he => ?_⟩
        obtain ⟨vs, k1, k2⟩ := (q9 b o hb).2 i e he
        exact ⟨b, o, vs, rfl, q8 e (List.mem_of_getElem? he), k1, k2⟩
    · exact absurd h (by simp)
  · rename_i id lo n
    split at h
    · rename_i sz es' ho
      injection h with h; subst h
      obtain ⟨q1, q2, q3, q4, q5, q6, q7, q8, q9⟩ := hV.objs id _ ho
      simp only [AVR] at hc
      obtain ⟨A, cap, h1, h2, h3, h4, h5, h6⟩ := hc
      have hlen : ((es'.drop lo).take n).length = n := by simp; omega
      refine ⟨A, cap, sz, by rw [hlen]; exact h1, by rw [hlen]; exact h2, h3, fun p hp _ => h4 p hp, fun i e he => ?_⟩
      rw [List.getElem?_take] at he
      split at he
      · rename_i hi
        rw [List.getElem?_drop] at he
        obtain ⟨b, o, hb, hA⟩ := h6 (by omega)
        obtain ⟨vs, k1, k2⟩ := (q9 b o hb).2 _ e he
        refine ⟨b, _, vs, hA, q8 e (List.mem_of_getElem? he), k1, fun j d hj => ?_⟩
        have := k2 j d hj
        rw [Nat.add_mul] at this
        rw [q1]
        rwa [Nat.add_assoc o (lo * sz)]
      · exact absurd he (by simp)
    · exact absurd h (by simp)
  · exact absurd h (by simp)

/-- The cells of a slice that is read, one behind the other. -/
theorem row_cells {A : Option Addr} {sz : Nat} {es : List (List PV)} (hsz : 0 < sz)
    (h : ∀ i e, es[i]? = some e → ∃ b o vs, A = some ⟨b, o, none⟩ ∧ e.length = sz ∧ RepS w M e vs ∧ ∀ j d, vs[j]? = some d → at_ w b (o + i * sz + j) = some d) :
    ∃ vs : List Value, vs.length = es.length * sz ∧ (∀ d ∈ vs, d.oneCell' = true) ∧ RowS w M sz es vs ∧ ∀ b o, A = some ⟨b, o, none⟩ → ∀ j d, vs[j]? = some d → at_ w b (o + j) = some d := by
  cases A with
  | none =>
    have : es = [] := by
      cases es with
      | nil => rfl
      | cons e es => obtain ⟨b, o, vs, hA, _⟩ := h 0 e rfl; simp at hA
    subst this
    exact ⟨[], by simp, by simp, ⟨by simp, fun i e he => by simp at he⟩, fun b o hA => by simp at hA⟩
  | some pa =>
    obtain ⟨pb, po, ps⟩ := pa
    have hx : ∀ j, j < es.length * sz → ∃ d, at_ w pb (po + j) = some d ∧ d.oneCell' = true := by
      intro j hj
      have hi : j / sz < es.length := Nat.div_lt_of_lt_mul (by rw [Nat.mul_comm]; exact hj)
      obtain ⟨b, o, vs, hA, hl, hr, hc⟩ := h (j / sz) _ (List.getElem?_eq_getElem hi)
      injection hA with hA; injection hA with e1 e2 e3; subst e1; subst e2
      have hm : j % sz < vs.length := by rw [hr.length, hl]; exact Nat.mod_lt _ hsz
      have := hc (j % sz) _ (List.getElem?_eq_getElem hm)
      refine ⟨_, ?_, RepS.one hr _ (List.getElem_mem hm)⟩
      rwa [Nat.add_assoc, Nat.mul_comm, Nat.div_add_mod] at this
    refine ⟨(List.range (es.length * sz)).map fun j => (at_ w pb (po + j)).getD undef, by simp, fun d hd => ?_, ⟨by simp, fun i e he => ?_⟩, fun b o hA j d hj => ?_⟩
    · obtain ⟨j, hj, rfl⟩ := List.mem_map.1 hd
      obtain ⟨d, h1, h2⟩ := hx j (by simpa using hj)
      rw [h1]; exact h2
    · obtain ⟨b, o, vs, hA, hl, hr, hc⟩ := h i e he
      injection hA with hA; injection hA with e1 e2 e3; subst e1; subst e2
      have hi := (List.getElem?_eq_some_iff.1 he).1
      refine ⟨hl, ?_⟩
      have : ((((List.range (es.length * sz)).map fun j => (at_ w pb (po + j)).getD undef).drop (i * sz)).take sz) = vs := by
        apply List.ext_getElem?
        intro j
        rw [List.getElem?_take]
        split
        · rename_i hj
          have hm : j < vs.length := by rw [hr.length, hl]; exact hj
          have hlt : i * sz + j < es.length * sz := by
            have : (i + 1) * sz ≤ es.length * sz := Nat.mul_le_mul_right _ hi
            rw [Nat.add_mul] at this; omega
          rw [List.getElem?_drop, List.getElem?_map, List.getElem?_range hlt, List.getElem?_eq_getElem hm]
          have := hc j _ (List.getElem?_eq_getElem hm)
          simp only [Option.map_some, ← Nat.add_assoc, this, Option.getD_some]
        · rw [List.getElem?_eq_none (by rw [hr.length, hl]; omega)]
      rw [this]; exact hr
    · injection hA with hA; injection hA with e1 e2 e3; subst e1; subst e2
      have hlt : j < es.length * sz := by
        have := (List.getElem?_eq_some_iff.1 hj).1
        simpa using this
      obtain ⟨d', h1, h2⟩ := hx j hlt
      rw [List.getElem?_map, List.getElem?_range hlt] at hj
      simp only [Option.map_some, h1, Option.getD_some, Option.some.injEq] at hj
      subst hj; exact h1

theorem q_len (hV : VR M0 M β V a.tmps w) {bt : TypeId} {d : Nat} {as : Array Operand} {ts : Array TypeId} {v : AV} {os : List (Nat × Obj)} (h : opQ P bt d (.call { callee := .builtin .len, args := as, argTypes := ts }) V = some (v, os)) :
    QOk P a.eval (.call { callee := .builtin .len, args := as, argTypes := ts }) w M β R v os := by
  simp only [opQ] at h
  split at h
  · rename_i x t r ha hts
    have hx' : as = #[x] := by apply Array.ext'; simpa using ha
    have ht' : ts = (t :: r).toArray := by apply Array.ext'; simpa using hts
    subst hx'; subst ht'
    split at h
    · rename_i s hu hx
      injection h with h; injection h with h1 h2; subst h1; subst h2
      have ex := eval_ok hV hx
      simp only [AVR, Rep] at ex
      exact QOk.pure hV (gives_len (n := s.length) (.inl ⟨hu, _, ex, by simp [ByteArray.size]⟩)) (by simp only [i64, AVR, Rep]) (by simp [i64, AV.refs])
    · rename_i e v' hu hx
      split at h
      · rename_i l hl
        injection h with h; injection h with h1 h2; subst h1; subst h2
        obtain ⟨A, cap, sz, hc, _⟩ := asList_ok hV (eval_ok hV hx) hl
        exact QOk.pure hV (gives_len (n := l.length) (.inr ⟨⟨_, hu⟩, _, _, hc⟩)) (by simp only [i64, AVR, Rep]) (by simp [i64, AV.refs])
      · exact absurd h (by simp)
    · exact absurd h (by simp)
  · exact absurd h (by simp)

theorem minmax1_ok (mx : Bool) {k : IntKind} : ∀ {l : List AV} {vs : List Value} {n r : Int}, AVRs β w M l vs → minmax1 mx k n l = some r →
    (vs.foldlM (if mx then Builtin.max2 else Builtin.min2) (.int k n)).run P w = .ok (.int k r) w
  | [], vs, n, r, hl, h => by
    simp only [AVRs] at hl; subst hl
    simp only [minmax1, Option.some.injEq] at h; subst h
    simp
  | x :: l, vs, n, r, hl, h => by
    simp only [AVRs] at hl
    obtain ⟨c, us, rfl, hc, hl⟩ := hl
    unfold minmax1 at h
    split at h
    · rename_i heq; cases heq
    · rename_i k' b l' heq
      cases heq
      simp only [AVR, Rep] at hc
      subst hc
      have ih := minmax1_ok mx hl h
      rw [List.foldlM_cons]
      cases mx
      · simpa [Builtin.min2] using ih
      · simpa [Builtin.max2] using ih
    · exact absurd h (by simp)

theorem q_minmax (hV : VR M0 M β V a.tmps w) (mx : Bool) {as : Array Operand} {ts : Array TypeId} {l : List AV} {x : PV} (ha : evalAll V as.toList = some l) (h : minmax mx l = some x) :
    QOk P a.eval (.call { callee := .builtin (if mx then .max else .min), args := as, argTypes := ts }) w M β R (.pv x) [] := by
  have hl := evalAll_ok hV ha
  unfold minmax at h
  split at h
  · rename_i k n r
    split at h
    · rename_i m hm
      injection h with h; subst h
      simp only [AVRs] at hl
      obtain ⟨c, us, hus, hc, hl⟩ := hl
      simp only [AVR, Rep] at hc; subst hc
      have key := minmax1_ok (P := P) mx hl hm
      refine QOk.pure hV (c := .int k m) (fun oo ho => ?_) (by simp only [AVR, Rep]) (by simp [AV.refs])
      cases mx
      · simp only [Bool.false_eq_true, if_false] at key
        simp [execOp, ho, resolve, invoke, Go.builtin, Builtin.min_, hus, key]
      · simp only [if_true] at key
        simp [execOp, ho, resolve, invoke, Go.builtin, Builtin.max_, hus, key]
    · exact absurd h (by simp)
  · exact absurd h (by simp)

theorem gives_convert {s t : TypeId} {x : Operand} {ρ : Operand → Value} {c : Value} {w' : World} (h : (convert s t (ρ x)).run P w = .ok c w') : Gives P ρ (.convert s t x) w c w' :=
  fun oo ho => by simp [execOp, ho, h]

theorem ofU8s_push : ∀ (ns : List Int) (s : List UInt8), (ns.foldl (fun r n => r.push (UInt8.ofNat n.toNat)) (⟨s.toArray⟩ : ByteArray)) = ⟨(s ++ ns.map fun n => UInt8.ofNat n.toNat).toArray⟩
  | [], s => by simp
  | n :: ns, s => by
    rw [List.foldl_cons]
    have : (⟨s.toArray⟩ : ByteArray).push (UInt8.ofNat n.toNat) = ⟨(s ++ [UInt8.ofNat n.toNat]).toArray⟩ := by
      simp [ByteArray.push]
    rw [this, ofU8s_push ns]
    simp

theorem u8Row_ok {es : List (List PV)} (h : u8Row es = true) : ∃ ns : List Int, es = ns.map (fun n => [.int .u8 n]) ∧ ofU8s es = ns.map fun n => UInt8.ofNat n.toNat := by
  induction es with
  | nil => exact ⟨[], rfl, rfl⟩
  | cons e es ih =>
    unfold u8Row at h
    rw [List.all_cons, Bool.and_eq_true] at h
    obtain ⟨ns, h1, h2⟩ := ih h.2
    have h0 := h.1
    split at h0
    · rename_i n
      exact ⟨n :: ns, by simp [h1], by simp only [ofU8s, List.map_cons] at h2 ⊢; rw [h2]⟩
    · exact absurd h0 (by simp)

theorem q_convert (hV : VR M0 M β V a.tmps w) {bt : TypeId} {d : Nat} {s t : TypeId} {x : Operand} {v : AV} {os : List (Nat × Obj)} (h : opQ P bt d (.convert s t x) V = some (v, os)) : QOk P a.eval (.convert s t x) w M β R v os := by
  simp only [opQ] at h
  split at h
  · rename_i av hx
    have ex := eval_ok hV hx
    unfold vconv at h
    split at h
    · rename_i k hd
      split at h
      · rename_i k' k'' n hs
        injection h with h; injection h with h1 h2; subst h1; subst h2
        simp only [AVR, Rep] at ex
        exact QOk.pure hV (gives_convert (c := .int k (k.wrap n)) (by simp [convert, run_underlying hs, run_underlying hd, ex, Conv.intToInt])) (by simp only [AVR, Rep]) (by simp [AV.refs])
      · exact absurd h (by simp)
    · rename_i hd
      split at h
      · rename_i hs
        split at h
        · rename_i l
          injection h with h; injection h with h1 h2; subst h1; subst h2
          have ex' := ex
          simp only [AVR, Rep] at ex
          exact QOk.pure hV (gives_convert (c := a.eval x) (by simp [convert, run_underlying hs, run_underlying hd, ex])) ex' (by simp [AV.refs])
        · exact absurd h (by simp)
      · rename_i e hs
        split at h
        · rename_i es he hl
          split at h
          · rename_i hu
            injection h with h; injection h with h1 h2; subst h1; subst h2
            obtain ⟨A, cap, sz, hc, hle, hnone, hspot, hrow⟩ := asList_ok hV ex hl
            obtain ⟨ns, hns, hof⟩ := u8Row_ok hu
            have key : (Conv.bytesToString (.slice A es.length cap)).run P w = .ok (.string ⟨(ofU8s es).toArray⟩) w := by
              cases A with
              | none =>
                have hl0 : es.length = 0 := by have := hnone rfl; omega
                have : es = [] := List.length_eq_zero_iff.1 hl0
                subst this
                simp [Conv.bytesToString, ofU8s]; rfl
              | some pa =>
                have hload : (loadCells pa es.length).run P w = .ok (ns.map (Value.int .u8)).toArray w := by
                  have := run_loadCells_list (P := P) w pa (ns.map (Value.int .u8)) (fun j u hj => by
                    rw [List.getElem?_map] at hj
                    cases hnj : ns[j]? with
                    | none => rw [hnj] at hj; simp at hj
                    | some n =>
                      rw [hnj] at hj; simp at hj; subst hj
                      obtain ⟨b, o, vs, hA, hl1, hr, hcc⟩ := hrow j [.int .u8 n] (by rw [hns, List.getElem?_map, hnj]; rfl)
                      injection hA with hA; subst hA
                      have hsz : sz = 1 := by rw [← hl1]; rfl
                      subst hsz
                      simp only [RepS] at hr
                      obtain ⟨c, r, rfl, _, h3, rfl⟩ := hr
                      simp only [Rep] at h3; subst h3
                      have := hcc 0 _ rfl
                      rw [addr_add]
                      exact (by simpa using this : at_ w b (o + j) = some (.int .u8 n)))
                  rw [show es.length = (ns.map (Value.int .u8)).length by rw [hns]; simp]
                  exact this
                rw [run_bytesToString w pa es.length cap ns hload]
                have := ofU8s_push ns []
                simp only [List.nil_append] at this
                rw [hof, ← this]
                rfl
            exact QOk.pure hV (gives_convert (c := .string ⟨(ofU8s es).toArray⟩) (by rw [hc, run_convert_bytes_string w s t e A es.length cap hs he hd]; exact key)) (by simp only [AVR, Rep]) (by simp [AV.refs])
          · exact absurd h (by simp)
        · exact absurd h (by simp)
      · exact absurd h (by simp)
    · rename_i e hd
      split at h
      · rename_i l hs he
        split at h
        · rename_i hsz
          injection h with h; injection h with h1 h2; subst h1; subst h2
          simp only [AVR, Rep] at ex
          let cap := (Question.appendCap l.length 0 e).cut (w.tape w.drawn (.appendCap l.length 0 e))
          have hcap : l.length ≤ cap := by simp [cap, Question.cut]
          let vs : List Value := l.map (fun b => Value.int .u8 b.toNat) ++ List.replicate (cap - l.length) (.int .u8 0)
          have hvl : vs.length = cap := by simp [vs]; omega
          let w1 : World := w.drew.alloc (.cells vs.toArray e)
          let w2 : World := w1.freeze ⟨w.heap.size, cap, none⟩ 1
          have hblock : w1.heap[w.heap.size]? = some (.cells vs.toArray e (0, 0)) := by
            have := heap_alloc_new w.drew (.cells vs.toArray e)
            simpa [w1] using this
          have hrun : (convert s t (a.eval x)).run P w = .ok (.slice (some ⟨w.heap.size, 0, none⟩) l.length cap) w2 := by
            have hq : (Question.appendCap l.length 0 e).forced = false := rfl
            have hc1 : (choose (.appendCap l.length 0 e)).run P w = .ok cap w.drew := by rw [run_choose_drew]; simp [hq, cap]
            have hba : (⟨l.toArray⟩ : ByteArray).size = l.length := by simp [ByteArray.size]
            have hcs : ((⟨l.toArray⟩ : ByteArray).data.map (fun b => Value.int .u8 b.toNat) ++ Array.replicate (cap - l.length) (Value.int .u8 0)) = vs.toArray := by
              apply Array.ext'; simp [vs]
            have hsh : w1.shape? w.heap.size = some (e, cap) := by
              simp only [World.shape?, hblock]
              simp [hvl]
            have hmk : (markStringish ⟨w.heap.size, 0, none⟩).run P w1 = .ok () w2 := by
              simp [markStringish, hsh, w2]
            have hstb : (Conv.stringToBytes e ⟨l.toArray⟩).run P w = .ok (.slice (some ⟨w.heap.size, 0, none⟩) l.length cap) w2 := by
              simp only [Conv.stringToBytes, hba, Sem.run_bind, hc1, Result.andThen_ok, hcs]
              have hnr : (newRow e vs.toArray).run P w.drew = .ok ⟨w.heap.size, 0, none⟩ w1 := by simp [newRow, w1]
              simp only [hnr, Result.andThen_ok, hmk, Sem.run_pure]
            simp only [ex, convert, Sem.run_bind, run_underlying hs, run_underlying hd, run_underlying he, Result.andThen_ok]
            exact hstb
          have hblock2 : w2.heap[w.heap.size]? = some (.cells vs.toArray e (cap, cap + 1)) := by
            simp only [w2, World.freeze]
            rw [if_neg (by omega)]
            simp only [Array.getElem?_modify, if_true, hblock, Option.map_some]
            simp
          have hat : ∀ j : Nat, at_ w2 w.heap.size j = vs[j]? := fun j => by
            simp [at_, World.cell?, hblock2]
          have hz : ∀ j, j < vs.length → frz_ w2 w.heap.size j = false := fun j hj => by
            simp [frz_, World.frozen?, hblock2]
            omega
          have hs2 : w2.heap.size = w.heap.size + 1 := by simp [w2, World.freeze, w1]
          have hfr : Fr (fun _ _ => False) w w2 := by
            have h1 : ∀ b, b < w.heap.size → w2.heap[b]? = w.heap[b]? := fun b hb => by
              have h2 : w1.heap[b]? = w.heap[b]? := heap_alloc_old w.drew (.cells vs.toArray e) hb
              rw [← h2]
              have hne : w.heap.size ≠ b := by omega
              simp [w2, World.freeze, Array.getElem?_modify, hne]
            refine ⟨by simp [w2, World.freeze, w1]; rfl, by simp [w2, World.freeze, w1]; try rfl, by simp [w2, World.freeze, w1]; try rfl, by omega, fun b hb _ => h1 b hb, fun b j hb _ => ?_, fun b T hT => by have hb := shape_lt hT; unfold World.shape? at hT ⊢; rw [h1 b hb]; exact hT⟩
            constructor
            · simp [at_, World.cell?, h1 b hb]
            · simp [frz_, World.frozen?, h1 b hb]
          have hrow : RowS w M 1 (u8s l) vs := by
            refine ⟨by simp [u8s, hvl]; exact hcap, fun i c hi => ?_⟩
            rw [u8s, List.getElem?_map] at hi
            cases hli : l[i]? with
            | none => rw [hli] at hi; simp at hi
            | some b =>
              rw [hli] at hi; simp at hi; subst hi
              refine ⟨rfl, ?_⟩
              have hlt := (List.getElem?_eq_some_iff.1 hli).1
              have : (vs.drop (i * 1)).take 1 = [.int .u8 b.toNat] := by
                apply List.ext_getElem?
                intro j
                rw [List.getElem?_take]
                cases j with
                | zero =>
                  have he := (List.getElem?_eq_some_iff.1 hli).2
                  simp [vs, List.getElem?_append, hlt, he]
                | succ j => simp
              rw [this]
              simp only [RepS]
              exact ⟨_, _, rfl, rfl, by simp only [Rep], rfl⟩
          obtain ⟨β', M', n1, n2, n3⟩ := new_buf_at (id := dstId d) (β := β) (cap := cap) hV.old (by omega) hrow (by simp [hvl]) (by simp [u8s]; exact hcap) hat hz hfr hs2
          refine QOk.one (gives_convert hrun) n1 ?_ n3 hs2 (by simp [AV.refs]) (by simp [Obj.refs])
          simp only [AVR]
          rw [n2]; simp [u8s]
        · exact absurd h (by simp)
      · exact absurd h (by simp)
    · exact absurd h (by simp)
  · exact absurd h (by simp)

theorem cellId_inj {id j k : Nat} (h : cellId id j = cellId id k) : j = k := by unfold cellId at h; omega
theorem zeroBox_ok (id : Nat) : ∀ (vs : List Value) (j : Nat) (ts : List TypeId) (l : List AV) (os : List (Nat × Obj)), zeroBox P id j vs ts = some (l, os) →
    l.length = vs.length ∧ (∀ p ∈ os, ∃ k sz, j ≤ k ∧ p = (cellId id k, .buf sz []) ∧ 0 < sz ∧ lkp p.1 os = some p.2) ∧
    ∀ (i : Nat) (x : AV) (v : Value), l[i]? = some x → vs[i]? = some v → v.oneCell' = true ∧
      ((∃ y, x = .pv y ∧ litPV v = some y) ∨ (v = .slice none 0 0 ∧ x = .own (cellId id (j + i)) ∧ ∃ sz, (cellId id (j + i), Obj.buf sz []) ∈ os))
  | [], j, ts, l, os, h => by
    simp only [zeroBox, Option.some.injEq, Prod.mk.injEq] at h
    obtain ⟨rfl, rfl⟩ := h
    exact ⟨rfl, by simp, fun i x v hx => by simp at hx⟩
  | v :: vs, j, ts, l, os, h => by
    simp only [zeroBox] at h
    split at h
    · rename_i es l' os' hv hr
      split at h
      · rename_i e he
        injection h with h; injection h with h1 h2; subst h1; subst h2
        obtain ⟨k1, k2, k3⟩ := zeroBox_ok id vs (j + 1) ts.tail l' os' hr
        have hv0 : v = .slice none 0 0 := by
          unfold litPV at hv
          split at hv <;> first | rfl | (injection hv with hv; cases hv) | (cases hv)
        refine ⟨by simp [k1], fun p hp => ?_, fun i x u hx hu => ?_⟩
        · rcases List.mem_cons.1 hp with rfl | hp
          · exact ⟨j, _, Nat.le_refl _, rfl, (elemT_eq he).2.2, by simp [lkp]⟩
          · obtain ⟨k, sz, a1, a2, a3, a4⟩ := k2 p hp
            refine ⟨k, sz, by omega, a2, a3, ?_⟩
            have : ¬ p.1 = cellId id j := by rw [a2]; unfold cellId; omega
            simp only [lkp]
            rw [if_neg this]; exact a4
        · cases i with
          | zero =>
            simp at hx hu; subst hx; subst hu; subst hv0
            exact ⟨rfl, .inr ⟨rfl, by simp, _, by simp; exact .inl rfl⟩⟩
          | succ i =>
            obtain ⟨a1, a2⟩ := k3 i x u (by simpa using hx) (by simpa using hu)
            refine ⟨a1, a2.imp (fun h => h) ?_⟩
            rintro ⟨b1, b2, sz, b3⟩
            rw [show j + (i + 1) = j + 1 + i by omega]
            exact ⟨b1, b2, sz, List.mem_cons_of_mem _ b3⟩
      · exact absurd h (by simp)
    · rename_i y l' os' _ hv hr
      injection h with h; injection h with h1 h2; subst h1; subst h2
      obtain ⟨k1, k2, k3⟩ := zeroBox_ok id vs (j + 1) ts.tail l' os' hr
      refine ⟨by simp [k1], fun p hp => ?_, fun i x u hx hu => ?_⟩
      · obtain ⟨k, sz, a1, a2, a3, a4⟩ := k2 p hp
        exact ⟨k, sz, by omega, a2, a3, a4⟩
      · cases i with
        | zero =>
          simp at hx hu; subst hx; subst hu
          exact ⟨(litPV_ok (w := default) (M := fun _ _ => False) hv).1, .inl ⟨_, rfl, hv⟩⟩
        | succ i =>
          obtain ⟨a1, a2⟩ := k3 i x u (by simpa using hx) (by simpa using hu)
          refine ⟨a1, a2.imp (fun h => h) ?_⟩
          rintro ⟨b1, b2, sz, b3⟩
          rw [show j + (i + 1) = j + 1 + i by omega]
          exact ⟨b1, b2, sz, b3⟩
    · exact absurd h (by simp)

theorem lkp_mem {α : Type} {n : Nat} : ∀ {l : List (Nat × α)} {a : α}, lkp n l = some a → (n, a) ∈ l
  | [], a, h => by simp [lkp] at h
  | (m, b) :: r, a, h => by
    simp only [lkp] at h
    split at h
    · rename_i e; subst e; injection h with h; subst h; simp
    · exact List.mem_cons_of_mem _ (lkp_mem h)
theorem lkp_none {α : Type} {n : Nat} : ∀ {l : List (Nat × α)}, lkp n l = none → n ∉ l.map (·.1)
  | [], h => by simp
  | (m, b) :: r, h => by
    simp only [lkp] at h
    split at h
    · exact absurd h (by simp)
    · rename_i e
      simp only [List.map_cons, List.mem_cons, not_or]
      exact ⟨e, lkp_none h⟩

theorem q_alloc_box (hV : VR M0 M β V a.tmps w) {d : Nat} {t : TypeId} {vs : List Value} {ts : List TypeId} {l : List AV} {os : List (Nat × Obj)} (hz : zeroV P t = some vs) (h : zeroBox P (dstId d) 0 vs ts = some (l, os)) :
    QOk P a.eval (.alloc t) w M β R (.addr (dstId d) 0 0) ((dstId d, .box l) :: os) := by
  obtain ⟨i, z, hi, hzz, rfl, hl⟩ := zeroV_eq hz
  obtain ⟨k1, k2, k3⟩ := zeroBox_ok (P := P) (dstId d) _ _ _ _ _ h
  let l0 : Loc := { base := some (w.heap.size, 0), len := 0, cap := 0, sz := 0, k := l.length, ext := none }
  let nl : Nat → Loc := fun sz => { base := none, len := 0, cap := 0, sz := sz, k := 0, ext := none }
  let β' : Nat → Loc := fun i => if i = dstId d then l0 else match lkp i os with | some (.buf sz _) => nl sz | _ => β i
  let M' : Cells := fun b j => M b j ∨ l0.F b j
  have hβ : β' (dstId d) = l0 := by simp [β']
  have hne : ∀ k, cellId (dstId d) k ≠ dstId d := by intro k; unfold cellId dstId; omega
  have hsub : ∀ p ∈ os, ∃ k sz, p = (cellId (dstId d) k, .buf sz []) ∧ 0 < sz ∧ β' p.1 = nl sz := by
    intro p hp
    obtain ⟨k, sz, _, hpe, h0, hlk⟩ := k2 p hp
    subst hpe
    exact ⟨k, sz, rfl, h0, by simp [β', hne k, hlk]⟩
  have hF : ∀ b j, l0.F b j → b = w.heap.size := by
    rintro b j (⟨o, h1, h2, h3⟩ | ⟨n, h1, _⟩)
    · simp only [l0, Option.some.injEq, Prod.mk.injEq] at h1
      exact h1.1.symm
    · simp [l0] at h1
  have hF0 : ∀ p ∈ os, ∀ b j, ¬ (β' p.1).F b j := by
    intro p hp b j hb
    obtain ⟨k, sz, _, _, e⟩ := hsub p hp
    rw [e] at hb
    rcases hb with ⟨o, h1, _⟩ | ⟨n, h1, _⟩
    · simp [nl] at h1
    · simp [nl] at h1
  have hF1 : ∀ id ∈ ((dstId d, Obj.box l) :: os).map (·.1), ∀ b j, (β' id).F b j → id = dstId d ∧ b = w.heap.size := by
    intro id hid b j hb
    simp only [List.map_cons, List.mem_cons] at hid
    rcases hid with rfl | hid
    · rw [hβ] at hb; exact ⟨rfl, hF b j hb⟩
    · obtain ⟨p, hp, rfl⟩ := List.mem_map.1 hid
      exact absurd hb (hF0 p hp b j)
  have hat : ∀ j : Nat, at_ (w.alloc (.cells z.cells t)) w.heap.size j = z.cells.toList[j]? := fun j => by simp [at_]
  refine ⟨_, _, M', β', gives_alloc hi hzz, ⟨fun i hi => ?_, fun b j => ?_, fun id hid b j hb => ?_, fun p hp => ?_, fun id hid id' hid' hn b j hb hb' => ?_, Fr.alloc _ _ _ _⟩, ?_, ?_, ?_, ?_⟩
  · simp only [List.map_cons, List.mem_cons, not_or] at hi
    have hlk : lkp i os = none := by
      cases hlk : lkp i os with
      | none => rfl
      | some o => exact absurd (List.mem_map_of_mem (f := (·.1)) (lkp_mem hlk)) hi.2
    simp [β', hi.1, hlk]
  · constructor
    · rintro (h | h)
      · exact .inl h
      · exact .inr ⟨dstId d, by simp, by rw [hβ]; exact h⟩
    · rintro (h | ⟨id, hid, hb⟩)
      · exact .inl h
      · obtain ⟨rfl, _⟩ := hF1 id hid b j hb
        rw [hβ] at hb; exact .inr hb
  · have := (hF1 id hid b j hb).2
    subst this; simp
  · rcases List.mem_cons.1 hp with rfl | hp
    · rw [hβ]
      refine ⟨w.heap.size, 0, rfl, rfl, rfl, fun j v hj => ?_⟩
      have hlt : j < z.cells.toList.length := by rw [← k1]; exact (List.getElem?_eq_some_iff.1 hj).1
      have hv := List.getElem?_eq_getElem hlt
      obtain ⟨a1, a2⟩ := k3 j v _ hj hv
      refine ⟨_, by rw [Nat.zero_add, hat]; exact hv, by simp [frz_], a1, ?_⟩
      rcases a2 with ⟨y, rfl, hy⟩ | ⟨b1, b2, sz, b3⟩
      · simp only [AVR]; exact (litPV_ok hy).2
      · rw [b1, b2]
        simp only [AVR]
        obtain ⟨k, sz', e1, _, e2⟩ := hsub _ b3
        rw [e2]; rfl
    · obtain ⟨k, sz, e1, e0, e2⟩ := hsub p hp
      rw [e2, e1]
      refine ⟨rfl, e0, rfl, Nat.le_refl _, by simp [nl], rfl, fun _ => rfl, by simp, fun b o hb => by simp [nl] at hb⟩
  · obtain ⟨e1, _⟩ := hF1 id hid b j hb
    obtain ⟨e2, _⟩ := hF1 id' hid' b j hb'
    exact hn (e1.trans e2.symm)
  · simp only [AVR]; exact ⟨w.heap.size, 0, by rw [hβ], by simp⟩
  · rintro b j (h | h)
    · have := hV.old b j h; simp; omega
    · have := hF b j h; subst this; simp
  · intro i hi; simp [AV.refs] at hi; subst hi; exact .inr (by simp)
  · intro p hp i hi
    rcases List.mem_cons.1 hp with rfl | hp
    · simp only [Obj.refs] at hi
      obtain ⟨x, hx, hxi⟩ := refsL_mem.1 hi
      obtain ⟨j, hj⟩ := List.mem_iff_getElem?.1 hx
      have hlt : j < z.cells.toList.length := by rw [← k1]; exact (List.getElem?_eq_some_iff.1 hj).1
      rcases (k3 j x _ hj (List.getElem?_eq_getElem hlt)).2 with ⟨y, rfl, _⟩ | ⟨_, rfl, sz, b3⟩
      · simp [AV.refs] at hxi
      · simp only [AV.refs, List.mem_singleton] at hxi; subst hxi
        exact .inr (by simp only [List.map_cons, List.mem_cons]; exact .inr (List.mem_map_of_mem (f := (·.1)) b3))
    · obtain ⟨k, sz, e1, _, _⟩ := hsub p hp
      rw [e1] at hi; simp [Obj.refs] at hi

theorem q_alloc_bld (hV : VR M0 M β V a.tmps w) {d : Nat} {t : TypeId} (hbt : t = bldTy) (hz : zeroV P t = some [.pointer none, .slice none 0 0]) : QOk P a.eval (.alloc t) w M β R (.addr (dstId d) 0 0) [(dstId d, .bld [])] := by
  obtain ⟨i, z, hi, hzz, hzl, hl⟩ := zeroV_eq hz
  let l0 : Loc := { base := some (w.heap.size, 0), len := 0, cap := 0, sz := 0, k := 2, ext := none }
  let β' : Nat → Loc := fun i => if i = dstId d then l0 else β i
  let M' : Cells := fun b j => M b j ∨ l0.F b j
  have hβ : β' (dstId d) = l0 := by simp [β']
  have hF : ∀ b j, l0.F b j → b = w.heap.size := by
    rintro b j (⟨o, h1, h2, h3⟩ | ⟨n, h1, _⟩)
    · simp only [l0, Option.some.injEq, Prod.mk.injEq] at h1
      exact h1.1.symm
    · simp [l0] at h1
  have hat : ∀ j : Nat, at_ (w.alloc (.cells z.cells t)) w.heap.size j = [Value.pointer none, .slice none 0 0][j]? := fun j => by rw [← hzl]; simp [at_]
  refine QOk.one (gives_alloc hi hzz) (β' := β') (M' := M') ⟨fun i hi => ?_, fun b j => ?_, fun i hi b j hb => ?_, fun p hp => ?_, fun i hi i' hi' hne => ?_, Fr.alloc _ _ _ _⟩ ?_ ?_ (by simp) (by simp [AV.refs]) (by simp [Obj.refs])
  · simp at hi; simp [β', hi]
  · simp [M', hβ]
  · simp at hi; subst hi; rw [hβ] at hb; have := hF b j hb; subst this; simp
  · simp at hp; subst hp
    rw [hβ]
    have e : z.cells.size = 2 := by rw [← Array.length_toList, hzl]; rfl
    have hsh : (w.alloc (.cells z.cells t)).shape? w.heap.size = some (bldTy, 2) := by
      rw [← hbt]
      have hb : (w.alloc (.cells z.cells t)).heap[w.heap.size]? = some (.cells z.cells t (0, 0)) := by
        show (w.heap.push (.cells z.cells t (0, 0)))[w.heap.size]? = _
        simp
      unfold World.shape?
      rw [hb]
      simp [e]
    refine ⟨w.heap.size, 0, none, 0, .pointer none, rfl, ⟨rfl, rfl, hsh⟩, by rw [hat]; rfl, by simp [frz_], .inl rfl, by rw [hat]; rfl, by simp [frz_], .inl ⟨rfl, rfl, rfl, rfl⟩⟩
  · simp at hi hi'; omega
  · simp only [AVR]; exact ⟨w.heap.size, 0, by rw [hβ], by simp⟩
  · rintro b j (h | h)
    · have := hV.old b j h; omega
    · have := hF b j h; omega

/-- EVERY OPERATION THAT ONLY READS. -/
theorem opQ_ok (hV : VR M0 M β V a.tmps w) (hR : ClosedIn R V) {bt : TypeId} {d : Nat} {o : Op} {v : AV} {os : List (Nat × Obj)} (hd : ∀ p ∈ os, ¬ R p.1) (h : opQ P bt d o V = some (v, os)) : QOk P a.eval o w M β R v os := by
  have one : ∀ {x : Option AV} {v : AV} {os : List (Nat × Obj)}, (match x with | some y => some (y, ([] : List (Nat × Obj))) | none => none) = some (v, os) → x = some v ∧ os = [] := by
    intro x v os h
    cases x with
    | none => simp at h
    | some y => simp at h; exact ⟨by rw [h.1], h.2⟩
  cases o
  case move x => simp only [opQ] at h; obtain ⟨h1, rfl⟩ := one h; exact q_move hV hR h1
  case assign x => simp only [opQ] at h; obtain ⟨h1, rfl⟩ := one h; exact q_assign hV hR h1
  case pick c x y =>
    simp only [opQ] at h
    split at h
    · rename_i t hc
      obtain ⟨h1, rfl⟩ := one h
      exact q_pick hV hR hc h1
    · exact absurd h (by simp)
  case alloc t =>
    simp only [opQ] at h
    split at h
    · split at h
      · exact absurd h (by simp)
      · rename_i hbt
        split at h
        · rename_i hz
          injection h with h; injection h with h1 h2; subst h1; subst h2
          exact q_alloc_bld hV (by simpa using hbt) hz
        · exact absurd h (by simp)
    · split at h
      · rename_i vs hz
        split at h
        · rename_i l os' hb
          injection h with h; injection h with h1 h2; subst h1; subst h2
          exact q_alloc_box hV hz hb
        · exact absurd h (by simp)
      · exact absurd h (by simp)
  case box t x =>
    simp only [opQ] at h
    split at h
    · rename_i v' hx
      split at h
      · rename_i hc
        injection h with h; injection h with h1 h2; subst h1; subst h2
        exact q_box hV hR hx hc.1 (hd (dstId d, .box (leaves v')) (by simp))
      · exact absurd h (by simp)
    · exact absurd h (by simp)
  case build t parts =>
    simp only [opQ] at h
    split at h
    · rename_i vs ps hz hp
      split at h
      · rename_i zs hzs
        split at h
        · rename_i hc
          split at h
          · rename_i l hl
            injection h with h; injection h with h1 h2; subst h1; subst h2
            exact q_build hV hR hz hp hzs hc.1 hl
          · exact absurd h (by simp)
        · exact absurd h (by simp)
      · exact absurd h (by simp)
    · exact absurd h (by simp)
  case buildSlice t n parts =>
    simp only [opQ] at h
    split at h
    · rename_i e ps he hp
      split at h
      · rename_i vs hz
        split at h
        · rename_i zs hzs
          split at h
          · rename_i es hl
            split at h
            · rename_i hn
              injection h with h; injection h with h1 h2; subst h1; subst h2
              exact q_buildSlice hV he hp hz hzs hl hn
            · exact absurd h (by simp)
          · exact absurd h (by simp)
        · exact absurd h (by simp)
      · exact absurd h (by simp)
    · exact absurd h (by simp)
  case load t x => exact q_load hV hR h
  case nilCheck x => exact q_nilCheck hV hR h
  case binOp op t x y ty =>
    simp only [opQ] at h
    split at h
    · rename_i av bv hx hy
      split at h
      · rename_i r hr
        injection h with h; injection h with h1 h2; subst h1; subst h2
        exact q_binOp hV hx hy hr
      · exact absurd h (by simp)
    · exact absurd h (by simp)
  case unOp op t x =>
    simp only [opQ] at h
    split at h
    · rename_i av hx
      split at h
      · rename_i r hr
        injection h with h; injection h with h1 h2; subst h1; subst h2
        exact q_unOp hV hx hr
      · exact absurd h (by simp)
    · exact absurd h (by simp)
  case convert s t x => exact q_convert hV h
  case makeFunc g first caps =>
    cases g
    case func f =>
      simp only [opQ] at h
      split at h
      · rename_i x y hx hy
        injection h with h; injection h with h1 h2; subst h1; subst h2
        exact q_makeFunc hV hR hx hy
      · exact absurd h (by simp)
    all_goals (simp only [opQ] at h; exact absurd h (by simp))
  case makeSlice t x y =>
    simp only [opQ] at h
    split at h
    · rename_i e k n k' m he hx hy
      split at h
      · rename_i hc
        split at h
        · rename_i vs hz
          split at h
          · rename_i z hzs
            injection h with h; injection h with h1 h2; subst h1; subst h2
            exact q_makeSlice hV he hx hy hc.1 hc.2.1 hc.2.2.1 hc.2.2.2 hz hzs
          · exact absurd h (by simp)
        · exact absurd h (by simp)
      · exact absurd h (by simp)
    · exact absurd h (by simp)
  case slice t x lo hi mx =>
    cases mx
    case none => exact q_slice hV hR h
    case some m => simp only [opQ] at h; exact absurd h (by simp)
  case fieldAddr t x f => exact q_fieldAddr hV hR h
  case field t x f => exact q_field hV hR h
  case indexAddr t x ix => exact q_indexAddr hV hR h
  case index t x ix => exact q_index hV h
  case extract x i =>
    simp only [opQ] at h
    split at h
    · rename_i vs hx
      obtain ⟨h1, rfl⟩ := one h
      exact q_extract hV hR hx h1
    · exact absurd h (by simp)
  case call c =>
    obtain ⟨callee, as, ts⟩ := c
    cases callee
    case builtin b =>
      cases b
      case len => exact q_len hV h
      case max =>
        simp only [opQ] at h
        split at h
        · rename_i l hl
          split at h
          · rename_i x hx
            injection h with h; injection h with h1 h2; subst h1; subst h2
            exact q_minmax hV true hl hx
          · exact absurd h (by simp)
        · exact absurd h (by simp)
      case min =>
        simp only [opQ] at h
        split at h
        · rename_i l hl
          split at h
          · rename_i x hx
            injection h with h; injection h with h1 h2; subst h1; subst h2
            exact q_minmax hV false hl hx
          · exact absurd h (by simp)
        · exact absurd h (by simp)
      all_goals (simp only [opQ] at h; exact absurd h (by simp))
    all_goals (simp only [opQ] at h; exact absurd h (by simp))
  all_goals (simp only [opQ] at h; exact absurd h (by simp))

end ops
end Go.Proofs.Ytmjkdghcfihfiaa.Vm
