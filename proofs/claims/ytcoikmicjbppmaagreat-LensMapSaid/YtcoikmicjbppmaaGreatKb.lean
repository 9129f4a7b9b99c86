/-
  The law LensMap: a part of its proof; no conditions.
-/
import Derived.Test.YtcoikmicjbppmaaGreatKa
import Derived.Laws.BytesString
import Derived.Laws.IdiomCopy
import Derived.Laws.AppendOwn
namespace Go.Proofs.YtcoikmicjbppmaaGreat.Vm
open Go
set_option linter.unusedVariables false
set_option linter.unusedSimpArgs false
def bI (R : Nat -> Prop) (V : View) : Prop := (∀ t, ∀ i ∈ (V.get t).refs, R i) /\ ∀ id o, V.obj id = some o -> R id /\ ∀ i ∈ o.refs, R i
def eD (P : Program) (ρ : Operand -> Value) (o : Op) (w : World) (M : ay) (β : Nat -> Loc) (R : Nat -> Prop) (v : AV) (os : List (Nat × Obj)) : Prop :=
 ∃ c w' M' β', dG P ρ o w c w' /\ NewOK M β w os M' β' w' /\ aL β' w' M' v c /\ (∀ b j, M' b j -> b < w'.heap.size) ∧
  (∀ i ∈ v.refs, R i ∨ i ∈ os.map (·.1)) /\ ∀ p ∈ os, ∀ i ∈ p.2.refs, R i ∨ i ∈ os.map (·.1)
section ops
variable {P : Program} {M0 M : ay} {β : Nat -> Loc} {V : View} {a : Act} {w : World} {R : Nat -> Prop}
theorem eD.pure {ρ : Operand -> Value} {o : Op} {v : AV} {c : Value} (hV : VR M0 M β V a.tmps w) (hg : dG P ρ o w c w) (hc : aL β w M v c) (hr : ∀ i ∈ v.refs, R i) : eD P ρ o w M β R v [] :=
 ⟨c, w, M, β, hg, NewOK.none M β w, hc, hV.old, fun i hi => .inl (hr i hi), fun p hp => by simp at hp⟩
theorem c6 (hR : bI R V) {x : Operand} {v : AV} (h : V.eval x = some v) : ∀ i ∈ v.refs, R i := by
 cases x with
 | tmp t => simp only [View.eval, Option.some.injEq] at h; subst h; exact hR.1 t
 | const c => simp only [View.eval] at h; rw [xn h]; simp
 | func f => simp only [View.eval, Option.some.injEq] at h; subst h; simp [AV.refs]
 | global g => simp [View.eval] at h
theorem jr (hR : bI R V) : ∀ {xs : List Operand} {vs : List AV}, cU V xs = some vs -> ∀ i ∈ AV.refsL vs, R i
 | [], vs, h => by simp only [cU, Option.some.injEq] at h; subst h; simp [AV.refsL]
 | x :: xs, vs, h => by
  simp only [cU] at h
  split at h
  ·rename_i v l hv hl
   injection h with h; subst h
   intro i hi
   simp only [AV.refsL, List.mem_append] at hi
   rcases hi with hi | hi
   ·exact c6 hR hv i hi
   ·exact jr hR hl i hi
  ·exact absurd h (by simp)
theorem oL (v : AV) : ∀ i ∈ AV.refsL (cF v), i ∈ v.refs := by
 intro i hi
 cases v with
 | pv x =>
  cases x with
  | agg fs =>
   simp only [cF] at hi
   obtain ⟨v, hv, hi⟩ := bj.1 hi
   obtain ⟨y, _, rfl⟩ := List.mem_map.1 hv
   simp [AV.refs] at hi
  | _ => simp [cF, bj, AV.refs] at hi
 | agg fs => simpa [cF, AV.refs] using hi
 | _ => simpa [cF, AV.refsL] using hi
theorem HX (hV : VR M0 M β V a.tmps w) (hR : bI R V) {d : Nat} {bt : TypeId} {t : TypeId} {x : Operand} {v : AV} {os : List (Nat × Obj)} (h : dq P bt d (.load t x) V = some (v, os)) : eD P a.eval (.load t x) w M β R v os := by
 simp only [dq] at h
 split at h
 ·exact absurd h (by simp)
 ·rename_i ht
  have ht : iU P t = true := by simpa using ht
  split at h
  ·rename_i id i off hx
   have hx' := aP hV hx
   simp only [aL] at hx'
   obtain ⟨b, o, hb, hc⟩ := hx'
   split at h
   ·rename_i cs ho
    split at h
    ·rename_i hcond
     obtain ⟨rfl, hl⟩ := hcond
     rw [Nat.zero_mul, Nat.add_zero] at hc
     have hos : os = [] := by
      split at h
      ·split at h
       ·injection h with h; injection h with h1 h2; exact h2.symm
       ·exact absurd h (by simp)
      ·split at h
       ·injection h with h; injection h with h1 h2; exact h2.symm
       ·exact absurd h (by simp)
     subst hos
     obtain ⟨c, k1, k2, k3⟩ := vW (P := P) ht (hV.objs id _ ho) hb hl h
     exact eD.pure hV (lT hc k1) k2 (fun i hi => (hR.2 id _ ho).2 i (by simpa only [Obj.refs] using k3 i hi))
    ·exact absurd h (by simp)
   ·rename_i sz es ho
    split at h
    ·rename_i e he
     split at h
     ·rename_i hl
      split at h
      ·rename_i v' hv
       injection h with h; injection h with h1 h2; subst h1; subst h2
       obtain ⟨q1, q2, q3, q4, q5, q6, q7, q8, q9⟩ := hV.objs id _ ho
       obtain ⟨vs, hr, hcs⟩ := (q9 b o hb).2 i e he
       have hd := RepS.take (ar P t) (RepS.drop off hr)
       obtain ⟨c, k1, k2, k3⟩ := qD (P := P) (β := β) (w := w) (b := b) (o := o + i * (β id).sz + off) ht hd (fun j c hj => by
        rw [List.getElem?_take] at hj
        split at hj
        ·rw [List.getElem?_drop] at hj
         have := hcs _ _ hj
         rw [q1, Nat.add_assoc (o + i * sz) off j]; exact this
        ·exact absurd hj (by simp)) (by simp; omega) hv
       exact eD.pure hV (lT hc k1) k2 (by rw [k3]; simp)
      ·exact absurd h (by simp)
     ·exact absurd h (by simp)
    ·exact absurd h (by simp)
   ·exact absurd h (by simp)
  ·rename_i cs hx
   have hx' := aP hV hx
   simp only [aL, bp] at hx'
   obtain ⟨b, o, vs, hc, hr, hh⟩ := hx'
   split at h
   ·rename_i hl
    split at h
    ·rename_i v' hv
     injection h with h; injection h with h1 h2; subst h1; subst h2
     obtain ⟨c, k1, k2, k3⟩ := qD (P := P) (β := β) (w := w) (b := b) (o := o) ht (RepS.take (ar P t) hr) (fun j c hj => by
      rw [List.getElem?_take] at hj
      split at hj
      ·exact (hh _ _ hj).1
      ·exact absurd hj (by simp)) (by simp; omega) hv
     exact eD.pure hV (lT hc k1) k2 (by rw [k3]; simp)
    ·exact absurd h (by simp)
   ·exact absurd h (by simp)
  ·exact absurd h (by simp)
theorem HY (hV : VR M0 M β V a.tmps w) (hR : bI R V) {x : Operand} {v : AV} (h : V.eval x = some v) : eD P a.eval (.move x) w M β R v [] :=
 eD.pure hV (xh _) (aP hV h) (c6 hR h)
theorem B4 (hV : VR M0 M β V a.tmps w) (hR : bI R V) {x : Operand} {v : AV} (h : V.eval x = some v) : eD P a.eval (.assign x) w M β R v [] :=
 eD.pure hV (tX _) (aP hV h) (c6 hR h)
theorem HZ (hV : VR M0 M β V a.tmps w) (hR : bI R V) {c x y : Operand} {t : Bool} {v : AV} (hc : V.eval c = some (.pv (.bool t))) (h : V.eval (if t then x else y) = some v) : eD P a.eval (.pick c x y) w M β R v [] := by
 have hb := aP hV hc
 simp only [aL, bp] at hb
 exact eD.pure hV (xi hb) (aP hV h) (c6 hR h)
theorem eD.one {ρ : Operand -> Value} {o : Op} {v : AV} {c : Value} {id : Nat} {ob : Obj} {w' : World} (hg : dG P ρ o w c w') {M' : ay} {β' : Nat -> Loc} (hn : NewOK M β w [(id, ob)] M' β' w') (hc : aL β' w' M' v c)
  (hold : ∀ b j, M' b j -> b < w.heap.size + 1) (hs : w'.heap.size = w.heap.size + 1) (hr : v.refs = [id]) (ho : ∀ i ∈ ob.refs, R i) : eD P ρ o w M β R v [(id, ob)] :=
 ⟨c, w', M', β', hg, hn, hc, fun b j h => by rw [hs]; exact hold b j h, fun i hi => by rw [hr] at hi; exact .inr (by simpa using hi), fun p hp i hi => by simp at hp; subst hp; exact .inl (ho i hi)⟩
theorem KY (hV : VR M0 M β V a.tmps w) (hR : bI R V) {t : TypeId} {x : Operand} {v : AV} {d : Nat} (h : V.eval x = some v) (hf : v.fit = true) (hd : ¬ R (aN d)) : eD P a.eval (.box t x) w M β R (.addr (aN d) 0 0) [(aN d, .box (cF v))] := by
 have hl := lh (aP hV h) hf
 have hr : ∀ i ∈ AV.refsL (cF v), R i := fun i hi => c6 hR h i (oL v i hi)
 obtain ⟨β', M', k1, k2, k3⟩ := Ei (t := t) (id := aN d) hV.old hl (fun hi => hd (hr _ hi))
 have hx : (a.eval x).cells.toList.toArray = (a.eval x).cells := by simp
 rw [hx] at k1
 exact eD.one za k1 (by simp only [aL]; exact ⟨_, _, k2, by simp⟩) k3 (by simp) (by simp [AV.refs]) (by simpa only [Obj.refs] using hr)
theorem mS : ∀ {vs : List Value} {xs : List AV}, gR vs = some xs -> pK β w M xs vs /\ AV.refsL xs = []
 | [], xs, h => by simp only [gR, Option.some.injEq] at h; subst h; exact ⟨⟨rfl, fun j x v hx => by simp at hx⟩, rfl⟩
 | v :: vs, xs, h => by
  simp only [gR] at h
  split at h
  ·rename_i x l hx hl
   injection h with h; subst h
   obtain ⟨k1, k2⟩ := mS hl
   have hxr : x.refs = [] := by
    unfold py at hx
    split at hx
    ·injection hx with hx; subst hx; rfl
    ·split at hx
     ·injection hx with hx; subst hx; rfl
     ·exact absurd hx (by simp)
   refine ⟨⟨by simp [k1.1], fun j y u hy hu => ?_⟩, by simp [AV.refsL, k2, hxr]⟩
   cases j with
   | zero => simp at hy hu; subst hy; subst hu; exact xo hx
   | succ j => exact k1.2 j y u (by simpa using hy) (by simpa using hu)
  ·exact absurd h (by simp)
theorem jM (hR : bI R V) : ∀ {ps : List (Nat × Operand)} {qs : List (Nat × AV)}, cn V ps = some qs -> ∀ q ∈ qs, ∀ i ∈ q.2.refs, R i
 | [], qs, h => by simp only [cn, Option.some.injEq] at h; subst h; simp
 | (i, o) :: ps, qs, h => by
  simp only [cn] at h
  split at h
  ·rename_i v l hv hl
   injection h with h; subst h
   intro q hq
   rcases List.mem_cons.1 hq with rfl | hq
   ·exact c6 hR hv
   ·exact jM hR hl q hq
  ·exact absurd h (by simp)
theorem Ez (hV : VR M0 M β V a.tmps w) (hR : bI R V) {t : TypeId} {parts : Array (Nat × Operand)} {vs : List Value} {ps : List (Nat × AV)} {zs l : List AV} (hz : eO P t = some vs) (hp : cn V parts.toList = some ps)
  (hzs : gR vs = some zs) (hf : mJ P t = true) (hl : jc P t zs ps = some l) : eD P a.eval (.build t parts) w M β R (dP true l) [] := by
 obtain ⟨fs, ht, hfs⟩ := yZ hf
 obtain ⟨k1, k2⟩ := iQ hV hp
 obtain ⟨z1, z2⟩ := mS (β := β) (w := w) (M := M) hzs
 obtain ⟨us, u1, u2, u3⟩ := oH (w := w) (M := M) (β := β) ht a.eval parts.toList ps zs vs l k1 k2 z1 hl
 obtain ⟨r1, r2⟩ := ku u2
 refine eD.pure hV (vG ht hfs hz u1) r1 (fun i hi => ?_)
 rcases u3 i (r2 i hi) with h | ⟨q, hq, h⟩
 ·rw [z2] at h; simp at h
 ·exact jM hR hp q hq i h
theorem um (hV : VR M0 M β V a.tmps w) {t e : TypeId} {n d : Nat} {parts : Array (Nat × Operand)} {vs : List Value} {zs : List PV} {ps : List (Nat × AV)} {es : LP} (he : ie P t = some e) (hp : cn V parts.toList = some ps)
  (hz : eO P e = some vs) (hzs : iR vs = some zs) (hl : lq (ar P e) (List.replicate n zs) ps = some es) (hn : n * ar P e <= 16777216) :
  eD P a.eval (.buildSlice t n parts) w M β R (.own (aN d)) [(aN d, .buf (ar P e) es)] := by
 obtain ⟨ht, hk, h0⟩ := eT he
 obtain ⟨k1, k2⟩ := iQ hV hp
 obtain ⟨_, _, _, _, _, hlen⟩ := ec hz
 have hrow := tk (li (w := w) (M := M) hzs) n n (Nat.le_refl _)
 rw [hlen] at hrow
 obtain ⟨us, u1, u2, u3, u4⟩ := qj (w := w) (M := M) (β := β) h0 a.eval parts.toList ps (List.replicate n zs) _ es k1 k2 (by simp [hlen]) hrow hl
 have hlen' : es.length = n := by rw [u3]; simp
 obtain ⟨β', M', n1, n2, n3⟩ := yp (t := e) (id := aN d) (cap := n) (β := β) hV.old h0 u4 (by rw [u2]; simp [hlen]) (by omega)
 have g := nU (w := w) (ρ := a.eval) ht hk hz hn (cells := us.toArray) (parts := parts) (by rw [hlen]; simpa only [Array.toArray_toList] using u1)
 refine eD.one g n1 ?_ n3 (by simp) (by simp [AV.refs]) (by simp [Obj.refs])
 simp only [aL]
 rw [n2, hlen']
theorem wv (hV : VR M0 M β V a.tmps w) {t e : TypeId} {d : Nat} {x y : Operand} {kx ky : IntKind} {n m : Int} {vs : List Value} {z : List PV} (he : ie P t = some e) (hx : V.eval x = some (.pv (.int kx n))) (hy : V.eval y = some (.pv (.int ky m)))
  (h0 : 0 <= n) (hn : n <= m) (hm : m <= bz) (hb : m * dM P e <= du) (hz : eO P e = some vs) (hzs : iR vs = some z) :
  eD P a.eval (.makeSlice t x y) w M β R (.own (aN d)) [(aN d, .buf (ar P e) (List.replicate n.toNat z))] := by
 obtain ⟨ht, hk, hp⟩ := eT he
 obtain ⟨_, _, _, _, _, hlen⟩ := ec hz
 have ex := aP hV hx
 have ey := aP hV hy
 simp only [aL, bp] at ex ey
 have hrow := tk (li (w := w) (M := M) hzs) m.toNat n.toNat (by omega)
 rw [hlen] at hrow
 obtain ⟨β', M', n1, n2, n3⟩ := yp (t := e) (id := aN d) (cap := m.toNat) (β := β) hV.old hp hrow (by simp [hlen]) (by simp; omega)
 have g := pc (w := w) (ρ := a.eval) ht hk ex ey h0 hn hm hb hz
 refine eD.one g (by rw [hlen]; simpa only [Array.toArray_toList] using n1) ?_ n3 (by simp) (by simp [AV.refs]) (by simp [Obj.refs])
 simp only [aL]
 rw [n2]
 simp
theorem pO {pa : Addr} (h : pa.spot = none) (n : Nat) : pa.add n = ⟨pa.block, pa.off + n, none⟩ := by
 cases pa with
 | mk b o sp => simp at h; subst h; exact dx b o _
theorem mh {A : Option Addr} {k p n : Nat} (h : ∀ a, A = some a -> a.spot = none) : ∀ a, (if k = p then A else A.map (·.add n)) = some a -> a.spot = none := by
 intro pa hpa
 split at hpa
 ·exact h pa hpa
 ·simp only [Option.map_eq_some_iff] at hpa
  obtain ⟨pb, hpb, rfl⟩ := hpa
  rw [pO (h pb hpb)]
theorem EC (hV : VR M0 M β V a.tmps w) (hR : bI R V) {bt : TypeId} {d : Nat} {t : TypeId} {x : Operand} {lo hi : Option Operand} {v : AV} {os : List (Nat × Obj)} (h : dq P bt d (.slice t x lo hi none) V = some (v, os)) :
  eD P a.eval (.slice t x lo hi none) w M β R v os := by
 simp only [dq] at h
 split at h
 ·rename_i s l h' ht hx hl hh
  have ex := aP hV hx
  simp only [aL, bp] at ex
  split at h
  ·rename_i p q hs
   injection h with h; injection h with h1 h2; subst h1; subst h2
   obtain ⟨_, _, k3⟩ := iu (P := P) hV hl hh hs (Nat.le_refl _) false
   have hsz : (⟨s.toArray⟩ : ByteArray).size = s.length := by simp [ByteArray.size]
   refine eD.pure hV (gf (c := .string ((⟨s.toArray⟩ : ByteArray).extract p q)) ?_) ?_ (by simp [AV.refs])
   ·rw [ex]; exact oj ht (by rw [hsz]; exact k3)
   ·simp only [aL, bp]; rw [qh]
  ·exact absurd h (by simp)
 ·rename_i e u l h' ht hx hl hh
  have ex := aP hV hx
  split at h
  ·exact absurd h (by simp)
  ·rename_i hk
   have hk : iU P e = true := by simpa using hk
   split at h
   ·rename_i es
    split at h
    ·rename_i hrok
     split at h
     ·rename_i p q hs
      injection h with h; injection h with h1 h2; subst h1; subst h2
      simp only [aL, bp] at ex
      obtain ⟨A, cap, hc, hle, hnone, hspot, sz, hrow⟩ := ex
      obtain ⟨k1, k2, k3⟩ := iu (P := P) hV hl hh hs hle true
      have hlen : ((es.drop p).take (q - p)).length = q - p := by simp; omega
      refine eD.pure hV (gf (c := .slice (if cap = p then A else A.map (·.add (p * ar P e))) (q - p) (cap - p)) (by rw [hc]; exact eY ht hk k3)) ?_ (by simp [AV.refs])
      simp only [aL, bp]
      refine ⟨_, cap - p, by rw [hlen], by rw [hlen]; omega, ?_, ?_, sz, ?_⟩
      ·intro hA
       have : A = none := by
        split at hA
        ·exact hA
        ·simpa using hA
       have := hnone this; omega
      ·exact fun pa hpa hne => mh (fun pb hpb => hspot pb hpb (by rintro rfl; simp at hne)) pa hpa
      ·by_cases hq : q - p = 0
       ·rw [hq]; simp [RepRow]
       ·refine RepRow.cut hrow p (q - p) _ (fun _ => ?_)
        have hes : p < es.length := by omega
        obtain ⟨pa, us, hA, hsz, _, _⟩ := hrow.get p es[p] (List.getElem?_eq_getElem hes)
        have hsz' : sz = ar P e := by
         have := List.all_eq_true.1 hrok es[p] (List.getElem_mem hes)
         rw [<- hsz]; simpa using this
        refine ⟨pa, hA, ?_⟩
        rw [if_neg (by omega), hA]
        simp only [Option.map_some, Option.some.injEq]
        rw [pO (hspot pa hA (List.ne_nil_of_length_pos (by omega))), hsz']
     ·exact absurd h (by simp)
    ·exact absurd h (by simp)
   ·simp only [aL] at ex
    split at h
    ·rename_i r hs
     injection h with h; injection h with h1 h2; subst h1; subst h2
     obtain ⟨p, q⟩ := r
     obtain ⟨k1, k2, k3⟩ := iu (P := P) hV hl hh hs (Nat.le_refl 0) true
     have : p = 0 /\ q = 0 := ⟨by omega, by omega⟩
     obtain ⟨rfl, rfl⟩ := this
     refine eD.pure hV (gf (by rw [ex]; exact eY ht hk k3)) ?_ (by simp [AV.refs])
     simp [aL]
    ·exact absurd h (by simp)
   ·rename_i id
    split at h
    ·rename_i sz es ho
     split at h
     ·rename_i hsz
      split at h
      ·rename_i p q hs
       injection h with h; injection h with h1 h2; subst h1; subst h2
       obtain ⟨q1, q2, q3, q4, q5, q6, q7, q8, q9⟩ := hV.objs id _ ho
       simp only [aL, Loc.hdr] at ex
       have hc : ∃ A, a.eval x = .slice A (β id).len (β id).cap /\ ((β id).base = none -> A = none) /\ ∀ b o, (β id).base = some (b, o) -> A = some ⟨b, o, none⟩ := by
        cases hb : (β id).base with
        | none =>
         rw [hb] at ex
         have hcap := q7 hb
         have hl0 : (β id).len = 0 := by omega
         exact ⟨none, by rw [ex, hl0, hcap], fun _ => rfl, fun b o h => by simp at h⟩
        | some bo =>
         rw [hb] at ex
         exact ⟨_, ex, fun h => by simp at h, fun b o h => by injection h with h; subst h; rfl⟩
       obtain ⟨A, hc, hA0, hA1⟩ := hc
       obtain ⟨k1, k2, k3⟩ := iu (P := P) hV hl hh hs (by omega : es.length <= (β id).cap) true
       rw [q3] at hc
       refine eD.pure hV (gf (c := .slice (if (β id).cap = p then A else A.map (·.add (p * ar P e))) (q - p) ((β id).cap - p)) (by rw [hc]; exact eY ht hk k3)) ?_
        (fun i hi => by simp [AV.refs] at hi; rw [hi]; exact (hR.2 id _ ho).1)
       simp only [aL]
       refine ⟨_, _, rfl, by omega, ?_, ?_, by omega, ?_⟩
       ·intro hA
        have : A = none := by
         split at hA
         ·exact hA
         ·simpa using hA
        cases hb : (β id).base with
        | none => have := q7 hb; omega
        | some bo => obtain ⟨b, o⟩ := bo; rw [hA1 b o hb] at this; simp at this
       ·refine mh (fun pa hpa => ?_)
        cases hb : (β id).base with
        | none => rw [hA0 hb] at hpa; simp at hpa
        | some bo => obtain ⟨b, o⟩ := bo; rw [hA1 b o hb] at hpa; injection hpa with hpa; subst hpa; rfl
       ·intro hq
        cases hb : (β id).base with
        | none => have := q7 hb; omega
        | some bo =>
         obtain ⟨b, o⟩ := bo
         refine ⟨b, o, rfl, ?_⟩
         rw [if_neg (by omega), hA1 b o hb]
         simp only [Option.map_some, Option.some.injEq]
         rw [dx, q1, hsz]
      ·exact absurd h (by simp)
     ·exact absurd h (by simp)
    ·exact absurd h (by simp)
   ·rename_i id lo' n
    split at h
    ·rename_i sz es ho
     split at h
     ·rename_i hsz
      split at h
      ·rename_i p q hs
       injection h with h; injection h with h1 h2; subst h1; subst h2
       obtain ⟨q1, q2, q3, q4, q5, q6, q7, q8, q9⟩ := hV.objs id _ ho
       simp only [aL] at ex
       obtain ⟨A, cap, hc, hle, hnone, hspot, hln, hpos⟩ := ex
       obtain ⟨k1, k2, k3⟩ := iu (P := P) hV hl hh hs hle true
       refine eD.pure hV (gf (c := .slice (if cap = p then A else A.map (·.add (p * ar P e))) (q - p) (cap - p)) (by rw [hc]; exact eY ht hk k3)) ?_
        (fun i hi => by simp [AV.refs] at hi; rw [hi]; exact (hR.2 id _ ho).1)
       simp only [aL]
       refine ⟨_, _, rfl, by omega, ?_, mh hspot, by omega, ?_⟩
       ·intro hA
        have : A = none := by
         split at hA
         ·exact hA
         ·simpa using hA
        have := hnone this; omega
       ·intro hq
        obtain ⟨b, o, hb, hA⟩ := hpos (by omega)
        refine ⟨b, o, hb, ?_⟩
        rw [if_neg (by omega), hA]
        simp only [Option.map_some, Option.some.injEq]
        rw [dx, q1, hsz, Nat.add_mul, Nat.add_assoc]
      ·exact absurd h (by simp)
     ·exact absurd h (by simp)
    ·exact absurd h (by simp)
   ·exact absurd h (by simp)
 ·exact absurd h (by simp)
theorem xA (hV : VR M0 M β V a.tmps w) (hR : bI R V) {bt : TypeId} {d : Nat} {x : Operand} {v : AV} {os : List (Nat × Obj)} (h : dq P bt d (.nilCheck x) V = some (v, os)) : eD P a.eval (.nilCheck x) w M β R v os := by
 simp only [dq] at h
 split at h
 ·rename_i hx
  injection h with h; injection h with h1 h2; subst h1; subst h2
  have ex := aP hV hx
  have rx := c6 hR hx
  simp only [aL] at ex
  obtain ⟨b, o, hb, hc⟩ := ex
  exact eD.pure hV (kg hc) (by simp only [aL]; exact ⟨b, o, hb, rfl⟩) rx
 ·rename_i hx
  injection h with h; injection h with h1 h2; subst h1; subst h2
  have ex := aP hV hx
  simp only [aL, bp] at ex
  obtain ⟨b, o, vs, hc, h1, h2⟩ := ex
  exact eD.pure hV (kg hc) (by simp only [aL, bp]; exact ⟨b, o, vs, rfl, h1, h2⟩) (by simp [AV.refs])
 ·rename_i hx
  injection h with h; injection h with h1 h2; subst h1; subst h2
  have ex := aP hV hx
  simp only [aL, bp] at ex
  obtain ⟨cs, hc, h1⟩ := ex
  exact eD.pure hV (gA hc) (by simp only [aL, bp]; exact ⟨cs, rfl, h1⟩) (by simp [AV.refs])
 ·rename_i hx
  injection h with h; injection h with h1 h2; subst h1; subst h2
  have ex := aP hV hx
  have rx := c6 hR hx
  simp only [aL] at ex
  obtain ⟨p, q, hc, h1, h2⟩ := ex
  exact eD.pure hV (gA hc) (by simp only [aL]; exact ⟨p, q, rfl, h1, h2⟩) rx
 ·exact absurd h (by simp)
theorem Ey (hV : VR M0 M β V a.tmps w) {op : BinOp} {t ty : TypeId} {x y : Operand} {av bv : AV} {r : PV} (hx : V.eval x = some av) (hy : V.eval y = some bv) (h : uF P op t av bv = some r) : eD P a.eval (.binOp op t x y ty) w M β R (.pv r) [] := by
 obtain ⟨k1, e, k2, k3⟩ := EY (w := w) (x := x) (y := y) h (aP hV hx) (aP hV hy)
 exact eD.pure hV (vF k1 k2) (by simp only [aL]; exact k3) (by simp [AV.refs])
theorem H0 (hV : VR M0 M β V a.tmps w) {op : UnOp} {t : TypeId} {x : Operand} {av : AV} {r : PV} (hx : V.eval x = some av) (h : LN op av = some r) : eD P a.eval (.unOp op t x) w M β R (.pv r) [] := by
 obtain ⟨e, k2, k3⟩ := EX (P := P) (w := w) h (aP hV hx)
 exact eD.pure hV (xj k2) (by simp only [aL]; exact k3) (by simp [AV.refs])
theorem xz (hV : VR M0 M β V a.tmps w) (hR : bI R V) {f : FuncId} {first caps : Array Operand} {x y : List AV} (hx : cU V first.toList = some x) (hy : cU V caps.toList = some y) : eD P a.eval (.makeFunc (.func f) first caps) w M β R (.clo f x y) [] := by
 refine eD.pure hV (qt _) ?_ (fun i hi => ?_)
 ·simp only [aL]
  exact ⟨_, _, rfl, by simpa using ig hV hx, by simpa using ig hV hy⟩
 ·simp only [AV.refs, List.mem_append] at hi
  rcases hi with hi | hi
  ·exact jr hR hx i hi
  ·exact jr hR hy i hi
theorem zn (hV : VR M0 M β V a.tmps w) (hR : bI R V) {x : Operand} {i : Nat} {vs : List AV} {v : AV} (hx : V.eval x = some (.tup vs)) (hv : vs[i]? = some v) : eD P a.eval (.extract x i) w M β R v [] := by
 have ex := aP hV hx
 simp only [aL] at ex
 obtain ⟨cs, hc, h1⟩ := ex
 have hlt : i < cs.toList.length := by rw [AVRs.length h1]; exact (List.getElem?_eq_some_iff.1 hv).1
 have hi : cs.toList[i]? = some cs.toList[i] := List.getElem?_eq_getElem hlt
 exact eD.pure hV (rG hc (by simp [hlt])) (AVRs.get h1 i v _ hv hi) (fun j hj => c6 hR hx j (by simp only [AV.refs]; exact bj.2 ⟨v, List.mem_of_getElem? hv, hj⟩))
theorem wt (hV : VR M0 M β V a.tmps w) (hR : bI R V) {bt : TypeId} {d : Nat} {t : TypeId} {x : Operand} {f : Nat} {v : AV} {os : List (Nat × Obj)} (h : dq P bt d (.fieldAddr t x f) V = some (v, os)) : eD P a.eval (.fieldAddr t x f) w M β R v os := by
 simp only [dq] at h
 split at h
 ·rename_i g id i off hg hx
  split at h
  ·exact absurd h (by simp)
  ·rename_i h0
   have h0 := Classical.not_not.1 h0
   injection h with h; injection h with h1 h2; subst h1; subst h2
   obtain ⟨fs, ht, hf⟩ := iX hg
   have ex := aP hV hx
   have rx := c6 hR hx
   simp only [aL] at ex
   obtain ⟨b, o, hb, hc⟩ := ex
   refine eD.pure hV (jP ht hf h0.1 h0.2 hc) ?_ (by simpa [AV.refs] using rx)
   simp only [aL]
   exact ⟨b, o, hb, by rw [Nat.add_assoc (o + i * (β id).sz) off]⟩
 ·rename_i g cs hg hx
  split at h
  ·exact absurd h (by simp)
  ·rename_i h0
   have h0 := Classical.not_not.1 h0
   injection h with h; injection h with h1 h2; subst h1; subst h2
   obtain ⟨fs, ht, hf⟩ := iX hg
   have ex := aP hV hx
   simp only [aL, bp] at ex
   obtain ⟨b, o, vs, hc, h1, h2⟩ := ex
   refine eD.pure hV (jP ht hf h0.1 h0.2 hc) ?_ (by simp [AV.refs])
   simp only [aL, bp]
   exact ⟨b, o + g.offset, vs.drop g.offset, rfl, RepS.drop _ h1, fun j c hj => by
    rw [List.getElem?_drop] at hj
    have := h2 _ _ hj
    rwa [<- Nat.add_assoc] at this⟩
 ·exact absurd h (by simp)
theorem EA (hV : VR M0 M β V a.tmps w) (hR : bI R V) {bt : TypeId} {d : Nat} {t : TypeId} {x : Operand} {f : Nat} {v : AV} {os : List (Nat × Obj)} (h : dq P bt d (.field t x f) V = some (v, os)) : eD P a.eval (.field t x f) w M β R v os := by
 simp only [dq] at h
 split at h
 ·rename_i g fs hg hx
  split at h
  ·rename_i hc
   split at h
   ·rename_i v' hv
    injection h with h; injection h with h1 h2; subst h1; subst h2
    obtain ⟨fs', ht, hf⟩ := iX hg
    have ex := aP hV hx
    simp only [aL, bp] at ex
    obtain ⟨cs, hcs, hr⟩ := ex
    obtain ⟨c, k1, k2, k3⟩ := AA (P := P) (β := β) hc.1 hr hv
    exact eD.pure hV (oJ ht hf hcs k1) k2 (by rw [k3]; simp)
   ·exact absurd h (by simp)
  ·exact absurd h (by simp)
 ·rename_i g fs hg hx
  split at h
  ·rename_i hc
   injection h with h; injection h with h1 h2; subst h1; subst h2
   obtain ⟨fs', ht, hf⟩ := iX hg
   have hl := aP hV hx
   have rx := c6 hR hx
   simp only [aL] at hl
   obtain ⟨cs, hcs, hr, hone⟩ := hl
   have hs : pK β w M fs cs.toList := ⟨(AVRs.length hr).symm, fun j x v hx hv => ⟨hone v (List.mem_of_getElem? hv), AVRs.get hr j x v hx hv⟩⟩
   obtain ⟨c, k1, k2, k3⟩ := yY (P := P) hc.1 hs hc.2.1 hc.2.2
   exact eD.pure hV (oJ ht hf hcs k1) k2 (fun i hi => rx i (by simp only [AV.refs]; exact k3 i hi))
  ·exact absurd h (by simp)
 ·exact absurd h (by simp)
theorem wu (hV : VR M0 M β V a.tmps w) (hR : bI R V) {bt : TypeId} {d : Nat} {t : TypeId} {x ix : Operand} {v : AV} {os : List (Nat × Obj)} (h : dq P bt d (.indexAddr t x ix) V = some (v, os)) : eD P a.eval (.indexAddr t x ix) w M β R v os := by
 simp only [dq] at h
 split at h
 ·rename_i e id k i he hx hi
  obtain ⟨ht, hk, h0⟩ := eT he
  have ex := aP hV hx
  have rx := c6 hR hx
  have ei := aP hV hi
  simp only [aL, bp] at ex ei
  split at h
  ·rename_i sz es ho
   split at h
   ·rename_i hc
    injection h with h; injection h with h1 h2; subst h1; subst h2
    obtain ⟨q1, q2, q3, q4, q5, q6, q7, q8, q9⟩ := hV.objs id _ ho
    cases hb : (β id).base with
    | none => have := q7 hb; omega
    | some bo =>
     obtain ⟨b, o⟩ := bo
     simp only [Loc.hdr, hb] at ex
     refine eD.pure hV (gp (by rw [ex, ei]; exact kE ht hk hc.1 (by rw [q3]; exact hc.2.1))) ?_ (by simpa [AV.refs] using rx)
     simp only [aL]
     exact ⟨b, o, hb, by rw [q1, hc.2.2]; simp⟩
   ·exact absurd h (by simp)
  ·exact absurd h (by simp)
 ·rename_i e id lo n k i he hx hi
  obtain ⟨ht, hk, h0⟩ := eT he
  have ex := aP hV hx
  have rx := c6 hR hx
  have ei := aP hV hi
  simp only [aL, bp] at ex ei
  split at h
  ·rename_i sz es ho
   split at h
   ·rename_i hc
    injection h with h; injection h with h1 h2; subst h1; subst h2
    obtain ⟨q1, q2, q3, q4, q5, q6, q7, q8, q9⟩ := hV.objs id _ ho
    obtain ⟨A, cap, hca, hle, hnone, hspot, hln, hpos⟩ := ex
    obtain ⟨b, o, hb, hA⟩ := hpos (by omega)
    subst hA
    refine eD.pure hV (gp (by rw [hca, ei]; exact kE ht hk hc.1 hc.2.1)) ?_ (by simpa [AV.refs] using rx)
    simp only [aL]
    refine ⟨b, o, hb, ?_⟩
    rw [q1, hc.2.2.2, Nat.add_mul, Nat.add_zero, <- Nat.add_assoc]
   ·exact absurd h (by simp)
  ·exact absurd h (by simp)
 ·rename_i e es k i he hx hi
  obtain ⟨ht, hk, h0⟩ := eT he
  have ex := aP hV hx
  have ei := aP hV hi
  simp only [aL, bp] at ex ei
  split at h
  ·rename_i hi0
   split at h
   ·rename_i c hc
    split at h
    ·rename_i hcl
     injection h with h; injection h with h1 h2; subst h1; subst h2
     obtain ⟨A, cap, hca, hle, hnone, hspot, sz, hrow⟩ := ex
     obtain ⟨pa, vs, hA, hl, hr, hh⟩ := hrow.get i.toNat c hc
     have hlt := (List.getElem?_eq_some_iff.1 hc).1
     subst hA
     have hpa := hspot pa rfl (List.ne_nil_of_length_pos (by omega))
     obtain ⟨pb, po, ps⟩ := pa
     simp only at hpa; subst hpa
     refine eD.pure hV (gp (by rw [hca, ei]; exact kE ht hk hi0 (by omega))) ?_ (by simp [AV.refs])
     simp only [aL, bp]
     refine ⟨pb, _, vs, rfl, hr, ?_⟩
     have : sz = ar P e := by rw [<- hl]; exact hcl
     rw [<- this]
     simpa using hh
    ·exact absurd h (by simp)
   ·exact absurd h (by simp)
  ·exact absurd h (by simp)
 ·exact absurd h (by simp)
theorem EB (hV : VR M0 M β V a.tmps w) {bt : TypeId} {d : Nat} {t : TypeId} {x ix : Operand} {v : AV} {os : List (Nat × Obj)} (h : dq P bt d (.index t x ix) V = some (v, os)) : eD P a.eval (.index t x ix) w M β R v os := by
 simp only [dq] at h
 split at h
 ·rename_i s k i ht hx hi
  have ex := aP hV hx
  have ei := aP hV hi
  simp only [aL, bp] at ex ei
  split at h
  ·rename_i h0
   split at h
   ·rename_i b hb
    injection h with h; injection h with h1 h2; subst h1; subst h2
    exact eD.pure hV (vH (by rw [ex, ei]; exact zb ht h0 hb)) (by simp only [aL, bp]) (by simp [AV.refs])
   ·exact absurd h (by simp)
  ·exact absurd h (by simp)
 ·exact absurd h (by simp)
theorem kO (hV : VR M0 M β V a.tmps w) {v : AV} {c : Value} {es : LP} (hc : aL β w M v c) (h : gl V v = some es) :
  ∃ A cap sz, c = .slice A es.length cap /\ es.length <= cap /\ (A = none -> cap = 0) /\ (∀ p, A = some p -> es ≠ [] -> p.spot = none) ∧
   ∀ i e, es[i]? = some e -> ∃ b o vs, A = some ⟨b, o, none⟩ /\ e.length = sz /\ RepS w M e vs /\ ∀ j d, vs[j]? = some d -> at_ w b (o + i * sz + j) = some d := by
 unfold gl at h
 split at h
 ·injection h with h; subst h
  simp only [aL, bp] at hc
  obtain ⟨A, cap, h1, h2, h3, h4, sz, h5⟩ := hc
  refine ⟨A, cap, sz, h1, h2, h3, h4, fun i e he => ?_⟩
  obtain ⟨pa, vs, k1, k2, k3, k4⟩ := h5.get i e he
  have := h4 pa k1 (by rintro rfl; simp at he)
  obtain ⟨pb, po, ps⟩ := pa
  simp only at this; subst this
  refine ⟨pb, po, vs, k1, k2, k3, fun j d hj => ?_⟩
  have := (k4 j d hj).1
  simpa using this
 ·injection h with h; subst h
  simp only [aL] at hc
  exact ⟨none, 0, 0, hc, Nat.le_refl _, fun _ => rfl, fun p hp _ => by simp at hp, fun i e he => by simp at he⟩
 ·rename_i id
  split at h
  ·rename_i sz es' ho
   injection h with h; subst h
   obtain ⟨q1, q2, q3, q4, q5, q6, q7, q8, q9⟩ := hV.objs id _ ho
   simp only [aL, Loc.hdr] at hc
   cases hb : (β id).base with
   | none =>
    rw [hb] at hc
    have hcap := q7 hb
    have hl0 : es'.length = 0 := by omega
    refine ⟨none, 0, sz, by rw [hc, hl0], by omega, fun _ => rfl, fun p hp _ => by simp at hp, fun i e he => ?_⟩
    have := (List.getElem?_eq_some_iff.1 he).1
    omega
   | some bo =>
    obtain ⟨b, o⟩ := bo
    rw [hb] at hc
    refine ⟨_, (β id).cap, sz, by rw [hc, q3], by omega, fun h => by simp at h, fun p hp _ => by injection hp with hp; subst hp; rfl, fun i e he => ?_⟩
    obtain ⟨vs, k1, k2⟩ := (q9 b o hb).2 i e he
    exact ⟨b, o, vs, rfl, q8 e (List.mem_of_getElem? he), k1, k2⟩
  ·exact absurd h (by simp)
 ·rename_i id lo n
  split at h
  ·rename_i sz es' ho
   injection h with h; subst h
   obtain ⟨q1, q2, q3, q4, q5, q6, q7, q8, q9⟩ := hV.objs id _ ho
   simp only [aL] at hc
   obtain ⟨A, cap, h1, h2, h3, h4, h5, h6⟩ := hc
   have hlen : ((es'.drop lo).take n).length = n := by simp; omega
   refine ⟨A, cap, sz, by rw [hlen]; exact h1, by rw [hlen]; exact h2, h3, fun p hp _ => h4 p hp, fun i e he => ?_⟩
   rw [List.getElem?_take] at he
   split at he
   ·rename_i hi
    rw [List.getElem?_drop] at he
    obtain ⟨b, o, hb, hA⟩ := h6 (by omega)
    obtain ⟨vs, k1, k2⟩ := (q9 b o hb).2 _ e he
    refine ⟨b, _, vs, hA, q8 e (List.mem_of_getElem? he), k1, fun j d hj => ?_⟩
    have := k2 j d hj
    rw [Nat.add_mul] at this
    rw [q1]
    rwa [Nat.add_assoc o (lo * sz)]
   ·exact absurd he (by simp)
  ·exact absurd h (by simp)
 ·exact absurd h (by simp)
theorem ln {A : Option Addr} {sz : Nat} {es : LP} (hsz : 0 < sz)
  (h : ∀ i e, es[i]? = some e -> ∃ b o vs, A = some ⟨b, o, none⟩ /\ e.length = sz /\ RepS w M e vs /\ ∀ j d, vs[j]? = some d -> at_ w b (o + i * sz + j) = some d) :
  ∃ vs : List Value, vs.length = es.length * sz /\ (∀ d ∈ vs, d.oneCell' = true) /\ el w M sz es vs /\ ∀ b o, A = some ⟨b, o, none⟩ -> ∀ j d, vs[j]? = some d -> at_ w b (o + j) = some d := by
 cases A with
 | none =>
  have : es = [] := by
   cases es with
   | nil => rfl
   | cons e es => obtain ⟨b, o, vs, hA, _⟩ := h 0 e rfl; simp at hA
  subst this
  exact ⟨[], by simp, by simp, ⟨by simp, fun i e he => by simp at he⟩, fun b o hA => by simp at hA⟩
 | some pa =>
  obtain ⟨pb, po, ps⟩ := pa
  have hx : ∀ j, j < es.length * sz -> ∃ d, at_ w pb (po + j) = some d /\ d.oneCell' = true := by
   intro j hj
   have hi : j / sz < es.length := Nat.div_lt_of_lt_mul (by rw [Nat.mul_comm]; exact hj)
   obtain ⟨b, o, vs, hA, hl, hr, hc⟩ := h (j / sz) _ (List.getElem?_eq_getElem hi)
   injection hA with hA; injection hA with e1 e2 e3; subst e1; subst e2
   have hm : j % sz < vs.length := by rw [hr.length, hl]; exact Nat.mod_lt _ hsz
   have := hc (j % sz) _ (List.getElem?_eq_getElem hm)
   refine ⟨_, ?_, RepS.one hr _ (List.getElem_mem hm)⟩
   rwa [Nat.add_assoc, Nat.mul_comm, Nat.div_add_mod] at this
  refine ⟨(List.range (es.length * sz)).map fun j => (at_ w pb (po + j)).getD undef, by simp, fun d hd => ?_, ⟨by simp, fun i e he => ?_⟩, fun b o hA j d hj => ?_⟩
  ·obtain ⟨j, hj, rfl⟩ := List.mem_map.1 hd
   obtain ⟨d, h1, h2⟩ := hx j (by simpa using hj)
   rw [h1]; exact h2
  ·obtain ⟨b, o, vs, hA, hl, hr, hc⟩ := h i e he
   injection hA with hA; injection hA with e1 e2 e3; subst e1; subst e2
   have hi := (List.getElem?_eq_some_iff.1 he).1
   refine ⟨hl, ?_⟩
   have : ((((List.range (es.length * sz)).map fun j => (at_ w pb (po + j)).getD undef).drop (i * sz)).take sz) = vs := by
    apply List.ext_getElem?
    intro j
    rw [List.getElem?_take]
    split
    ·rename_i hj
     have hm : j < vs.length := by rw [hr.length, hl]; exact hj
     have hlt : i * sz + j < es.length * sz := by
      have : (i + 1) * sz <= es.length * sz := Nat.mul_le_mul_right _ hi
      rw [Nat.add_mul] at this; omega
     rw [List.getElem?_drop, List.getElem?_map, List.getElem?_range hlt, List.getElem?_eq_getElem hm]
     have := hc j _ (List.getElem?_eq_getElem hm)
     simp only [Option.map_some, <- Nat.add_assoc, this, Option.getD_some]
    ·rw [List.getElem?_eq_none (by rw [hr.length, hl]; omega)]
   rw [this]; exact hr
  ·injection hA with hA; injection hA with e1 e2 e3; subst e1; subst e2
   have hlt : j < es.length * sz := by
    have := (List.getElem?_eq_some_iff.1 hj).1
    simpa using this
   obtain ⟨d', h1, h2⟩ := hx j hlt
   rw [List.getElem?_map, List.getElem?_range hlt] at hj
   simp only [Option.map_some, h1, Option.getD_some, Option.some.injEq] at hj
   subst hj; exact h1
theorem KZ (hV : VR M0 M β V a.tmps w) {bt : TypeId} {d : Nat} {as : Array Operand} {ts : Array TypeId} {v : AV} {os : List (Nat × Obj)} (h : dq P bt d (.call { callee := .builtin .len, args := as, argTypes := ts }) V = some (v, os)) :
  eD P a.eval (.call { callee := .builtin .len, args := as, argTypes := ts }) w M β R v os := by
 simp only [dq] at h
 split at h
 ·rename_i x t r ha hts
  have hx' : as = #[x] := by apply Array.ext'; simpa using ha
  have ht' : ts = (t :: r).toArray := by apply Array.ext'; simpa using hts
  subst hx'; subst ht'
  split at h
  ·rename_i s hu hx
   injection h with h; injection h with h1 h2; subst h1; subst h2
   have ex := aP hV hx
   simp only [aL, bp] at ex
   exact eD.pure hV (so (n := s.length) (.inl ⟨hu, _, ex, by simp [ByteArray.size]⟩)) (by simp only [i64, aL, bp]) (by simp [i64, AV.refs])
  ·rename_i e v' hu hx
   split at h
   ·rename_i l hl
    injection h with h; injection h with h1 h2; subst h1; subst h2
    obtain ⟨A, cap, sz, hc, _⟩ := kO hV (aP hV hx) hl
    exact eD.pure hV (so (n := l.length) (.inr ⟨⟨_, hu⟩, _, _, hc⟩)) (by simp only [i64, aL, bp]) (by simp [i64, AV.refs])
   ·exact absurd h (by simp)
  ·exact absurd h (by simp)
 ·exact absurd h (by simp)
theorem qG (mx : Bool) {k : IntKind} : ∀ {l : List AV} {vs : List Value} {n r : Int}, AVRs β w M l vs -> mT mx k n l = some r →
  (vs.foldlM (if mx then Builtin.max2 else Builtin.min2) (.int k n)).run P w = .ok (.int k r) w
 | [], vs, n, r, hl, h => by
  simp only [AVRs] at hl; subst hl
  simp only [mT, Option.some.injEq] at h; subst h
  simp
 | x :: l, vs, n, r, hl, h => by
  simp only [AVRs] at hl
  obtain ⟨c, us, rfl, hc, hl⟩ := hl
  unfold mT at h
  split at h
  ·rename_i heq; cases heq
  ·rename_i k' b l' heq
   cases heq
   simp only [aL, bp] at hc
   subst hc
   have ih := qG mx hl h
   rw [List.foldlM_cons]
   cases mx
   ·simpa [Builtin.min2] using ih
   ·simpa [Builtin.max2] using ih
  ·exact absurd h (by simp)
theorem ww (hV : VR M0 M β V a.tmps w) (mx : Bool) {as : Array Operand} {ts : Array TypeId} {l : List AV} {x : PV} (ha : cU V as.toList = some l) (h : ud mx l = some x) :
  eD P a.eval (.call { callee := .builtin (if mx then .max else .min), args := as, argTypes := ts }) w M β R (.pv x) [] := by
 have hl := ig hV ha
 unfold ud at h
 split at h
 ·rename_i k n r
  split at h
  ·rename_i m hm
   injection h with h; subst h
   simp only [AVRs] at hl
   obtain ⟨c, us, hus, hc, hl⟩ := hl
   simp only [aL, bp] at hc; subst hc
   have key := qG (P := P) mx hl hm
   refine eD.pure hV (c := .int k m) (fun oo ho => ?_) (by simp only [aL, bp]) (by simp [AV.refs])
   cases mx
   ·simp only [Bool.false_eq_true, if_false] at key
    simp [execOp, ho, resolve, invoke, Go.builtin, Builtin.min_, hus, key]
   ·simp only [if_true] at key
    simp [execOp, ho, resolve, invoke, Go.builtin, Builtin.max_, hus, key]
  ·exact absurd h (by simp)
 ·exact absurd h (by simp)
theorem fO {s t : TypeId} {x : Operand} {ρ : Operand -> Value} {c : Value} {w' : World} (h : (convert s t (ρ x)).run P w = .ok c w') : dG P ρ (.convert s t x) w c w' :=
 fun oo ho => by simp [execOp, ho, h]
theorem qN : ∀ (ns : List Int) (s : BS), (ns.foldl (fun r n => r.push (UInt8.ofNat n.toNat)) (⟨s.toArray⟩ : ByteArray)) = ⟨(s ++ ns.map fun n => UInt8.ofNat n.toNat).toArray⟩
 | [], s => by simp
 | n :: ns, s => by
  rw [List.foldl_cons]
  have : (⟨s.toArray⟩ : ByteArray).push (UInt8.ofNat n.toNat) = ⟨(s ++ [UInt8.ofNat n.toNat]).toArray⟩ := by
   simp [ByteArray.push]
  rw [this, qN ns]
  simp
theorem C0 {es : LP} (h : yK es = true) : ∃ ns : List Int, es = ns.map (fun n => [.int .u8 n]) /\ qM es = ns.map fun n => UInt8.ofNat n.toNat := by
 induction es with
 | nil => exact ⟨[], rfl, rfl⟩
 | cons e es ih =>
  unfold yK at h
  rw [List.all_cons, Bool.and_eq_true] at h
  obtain ⟨ns, h1, h2⟩ := ih h.2
  have h0 := h.1
  split at h0
  ·rename_i n
   exact ⟨n :: ns, by simp [h1], by simp only [qM, List.map_cons] at h2 ⊢; rw [h2]⟩
  ·exact absurd h0 (by simp)
theorem zm (hV : VR M0 M β V a.tmps w) {bt : TypeId} {d : Nat} {s t : TypeId} {x : Operand} {v : AV} {os : List (Nat × Obj)} (h : dq P bt d (.convert s t x) V = some (v, os)) : eD P a.eval (.convert s t x) w M β R v os := by
 simp only [dq] at h
 split at h
 ·rename_i av hx
  have ex := aP hV hx
  unfold oX at h
  split at h
  ·rename_i k hd
   split at h
   ·rename_i k' k'' n hs
    injection h with h; injection h with h1 h2; subst h1; subst h2
    simp only [aL, bp] at ex
    exact eD.pure hV (fO (c := .int k (k.wrap n)) (by simp [convert, run_underlying hs, run_underlying hd, ex, Conv.intToInt])) (by simp only [aL, bp]) (by simp [AV.refs])
   ·exact absurd h (by simp)
  ·rename_i hd
   split at h
   ·rename_i hs
    split at h
    ·rename_i l
     injection h with h; injection h with h1 h2; subst h1; subst h2
     have ex' := ex
     simp only [aL, bp] at ex
     exact eD.pure hV (fO (c := a.eval x) (by simp [convert, run_underlying hs, run_underlying hd, ex])) ex' (by simp [AV.refs])
    ·exact absurd h (by simp)
   ·rename_i e hs
    split at h
    ·rename_i es he hl
     split at h
     ·rename_i hu
      injection h with h; injection h with h1 h2; subst h1; subst h2
      obtain ⟨A, cap, sz, hc, hle, hnone, hspot, hrow⟩ := kO hV ex hl
      obtain ⟨ns, hns, hof⟩ := C0 hu
      have key : (Conv.bytesToString (.slice A es.length cap)).run P w = .ok (.string ⟨(qM es).toArray⟩) w := by
       cases A with
       | none =>
        have hl0 : es.length = 0 := by have := hnone rfl; omega
        have : es = [] := List.length_eq_zero_iff.1 hl0
        subst this
        simp [Conv.bytesToString, qM]; rfl
       | some pa =>
        have hload : (loadCells pa es.length).run P w = .ok (ns.map (Value.int .u8)).toArray w := by
         have := run_loadCells_list (P := P) w pa (ns.map (Value.int .u8)) (fun j u hj => by
          rw [List.getElem?_map] at hj
          cases hnj : ns[j]? with
          | none => rw [hnj] at hj; simp at hj
          | some n =>
           rw [hnj] at hj; simp at hj; subst hj
           obtain ⟨b, o, vs, hA, hl1, hr, hcc⟩ := hrow j [.int .u8 n] (by rw [hns, List.getElem?_map, hnj]; rfl)
           injection hA with hA; subst hA
           have hsz : sz = 1 := by rw [<- hl1]; rfl
           subst hsz
           simp only [RepS] at hr
           obtain ⟨c, r, rfl, _, h3, rfl⟩ := hr
           simp only [bp] at h3; subst h3
           have := hcc 0 _ rfl
           rw [dx]
           exact (by simpa using this : at_ w b (o + j) = some (.int .u8 n)))
         rw [show es.length = (ns.map (Value.int .u8)).length by rw [hns]; simp]
         exact this
        rw [run_bytesToString w pa es.length cap ns hload]
        have := qN ns []
        simp only [List.nil_append] at this
        rw [hof, <- this]
        rfl
      exact eD.pure hV (fO (c := .string ⟨(qM es).toArray⟩) (by rw [hc, run_convert_bytes_string w s t e A es.length cap hs he hd]; exact key)) (by simp only [aL, bp]) (by simp [AV.refs])
     ·exact absurd h (by simp)
    ·exact absurd h (by simp)
   ·exact absurd h (by simp)
  ·rename_i e hd
   split at h
   ·rename_i l hs he
    split at h
    ·rename_i hsz
     injection h with h; injection h with h1 h2; subst h1; subst h2
     simp only [aL, bp] at ex
     let cap := (Question.appendCap l.length 0 e).cut (w.tape w.drawn (.appendCap l.length 0 e))
     have hcap : l.length <= cap := by simp [cap, Question.cut]
     let vs : List Value := l.map (fun b => Value.int .u8 b.toNat) ++ List.replicate (cap - l.length) (.int .u8 0)
     have hvl : vs.length = cap := by simp [vs]; omega
     let w1 : World := w.drew.alloc (.cells vs.toArray e)
     let w2 : World := w1.freeze ⟨w.heap.size, cap, none⟩ 1
     have hblock : w1.heap[w.heap.size]? = some (.cells vs.toArray e (0, 0)) := by
      have := heap_alloc_new w.drew (.cells vs.toArray e)
      simpa [w1] using this
     have hrun : (convert s t (a.eval x)).run P w = .ok (.slice (some ⟨w.heap.size, 0, none⟩) l.length cap) w2 := by
      have hq : (Question.appendCap l.length 0 e).forced = false := rfl
      have hc1 : (choose (.appendCap l.length 0 e)).run P w = .ok cap w.drew := by rw [run_choose_drew]; simp [hq, cap]
      have hba : (⟨l.toArray⟩ : ByteArray).size = l.length := by simp [ByteArray.size]
      have hcs : ((⟨l.toArray⟩ : ByteArray).data.map (fun b => Value.int .u8 b.toNat) ++ Array.replicate (cap - l.length) (Value.int .u8 0)) = vs.toArray := by
       apply Array.ext'; simp [vs]
      have hsh : w1.shape? w.heap.size = some (e, cap) := by
       simp only [World.shape?, hblock]
       simp [hvl]
      have hmk : (markStringish ⟨w.heap.size, 0, none⟩).run P w1 = .ok () w2 := by
       simp [markStringish, hsh, w2]
      have hstb : (Conv.stringToBytes e ⟨l.toArray⟩).run P w = .ok (.slice (some ⟨w.heap.size, 0, none⟩) l.length cap) w2 := by
       simp only [Conv.stringToBytes, hba, Sem.run_bind, hc1, Result.andThen_ok, hcs]
       have hnr : (newRow e vs.toArray).run P w.drew = .ok ⟨w.heap.size, 0, none⟩ w1 := by simp [newRow, w1]
       simp only [hnr, Result.andThen_ok, hmk, Sem.run_pure]
      simp only [ex, convert, Sem.run_bind, run_underlying hs, run_underlying hd, run_underlying he, Result.andThen_ok]
      exact hstb
     have hblock2 : w2.heap[w.heap.size]? = some (.cells vs.toArray e (cap, cap + 1)) := by
      simp only [w2, World.freeze]
      rw [if_neg (by omega)]
      simp only [Array.getElem?_modify, if_true, hblock, Option.map_some]
      simp
     have hat : ∀ j : Nat, at_ w2 w.heap.size j = vs[j]? := fun j => by
      simp [at_, World.cell?, hblock2]
     have hz : ∀ j, j < vs.length -> cK w2 w.heap.size j = false := fun j hj => by
      simp [cK, World.frozen?, hblock2]
      omega
     have hs2 : w2.heap.size = w.heap.size + 1 := by simp [w2, World.freeze, w1]
     have hfr : Fr (fun _ _ => False) w w2 := by
      have h1 : ∀ b, b < w.heap.size -> w2.heap[b]? = w.heap[b]? := fun b hb => by
       have h2 : w1.heap[b]? = w.heap[b]? := heap_alloc_old w.drew (.cells vs.toArray e) hb
       rw [<- h2]
       have hne : w.heap.size ≠ b := by omega
       simp [w2, World.freeze, Array.getElem?_modify, hne]
      refine ⟨by simp [w2, World.freeze, w1]; rfl, by simp [w2, World.freeze, w1]; try rfl, by simp [w2, World.freeze, w1]; try rfl, by omega, fun b hb _ => h1 b hb, fun b j hb _ => ?_, fun b T hT => by have hb := jd hT; unfold World.shape? at hT ⊢; rw [h1 b hb]; exact hT, fun b T n hT hz => by have hb := jd hT; simp only [cK, World.frozen?, h1 b hb] at hz ⊢; exact hz⟩
      constructor
      ·simp [at_, World.cell?, h1 b hb]
      ·simp [cK, World.frozen?, h1 b hb]
     have hrow : el w M 1 (yL l) vs := by
      refine ⟨by simp [yL, hvl]; exact hcap, fun i c hi => ?_⟩
      rw [yL, List.getElem?_map] at hi
      cases hli : l[i]? with
      | none => rw [hli] at hi; simp at hi
      | some b =>
       rw [hli] at hi; simp at hi; subst hi
       refine ⟨rfl, ?_⟩
       have hlt := (List.getElem?_eq_some_iff.1 hli).1
       have : (vs.drop (i * 1)).take 1 = [.int .u8 b.toNat] := by
        apply List.ext_getElem?
        intro j
        rw [List.getElem?_take]
        cases j with
        | zero =>
         have he := (List.getElem?_eq_some_iff.1 hli).2
         simp [vs, List.getElem?_append, hlt, he]
        | succ j => simp
       rw [this]
       simp only [RepS]
       exact ⟨_, _, rfl, rfl, by simp only [bp], rfl⟩
     obtain ⟨β', M', n1, n2, n3⟩ := lY (id := aN d) (β := β) (cap := cap) hV.old (by omega) hrow (by simp [hvl]) (by simp [yL]; exact hcap) hat hz hfr hs2 (fun h => absurd h (by decide))
     refine eD.one (fO hrun) n1 ?_ n3 hs2 (by simp [AV.refs]) (by simp [Obj.refs])
     simp only [aL]
     rw [n2]; simp [yL]
    ·exact absurd h (by simp)
   ·exact absurd h (by simp)
  ·exact absurd h (by simp)
 ·exact absurd h (by simp)
theorem jK (id : Nat) : ∀ (vs : List Value) (j : Nat) (ts : List TypeId) (l : List AV) (os : List (Nat × Obj)), jJ P id j vs ts = some (l, os) →
  l.length = vs.length /\ (∀ p ∈ os, ∃ k sz, j <= k /\ p = (bg id k, .buf sz []) /\ 0 < sz /\ cB p.1 os = some p.2) ∧
  ∀ (i : Nat) (x : AV) (v : Value), l[i]? = some x -> vs[i]? = some v -> v.oneCell' = true ∧
   ((∃ y, x = .pv y /\ oM v = some y) ∨ (v = .slice none 0 0 /\ x = .own (bg id (j + i)) /\ ∃ sz, (bg id (j + i), Obj.buf sz []) ∈ os))
 | [], j, ts, l, os, h => by
  simp only [jJ, Option.some.injEq, Prod.mk.injEq] at h
  obtain ⟨rfl, rfl⟩ := h
  exact ⟨rfl, by simp, fun i x v hx => by simp at hx⟩
 | v :: vs, j, ts, l, os, h => by
  simp only [jJ] at h
  split at h
  ·rename_i es l' os' hv hr
   split at h
   ·rename_i e he
    injection h with h; injection h with h1 h2; subst h1; subst h2
    obtain ⟨k1, k2, k3⟩ := jK id vs (j + 1) ts.tail l' os' hr
    have hv0 : v = .slice none 0 0 := by
     unfold oM at hv
     split at hv <;> first | rfl | (injection hv with hv; cases hv) | (cases hv)
    refine ⟨by simp [k1], fun p hp => ?_, fun i x u hx hu => ?_⟩
    ·rcases List.mem_cons.1 hp with rfl | hp
     ·exact ⟨j, _, Nat.le_refl _, rfl, (eT he).2.2, by simp [cB]⟩
     ·obtain ⟨k, sz, a1, a2, a3, a4⟩ := k2 p hp
      refine ⟨k, sz, by omega, a2, a3, ?_⟩
      have : ¬ p.1 = bg id j := by rw [a2]; unfold bg; omega
      simp only [cB]
      rw [if_neg this]; exact a4
    ·cases i with
     | zero =>
      simp at hx hu; subst hx; subst hu; subst hv0
      exact ⟨rfl, .inr ⟨rfl, by simp, _, by simp; exact .inl rfl⟩⟩
     | succ i =>
      obtain ⟨a1, a2⟩ := k3 i x u (by simpa using hx) (by simpa using hu)
      refine ⟨a1, a2.imp (fun h => h) ?_⟩
      rintro ⟨b1, b2, sz, b3⟩
      rw [show j + (i + 1) = j + 1 + i by omega]
      exact ⟨b1, b2, sz, List.mem_cons_of_mem _ b3⟩
   ·exact absurd h (by simp)
  ·rename_i y l' os' _ hv hr
   injection h with h; injection h with h1 h2; subst h1; subst h2
   obtain ⟨k1, k2, k3⟩ := jK id vs (j + 1) ts.tail l' os' hr
   refine ⟨by simp [k1], fun p hp => ?_, fun i x u hx hu => ?_⟩
   ·obtain ⟨k, sz, a1, a2, a3, a4⟩ := k2 p hp
    exact ⟨k, sz, by omega, a2, a3, a4⟩
   ·cases i with
    | zero =>
     simp at hx hu; subst hx; subst hu
     exact ⟨(im (w := default) (M := fun _ _ => False) hv).1, .inl ⟨_, rfl, hv⟩⟩
    | succ i =>
     obtain ⟨a1, a2⟩ := k3 i x u (by simpa using hx) (by simpa using hu)
     refine ⟨a1, a2.imp (fun h => h) ?_⟩
     rintro ⟨b1, b2, sz, b3⟩
     rw [show j + (i + 1) = j + 1 + i by omega]
     exact ⟨b1, b2, sz, b3⟩
  ·exact absurd h (by simp)
theorem dX {α : Type} {n : Nat} : ∀ {l : List (Nat × α)} {a : α}, cB n l = some a -> (n, a) ∈ l
 | [], a, h => by simp [cB] at h
 | (m, b) :: r, a, h => by
  simp only [cB] at h
  split at h
  ·rename_i e; subst e; injection h with h; subst h; simp
  ·exact List.mem_cons_of_mem _ (dX h)
theorem vU {α : Type} {n : Nat} : ∀ {l : List (Nat × α)}, cB n l = none -> n ∉ l.map (·.1)
 | [], h => by simp
 | (m, b) :: r, h => by
  simp only [cB] at h
  split at h
  ·exact absurd h (by simp)
  ·rename_i e
   simp only [List.map_cons, List.mem_cons, not_or]
   exact ⟨e, vU h⟩
theorem wr (hV : VR M0 M β V a.tmps w) {d : Nat} {t : TypeId} {vs : List Value} {ts : List TypeId} {l : List AV} {os : List (Nat × Obj)} (hz : eO P t = some vs) (h : jJ P (aN d) 0 vs ts = some (l, os)) :
  eD P a.eval (.alloc t) w M β R (.addr (aN d) 0 0) ((aN d, .box l) :: os) := by
 obtain ⟨i, z, hi, hzz, rfl, hl⟩ := ec hz
 obtain ⟨k1, k2, k3⟩ := jK (P := P) (aN d) _ _ _ _ _ h
 let l0 : Loc := { base := some (w.heap.size, 0), len := 0, cap := 0, sz := 0, k := l.length, ext := none }
 let nl : Nat -> Loc := fun sz => { base := none, len := 0, cap := 0, sz := sz, k := 0, ext := none }
 let β' : Nat -> Loc := fun i => if i = aN d then l0 else match cB i os with | some (.buf sz _) => nl sz | _ => β i
 let M' : ay := fun b j => M b j ∨ l0.F b j
 have hβ : β' (aN d) = l0 := by simp [β']
 have hne : ∀ k, bg (aN d) k ≠ aN d := by intro k; unfold bg aN; omega
 have hsub : ∀ p ∈ os, ∃ k sz, p = (bg (aN d) k, .buf sz []) /\ 0 < sz /\ β' p.1 = nl sz := by
  intro p hp
  obtain ⟨k, sz, _, hpe, h0, hlk⟩ := k2 p hp
  subst hpe
  exact ⟨k, sz, rfl, h0, by simp [β', hne k, hlk]⟩
 have hF : ∀ b j, l0.F b j -> b = w.heap.size := by
  rintro b j (⟨o, h1, h2, h3⟩ | ⟨n, h1, _⟩)
  ·simp only [l0, Option.some.injEq, Prod.mk.injEq] at h1
   exact h1.1.symm
  ·simp [l0] at h1
 have hF0 : ∀ p ∈ os, ∀ b j, ¬ (β' p.1).F b j := by
  intro p hp b j hb
  obtain ⟨k, sz, _, _, e⟩ := hsub p hp
  rw [e] at hb
  rcases hb with ⟨o, h1, _⟩ | ⟨n, h1, _⟩
  ·simp [nl] at h1
  ·simp [nl] at h1
 have hF1 : ∀ id ∈ ((aN d, Obj.box l) :: os).map (·.1), ∀ b j, (β' id).F b j -> id = aN d /\ b = w.heap.size := by
  intro id hid b j hb
  simp only [List.map_cons, List.mem_cons] at hid
  rcases hid with rfl | hid
  ·rw [hβ] at hb; exact ⟨rfl, hF b j hb⟩
  ·obtain ⟨p, hp, rfl⟩ := List.mem_map.1 hid
   exact absurd hb (hF0 p hp b j)
 have hat : ∀ j : Nat, at_ (w.alloc (.cells z.cells t)) w.heap.size j = z.cells.toList[j]? := fun j => by simp [at_]
 refine ⟨_, _, M', β', oI hi hzz, ⟨fun i hi => ?_, fun b j => ?_, fun id hid b j hb => ?_, fun p hp => ?_, fun id hid id' hid' hn b j hb hb' => ?_, Fr.alloc _ _ _ _⟩, ?_, ?_, ?_, ?_⟩
 ·simp only [List.map_cons, List.mem_cons, not_or] at hi
  have hlk : cB i os = none := by
   cases hlk : cB i os with
   | none => rfl
   | some o => exact absurd (List.mem_map_of_mem (f := (·.1)) (dX hlk)) hi.2
  simp [β', hi.1, hlk]
 ·constructor
  ·rintro (h | h)
   ·exact .inl h
   ·exact .inr ⟨aN d, by simp, by rw [hβ]; exact h⟩
  ·rintro (h | ⟨id, hid, hb⟩)
   ·exact .inl h
   ·obtain ⟨rfl, _⟩ := hF1 id hid b j hb
    rw [hβ] at hb; exact .inr hb
 ·have := (hF1 id hid b j hb).2
  subst this; simp
 ·rcases List.mem_cons.1 hp with rfl | hp
  ·rw [hβ]
   refine ⟨w.heap.size, 0, rfl, rfl, rfl, fun j v hj => ?_⟩
   have hlt : j < z.cells.toList.length := by rw [<- k1]; exact (List.getElem?_eq_some_iff.1 hj).1
   have hv := List.getElem?_eq_getElem hlt
   obtain ⟨a1, a2⟩ := k3 j v _ hj hv
   refine ⟨_, by rw [Nat.zero_add, hat]; exact hv, by simp [cK], a1, ?_⟩
   rcases a2 with ⟨y, rfl, hy⟩ | ⟨b1, b2, sz, b3⟩
   ·simp only [aL]; exact (im hy).2
   ·rw [b1, b2]
    simp only [aL]
    obtain ⟨k, sz', e1, _, e2⟩ := hsub _ b3
    rw [e2]; rfl
  ·obtain ⟨k, sz, e1, e0, e2⟩ := hsub p hp
   rw [e2, e1]
   refine ⟨rfl, e0, rfl, Nat.le_refl _, by simp [nl], ⟨rfl, fun b o hb => by simp [nl] at hb⟩, fun _ => rfl, by simp, fun b o hb => by simp [nl] at hb⟩
 ·obtain ⟨e1, _⟩ := hF1 id hid b j hb
  obtain ⟨e2, _⟩ := hF1 id' hid' b j hb'
  exact hn (e1.trans e2.symm)
 ·simp only [aL]; exact ⟨w.heap.size, 0, by rw [hβ], by simp⟩
 ·rintro b j (h | h)
  ·have := hV.old b j h; simp; omega
  ·have := hF b j h; subst this; simp
 ·intro i hi; simp [AV.refs] at hi; subst hi; exact .inr (by simp)
 ·intro p hp i hi
  rcases List.mem_cons.1 hp with rfl | hp
  ·simp only [Obj.refs] at hi
   obtain ⟨x, hx, hxi⟩ := bj.1 hi
   obtain ⟨j, hj⟩ := List.mem_iff_getElem?.1 hx
   have hlt : j < z.cells.toList.length := by rw [<- k1]; exact (List.getElem?_eq_some_iff.1 hj).1
   rcases (k3 j x _ hj (List.getElem?_eq_getElem hlt)).2 with ⟨y, rfl, _⟩ | ⟨_, rfl, sz, b3⟩
   ·simp [AV.refs] at hxi
   ·simp only [AV.refs, List.mem_singleton] at hxi; subst hxi
    exact .inr (by simp only [List.map_cons, List.mem_cons]; exact .inr (List.mem_map_of_mem (f := (·.1)) b3))
  ·obtain ⟨k, sz, e1, _, _⟩ := hsub p hp
   rw [e1] at hi; simp [Obj.refs] at hi
theorem wq (hV : VR M0 M β V a.tmps w) {d : Nat} {t : TypeId} (hbt : t = u0) (hz : eO P t = some [.pointer none, .slice none 0 0]) : eD P a.eval (.alloc t) w M β R (.addr (aN d) 0 0) [(aN d, .bld [])] := by
 obtain ⟨i, z, hi, hzz, hzl, hl⟩ := ec hz
 let l0 : Loc := { base := some (w.heap.size, 0), len := 0, cap := 0, sz := 0, k := 2, ext := none }
 let β' : Nat -> Loc := fun i => if i = aN d then l0 else β i
 let M' : ay := fun b j => M b j ∨ l0.F b j
 have hβ : β' (aN d) = l0 := by simp [β']
 have hF : ∀ b j, l0.F b j -> b = w.heap.size := by
  rintro b j (⟨o, h1, h2, h3⟩ | ⟨n, h1, _⟩)
  ·simp only [l0, Option.some.injEq, Prod.mk.injEq] at h1
   exact h1.1.symm
  ·simp [l0] at h1
 have hat : ∀ j : Nat, at_ (w.alloc (.cells z.cells t)) w.heap.size j = [Value.pointer none, .slice none 0 0][j]? := fun j => by rw [<- hzl]; simp [at_]
 refine eD.one (oI hi hzz) (β' := β') (M' := M') ⟨fun i hi => ?_, fun b j => ?_, fun i hi b j hb => ?_, fun p hp => ?_, fun i hi i' hi' hne => ?_, Fr.alloc _ _ _ _⟩ ?_ ?_ (by simp) (by simp [AV.refs]) (by simp [Obj.refs])
 ·simp at hi; simp [β', hi]
 ·simp [M', hβ]
 ·simp at hi; subst hi; rw [hβ] at hb; have := hF b j hb; subst this; simp
 ·simp at hp; subst hp
  rw [hβ]
  have e : z.cells.size = 2 := by rw [<- Array.length_toList, hzl]; rfl
  have hsh : (w.alloc (.cells z.cells t)).shape? w.heap.size = some (u0, 2) := by
   rw [<- hbt]
   have hb : (w.alloc (.cells z.cells t)).heap[w.heap.size]? = some (.cells z.cells t (0, 0)) := by
    show (w.heap.push (.cells z.cells t (0, 0)))[w.heap.size]? = _
    simp
   unfold World.shape?
   rw [hb]
   simp [e]
  refine ⟨w.heap.size, 0, none, 0, .pointer none, rfl, ⟨rfl, rfl, hsh⟩, by rw [hat]; rfl, by simp [cK], .inl rfl, by rw [hat]; rfl, by simp [cK], .inl ⟨rfl, rfl, rfl, rfl⟩⟩
 ·simp at hi hi'; omega
 ·simp only [aL]; exact ⟨w.heap.size, 0, by rw [hβ], by simp⟩
 ·rintro b j (h | h)
  ·have := hV.old b j h; omega
  ·have := hF b j h; omega
theorem HQ (hV : VR M0 M β V a.tmps w) (hR : bI R V) {bt : TypeId} {d : Nat} {o : Op} {v : AV} {os : List (Nat × Obj)} (hd : ∀ p ∈ os, ¬ R p.1) (h : dq P bt d o V = some (v, os)) : eD P a.eval o w M β R v os := by
 have one : ∀ {x : Option AV} {v : AV} {os : List (Nat × Obj)}, (match x with | some y => some (y, ([] : List (Nat × Obj))) | none => none) = some (v, os) -> x = some v /\ os = [] := by
  intro x v os h
  cases x with
  | none => simp at h
  | some y => simp at h; exact ⟨by rw [h.1], h.2⟩
 cases o
 case move x => simp only [dq] at h; obtain ⟨h1, rfl⟩ := one h; exact HY hV hR h1
 case assign x => simp only [dq] at h; obtain ⟨h1, rfl⟩ := one h; exact B4 hV hR h1
 case pick c x y =>
  simp only [dq] at h
  split at h
  ·rename_i t hc
   obtain ⟨h1, rfl⟩ := one h
   exact HZ hV hR hc h1
  ·exact absurd h (by simp)
 case alloc t =>
  simp only [dq] at h
  split at h
  ·split at h
   ·exact absurd h (by simp)
   ·rename_i hbt
    split at h
    ·rename_i hz
     injection h with h; injection h with h1 h2; subst h1; subst h2
     exact wq hV (by simpa using hbt) hz
    ·exact absurd h (by simp)
  ·split at h
   ·rename_i vs hz
    split at h
    ·rename_i l os' hb
     injection h with h; injection h with h1 h2; subst h1; subst h2
     exact wr hV hz hb
    ·exact absurd h (by simp)
   ·exact absurd h (by simp)
 case box t x =>
  simp only [dq] at h
  split at h
  ·rename_i v' hx
   split at h
   ·rename_i hc
    injection h with h; injection h with h1 h2; subst h1; subst h2
    exact KY hV hR hx hc.1 (hd (aN d, .box (cF v')) (by simp))
   ·exact absurd h (by simp)
  ·exact absurd h (by simp)
 case build t parts =>
  simp only [dq] at h
  split at h
  ·rename_i vs ps hz hp
   split at h
   ·rename_i zs hzs
    split at h
    ·rename_i hc
     split at h
     ·rename_i l hl
      injection h with h; injection h with h1 h2; subst h1; subst h2
      exact Ez hV hR hz hp hzs hc.1 hl
     ·exact absurd h (by simp)
    ·exact absurd h (by simp)
   ·exact absurd h (by simp)
  ·exact absurd h (by simp)
 case buildSlice t n parts =>
  simp only [dq] at h
  split at h
  ·rename_i e ps he hp
   split at h
   ·rename_i vs hz
    split at h
    ·rename_i zs hzs
     split at h
     ·rename_i es hl
      split at h
      ·rename_i hn
       injection h with h; injection h with h1 h2; subst h1; subst h2
       exact um hV he hp hz hzs hl hn
      ·exact absurd h (by simp)
     ·exact absurd h (by simp)
    ·exact absurd h (by simp)
   ·exact absurd h (by simp)
  ·exact absurd h (by simp)
 case load t x => exact HX hV hR h
 case nilCheck x => exact xA hV hR h
 case binOp op t x y ty =>
  simp only [dq] at h
  split at h
  ·rename_i av bv hx hy
   split at h
   ·rename_i r hr
    injection h with h; injection h with h1 h2; subst h1; subst h2
    exact Ey hV hx hy hr
   ·exact absurd h (by simp)
  ·exact absurd h (by simp)
 case unOp op t x =>
  simp only [dq] at h
  split at h
  ·rename_i av hx
   split at h
   ·rename_i r hr
    injection h with h; injection h with h1 h2; subst h1; subst h2
    exact H0 hV hx hr
   ·exact absurd h (by simp)
  ·exact absurd h (by simp)
 case convert s t x => exact zm hV h
 case makeFunc g first caps =>
  cases g
  case func f =>
   simp only [dq] at h
   split at h
   ·rename_i x y hx hy
    injection h with h; injection h with h1 h2; subst h1; subst h2
    exact xz hV hR hx hy
   ·exact absurd h (by simp)
  all_goals (simp only [dq] at h; exact absurd h (by simp))
 case makeSlice t x y =>
  simp only [dq] at h
  split at h
  ·rename_i e k n k' m he hx hy
   split at h
   ·rename_i hc
    split at h
    ·rename_i vs hz
     split at h
     ·rename_i z hzs
      injection h with h; injection h with h1 h2; subst h1; subst h2
      exact wv hV he hx hy hc.1 hc.2.1 hc.2.2.1 hc.2.2.2 hz hzs
     ·exact absurd h (by simp)
    ·exact absurd h (by simp)
   ·exact absurd h (by simp)
  ·exact absurd h (by simp)
 case slice t x lo hi mx =>
  cases mx
  case none => exact EC hV hR h
  case some m => simp only [dq] at h; exact absurd h (by simp)
 case fieldAddr t x f => exact wt hV hR h
 case field t x f => exact EA hV hR h
 case indexAddr t x ix => exact wu hV hR h
 case index t x ix => exact EB hV h
 case extract x i =>
  simp only [dq] at h
  split at h
  ·rename_i vs hx
   obtain ⟨h1, rfl⟩ := one h
   exact zn hV hR hx h1
  ·exact absurd h (by simp)
 case call c =>
  obtain ⟨callee, as, ts⟩ := c
  cases callee
  case builtin b =>
   cases b
   case len => exact KZ hV h
   case max =>
    simp only [dq] at h
    split at h
    ·rename_i l hl
     split at h
     ·rename_i x hx
      injection h with h; injection h with h1 h2; subst h1; subst h2
      exact ww hV true hl hx
     ·exact absurd h (by simp)
    ·exact absurd h (by simp)
   case min =>
    simp only [dq] at h
    split at h
    ·rename_i l hl
     split at h
     ·rename_i x hx
      injection h with h; injection h with h1 h2; subst h1; subst h2
      exact ww hV false hl hx
     ·exact absurd h (by simp)
    ·exact absurd h (by simp)
   all_goals (simp only [dq] at h; exact absurd h (by simp))
  all_goals (simp only [dq] at h; exact absurd h (by simp))
 all_goals (simp only [dq] at h; exact absurd h (by simp))
end ops
end Go.Proofs.YtcoikmicjbppmaaGreat.Vm
namespace Go.Proofs.YtcoikmicjbppmaaGreat.Vm
open Go
set_option linter.unusedVariables false
set_option linter.unusedSimpArgs false
theorem cJ.mono {β β' : Nat -> Loc} {w w' : World} {M M' : ay} {l : Loc} (hk : ∀ b o v, at_ w b o = some v -> ¬ M b o -> at_ w' b o = some v /\ ¬ M' b o)
  (hF : ∀ b j v, l.F b j -> at_ w b j = some v -> at_ w' b j = some v /\ cK w' b j = cK w b j) (hs : ∀ b T, w.shape? b = some T -> w'.shape? b = some T) (hg : ∀ g, g < w.heap.size -> (∀ j v, at_ w g j = some v -> l.F g j) -> w'.heap[g]? = w.heap[g]?) (hm : ∀ b, zQ w b -> zQ w' b) : ∀ {o : Obj}, (∀ i ∈ o.refs, (β i).same (β' i)) -> cJ β w M l o -> cJ β' w' M' l o
 | .box cs, hb, h => by
  obtain ⟨b, o, h1, h2, h3, h4⟩ := h
  refine ⟨b, o, h1, h2, h3, fun j v hj => ?_⟩
  obtain ⟨c, k1, k2, k3, k4⟩ := h4 j v hj
  have hlt := (List.getElem?_eq_some_iff.1 hj).1
  have kk := hF b (o + j) c (.inl ⟨o, h1, by omega, by omega⟩) k1
  exact ⟨c, kk.1, kk.2.trans k2, k3, aL.mono hk _ _ (fun i hi => hb i (by simp only [Obj.refs]; exact bj.2 ⟨v, List.mem_of_getElem? hj, hi⟩)) k4⟩
 | .buf sz es, hb, h => by
  obtain ⟨h1, h2, h3, h4, h5, h6, h7, h8, h9⟩ := h
  refine ⟨h1, h2, h3, h4, h5, ⟨h6.1, fun b o hb' hz => hm b (h6.2 b o hb' hz)⟩, h7, h8, fun b o hb' => ?_⟩
  obtain ⟨k1, k2⟩ := h9 b o hb'
  refine ⟨fun j hj => ?_, fun i e he => ?_⟩
  ·obtain ⟨⟨c, hc⟩, hz⟩ := k1 j hj
   have kk := hF b (o + j) c (.inl ⟨o, hb', by omega, by omega⟩) hc
   exact ⟨⟨c, kk.1⟩, kk.2.trans hz⟩
  ·obtain ⟨vs, hr, hc⟩ := k2 i e he
   refine ⟨vs, RepS.mono hk _ _ hr, fun j c hj => ?_⟩
   have hj' : j < sz := by
    have := (List.getElem?_eq_some_iff.1 hj).1
    rw [hr.length, h8 e (List.mem_of_getElem? he)] at this; exact this
   have hi := (List.getElem?_eq_some_iff.1 he).1
   have : (i + 1) * sz <= l.cap * sz := Nat.mul_le_mul_right _ (by omega)
   rw [Nat.add_mul] at this
   exact (hF b (o + i * sz + j) c (.inl ⟨o, hb', by omega, by omega⟩) (hc j c hj)).1
 | .bld bs, hb, h => by
  obtain ⟨b, o, A, cap, p, h1, h2, h3, h4, h5, h6, h7, h8⟩ := h
  have k1 := hF b o p (.inl ⟨o, h1, by omega, by have := h2.1; omega⟩) h3
  have k2 := hF b (o + 1) _ (.inl ⟨o, h1, by omega, by have := h2.1; omega⟩) h6
  obtain ⟨h2, h2', h2''⟩ := h2
  refine ⟨b, o, A, cap, p, h1, ⟨h2, h2', hs _ _ h2''⟩, k1.1, k1.2.trans h4, h5, k2.1, k2.2.trans h7, ?_⟩
  rcases h8 with h8 | ⟨g, g1, g2, g3, g4, g5, g6⟩
  ·exact .inl h8
  ·have hx : ∀ j v, j < cap -> at_ w g j = some v -> at_ w' g j = some v /\ cK w' g j = cK w g j := fun j v hj hv => hF g j v (.inr ⟨cap, g2, hj⟩) hv
   have hgl : g < w.heap.size := by
    obtain ⟨n, hn⟩ := g4 0 g3.2.1
    exact oC hn
   have hgs : w'.heap[g]? = w.heap[g]? := hg g hgl (fun j v hv => by
    obtain ⟨_, cur, lo, hi, hh, hc, _⟩ := g3.2
    refine .inr ⟨cap, g2, ?_⟩
    simp only [at_, World.cell?, hh] at hv
    have := (Array.getElem?_eq_some_iff.1 hv).1
    omega)
   refine .inr ⟨g, g1, g2, ⟨g3.1, by unfold LQ; rw [hgs]; exact g3.2⟩, fun j hj => ?_, fun j hj hj' => ?_, fun j c hj => ?_⟩
   ·obtain ⟨n, hn⟩ := g4 j hj; exact ⟨n, (hx j _ hj hn).1⟩
   ·obtain ⟨n, hn⟩ := g4 j hj'; exact (hx j _ hj' hn).2.trans (g5 j hj hj')
   ·have := (List.getElem?_eq_some_iff.1 hj).1
    exact (hx j _ (by omega) (g6 j c hj)).1
def Patch.touch (l : Loc) : Patch -> ay
 | .box _ off cells => fun b j => ∃ o, l.base = some (b, o) /\ o + off <= j /\ j < o + off + cells.length
 | _ => l.F
def Dm (β : Nat -> Loc) (dom : Nat -> Prop) (m : Made) : ay :=
 fun b j => (∃ g ∈ m.dels ++ m.use, dom g /\ (β g).F b j) ∨ ∃ p ∈ m.ws, dom p.id /\ p.touch (β p.id) b j
def to (β : Nat -> Loc) (dom : Nat -> Prop) (m : Made) : ay :=
 fun b j => (∃ g ∈ m.dels ++ m.use, dom g /\ (β g).F b j) ∨ ∃ id bs, Patch.bld id bs ∈ m.ws /\ (β id).F b j
def zG (β β' : Nat -> Loc) (G : ay) (w w' : World) (M' : ay) : Patch -> Prop
 | .box id off cells => β' id = β id /\ ∃ b o, (β id).base = some (b, o) /\ ∀ (j : Nat) (v : AV), cells[j]? = some v -> ∃ c, at_ w' b (o + off + j) = some c /\ cK w' b (o + off + j) = false /\ c.oneCell' = true /\ aL β' w' M' v c
 | .buf id sz es => β' id = β id /\ cJ β' w' M' (β' id) (.buf sz es)
 | .bld id bs => cJ β' w' M' (β' id) (.bld bs) /\ ∀ b j, (β' id).F b j -> M' b j /\ (w.heap.size <= b ∨ G b j)
structure Post (M : ay) (β : Nat -> Loc) (w : World) (dom : Nat -> Prop) (m : Made) (M' : ay) (β' : Nat -> Loc) (w' : World) (c : Value) : Prop where
 same : ∀ id, id ∉ m.os.map (·.1) -> (β id).same (β' id)
 keep : ∀ id, id ∉ m.os.map (·.1) -> id ∉ m.ws.map Patch.id -> β' id = β id
 kept : ∀ b j, M b j -> M' b j ∨ to β dom m b j
 only : ∀ b j, M' b j -> M b j ∨ w.heap.size <= b
 old : ∀ b j, M' b j -> b < w'.heap.size
 new : ∀ p ∈ m.os, cJ β' w' M' (β' p.1) p.2 /\ ∀ b j, (β' p.1).F b j -> M' b j /\ (w.heap.size <= b ∨ to β dom m b j)
 patch : ∀ p ∈ m.ws, zG β β' (to β dom m) w w' M' p
 nd : (m.ws.map Patch.id).Nodup
 disj : ∀ id id', (id ∈ m.os.map (·.1) ∨ ∃ bs, Patch.bld id bs ∈ m.ws) -> (id' ∈ m.os.map (·.1) ∨ ∃ bs, Patch.bld id' bs ∈ m.ws) -> id ≠ id' -> ∀ b j, (β' id).F b j -> ¬ (β' id').F b j
 fr : Fr (Dm β dom m) w w'
 val : aL β' w' M' m.v c
def dk (ws : List Patch) (id : Nat) (o : Option Obj) : Option Obj := ws.foldl (fun o p => if p.id = id then p.on o else o) o
theorem dg {id : Nat} : ∀ {ws : List Patch} {o : Option Obj}, id ∉ ws.map Patch.id -> dk ws id o = o
 | [], o, _ => rfl
 | p :: ws, o, h => by
  simp only [List.map_cons, List.mem_cons, not_or] at h
  simp only [dk, List.foldl_cons]
  rw [if_neg (fun e => h.1 e.symm)]
  exact dg h.2
theorem fF {p : Patch} : ∀ {ws : List Patch} {o : Option Obj}, (ws.map Patch.id).Nodup -> p ∈ ws -> dk ws p.id o = p.on o
 | [], o, _, h => by simp at h
 | q :: ws, o, hn, h => by
  simp only [List.map_cons, List.nodup_cons] at hn
  simp only [dk, List.foldl_cons]
  rcases List.mem_cons.1 h with rfl | h
  ·rw [if_pos rfl]; exact dg hn.1
  ·have : ¬ q.id = p.id := fun e => hn.1 (e ▸ List.mem_map_of_mem (f := Patch.id) h)
   rw [if_neg this]
   exact fF hn.2 h
theorem e9 {α : Type} {n : Nat} {a : α} : ∀ {l : List (Nat × α)}, (l.map (·.1)).Nodup -> (n, a) ∈ l -> cB n l = some a
 | [], _, h => by simp at h
 | (m, b) :: r, hn, h => by
  simp only [List.map_cons, List.nodup_cons] at hn
  simp only [cB]
  rcases List.mem_cons.1 h with h | h
  ·injection h with h1 h2; subst h1; subst h2; rw [if_pos rfl]
  ·have : ¬ n = m := fun e => hn.1 (e ▸ List.mem_map_of_mem (f := (·.1)) h)
   rw [if_neg this]; exact e9 hn.2 h
theorem Patch.touch_F {p : Patch} {l : Loc} {b j : Nat} (h : p.touch l b j) (hp : ∀ id off cells, p = .box id off cells -> off + cells.length <= l.k) : l.F b j := by
 cases p with
 | box id off cells =>
  obtain ⟨o, h1, h2, h3⟩ := h
  exact .inl ⟨o, h1, by omega, by have := hp id off cells rfl; omega⟩
 | buf _ _ _ => exact h
 | bld _ _ => exact h
theorem Post.view {M0 M : ay} {β : Nat -> Loc} {V0 V1 : View} {tm tm' : Array Value} {w : World} {dom : Nat -> Prop} {m : Made} {M' : ay} {β' : Nat -> Loc} {w' : World} {c : Value} {R : Nat -> Prop}
  (hV : VR M0 M β V0 tm w) (hP : Post M β w dom m M' β' w' c) (hR : bI R V0) (hos : ∀ id ∈ m.os.map (·.1), ¬ R id) (hon : (m.os.map (·.1)).Nodup)
  (hg : ∀ g ∈ m.dels ++ m.use, dom g -> (∀ b j, (β g).F b j -> M b j /\ ¬ M0 b j) /\ ∀ id o, V0.obj id = some o -> ∀ b j, (β g).F b j -> ¬ (β id).F b j)
  (hw : ∀ p ∈ m.ws, ∃ o o', V0.obj p.id = some o /\ p.on (some o) = some o')
  {d : Option Nat} (h1 : ∀ t, V1.get t = if d = some t then m.v else V0.get t) (h2 : ∀ id, V1.obj id = match cB id m.os with | some o => some o | none => dk m.ws id (V0.obj id))
  (htm : ∀ t, tm'.getD t undef = if d = some t then c else tm.getD t undef) : VR M0 M' β' V1 tm' w' := by
 have hbox : ∀ p ∈ m.ws, ∀ id off cells, p = .box id off cells -> off + cells.length <= (β p.id).k := by
  intro p hp id off cells he
  subst he
  obtain ⟨o, o', ho, hon⟩ := hw _ hp
  cases o <;> simp only [Patch.on] at hon <;> try (cases hon; done)
  obtain ⟨b0, o0, q1, q2, q3, q4⟩ := hV.objs _ _ ho
  split at hon
  ·rw [q2]; assumption
  ·exact absurd hon (by simp)
 have htouch : ∀ p ∈ m.ws, ∀ b j, p.touch (β p.id) b j -> (β p.id).F b j := fun p hp b j h => Patch.touch_F h (hbox p hp)
 have hDM : ∀ b j, Dm β dom m b j -> M b j := by
  rintro b j (⟨g, hgm, hgd, hgf⟩ | ⟨p, hp, hpd, hpt⟩)
  ·exact ((hg g hgm hgd).1 b j hgf).1
  ·obtain ⟨o, _, ho, _⟩ := hw p hp
   exact (hV.own _ _ ho b j (htouch p hp b j hpt)).1
 have hk : ∀ b o v, at_ w b o = some v -> ¬ M b o -> at_ w' b o = some v /\ ¬ M' b o := by
  intro b o v hv hm
  refine ⟨(hP.fr.keeps hv (fun h => hm (hDM b o h))).1, fun h => ?_⟩
  rcases hP.only b o h with h | h
  ·exact hm h
  ·have := oC hv; omega
 have hsame : ∀ i, R i -> (β i).same (β' i) := fun i hi => hP.same i (fun h => hos i h hi)
 have hout : ∀ id o, V0.obj id = some o -> ∀ b j, (β id).F b j -> (∀ p ∈ m.ws, p.id = id -> ¬ p.touch (β id) b j) -> ¬ Dm β dom m b j := by
  rintro id o ho b j hF hn (⟨g, hgm, hgd, hgf⟩ | ⟨p, hp, hpd, hpt⟩)
  ·exact (hg g hgm hgd).2 id o ho b j hgf hF
  ·by_cases e : p.id = id
   ·exact hn p hp e (e ▸ hpt)
   ·obtain ⟨o', _, ho', _⟩ := hw p hp
    exact hV.disj _ _ _ _ ho' ho e b j (htouch p hp b j hpt) hF
 have hfr : ∀ id o, V0.obj id = some o -> ∀ b j v, (β id).F b j -> at_ w b j = some v -> (∀ p ∈ m.ws, p.id = id -> ¬ p.touch (β id) b j) -> at_ w' b j = some v /\ cK w' b j = cK w b j :=
  fun id o ho b j v hF hv hn => hP.fr.keeps hv (hout id o ho b j hF hn)
 have hGM0 : ∀ b j, to β dom m b j -> M b j /\ ¬ M0 b j := by
  rintro b j (⟨g, hgm, hgd, hgf⟩ | ⟨id, bs, hm, hf⟩)
  ·exact (hg g hgm hgd).1 b j hgf
  ·obtain ⟨o, _, ho, _⟩ := hw _ hm
   exact hV.own id o ho b j hf
 have hGd : ∀ id o, V0.obj id = some o -> (∀ bs, Patch.bld id bs ∉ m.ws) -> ∀ b j, (β id).F b j -> ¬ to β dom m b j := by
  rintro id o ho hnb b j hF (⟨g, hgm, hgd, hgf⟩ | ⟨i, bs, hm, hf⟩)
  ·exact (hg g hgm hgd).2 id o ho b j hgf hF
  ·obtain ⟨o', _, ho', _⟩ := hw _ hm
   exact hV.disj i id o' o ho' ho (fun e => hnb bs (e ▸ hm)) b j hf hF
 have hMM : ∀ id o, V0.obj id = some o -> (∀ bs, Patch.bld id bs ∉ m.ws) -> ∀ b j, (β id).F b j -> M' b j := by
  intro id o ho hnb b j hF
  rcases hP.kept b j (hV.own id o ho b j hF).1 with h | h
  ·exact h
  ·exact absurd h (hGd id o ho hnb b j hF)
 have hone : ∀ p ∈ m.ws, ∀ q ∈ m.ws, p.id = q.id -> p = q := by
  intro p hp q hq he
  obtain ⟨k, hk⟩ := List.mem_iff_getElem?.1 hp
  obtain ⟨k', hk'⟩ := List.mem_iff_getElem?.1 hq
  have n1 : (m.ws.map Patch.id)[k]? = some p.id := by rw [List.getElem?_map, hk]; rfl
  have n2 : (m.ws.map Patch.id)[k']? = some p.id := by rw [List.getElem?_map, hk', he]; rfl
  have hkk := (List.getElem?_inj (List.getElem?_eq_some_iff.1 n1).1 hP.nd).1 (n1.trans n2.symm)
  subst hkk
  rw [hk] at hk'; injection hk'
 have cases1 : ∀ id o, V1.obj id = some o -> ((id, o) ∈ m.os /\ id ∈ m.os.map (·.1)) ∨ (id ∉ m.os.map (·.1) /\ ∃ o0, V0.obj id = some o0 /\ ((∃ p ∈ m.ws, p.id = id /\ p.on (some o0) = some o) ∨ (id ∉ m.ws.map Patch.id /\ o = o0))) := by
  intro id o ho
  rw [h2] at ho
  split at ho
  ·rename_i o1 hl
   injection ho with ho; subst ho
   exact .inl ⟨dX hl, List.mem_map_of_mem (f := (·.1)) (dX hl)⟩
  ·rename_i hl
   refine .inr ⟨vU hl, ?_⟩
   by_cases hid : id ∈ m.ws.map Patch.id
   ·obtain ⟨p, hp, rfl⟩ := List.mem_map.1 hid
    rw [fF hP.nd hp] at ho
    obtain ⟨o0, o1, ho0, _⟩ := hw p hp
    rw [ho0] at ho
    exact ⟨o0, ho0, .inl ⟨p, hp, rfl, ho⟩⟩
   ·rw [dg hid] at ho
    exact ⟨o, ho, .inr ⟨hid, rfl⟩⟩
 have cells1 : ∀ id o, V1.obj id = some o -> (∀ b j, (β' id).F b j -> M' b j /\ ¬ M0 b j) ∧
   ((id ∈ m.os.map (·.1) ∨ ∃ bs, Patch.bld id bs ∈ m.ws) ∨ (β' id = β id /\ (∀ bs, Patch.bld id bs ∉ m.ws) /\ ∃ o0, V0.obj id = some o0)) ∧
   ∀ b j, (β' id).F b j -> w.heap.size <= b ∨ to β dom m b j ∨ ((β id).F b j /\ ∃ o0, V0.obj id = some o0) := by
  intro id o ho
  rcases cases1 id o ho with ⟨hm, hid⟩ | ⟨hid, o0, ho0, hh⟩
  ·have hn := (hP.new _ hm).2
   refine ⟨fun b j hF => ⟨(hn b j hF).1, fun h0 => ?_⟩, .inl (.inl hid), fun b j hF => ?_⟩
   ·rcases (hn b j hF).2 with h | h
    ·have := hV.old b j (hV.sup b j h0); omega
    ·exact (hGM0 b j h).2 h0
   ·rcases (hn b j hF).2 with h | h
    ·exact .inl h
    ·exact .inr (.inl h)
  ·have plain : β' id = β id -> (∀ bs, Patch.bld id bs ∉ m.ws) -> (∀ b j, (β' id).F b j -> M' b j /\ ¬ M0 b j) ∧
     ((id ∈ m.os.map (·.1) ∨ ∃ bs, Patch.bld id bs ∈ m.ws) ∨ (β' id = β id /\ (∀ bs, Patch.bld id bs ∉ m.ws) /\ ∃ o0, V0.obj id = some o0)) ∧
     ∀ b j, (β' id).F b j -> w.heap.size <= b ∨ to β dom m b j ∨ ((β id).F b j /\ ∃ o0, V0.obj id = some o0) := by
    intro e hnb
    rw [e]
    exact ⟨fun b j hF => ⟨hMM id o0 ho0 hnb b j hF, (hV.own id o0 ho0 b j hF).2⟩, .inr ⟨rfl, hnb, o0, ho0⟩, fun b j hF => .inr (.inr ⟨hF, o0, ho0⟩)⟩
   rcases hh with ⟨p, hp, hpid, hpo⟩ | ⟨hnw, _⟩
   ·have hpr := hP.patch p hp
    cases p with
    | box i off cs => simp only [Patch.id] at hpid; subst hpid; exact plain hpr.1 (fun bs hb => by have := hone _ hp _ hb rfl; cases this)
    | buf i sz es => simp only [Patch.id] at hpid; subst hpid; exact plain hpr.1 (fun bs hb => by have := hone _ hp _ hb rfl; cases this)
    | bld i bs =>
     simp only [Patch.id] at hpid; subst hpid
     refine ⟨fun b j hF => ⟨(hpr.2 b j hF).1, fun h0 => ?_⟩, .inl (.inr ⟨bs, hp⟩), fun b j hF => ?_⟩
     ·rcases (hpr.2 b j hF).2 with h | h
      ·have := hV.old b j (hV.sup b j h0); omega
      ·exact (hGM0 b j h).2 h0
     ·rcases (hpr.2 b j hF).2 with h | h
      ·exact .inl h
      ·exact .inr (.inl h)
   ·exact plain (hP.keep id hid hnw) (fun bs hb => hnw (List.mem_map_of_mem (f := Patch.id) hb))
 refine ⟨fun b j h0 => ?_, hP.old, fun t => ?_, fun id o ho => ?_, fun id o ho => (cells1 id o ho).1, fun id id' o o' ho ho' hne b j hF hF' => ?_⟩
 ·rcases hP.kept b j (hV.sup b j h0) with h | h
  ·exact h
  ·exact absurd h0 (hGM0 b j h).2
 ·rw [h1, htm]
  split
  ·exact hP.val
  ·exact aL.mono hk _ _ (fun i hi => hsame i (hR.1 t i hi)) (hV.slots t)
 ·rcases cases1 id o ho with ⟨hm, hid⟩ | ⟨hid, o0, ho0, hh⟩
  ·exact (hP.new _ hm).1
  ·rcases hh with ⟨p, hp, hpid, hpo⟩ | ⟨hnw, rfl⟩
   ·have hpr := hP.patch p hp
    cases p with
    | box i off cs =>
     simp only [Patch.id] at hpid; subst hpid
     obtain ⟨hb, b0, p0, hbase, hcells⟩ := hpr
     cases o0 <;> simp only [Patch.on] at hpo <;> try (cases hpo; done)
     rename_i cs0
     split at hpo
     ·rename_i hle
      injection hpo with hpo; subst hpo
      rw [hb]
      obtain ⟨b1, o1, q1, q2, q3, q4⟩ := hV.objs _ _ ho0
      rw [hbase] at q1; injection q1 with q1; injection q1 with e1 e2; subst e1; subst e2
      refine ⟨b0, p0, hbase, by rw [cW _ _ _ hle]; exact q2, q3, fun j v hj => ?_⟩
      rw [ch _ _ _ hle] at hj
      split at hj
      ·rename_i hr
       obtain ⟨cc, k1, k2, k3, k4⟩ := hcells _ v hj
       rw [show p0 + off + (j - off) = p0 + j by omega] at k1 k2
       exact ⟨cc, k1, k2, k3, k4⟩
      ·rename_i hr
       obtain ⟨cc, k1, k2, k3, k4⟩ := q4 j v hj
       have hlt := (List.getElem?_eq_some_iff.1 hj).1
       have kk := hfr i _ ho0 b0 (p0 + j) cc (.inl ⟨p0, hbase, by omega, by omega⟩) k1 (fun p' hp' he ht => by
        have : p' = .box i off cs := hone _ hp' _ hp he
        subst this
        obtain ⟨o', t1, t2, t3⟩ := ht
        rw [hbase] at t1; injection t1 with t1; injection t1 with _ t1; subst t1
        exact hr ⟨by omega, by omega⟩)
       exact ⟨cc, kk.1, kk.2.trans k2, k3, aL.mono hk _ _ (fun i' hi' => hsame i' ((hR.2 _ _ ho0).2 i' (by simp only [Obj.refs]; exact bj.2 ⟨v, List.mem_of_getElem? hj, hi'⟩))) k4⟩
     ·exact absurd hpo (by simp)
    | buf i sz es =>
     simp only [Patch.id] at hpid; subst hpid
     cases o0 <;> simp only [Patch.on] at hpo <;> try (cases hpo; done)
     split at hpo
     ·injection hpo with hpo; subst hpo
      exact hpr.2
     ·exact absurd hpo (by simp)
    | bld i bs =>
     simp only [Patch.id] at hpid; subst hpid
     cases o0 <;> simp only [Patch.on] at hpo <;> try (cases hpo; done)
     injection hpo with hpo; subst hpo
     exact hpr.1
   ·have e := hP.keep id hid hnw
    rw [e]
    refine cJ.mono hk (fun b j v hF hv => hfr id _ ho0 b j v hF hv (fun p hp he _ => hnw (he ▸ List.mem_map_of_mem (f := Patch.id) hp))) hP.fr.shape (fun g hg hF => hP.fr.block g hg (fun j v hv => hout id _ ho0 g j (hF j v hv) (fun p hp he _ => hnw (he ▸ List.mem_map_of_mem (f := Patch.id) hp)))) (fun b hb => hP.fr.unm hb) (fun i hi => hsame i ((hR.2 _ _ ho0).2 i hi)) (hV.objs id _ ho0)
 ·obtain ⟨a1, a2, a3⟩ := cells1 id o ho
  obtain ⟨b1, b2, b3⟩ := cells1 id' o' ho'
  have apart : ∀ {x y : Nat}, (β' x = β x /\ (∀ bs, Patch.bld x bs ∉ m.ws) /\ ∃ o0, V0.obj x = some o0) -> (β' x).F b j -> x ≠ y →
    (w.heap.size <= b ∨ to β dom m b j ∨ ((β y).F b j /\ ∃ o0, V0.obj y = some o0)) -> False := by
   rintro x y ⟨e, hnb, o0, ho0⟩ hx hxy hy
   rw [e] at hx
   rcases hy with h | h | ⟨h, o1, ho1⟩
   ·have := hV.old b j (hV.own x o0 ho0 b j hx).1; omega
   ·exact hGd x o0 ho0 hnb b j hx h
   ·exact hV.disj x y o0 o1 ho0 ho1 hxy b j hx h
  rcases a2 with a2 | a2
  ·rcases b2 with b2 | b2
   ·exact hP.disj id id' a2 b2 hne b j hF hF'
   ·exact apart b2 hF' (fun e => hne e.symm) (a3 b j hF)
  ·exact apart a2 hF hne (b3 b j hF')
end Go.Proofs.YtcoikmicjbppmaaGreat.Vm
namespace Go.Proofs.YtcoikmicjbppmaaGreat.Vm
open Go
set_option linter.unusedVariables false
set_option linter.unusedSimpArgs false
def fZ (R : Nat -> Prop) (m : Made) : Prop :=
 (∀ i ∈ m.v.refs, R i ∨ i ∈ m.os.map (·.1)) /\ (∀ p ∈ m.os, ∀ i ∈ p.2.refs, R i ∨ i ∈ m.os.map (·.1)) /\ ∀ id off cells, Patch.box id off cells ∈ m.ws -> ∀ i ∈ AV.refsL cells, R i ∨ i ∈ m.os.map (·.1)
def DC (P : Program) (ρ : Operand -> Value) (o : Op) (w : World) (c : Value) (w' : World) : Prop :=
 ∀ oo : Oper, oo.op = o -> (execOp ρ oo).run P w = .ok (.value c) w' ∨ (c = undef /\ (execOp ρ oo).run P w = .ok .skip w')
theorem dG.does {P : Program} {ρ : Operand -> Value} {o : Op} {w : World} {c : Value} {w' : World} (h : dG P ρ o w c w') : DC P ρ o w c w' := fun oo ho => .inl (h oo ho)
def Gk (P : Program) (ρ : Operand -> Value) (o : Op) (w : World) (M : ay) (β : Nat -> Loc) (dom : Nat -> Prop) (R : Nat -> Prop) (m : Made) : Prop :=
 ∃ c w' M' β', DC P ρ o w c w' /\ Post M β w dom m M' β' w' c /\ fZ R m
theorem eD.wok {P : Program} {ρ : Operand -> Value} {o : Op} {w : World} {M : ay} {β : Nat -> Loc} {R : Nat -> Prop} {v : AV} {os : List (Nat × Obj)} {dom : Nat -> Prop} (h : eD P ρ o w M β R v os) : Gk P ρ o w M β dom R (.only v os) := by
 obtain ⟨c, w', M', β', h1, h2, h3, h4, h5, h6⟩ := h
 refine ⟨c, w', M', β', h1.does, ⟨fun id hid => Loc.same_of (h2.keep id hid), fun id hid _ => h2.keep id hid, fun b j hm => .inl ((h2.grow b j).2 (.inl hm)), fun b j hm => ?_, h4, fun p hp => ⟨h2.objs p hp, fun b j hF => ?_⟩, by simp [Made.only], by simp [Made.only], fun id id' hi hi' hne => ?_, h2.fr.mono (fun _ _ h => h.elim), h3⟩, h5, h6, by simp [Made.only]⟩
 ·rcases (h2.grow b j).1 hm with h | ⟨id, hid, hF⟩
  ·exact .inl h
  ·exact .inr (h2.fresh id hid b j hF).1
 ·have hid : p.1 ∈ os.map (·.1) := List.mem_map_of_mem (f := (·.1)) hp
  exact ⟨(h2.grow b j).2 (.inr ⟨_, hid, hF⟩), .inl (h2.fresh _ hid b j hF).1⟩
 ·rcases hi with hi | ⟨_, hi⟩
  ·rcases hi' with hi' | ⟨_, hi'⟩
   ·exact h2.disj id hi id' hi' hne
   ·simp [Made.only] at hi'
  ·simp [Made.only] at hi
section ops
variable {P : Program} {M0 M : ay} {β : Nat -> Loc} {V : View} {a : Act} {w : World} {R : Nat -> Prop} {dom : Nat -> Prop}
theorem cL {w : World} {b : Nat} {vs : List Value} {o x y : Nat} (h : x = b -> y < o ∨ o + vs.length <= y) : at_ (w.setCells b o vs) x y = at_ w x y :=
 World.cell?_setCells_out b vs o w ⟨x, y, none⟩ (fun e _ => h e)
theorem dL {w : World} {b : Nat} {vs : List Value} {o : Nat} (h : ∀ j, j < vs.length -> ∃ c, at_ w b (o + j) = some c) {j : Nat} {v : Value} (hv : vs[j]? = some v) : at_ (w.setCells b o vs) b (o + j) = some v := by
 obtain ⟨hj, hv⟩ := List.getElem?_eq_some_iff.1 hv
 have := World.cell?_setCells_in b vs o w (fun j hj => by obtain ⟨c, hc⟩ := h j hj; exact Option.isSome_iff_exists.2 ⟨c, hc⟩) j hj
 rw [hv] at this; exact this
theorem cV {w : World} {b : Nat} {vs : List Value} {o x y : Nat} : cK (w.setCells b o vs) x y = cK w x y := World.frozen?_setCells b vs o w ⟨x, y, none⟩
theorem Fr.setCells {D : ay} (b : Nat) : ∀ (vs : List Value) (o : Nat) (w : World), (∀ j, j < vs.length -> D b (o + j)) -> Fr D w (w.setCells b o vs)
 | [], o, w, _ => Fr.refl D w
 | v :: vs, o, w, h => by
  have h1 := Fr.setCell w (h 0 (by simp)) v
  have h2 := Fr.setCells b vs (o + 1) (w.setCell ⟨b, o, none⟩ v) (fun j hj => by
   have := h (j + 1) (by simp; omega)
   rwa [show o + 1 + j = o + (j + 1) by omega])
  exact h1.trans h2 (fun _ _ h => h) (fun _ _ h => .inl h)
theorem eh (b : Nat) : ∀ (vs : List Value) (o : Nat) (w : World), (w.setCells b o vs).heap.size = w.heap.size
 | [], o, w => rfl
 | v :: vs, o, w => by rw [World.setCells, eh b vs]; simp
theorem rU (hV : VR M0 M β V a.tmps w) {e u : TypeId} {y : Operand} {l : LP} (hs : 0 < ar P e) (hl : jp P u V y = some l) (hr : cg (ar P e) l = true) :
  (P.underlying u = some .string ∨ ∃ e', P.underlying u = some (.slice e')) /\ ∃ news : List Value, news.length = l.length * ar P e /\ (∀ v ∈ news, v.oneCell' = true) /\ el w M (ar P e) l news ∧
   (∀ W, (Builtin.lenOf (a.eval y)).run P W = .ok l.length W) ∧
   ∀ W k, k <= l.length -> (∀ b j v, at_ w b j = some v -> at_ W b j = some v) -> (Builtin.firstCells (ar P e) k (a.eval y)).run P W = .ok (news.take (k * ar P e)).toArray W := by
 unfold jp at hl
 split at hl
 ·rename_i s hu hy
  injection hl with hl; subst hl
  have ey := aP hV hy
  simp only [aL, bp] at ey
  refine ⟨.inl hu, ?_⟩
  have hsz : ∀ b ∈ s, ar P e = 1 := fun b hb => by
   have := List.all_eq_true.1 hr [.int .u8 b.toNat] (List.mem_map_of_mem (f := fun b : UInt8 => [PV.int .u8 b.toNat]) hb)
   simp at this; omega
  have hba : (⟨s.toArray⟩ : ByteArray).size = s.length := by simp [ByteArray.size]
  have hlen : (yL s).length = s.length := by simp [yL]
  refine ⟨s.map fun b => Value.int .u8 b.toNat, ?_, fun v hv => ?_, ⟨?_, fun i c hi => ?_⟩, fun W => ?_, fun W k hk _ => ?_⟩
  ·cases s with
   | nil => simp [yL]
   | cons b s => rw [hsz b (by simp)]; simp [yL]
  ·obtain ⟨b, _, rfl⟩ := List.mem_map.1 hv; rfl
  ·cases s with
   | nil => simp [yL]
   | cons b s => rw [hsz b (by simp)]; simp [yL]
  ·rw [yL, List.getElem?_map] at hi
   cases hsi : s[i]? with
   | none => rw [hsi] at hi; simp at hi
   | some b =>
    rw [hsi] at hi; simp at hi; subst hi
    have h1 := hsz b (List.mem_of_getElem? hsi)
    refine ⟨by simp [h1], ?_⟩
    have : (((s.map fun b => Value.int .u8 b.toNat).drop (i * ar P e)).take (ar P e)) = [.int .u8 b.toNat] := by
     rw [h1]
     apply List.ext_getElem?
     intro j
     rw [List.getElem?_take]
     cases j with
     | zero => simp [hsi]
     | succ j => simp
    rw [this]
    simp only [RepS]
    exact ⟨_, _, rfl, rfl, by simp only [bp], rfl⟩
  ·rw [ey, hlen, <- hba]; rfl
  ·rw [ey]
   have hx := qh s 0 k
   simp only [Builtin.firstCells, hx, Sem.run_pure]
   congr 1
   apply Array.ext'
   cases s with
   | nil => simp
   | cons b s => rw [hsz b (by simp)]; simp
 ·rename_i e' v hu hy
  refine ⟨.inr ⟨_, hu⟩, ?_⟩
  obtain ⟨A, cap, sz, hc, hle, hnone, hspot, hrow⟩ := kO hV (aP hV hy) hl
  have hrow' : ∀ i e0, l[i]? = some e0 -> ∃ b o vs, A = some ⟨b, o, none⟩ /\ e0.length = ar P e /\ RepS w M e0 vs /\ ∀ j d, vs[j]? = some d -> at_ w b (o + i * ar P e + j) = some d := by
   intro i e0 he
   obtain ⟨b, o, vs, h1, h2, h3, h4⟩ := hrow i e0 he
   have : e0.length = ar P e := by simpa using List.all_eq_true.1 hr e0 (List.mem_of_getElem? he)
   have hsz : sz = ar P e := by rw [<- h2, this]
   subst hsz
   exact ⟨b, o, vs, h1, h2, h3, h4⟩
  obtain ⟨news, k1, k2, k3, k4⟩ := ln hs hrow'
  refine ⟨news, k1, k2, k3, fun W => by rw [hc]; rfl, fun W k hk hW => ?_⟩
  rw [hc]
  cases A with
  | none =>
   have : l = [] := by
    cases l with
    | nil => rfl
    | cons e0 l => obtain ⟨b, o, vs, hA, _⟩ := hrow 0 e0 rfl; simp at hA
   subst this
   have : news = [] := List.length_eq_zero_iff.1 (by simpa using k1)
   subst this
   simpa using run_firstCells_none W _ _ _ _
  | some pa =>
   by_cases hl0 : l = []
   ·subst hl0
    have : news = [] := List.length_eq_zero_iff.1 (by simpa using k1)
    subst this
    have hk0 : k = 0 := by simpa using hk
    subst hk0
    simpa using run_firstCells_some W _ 0 pa _ _ [] (by simp) (fun j v hj => by simp at hj)
   have := hspot pa rfl hl0
   obtain ⟨pb, po, ps⟩ := pa
   simp only at this; subst this
   refine run_firstCells_some W _ _ _ _ _ _ ?_ (fun j v hj => by
    rw [dx]
    rw [List.getElem?_take] at hj
    split at hj
    ·exact hW _ _ _ (k4 pb po rfl j v hj)
    ·exact absurd hj (by simp))
   have : k * ar P e <= l.length * ar P e := Nat.mul_le_mul_right _ hk
   simp only [List.length_take, k1]; omega
 ·exact absurd hl (by simp)
theorem fV {t u ty e : TypeId} {i : TypeInfo} (ht : P.underlying t = some (.slice e)) (hi : P.info? e = some i) (hu : P.underlying u = some .string ∨ ∃ e', P.underlying u = some (.slice e')) {y : Value} {m : Nat} {news : List Value}
  (hl : (Builtin.lenOf y).run P w = .ok m w) (hf : (Builtin.firstCells i.size m y).run P w = .ok news.toArray w) (h1 : ∀ v ∈ news, v.oneCell' = true)
  {b off n cap : Nat} (hroom : n + m <= cap) (hc : ∀ j, j < news.length -> (w.cell? ⟨b, off + n * i.size + j, none⟩).isSome = true) (hz : ∀ j, j < news.length -> w.frozen? ⟨b, off + n * i.size + j, none⟩ = false) :
  (Builtin.append_ #[t, u] ty #[.slice (some ⟨b, off, none⟩) n cap, y]).run P w = .ok (.slice (some ⟨b, off, none⟩) (n + m) cap) (w.setCells b (off + n * i.size) news) := by
 have hst := run_storeCells_cells (P := P) b (off + n * i.size) news 0 w (by simpa using hc) (by simpa using hz) h1
 simp only [Nat.add_zero] at hst
 rcases hu with hd | ⟨e', hd⟩ <;> simp [Builtin.append_, run_underlying ht, run_underlying hd, sizeOf, typeInfo, hi, hl, hroom, hf, dx, hst]
theorem qX {t u ty e : TypeId} {i : TypeInfo} (ht : P.underlying t = some (.slice e)) (hi : P.info? e = some i) (hu : P.underlying u = some .string ∨ ∃ e', P.underlying u = some (.slice e')) {y : Value}
  (hl : (Builtin.lenOf y).run P w = .ok 0 w) {news : Array Value} (hf : (Builtin.firstCells i.size 0 y).run P w = .ok news w) :
  (Builtin.append_ #[t, u] ty #[.slice none 0 0, y]).run P w = .ok (.slice none 0 0) w := by
 rcases hu with hd | ⟨e', hd⟩ <;> simp [Builtin.append_, run_underlying ht, run_underlying hd, sizeOf, typeInfo, hi, hl, hf]
theorem it {t u ty e : TypeId} {i : TypeInfo} {z : Value} (ht : P.underlying t = some (.slice e)) (hi : P.info? e = some i) (hz : i.zero = some z) (hu : P.underlying u = some .string ∨ ∃ e', P.underlying u = some (.slice e')) {x y : Value} {n m cap : Nat} {olds news : List Value}
  {A : Option Addr} (hx : x = .slice A n cap) (hl : (Builtin.lenOf y).run P w = .ok m w) (hfo : (Builtin.firstCells i.size n x).run P w.drew = .ok olds.toArray w.drew) (hf : (Builtin.firstCells i.size m y).run P w.drew = .ok news.toArray w.drew)
  (hroom : cap < n + m) (h63 : n + m <= 9223372036854775807) (hfit : (n + m) * i.bytes <= 140737488355328) :
  (Builtin.append_ #[t, u] ty #[x, y]).run P w = .ok (.slice (some ⟨w.heap.size, 0, none⟩) (n + m) (grownCap w (n + m) cap e)) (w.drew.alloc (.cells (olds.toArray ++ news.toArray ++ Builtin.zeroCells z.cells (grownCap w (n + m) cap e - (n + m))) e)) := by
 subst hx
 have hn : ¬ (n + m <= cap) := by omega
 have h63' : ¬ (9223372036854775807 < ((n : Int) + (m : Int))) := by omega
 have hfit' := growslice_fits hroom hfit
 have h48' : ¬ (281474976710656 < Builtin.nextslicecap (n + m) cap * i.bytes) := by omega
 rcases hu with hd | ⟨e', hd⟩ <;> simp [Builtin.append_, run_underlying ht, run_underlying hd, sizeOf, typeInfo, zeroValue, hi, hz, hl, hn, h63', h48', Question.forced, hf, hfo, newRow, grownCap]
 all_goals
  congr 2
  apply Array.ext'
  simp [List.append_assoc]
theorem jv {x y : Operand} {t u : TypeId} {ρ : Operand -> Value} {c : Value} {w' : World} (h : ∀ ty, (Builtin.append_ #[t, u] ty #[ρ x, ρ y]).run P w = .ok c w') :
  dG P ρ (.call { callee := .builtin .append, args := #[x, y], argTypes := #[t, u] }) w c w' :=
 fun oo ho => by simp [execOp, ho, resolve, invoke, Go.builtin, h]
theorem NewOK.post {m : Made} {M' : ay} {β' : Nat -> Loc} {w' : World} {c : Value} (h2 : NewOK M β w m.os M' β' w') (hws : m.ws = []) (h3 : aL β' w' M' m.v c) (h4 : ∀ b j, M' b j -> b < w'.heap.size) : Post M β w dom m M' β' w' c := by
 refine ⟨fun id hid => Loc.same_of (h2.keep id hid), fun id hid _ => h2.keep id hid, fun b j hm => .inl ((h2.grow b j).2 (.inl hm)), fun b j hm => ?_, h4, fun p hp => ⟨h2.objs p hp, fun b j hF => ?_⟩, by simp [hws], by simp [hws], fun id id' hi hi' hne => ?_, h2.fr.mono (fun _ _ h => h.elim), h3⟩
 ·rcases (h2.grow b j).1 hm with h | ⟨id, hid, hF⟩
  ·exact .inl h
  ·exact .inr (h2.fresh id hid b j hF).1
 ·have hid : p.1 ∈ m.os.map (·.1) := List.mem_map_of_mem (f := (·.1)) hp
  exact ⟨(h2.grow b j).2 (.inr ⟨_, hid, hF⟩), .inl (h2.fresh _ hid b j hF).1⟩
 ·rcases hi with hi | ⟨_, hi⟩
  ·rcases hi' with hi' | ⟨_, hi'⟩
   ·exact h2.disj id hi id' hi' hne
   ·simp [hws] at hi'
  ·simp [hws] at hi
theorem el.append {sz : Nat} {es l : LP} {olds news : List Value} (h : el w M sz es olds) (k : el w M sz l news) (ho : olds.length = es.length * sz) (rest : List Value) : el w M sz (es ++ l) (olds ++ news ++ rest) := by
 refine ⟨by have := k.1; simp [Nat.add_mul]; omega, fun i e he => ?_⟩
 rw [List.getElem?_append] at he
 split at he
 ·rename_i hi
  obtain ⟨h1, h2⟩ := h.2 i e he
  refine ⟨h1, ?_⟩
  have hle : (i + 1) * sz <= es.length * sz := Nat.mul_le_mul_right _ hi
  rw [Nat.add_mul] at hle
  have : ((olds ++ news ++ rest).drop (i * sz)).take sz = (olds.drop (i * sz)).take sz := by
   apply List.ext_getElem?
   intro j
   rw [List.getElem?_take, List.getElem?_take]
   split
   ·rename_i hj
    rw [List.getElem?_drop, List.getElem?_drop, List.append_assoc, List.getElem?_append_left (by omega)]
   ·rfl
  rw [this]; exact h2
 ·rename_i hi
  obtain ⟨h1, h2⟩ := k.2 _ e he
  refine ⟨h1, ?_⟩
  have hlt := (List.getElem?_eq_some_iff.1 he).1
  have hle : (i - es.length + 1) * sz <= l.length * sz := Nat.mul_le_mul_right _ hlt
  have hk1 := k.1
  rw [Nat.add_mul] at hle
  have hsub : i * sz = es.length * sz + (i - es.length) * sz := by rw [<- Nat.add_mul]; congr 1; omega
  have : ((olds ++ news ++ rest).drop (i * sz)).take sz = (news.drop ((i - es.length) * sz)).take sz := by
   apply List.ext_getElem?
   intro j
   rw [List.getElem?_take, List.getElem?_take]
   split
   ·rename_i hj
    rw [List.getElem?_drop, List.getElem?_drop, List.append_assoc, List.getElem?_append_right (by omega), List.getElem?_append_left (by omega)]
    congr 1; omega
   ·rfl
  rw [this]; exact h2
theorem HL (hV : VR M0 M β V a.tmps w) (hR : bI R V) (hdom : ∀ id o, V.obj id = some o -> dom id) {d : Nat} {o : Op} {v : AV} {os : List (Nat × Obj)} {id : Option Nat} (h : we P d o V = some (v, os, id)) : Gk P a.eval o w M β dom R ⟨v, os, [], id.toList, [], []⟩ := by
 unfold we at h
 split at h
 ·rename_i as ts
  split at h
  ·rename_i x y t u ha hts
   have hx' : as = #[x, y] := by apply Array.ext'; simpa using ha
   have ht' : ts = #[t, u] := by apply Array.ext'; simpa using hts
   subst hx'; subst ht'
   split at h
   ·rename_i e he
    obtain ⟨ht, hk, h0⟩ := eT he
    split at h
    ·rename_i es id' l hrow hb
     split at h
     ·rename_i hc
      obtain ⟨c1, c2, c3, c4⟩ := hc
      injection h with h; injection h with h1 h; injection h with h2 h3; subst h1; subst h2; subst h3
      obtain ⟨zs, hzs⟩ := Option.isSome_iff_exists.1 c4
      obtain ⟨i, z, hi, hz, hzc, hzl⟩ := ec hzs
      have hst : ar P e = i.size := by simp [ar, hi]
      have hbt : dM P e = i.bytes := by simp [dM, hi]
      obtain ⟨hu, news, n1, n2, n3, n4, n5'⟩ := rU hV h0 hb c3
      have n5 : ∀ W, (∀ b j v, at_ w b j = some v -> at_ W b j = some v) -> (Builtin.firstCells (ar P e) l.length (a.eval y)).run P W = .ok news.toArray W := fun W hW => by
       have := n5' W l.length (Nat.le_refl _) hW
       rwa [List.take_of_length_le (by omega)] at this
      have hrefs : ∀ m : Made, m = ⟨.own (aN d), [(aN d, .buf (ar P e) (es ++ l))], [], id'.toList, [], []⟩ -> fZ R m := by
       rintro m rfl
       exact ⟨fun i hi => by simp [AV.refs] at hi; subst hi; exact .inr (by simp), fun p hp i hi => by simp at hp; subst hp; simp [Obj.refs] at hi, by simp⟩
      have hxs : ∃ xv, V.eval x = some xv /\ gl V xv = some es /\ (xv = .nilSl /\ es = [] /\ id' = none ∨ ∃ i0, xv = .own i0 /\ id' = some i0 /\ V.obj i0 = some (.buf (ar P e) es)) := by
       unfold sR at hrow
       simp only at hrow
       split at hrow
       ·rename_i hx
        injection hrow with hrow; injection hrow with e1 e2
        exact ⟨_, hx, by simp [gl, <- e1], .inl ⟨rfl, e1.symm, e2.symm⟩⟩
       ·rename_i i0 hx
        split at hrow
        ·rename_i n0 es0 ho
         split at hrow
         ·rename_i hn
          injection hrow with hrow; injection hrow with e1 e2
          subst e1; subst hn
          exact ⟨_, hx, by simp [gl, ho], .inr ⟨i0, rfl, e2.symm, ho⟩⟩
         ·exact absurd hrow (by simp)
        ·exact absurd hrow (by simp)
       ·exact absurd hrow (by simp)
      obtain ⟨xv, hx, hxl, hkind⟩ := hxs
      obtain ⟨A, cap, sz, hxc, hle, hnone, hspot, hrows⟩ := kO hV (aP hV hx) hxl
      have hrows' : ∀ i e0, es[i]? = some e0 -> ∃ b o vs, A = some ⟨b, o, none⟩ /\ e0.length = ar P e /\ RepS w M e0 vs /\ ∀ j d, vs[j]? = some d -> at_ w b (o + i * ar P e + j) = some d := by
       intro k e0 hk0
       obtain ⟨b, o, vs, q1, q2, q3, q4⟩ := hrows k e0 hk0
       have hes : e0.length = ar P e := by
        rcases hkind with ⟨_, rfl, _⟩ | ⟨i0, _, _, ho⟩
        ·simp at hk0
        ·exact (hV.objs i0 _ ho).2.2.2.2.2.2.2.1 e0 (List.mem_of_getElem? hk0)
       have : sz = ar P e := by rw [<- q2, hes]
       subst this
       exact ⟨b, o, vs, q1, q2, q3, q4⟩
      obtain ⟨olds, o1, o2, o3, o4⟩ := ln h0 hrows'
      by_cases hroom : es.length + l.length <= cap
      ·
       cases hA : A with
       | none =>
        have hcap := hnone hA
        have he0 : es = [] := List.length_eq_zero_iff.1 (by omega)
        have hl0 : l = [] := List.length_eq_zero_iff.1 (by omega)
        subst he0; subst hl0
        have hf := n5 w (fun _ _ _ h => h)
        have hrun := fun ty => qX (P := P) (w := w) (ty := ty) ht hi hu (y := a.eval y) (n4 w) (by simpa [hst] using hf)
        rw [hA, hcap] at hxc
        let l0 : Loc := { base := none, len := 0, cap := 0, sz := ar P e, k := 0, ext := none }
        have hF : ∀ b j, ¬ l0.F b j := by
         rintro b j (⟨o, q1, _⟩ | ⟨n, q1, _⟩)
         ·simp [l0] at q1
         ·simp [l0] at q1
        let β' : Nat -> Loc := fun i => if i = aN d then l0 else β i
        have hβ : β' (aN d) = l0 := by simp [β']
        refine ⟨.slice none 0 0, w, M, β', (jv (fun ty => by rw [hxc]; exact hrun ty)).does, NewOK.post ⟨fun i hi => ?_, fun b j => ?_, fun i hi b j hb => ?_, fun p hp => ?_, fun i hi i' hi' hne => ?_, Fr.refl _ _⟩ rfl ?_ hV.old, hrefs _ rfl⟩
        ·simp at hi; simp [β', hi]
        ·simp [hβ, hF]
        ·simp at hi; subst hi; rw [hβ] at hb; exact absurd hb (hF b j)
        ·simp at hp; subst hp
         rw [hβ]
         exact ⟨rfl, h0, rfl, Nat.le_refl _, by simp [l0], ⟨rfl, fun b o hb => by simp [l0] at hb⟩, fun _ => rfl, by simp, fun b o hb => by simp [l0] at hb⟩
        ·simp at hi hi'; omega
        ·simp only [aL]; rw [hβ]; rfl
       | some pa =>
        have hsp : pa.spot = none := by
         rcases hkind with ⟨rfl, rfl, rfl⟩ | ⟨i0, rfl, rfl, ho⟩
         ·have ex := aP hV hx
          simp only [aL] at ex
          rw [hxc, hA] at ex; simp at ex
         ·have ex := aP hV hx
          simp only [aL, Loc.hdr] at ex
          cases hb0 : (β i0).base with
          | none => rw [hb0, hxc, hA] at ex; simp at ex
          | some bo =>
           obtain ⟨b0, o0⟩ := bo
           rw [hb0, hxc, hA] at ex; simp at ex; rw [ex.1]
        obtain ⟨b, o, ps⟩ := pa
        simp only at hsp; subst hsp
        rcases hkind with ⟨rfl, rfl, rfl⟩ | ⟨i0, rfl, rfl, ho⟩
        ·have ex := aP hV hx
         simp only [aL] at ex
         rw [hxc, hA] at ex; simp at ex
        ·obtain ⟨q1, q2, q3, q4, q5, q6, q7, q8, q9⟩ := hV.objs i0 _ ho
         have ex := aP hV hx
         simp only [aL, Loc.hdr] at ex
         cases hb0 : (β i0).base with
         | none => rw [hb0, hxc, hA] at ex; simp at ex
         | some bo =>
          obtain ⟨b1, p1⟩ := bo
          rw [hb0, hxc, hA] at ex
          simp only [Value.slice.injEq, Option.some.injEq, Addr.mk.injEq, and_true] at ex
          obtain ⟨⟨rfl, rfl⟩, e3, rfl⟩ := ex
          obtain ⟨r1, r2⟩ := q9 b o hb0
          have hin : ∀ j, j < news.length -> es.length * ar P e + j < (β i0).k := by
           intro j hj
           rw [q5]
           have : (es.length + l.length) * ar P e <= (β i0).cap * ar P e := Nat.mul_le_mul_right _ hroom
           rw [Nat.add_mul] at this; omega
          have hcell : ∀ j, j < news.length -> ∃ c, at_ w b (o + es.length * ar P e + j) = some c := by
           intro j hj
           have := (r1 _ (hin j hj)).1
           rwa [<- Nat.add_assoc] at this
          have hrun := fun ty => fV (P := P) (w := w) (ty := ty) ht hi hu (y := a.eval y) (n4 w) (by simpa [hst] using n5 w (fun _ _ _ h => h)) n2 (b := b) (off := o) (n := es.length) (cap := (β i0).cap) hroom
           (fun j hj => by rw [<- hst]; obtain ⟨c, hc⟩ := hcell j hj; exact Option.isSome_iff_exists.2 ⟨c, hc⟩)
           (fun j hj => by
            rw [<- hst]
            have := (r1 _ (hin j hj)).2
            rw [<- Nat.add_assoc] at this; exact this)
          let l0 : Loc := { β i0 with len := es.length + l.length }
          let β' : Nat -> Loc := fun i => if i = aN d then l0 else β i
          have hβ : β' (aN d) = l0 := by simp [β']
          have hF : ∀ x j, l0.F x j -> (β i0).F x j := fun x j h => h
          have hown := hV.own i0 _ ho
          let w' := w.setCells b (o + es.length * i.size) news
          have hD : ∀ j, j < news.length -> (β i0).F b (o + es.length * i.size + j) := fun j hj => by
           rw [<- hst]
           exact .inl ⟨o, hb0, by omega, by have := hin j hj; omega⟩
          have hfr : Fr (Dm β dom ⟨.own (aN d), [(aN d, .buf (ar P e) (es ++ l))], [], [i0], [], []⟩) w w' := Fr.setCells b news _ w (fun j hj => .inl ⟨i0, by simp, hdom i0 _ ho, hD j hj⟩)
          have hk : ∀ x y u, at_ w x y = some u -> ¬ M x y -> at_ w' x y = some u /\ ¬ M x y := fun x y u hu hm => by
           refine ⟨?_, hm⟩
           have : at_ w' x y = at_ w x y := cL (fun e1 => by
            subst e1
            rcases Nat.lt_or_ge y (o + es.length * i.size) with h | h
            ·exact .inl h
            ·rcases Nat.lt_or_ge y (o + es.length * i.size + news.length) with h' | h'
             ·have := hD (y - (o + es.length * i.size)) (by omega)
              rw [show o + es.length * i.size + (y - (o + es.length * i.size)) = y by omega] at this
              exact absurd (hown _ _ this).1 hm
             ·exact .inr h')
           rw [this]; exact hu
          refine ⟨_, w', M, β', (jv (fun ty => by rw [hxc, hA]; exact hrun ty)).does, ⟨fun j hj => Loc.same_of ?_, fun j hj _ => ?_, fun x j h => .inl h, fun x j h => .inl h, fun x j h => ?_, fun p hp => ?_, by simp, by simp, fun j j' hj hj' hne => ?_, hfr, ?_⟩, hrefs _ rfl⟩
          ·simp at hj; simp [β', hj]
          ·simp at hj; simp [β', hj]
          ·rw [eh]; exact hV.old x j h
          ·simp at hp; subst hp
           rw [hβ]
           refine ⟨⟨q1, h0, by simp [l0], hroom, q5, ⟨q6.1, fun b' o' hb' hz => hfr.unm (q6.2 b' o' hb' hz)⟩, fun hb => by simp [l0, hb0] at hb, fun e0 he0 => ?_, fun b' o' hb' => ?_⟩, fun x j hx => ⟨(hown x j (hF x j hx)).1, .inr (.inl ⟨i0, by simp, hdom i0 _ ho, hF x j hx⟩)⟩⟩
           ·rcases List.mem_append.1 he0 with he0 | he0
            ·exact q8 e0 he0
            ·simpa using List.all_eq_true.1 c3 e0 he0
           ·simp only [l0, hb0, Option.some.injEq, Prod.mk.injEq] at hb'
            obtain ⟨rfl, rfl⟩ := hb'
            refine ⟨fun j hj => ?_, fun k e0 hk0 => ?_⟩
            ·obtain ⟨⟨c, hc⟩, hz0⟩ := r1 j hj
             refine ⟨?_, by rw [cV]; exact hz0⟩
             by_cases hin' : o + es.length * i.size <= o + j /\ o + j < o + es.length * i.size + news.length
             ·have hlt : j - es.length * i.size < news.length := by omega
              refine ⟨news[j - es.length * i.size], ?_⟩
              have := dL (w := w) (b := b) (vs := news) (o := o + es.length * i.size) (fun j hj => by rw [<- hst]; exact hcell j hj) (List.getElem?_eq_getElem hlt)
              rwa [show o + es.length * i.size + (j - es.length * i.size) = o + j by omega] at this
             ·exact ⟨c, by rw [cL (fun _ => by omega)]; exact hc⟩
            ·rw [List.getElem?_append] at hk0
             split at hk0
             ·rename_i hlt
              obtain ⟨vs, s1, s2⟩ := r2 k e0 hk0
              refine ⟨vs, RepS.mono hk _ _ s1, fun j c hj => ?_⟩
              have hj' : j < ar P e := by
               have := (List.getElem?_eq_some_iff.1 hj).1
               rw [s1.length, q8 e0 (List.mem_of_getElem? hk0)] at this; exact this
              have : (k + 1) * ar P e <= es.length * ar P e := Nat.mul_le_mul_right _ hlt
              rw [Nat.add_mul] at this
              rw [cL (fun _ => .inl (by rw [<- hst]; omega))]
              exact s2 j c hj
             ·rename_i hge
              obtain ⟨s1, s2⟩ := n3.2 _ e0 hk0
              refine ⟨_, RepS.mono hk _ _ s2, fun j c hj => ?_⟩
              rw [List.getElem?_take] at hj
              split at hj
              ·rw [List.getElem?_drop] at hj
               have := dL (w := w) (b := b) (vs := news) (o := o + es.length * i.size) (fun j hj => by rw [<- hst]; exact hcell j hj) hj
               have hsub : k * ar P e = es.length * i.size + (k - es.length) * ar P e := by
                rw [<- hst, <- Nat.add_mul]; congr 1; omega
               rw [hsub, <- Nat.add_assoc o, Nat.add_assoc (o + es.length * i.size)]
               exact this
              ·exact absurd hj (by simp)
          ·rcases hj with hj | ⟨_, hj⟩
           ·rcases hj' with hj' | ⟨_, hj'⟩
            ·simp at hj hj'; omega
            ·simp at hj'
           ·simp at hj
          ·simp only [aL]; rw [hβ]; simp [Loc.hdr, l0, hb0]
      ·
       have hfo : (Builtin.firstCells i.size es.length (a.eval x)).run P w.drew = .ok olds.toArray w.drew := by
        rw [hxc]
        cases hA : A with
        | none =>
         have hcap := hnone hA
         have he0 : es = [] := List.length_eq_zero_iff.1 (by omega)
         subst he0
         have : olds = [] := List.length_eq_zero_iff.1 (by simpa using o1)
         subst this
         exact run_firstCells_none _ _ _ _ _
        | some pa =>
         have hsp : pa.spot = none := by
          rcases hkind with ⟨rfl, rfl, rfl⟩ | ⟨i0, rfl, rfl, ho⟩
          ·have ex := aP hV hx
           simp only [aL] at ex
           rw [hxc, hA] at ex; simp at ex
          ·have ex := aP hV hx
           simp only [aL, Loc.hdr] at ex
           cases hb0 : (β i0).base with
           | none => rw [hb0, hxc, hA] at ex; simp at ex
           | some bo =>
            obtain ⟨b0, o0⟩ := bo
            rw [hb0, hxc, hA] at ex; simp at ex; rw [ex.1]
         obtain ⟨b, o, ps⟩ := pa
         simp only at hsp; subst hsp
         exact run_firstCells_some w.drew _ _ _ _ _ _ (by rw [o1, hst]) (fun j u hj => by
          rw [dx]; exact o4 b o hA j u hj)
       have hfn : (Builtin.firstCells i.size l.length (a.eval y)).run P w.drew = .ok news.toArray w.drew := by
        have := n5 w.drew (fun _ _ _ h => h)
        simpa [hst] using this
       have hrun := fun ty => it (P := P) (w := w) (ty := ty) ht hi hz hu (x := a.eval x) (y := a.eval y) (n := es.length) (m := l.length) (cap := cap) hxc (n4 w) hfo hfn (by omega) (by unfold bz at c2; omega) (by rw [<- hbt]; exact c1)
       let cp := grownCap w (es.length + l.length) cap e
       have hcp : es.length + l.length <= cp := grownCap_ge _ _ _ _
       let vs : List Value := olds ++ news ++ (Builtin.zeroCells z.cells (cp - (es.length + l.length))).toList
       have hvs : (olds.toArray ++ news.toArray ++ Builtin.zeroCells z.cells (cp - (es.length + l.length))) = vs.toArray := by
        apply Array.ext'; simp [vs]
       have hzs' : z.cells.size = ar P e := by rw [<- hzl, <- hzc]; simp
       have hvl : vs.length = cp * ar P e := by
        simp only [vs, List.length_append, Array.length_toList, size_zeroCells, o1, n1, hzs', <- Nat.add_mul]
        congr 1; omega
       have hblk : (w.drew.alloc (.cells vs.toArray e)).heap[w.heap.size]? = some (.cells vs.toArray e (0, 0)) := heap_alloc_new w.drew _
       obtain ⟨β', M', m1, m2, m3⟩ := lY (id := aN d) (β := β) (cap := cp) (w' := w.drew.alloc (.cells vs.toArray e)) hV.old h0 (el.append o3 n3 o1 _) hvl (by simpa using hcp)
        (fun j => by have := cell_of_row (w.drew.alloc (.cells vs.toArray e)) w.heap.size j vs.toArray e (0, 0) hblk; exact this.trans (List.getElem?_toArray ..)) (fun j _ => by show World.frozen? _ _ = false; unfold World.frozen?; simp only [hblk]; simp) ((Fr.drew w _).trans (Fr.alloc w.drew ..) (fun _ _ h => h) (fun _ _ h => .inl h)) (by simp) (fun _ => fK w.drew _ _)
       refine ⟨_, _, M', β', (jv (fun ty => by rw [hrun ty, hvs])).does, NewOK.post m1 rfl ?_ (fun b j h => by simpa using m3 b j h), hrefs _ rfl⟩
       simp only [aL]
       rw [m2]; simp [cp]
     ·exact absurd h (by simp)
    ·exact absurd h (by simp)
   ·exact absurd h (by simp)
  ·exact absurd h (by simp)
 ·exact absurd h (by simp)
theorem qd {t : TypeId} {x y : Operand} {ρ : Operand -> Value} {b o : Nat} {vs : List Value} (ht : iU P t = true) (hx : ρ x = .pointer (some ⟨b, o, none⟩)) (hy : (ρ y).cells.toList = vs) (hl : vs.length = ar P t)
  (hc : ∀ j, j < vs.length -> ∃ c, at_ w b (o + j) = some c) (hz : ∀ j, j < vs.length -> cK w b (o + j) = false) (h1 : ∀ v ∈ vs, v.oneCell' = true) : DC P ρ (.store t x y) w undef (w.setCells b o vs) := by
 intro oo ho
 subst hy
 have hst := run_storeCells_cells (P := P) b o (ρ y).cells.toList 0 w (fun j hj => by obtain ⟨c, hc⟩ := hc j hj; exact Option.isSome_iff_exists.2 ⟨c, by simp only [Nat.add_zero]; exact hc⟩) (fun j hj => by simp only [Nat.add_zero]; exact hz j hj) h1
 simp only [Nat.add_zero] at hst
 have hsz : (ρ y).cells.size = ar P t := by rw [<- hl]; simp
 refine .inr ⟨rfl, ?_⟩
 simp [execOp, ho, hx, Instr.storeAt, Instr.sureAddr, storeVar, eL ht, hsz, hst]
theorem dD {b o : Nat} {vs : List Value} (hM : ∀ j, j < vs.length -> M b (o + j)) : ∀ x y u, at_ w x y = some u -> ¬ M x y -> at_ (w.setCells b o vs) x y = some u /\ ¬ M x y := fun x y u hu hm => by
 refine ⟨?_, hm⟩
 rw [cL (fun e1 => by
  subst e1
  rcases Nat.lt_or_ge y o with h | h
  ·exact .inl h
  ·rcases Nat.lt_or_ge y (o + vs.length) with h' | h'
   ·have := hM (y - o) (by omega)
    rw [show o + (y - o) = y by omega] at this
    exact absurd this hm
   ·exact .inr h')]
 exact hu
theorem Post.buf (hV : VR M0 M β V a.tmps w) (hdom : ∀ id o, V.obj id = some o -> dom id) {id sz : Nat} {es es' : LP} (ho : V.obj id = some (.buf sz es)) {b o p : Nat} (hb : (β id).base = some (b, o)) {news : List Value}
  (hp : p + news.length <= (β id).k) (hlen : es'.length = es.length) (hel : ∀ e ∈ es', e.length = sz)
  (hcells : ∀ k e, es'[k]? = some e -> ∃ vs, RepS w M e vs /\ ∀ j c, vs[j]? = some c -> if p <= k * sz + j /\ k * sz + j < p + news.length then news[k * sz + j - p]? = some c else at_ w b (o + k * sz + j) = some c)
  {v : AV} {c : Value} (hc : ∀ w', aL β w' M v c) : Post M β w dom ⟨v, [], [.buf id sz es'], [], [], []⟩ M β (w.setCells b (o + p) news) c := by
 obtain ⟨q1, q2, q3, q4, q5, q6, q7, q8, q9⟩ := hV.objs id _ ho
 obtain ⟨r1, r2⟩ := q9 b o hb
 have hF : ∀ j, j < news.length -> (β id).F b (o + p + j) := fun j hj => .inl ⟨o, hb, by omega, by omega⟩
 have hk := dD (w := w) (M := M) (vs := news) (b := b) (o := o + p) (fun j hj => (hV.own id _ ho _ _ (hF j hj)).1)
 have hcell : ∀ j, j < news.length -> ∃ c, at_ w b (o + p + j) = some c := fun j hj => by
  have := (r1 (p + j) (by omega)).1
  rwa [<- Nat.add_assoc] at this
 refine ⟨fun _ _ => Loc.same_of rfl, fun _ _ _ => rfl, fun _ _ h => .inl h, fun _ _ h => .inl h, fun x j h => by rw [eh]; exact hV.old x j h, by simp, fun q hq => ?_, by simp, fun i i' hi => by simp at hi, ?_, hc _⟩
 ·simp at hq; subst hq
  refine ⟨rfl, q1, q2, by rw [hlen]; exact q3, q4, q5, ⟨q6.1, fun b' o' hb' hz => (Fr.setCells (D := fun _ _ => True) b news _ w (fun _ _ => trivial)).unm (q6.2 b' o' hb' hz)⟩, q7, hel, fun b' o' hb' => ?_⟩
  rw [hb] at hb'; injection hb' with hb'; injection hb' with e1 e2; subst e1; subst e2
  refine ⟨fun j hj => ?_, fun k e he => ?_⟩
  ·obtain ⟨⟨c, hc⟩, hz0⟩ := r1 j hj
   refine ⟨?_, by rw [cV]; exact hz0⟩
   by_cases hin' : p <= j /\ j < p + news.length
   ·have hlt : j - p < news.length := by omega
    refine ⟨news[j - p], ?_⟩
    have := dL (w := w) (b := b) (vs := news) (o := o + p) hcell (List.getElem?_eq_getElem hlt)
    rwa [show o + p + (j - p) = o + j by omega] at this
   ·exact ⟨c, by rw [cL (fun _ => by omega)]; exact hc⟩
  ·obtain ⟨vs, s1, s2⟩ := hcells k e he
   refine ⟨vs, RepS.mono hk _ _ s1, fun j c hj => ?_⟩
   have := s2 j c hj
   split at this
   ·rename_i hin'
    have h2 := dL (w := w) (b := b) (vs := news) (o := o + p) hcell this
    rwa [show o + p + (k * sz + j - p) = o + k * sz + j by omega] at h2
   ·rw [cL (fun _ => by omega)]; exact this
 ·refine Fr.setCells b news _ w (fun j hj => .inr ⟨_, List.mem_singleton.2 rfl, hdom _ _ ho, ?_⟩)
  exact hF j hj
theorem RepS.setFrom {off : Nat} {l xs : List PV} {us vs : List Value} (h : RepS w M l us) (k : RepS w M xs vs) (hle : off + l.length <= xs.length) : RepS w M (setFrom off l xs) (setFrom off us vs) := by
 have e1 : Vm.setFrom off l xs = xs.take off ++ (l ++ xs.drop (off + l.length)) := by
  apply List.ext_getElem?
  intro j
  rw [ch _ _ _ hle, List.getElem?_append, List.getElem?_append, List.getElem?_take, List.getElem?_drop]
  simp only [List.length_take]
  have : min off xs.length = off := by omega
  rw [this]
  by_cases h1 : j < off
  ·rw [if_neg (by omega), if_pos h1, if_pos h1]
  ·by_cases h2 : j < off + l.length
   ·rw [if_pos ⟨by omega, h2⟩, if_neg h1, if_pos (by omega)]
   ·rw [if_neg (by omega), if_neg h1, if_neg (by omega)]; congr 1; omega
 have e2 : Vm.setFrom off us vs = vs.take off ++ (us ++ vs.drop (off + l.length)) := by
  have hul := h.length
  have hvl := k.length
  apply List.ext_getElem?
  intro j
  rw [ch _ _ _ (by omega), List.getElem?_append, List.getElem?_append, List.getElem?_take, List.getElem?_drop]
  simp only [List.length_take]
  have : min off vs.length = off := by omega
  rw [this]
  by_cases h1 : j < off
  ·rw [if_neg (by omega), if_pos h1, if_pos h1]
  ·by_cases h2 : j < off + us.length
   ·rw [if_pos ⟨by omega, h2⟩, if_neg h1, if_pos (by omega)]
   ·rw [if_neg (by omega), if_neg h1, if_neg (by omega)]; congr 1; omega
 rw [e1, e2]
 exact RepS.append (RepS.take _ k) (RepS.append h (RepS.drop _ k))
theorem uk (hV : VR M0 M β V a.tmps w) (hR : bI R V) (hdom : ∀ id o, V.obj id = some o -> dom id) {t : TypeId} {x y : Operand} {m : Made} (h : rJ P (.store t x y) V = some m) : Gk P a.eval (.store t x y) w M β dom R m := by
 simp only [rJ] at h
 split at h
 ·rename_i id i off v hx hy
  split at h
  ·rename_i hc
   obtain ⟨ht, hfit, hl⟩ := hc
   have ex := aP hV hx
   simp only [aL] at ex
   obtain ⟨b, o, hb, hxc⟩ := ex
   have hlv := lh (aP hV hy) hfit
   have hvl : (a.eval y).cells.toList.length = ar P t := by rw [<- hlv.1]; exact hl
   have hone : ∀ u ∈ (a.eval y).cells.toList, u.oneCell' = true := fun u hu => by
    obtain ⟨j, hj⟩ := List.mem_iff_getElem?.1 hu
    have hlt : j < (cF v).length := by rw [hlv.1]; exact (List.getElem?_eq_some_iff.1 hj).1
    exact (hlv.2 j _ u (List.getElem?_eq_getElem hlt) hj).1
   split at h
   ·rename_i cs ho
    split at h
    ·rename_i hco
     obtain ⟨rfl, hle⟩ := hco
     injection h with h; subst h
     rw [Nat.zero_mul, Nat.add_zero] at hxc
     obtain ⟨b', o', q1, q2, q3, q4⟩ := hV.objs id _ ho
     rw [hb] at q1; injection q1 with q1; injection q1 with e1 e2; subst e1; subst e2
     have hF : ∀ j, j < (a.eval y).cells.toList.length -> (β id).F b (o + off + j) := fun j hj => .inl ⟨o, hb, by omega, by omega⟩
     have hcell : ∀ j, j < (a.eval y).cells.toList.length -> ∃ c, at_ w b (o + off + j) = some c /\ cK w b (o + off + j) = false := fun j hj => by
      have hlt : off + j < cs.length := by omega
      obtain ⟨c, k1, k2, _, _⟩ := q4 (off + j) _ (List.getElem?_eq_getElem hlt)
      rw [<- Nat.add_assoc] at k1 k2
      exact ⟨c, k1, k2⟩
     have hk := dD (w := w) (M := M) (vs := (a.eval y).cells.toList) (b := b) (o := o + off) (fun j hj => (hV.own id _ ho _ _ (hF j hj)).1)
     refine ⟨undef, _, M, β, qd ht hxc rfl hvl (fun j hj => (hcell j hj).imp fun _ h => h.1) (fun j hj => (hcell j hj).elim fun _ h => h.2) hone,
      ⟨fun _ _ => Loc.same_of rfl, fun _ _ _ => rfl, fun _ _ h => .inl h, fun _ _ h => .inl h, fun x j h => by rw [eh]; exact hV.old x j h, by simp, fun q hq => ?_, by simp, fun i i' hi => by simp at hi, ?_, ?_⟩, ?_, by simp, ?_⟩
     ·simp at hq; subst hq
      refine ⟨rfl, b, o, hb, fun j u hj => ?_⟩
      have hlt : j < (a.eval y).cells.toList.length := by rw [<- hlv.1]; exact (List.getElem?_eq_some_iff.1 hj).1
      obtain ⟨s1, s2⟩ := hlv.2 j u _ hj (List.getElem?_eq_getElem hlt)
      refine ⟨_, dL (fun j hj => (hcell j hj).imp fun _ h => h.1) (List.getElem?_eq_getElem hlt), by rw [cV]; exact (hcell j hlt).elim fun _ h => h.2, s1, aL.mono hk _ _ (fun _ _ => Loc.same_of rfl) s2⟩
     ·refine Fr.setCells b _ _ w (fun j hj => .inr ⟨_, List.mem_singleton.2 rfl, hdom _ _ ho, ?_⟩)
      exact ⟨o, hb, by omega, by rw [hlv.1]; omega⟩
     ·simp only [aL]; exact ⟨#[], rfl, by simp only [AVRs]⟩
     ·simp [AV.refs, AV.refsL]
     ·intro i off' cells hm i' hi'
      simp at hm; obtain ⟨rfl, rfl, rfl⟩ := hm
      exact .inl (c6 hR hy i' (oL v i' hi'))
    ·exact absurd h (by simp)
   ·rename_i sz es ho
    split at h
    ·rename_i l c hpv hci
     split at h
     ·rename_i hle
      injection h with h; subst h
      obtain ⟨q1, q2, q3, q4, q5, q6, q7, q8, q9⟩ := hV.objs id _ ho
      obtain ⟨r1, r2⟩ := q9 b o hb
      have hrep := mc hlv hpv
      have hll : l.length = ar P t := by rw [<- hvl, hrep.length]
      have hcl : c.length = sz := q8 c (List.mem_of_getElem? hci)
      have hilt := (List.getElem?_eq_some_iff.1 hci).1
      have hik : (i + 1) * sz <= (β id).cap * sz := Nat.mul_le_mul_right _ (by omega)
      rw [Nat.add_mul] at hik
      rw [q1] at hxc
      have hcell : ∀ j, j < (a.eval y).cells.toList.length -> (∃ c, at_ w b (o + (i * sz + off) + j) = some c) /\ cK w b (o + (i * sz + off) + j) = false := fun j hj => by
       have := r1 (i * sz + off + j) (by omega)
       rwa [<- Nat.add_assoc] at this
      rw [Nat.add_assoc] at hxc
      refine ⟨undef, _, M, β, qd ht hxc rfl hvl (fun j hj => (hcell j hj).1) (fun j hj => (hcell j hj).2) hone, Post.buf hV hdom ho hb (by rw [hvl]; omega) (by simp) ?_ ?_ (fun w' => ?_), ?_, by simp, by simp⟩
      ·intro e he
       obtain ⟨k, hk⟩ := List.mem_iff_getElem?.1 he
       by_cases hik' : i = k
       ·subst hik'
        rw [List.getElem?_set_self hilt] at hk
        injection hk with hk; subst hk
        rw [cW _ _ _ (by omega)]; exact hcl
       ·rw [List.getElem?_set_ne hik'] at hk
        exact q8 e (List.mem_of_getElem? hk)
      ·intro k e hk
       by_cases hik' : i = k
       ·subst hik'
        rw [List.getElem?_set_self hilt] at hk
        injection hk with hk; subst hk
        obtain ⟨vs, s1, s2⟩ := r2 i c hci
        refine ⟨_, RepS.setFrom hrep s1 (by omega), fun j u hj => ?_⟩
        have hvs := s1.length
        have hus := hrep.length
        rw [ch _ _ _ (by omega)] at hj
        split at hj
        ·rename_i hin'
         rw [if_pos ⟨by omega, by omega⟩]
         rw [<- hj]; congr 1; omega
        ·rw [if_neg (by omega)]
         exact s2 j u hj
       ·have hne := hik'
        rw [List.getElem?_set_ne hik'] at hk
        obtain ⟨vs, s1, s2⟩ := r2 k e hk
        refine ⟨vs, s1, fun j u hj => ?_⟩
        have hj' : j < sz := by
         have := (List.getElem?_eq_some_iff.1 hj).1
         rw [s1.length, q8 e (List.mem_of_getElem? hk)] at this; exact this
        rw [if_neg]
        ·exact s2 j u hj
        ·rintro ⟨h1, h2⟩
         rcases Nat.lt_or_gt_of_ne hne with hlt | hgt
         ·have : (i + 1) * sz <= k * sz := Nat.mul_le_mul_right _ hlt
          rw [Nat.add_mul] at this; omega
         ·have : (k + 1) * sz <= i * sz := Nat.mul_le_mul_right _ hgt
          rw [Nat.add_mul] at this; omega
      ·simp only [aL]; exact ⟨#[], rfl, by simp only [AVRs]⟩
      ·simp [AV.refs, AV.refsL]
     ·exact absurd h (by simp)
    ·exact absurd h (by simp)
   ·exact absurd h (by simp)
  ·exact absurd h (by simp)
 ·exact absurd h (by simp)
theorem Ch (hV : VR M0 M β V a.tmps w) {xv : AV} {c : Value} {sz id lo m : Nat} {es : LP} (hc : aL β w M xv c) (h : nf sz V xv = some (id, lo, m, es)) :
  V.obj id = some (.buf sz es) /\ lo + m <= es.length /\ ∃ A cap, c = .slice A m cap /\ (0 < m -> ∃ b o, (β id).base = some (b, o) /\ A = some ⟨b, o + lo * sz, none⟩) /\ (∀ p, A = some p -> p.spot = none) := by
 unfold nf at h
 split at h
 ·rename_i i
  split at h
  ·rename_i n es' ho
   split at h
   ·rename_i hn
    injection h with h; injection h with e1 h; injection h with e2 h; injection h with e3 e4
    subst e1; subst e2; subst e3; subst e4; subst hn
    obtain ⟨q1, q2, q3, q4, q5, q6, q7, q8, q9⟩ := hV.objs i _ ho
    simp only [aL, Loc.hdr] at hc
    refine ⟨ho, by omega, ?_⟩
    cases hb : (β i).base with
    | none =>
     rw [hb] at hc
     have := q7 hb
     have hl0 : es'.length = 0 := by omega
     exact ⟨none, 0, by rw [hc, hl0], fun h => by omega, fun p hp => by simp at hp⟩
    | some bo =>
     obtain ⟨b, o⟩ := bo
     rw [hb] at hc
     exact ⟨_, _, by rw [hc, q3], fun _ => ⟨b, o, rfl, by simp⟩, fun p hp => by injection hp with hp; subst hp; rfl⟩
   ·exact absurd h (by simp)
  ·exact absurd h (by simp)
 ·rename_i i l0 n
  split at h
  ·rename_i k es' ho
   split at h
   ·rename_i hn
    injection h with h; injection h with e1 h; injection h with e2 h; injection h with e3 e4
    subst e1; subst e2; subst e3; subst e4
    obtain ⟨hn1, hn2⟩ := hn
    subst hn1
    obtain ⟨q1, q2, q3, q4, q5, q6, q7, q8, q9⟩ := hV.objs i _ ho
    simp only [aL] at hc
    obtain ⟨A, cap, h1, h2, h3, h4, h5, h6⟩ := hc
    exact ⟨ho, hn2, A, cap, h1, fun hm => by rw [<- q1]; exact h6 hm, h4⟩
   ·exact absurd h (by simp)
  ·exact absurd h (by simp)
 ·exact absurd h (by simp)
theorem yV {x y : Operand} {t u e : TypeId} {ρ : Operand -> Value} {A : Option Addr} {m cap n : Nat} {news : List Value} {w' : World} (ht : P.underlying t = some (.slice e)) (he : iU P e = true) (hx : ρ x = .slice A m cap) (hl : (Builtin.lenOf (ρ y)).run P w = .ok n w)
  (hf : (Builtin.firstCells (ar P e) (min n m) (ρ y)).run P w = .ok news.toArray w) (hw : match A with | some p => (storeCells p news).run P w = .ok () w' | none => w' = w) :
  DC P ρ (.call { callee := .builtin .copy, args := #[x, y], argTypes := #[t, u] }) w (.int .i64 (min n m : Nat)) w' := by
 intro oo ho
 refine .inl ?_
 have hf' : (Builtin.firstCells (ar P e) (Nat.min n m) (ρ y)).run P w = .ok news.toArray w := hf
 cases A with
 | none =>
  simp only at hw; subst hw
  simp [execOp, ho, resolve, invoke, Go.builtin, Builtin.copy_, run_underlying ht, hx, hl, eL he, hf', goInt]
 | some p =>
  simp only at hw
  simp [execOp, ho, resolve, invoke, Go.builtin, Builtin.copy_, run_underlying ht, hx, hl, eL he, hf', hw, goInt]
theorem wg (hV : VR M0 M β V a.tmps w) (hR : bI R V) (hdom : ∀ id o, V.obj id = some o -> dom id) {as : Array Operand} {ts : Array TypeId} {m : Made} (h : rJ P (.call { callee := .builtin .copy, args := as, argTypes := ts }) V = some m) :
  Gk P a.eval (.call { callee := .builtin .copy, args := as, argTypes := ts }) w M β dom R m := by
 simp only [rJ] at h
 split at h
 ·rename_i x y t u ha hts
  have hx' : as = #[x, y] := by apply Array.ext'; simpa using ha
  have ht' : ts = #[t, u] := by apply Array.ext'; simpa using hts
  subst hx'; subst ht'
  split at h
  ·rename_i e xv he hx
   obtain ⟨ht, hk, h0⟩ := eT he
   split at h
   ·rename_i id lo m0 es l hr hb
    split at h
    ·rename_i hrow
     injection h with h; subst h
     obtain ⟨ho, hle, A, cap, hxc, hpos, hspot⟩ := Ch hV (aP hV hx) hr
     obtain ⟨hu, news, n1, n2, n3, n4, n5⟩ := rU hV h0 hb hrow
     obtain ⟨q1, q2, q3, q4, q5, q6, q7, q8, q9⟩ := hV.objs id _ ho
     have hkl : min l.length m0 <= l.length := Nat.min_le_left _ _
     have hkm : min l.length m0 <= m0 := Nat.min_le_right _ _
     have hdo := fun (news' : List Value) (w' : World) => yV (P := P) (w := w) (x := x) (y := y) (t := t) (u := u) (ρ := a.eval) (A := A) (news := news') (w' := w') ht hk hxc (n4 w)
     generalize min l.length m0 = k at hkl hkm hdo ⊢
     have hf := n5 w k hkl (fun _ _ _ h => h)
     have hnl : (news.take (k * ar P e)).length = k * ar P e := by
      have : k * ar P e <= l.length * ar P e := Nat.mul_le_mul_right _ hkl
      simp only [List.length_take, n1]; omega
     have hrefs : ∀ es' : LP, fZ R ⟨i64 (k : Nat), [], [.buf id (ar P e) es'], [], [], []⟩ := fun es' => ⟨by simp [i64, AV.refs], by simp, by simp⟩
     by_cases hk0 : k = 0
     ·
      have hn0 : news.take (k * ar P e) = [] := List.length_eq_zero_iff.1 (by rw [hnl, hk0]; simp)
      have hes : es.take lo ++ (l.take k ++ es.drop (lo + k)) = es := by rw [hk0]; simp
      show Gk P a.eval _ w M β dom R ⟨i64 (k : Nat), [], [.buf id (ar P e) (es.take lo ++ (l.take k ++ es.drop (lo + k)))], [], [], []⟩
      rw [hes]
      refine ⟨_, w, M, β, hdo _ w hf (by rw [hn0]; cases A <;> simp [storeCells]), ?_, hrefs es⟩
      refine ⟨fun _ _ => Loc.same_of rfl, fun _ _ _ => rfl, fun _ _ h => .inl h, fun _ _ h => .inl h, hV.old, by simp, fun q hq => ?_, by simp, fun i i' hi => by simp at hi, Fr.refl _ _, by simp only [i64, aL, bp]⟩
      simp at hq; subst hq
      exact ⟨rfl, hV.objs id _ ho⟩
     ·have hm0 : 0 < m0 := by omega
      obtain ⟨b, o, hbase, hA⟩ := hpos hm0
      subst hA
      obtain ⟨r1, r2⟩ := q9 b o hbase
      have hcap : lo * ar P e + k * ar P e <= (β id).k := by
       rw [q5, <- Nat.add_mul]; exact Nat.mul_le_mul_right _ (by omega)
      have hst := run_storeCells_cells (P := P) b (o + lo * ar P e) (news.take (k * ar P e)) 0 w
       (fun j hj => by
        obtain ⟨c, hc⟩ := (r1 (lo * ar P e + j) (by omega)).1
        rw [<- Nat.add_assoc] at hc
        exact Option.isSome_iff_exists.2 ⟨c, by simp only [Nat.add_zero]; exact hc⟩)
       (fun j hj => by
        have hc := (r1 (lo * ar P e + j) (by omega)).2
        rw [<- Nat.add_assoc] at hc
        simp only [Nat.add_zero]; exact hc)
       (fun v hv => n2 v (List.mem_of_mem_take hv))
      simp only [Nat.add_zero] at hst
      refine ⟨_, _, M, β, hdo _ _ hf hst, Post.buf hV hdom ho hbase (by rw [hnl]; exact hcap) ?_ ?_ ?_ (fun w' => by simp only [i64, aL, bp]), hrefs _⟩
      ·simp; omega
      ·intro e0 he0
       rcases List.mem_append.1 he0 with he0 | he0
       ·exact q8 e0 (List.mem_of_mem_take he0)
       ·rcases List.mem_append.1 he0 with he0 | he0
        ·simpa using List.all_eq_true.1 hrow e0 (List.mem_of_mem_take he0)
        ·exact q8 e0 (List.mem_of_mem_drop he0)
      ·intro i e0 hi
       have mono : ∀ x y : Nat, x <= y -> x * ar P e <= y * ar P e := fun x y h => Nat.mul_le_mul_right _ h
       have old : es[i]? = some e0 -> (i < lo ∨ lo + k <= i) -> ∃ vs, RepS w M e0 vs /\ ∀ j c, vs[j]? = some c -> if lo * ar P e <= i * ar P e + j /\ i * ar P e + j < lo * ar P e + (news.take (k * ar P e)).length then (news.take (k * ar P e))[i * ar P e + j - lo * ar P e]? = some c else at_ w b (o + i * ar P e + j) = some c := by
        intro hi hio
        obtain ⟨vs, s1, s2⟩ := r2 i e0 hi
        refine ⟨vs, s1, fun j u hj => ?_⟩
        have hj' : j < ar P e := by
         have := (List.getElem?_eq_some_iff.1 hj).1
         rw [s1.length, q8 e0 (List.mem_of_getElem? hi)] at this; exact this
        rw [if_neg]
        ·exact s2 j u hj
        ·rw [hnl, <- Nat.add_mul]
         rintro ⟨h1, h2⟩
         rcases hio with hio | hio
         ·have := mono (i + 1) lo hio; rw [Nat.add_mul] at this; omega
         ·have := mono (lo + k) i hio; omega
       have hlo : (es.take lo).length = lo := by simp; omega
       have hlk : (l.take k).length = k := by simp; omega
       rw [List.getElem?_append] at hi
       split at hi
       ·rename_i hlt
        rw [List.getElem?_take] at hi
        split at hi
        ·exact old hi (.inl (by omega))
        ·exact absurd hi (by simp)
       ·rename_i hge
        rw [List.getElem?_append, hlo] at hi
        split at hi
        ·rename_i hlt
         rw [List.getElem?_take] at hi
         split at hi
         ·rename_i hik
          obtain ⟨s1, s2⟩ := n3.2 (i - lo) e0 hi
          refine ⟨_, s2, fun j u hj => ?_⟩
          have hj' : j < ar P e := by
           have := (List.getElem?_eq_some_iff.1 hj).1
           rw [s2.length, s1] at this; exact this
          have hsub : i * ar P e = lo * ar P e + (i - lo) * ar P e := by rw [<- Nat.add_mul]; congr 1; omega
          have hup := mono (i - lo + 1) k (by omega)
          rw [Nat.add_mul] at hup
          rw [if_pos ⟨by omega, by rw [hnl]; omega⟩]
          rw [List.getElem?_take, if_pos hj', List.getElem?_drop] at hj
          rw [List.getElem?_take, if_pos (by omega), <- hj]
          congr 1; omega
         ·exact absurd hi (by simp)
        ·rename_i hge2
         rw [List.getElem?_drop, hlk] at hi
         have : lo + k + (i - lo - k) = i := by omega
         rw [this] at hi
         exact old hi (.inr (by omega))
    ·exact absurd h (by simp)
   ·exact absurd h (by simp)
  ·exact absurd h (by simp)
 ·exact absurd h (by simp)
theorem HN (hV : VR M0 M β V a.tmps w) (hR : bI R V) (hdom : ∀ id o, V.obj id = some o -> dom id) {o : Op} {m : Made} (h : rJ P o V = some m) : Gk P a.eval o w M β dom R m := by
 cases o
 case store t x y => exact uk hV hR hdom h
 case call c =>
  obtain ⟨callee, as, ts⟩ := c
  cases callee
  case builtin b =>
   cases b
   case copy => exact wg hV hR hdom h
   all_goals (simp only [rJ] at h; exact absurd h (by simp))
  all_goals (simp only [rJ] at h; exact absurd h (by simp))
 all_goals (simp only [rJ] at h; exact absurd h (by simp))
end ops
end Go.Proofs.YtcoikmicjbppmaaGreat.Vm
namespace Go.Proofs.YtcoikmicjbppmaaGreat.Vm
open Go
set_option linter.unusedVariables false
set_option linter.unusedSimpArgs false
inductive LT where
 | none
 | one (l : Loc)
 | bld (l : Loc)
 | box (l : Loc) (subs : List LT)
mutual
def LT.locs : LT -> List Loc
 | .none => []
 | .one l => [l]
 | .bld l => [l]
 | .box l subs => l :: LT.locsL subs
def LT.locsL : List LT -> List Loc
 | [] => []
 | t :: r => LT.locs t ++ LT.locsL r
end
mutual
def LT.loose : LT -> List Loc
 | .none => []
 | .one l => [l]
 | .bld l => [l]
 | .box _ subs => LT.looseL subs
def LT.looseL : List LT -> List Loc
 | [] => []
 | t :: r => LT.loose t ++ LT.looseL r
end
mutual
def LT.fixed : LT -> List Loc
 | .none => []
 | .one _ => []
 | .bld _ => []
 | .box l subs => l :: LT.fixedL subs
def LT.fixedL : List LT -> List Loc
 | [] => []
 | t :: r => LT.fixed t ++ LT.fixedL r
end
mutual
theorem LT.mem_locs : ∀ (t : LT) (l : Loc), l ∈ t.locs ↔ l ∈ t.loose ∨ l ∈ t.fixed
 | .none, l => by simp [LT.locs, LT.loose, LT.fixed]
 | .one _, l => by simp [LT.locs, LT.loose, LT.fixed]
 | .bld _, l => by simp [LT.locs, LT.loose, LT.fixed]
 | .box l0 subs, l => by
  simp only [LT.locs, LT.loose, LT.fixed, List.mem_cons, LT.mem_locsL subs l]
  constructor
  ·rintro (h | h | h)
   ·exact .inr (.inl h)
   ·exact .inl h
   ·exact .inr (.inr h)
  ·rintro (h | h | h)
   ·exact .inr (.inl h)
   ·exact .inl h
   ·exact .inr (.inr h)
theorem LT.mem_locsL : ∀ (ts : List LT) (l : Loc), l ∈ LT.locsL ts ↔ l ∈ LT.looseL ts ∨ l ∈ LT.fixedL ts
 | [], l => by simp [LT.locsL, LT.looseL, LT.fixedL]
 | t :: r, l => by
  simp only [LT.locsL, LT.looseL, LT.fixedL, List.mem_append, LT.mem_locs t l, LT.mem_locsL r l]
  constructor
  ·rintro ((h | h) | h | h)
   ·exact .inl (.inl h)
   ·exact .inr (.inl h)
   ·exact .inl (.inr h)
   ·exact .inr (.inr h)
  ·rintro ((h | h) | h | h)
   ·exact .inl (.inl h)
   ·exact .inr (.inl h)
   ·exact .inl (.inr h)
   ·exact .inr (.inr h)
end
mutual
def cY (w : World) (M : ay) : TV -> LT -> Value -> Prop
 | .pv x, t, c => t = .none /\ bp w M x c
 | .own sz es, t, c => ∃ l, t = .one l /\ c = l.hdr /\ cJ (fun _ => l) w M l (.buf sz es)
 | .bld bs, t, c => ∃ l b o, t = .bld l /\ l.base = some (b, o) /\ c = .pointer (some ⟨b, o, none⟩) /\ tn w l bs
 | .ptr cells, t, c => ∃ l subs b o, t = .box l subs /\ l.base = some (b, o) /\ l.k = cells.length /\ l.ext = none /\ c = .pointer (some ⟨b, o, none⟩) /\ TVLs w M cells subs b o
def TVLs (w : World) (M : ay) : List TV -> List LT -> Nat -> Nat -> Prop
 | [], ts, _, _ => ts = []
 | v :: vs, ts, b, o => ∃ t r c, ts = t :: r /\ at_ w b o = some c /\ cK w b o = false /\ c.oneCell' = true /\ cY w M v t c /\ TVLs w M vs r b (o + 1)
end
mutual
def asg (g : Nat -> Nat -> Nat) (id : Nat) : LT -> List (Nat × Loc)
 | .none => []
 | .one l => [(id, l)]
 | .bld l => [(id, l)]
 | .box l subs => (id, l) :: asgs g id 0 subs
def asgs (g : Nat -> Nat -> Nat) (id j : Nat) : List LT -> List (Nat × Loc)
 | [] => []
 | t :: r => asg g (g id j) t ++ asgs g id (j + 1) r
end
mutual
theorem pX (g : Nat -> Nat -> Nat) : ∀ (id : Nat) (t : LT), (asg g id t).map (·.2) = t.locs
 | _, .none => rfl
 | _, .one l => rfl
 | _, .bld l => rfl
 | id, .box l subs => by simp only [asg, List.map_cons, LT.locs, asgs_locs g id 0 subs]
theorem asgs_locs (g : Nat -> Nat -> Nat) : ∀ (id j : Nat) (ts : List LT), (asgs g id j ts).map (·.2) = LT.locsL ts
 | _, _, [] => rfl
 | id, j, t :: r => by simp only [asgs, List.map_append, LT.locsL, pX g (g id j) t, asgs_locs g id (j + 1) r]
end
section
variable {w : World} {M : ay}
mutual
theorem fG (g : Nat -> Nat -> Nat) : ∀ (v : TV) (id : Nat) (t : LT) (c : Value), cY w M v t c -> (bV g id v).2.map (·.1) = (asg g id t).map (·.1)
 | .pv x, id, t, c, h => by simp only [cY] at h; rw [h.1]; rfl
 | .own sz es, id, t, c, h => by simp only [cY] at h; obtain ⟨l, rfl, _⟩ := h; rfl
 | .bld bs, id, t, c, h => by simp only [cY] at h; obtain ⟨l, _, _, rfl, _⟩ := h; rfl
 | .ptr cells, id, t, c, h => by
  simp only [cY] at h
  obtain ⟨l, subs, b, o, rfl, _, _, _, _, h⟩ := h
  simp only [bV, asg, List.map_cons, places_ids g cells id 0 subs b o h]
theorem places_ids (g : Nat -> Nat -> Nat) : ∀ (vs : List TV) (id j : Nat) (ts : List LT) (b o : Nat), TVLs w M vs ts b o -> (places g id j vs).2.map (·.1) = (asgs g id j ts).map (·.1)
 | [], id, j, ts, b, o, h => by simp only [TVLs] at h; subst h; rfl
 | v :: vs, id, j, ts, b, o, h => by
  simp only [TVLs] at h
  obtain ⟨t, r, c, rfl, _, _, _, h1, h2⟩ := h
  simp only [places, asgs, List.map_append, fG g v (g id j) t c h1, places_ids g vs id (j + 1) r b (o + 1) h2]
end
mutual
theorem mb (g : Nat -> Nat -> Nat) : ∀ (v : TV) (id : Nat), (∀ i ∈ (bV g id v).1.refs, i ∈ (bV g id v).2.map (·.1)) /\ ∀ p ∈ (bV g id v).2, ∀ i ∈ p.2.refs, i ∈ (bV g id v).2.map (·.1)
 | .pv x, id => by simp [bV, AV.refs]
 | .own sz es, id => by simp [bV, AV.refs, Obj.refs]
 | .bld bs, id => by simp [bV, AV.refs, Obj.refs]
 | .ptr cells, id => by
  obtain ⟨h1, h2⟩ := places_refs g cells id 0
  refine ⟨by simp [bV, AV.refs], fun p hp i hi => ?_⟩
  simp only [bV, List.mem_cons] at hp
  simp only [bV, List.map_cons, List.mem_cons]
  rcases hp with rfl | hp
  ·exact .inr (h1 i (by simpa only [Obj.refs] using hi))
  ·exact .inr (h2 p hp i hi)
theorem places_refs (g : Nat -> Nat -> Nat) : ∀ (vs : List TV) (id j : Nat), (∀ i ∈ AV.refsL (places g id j vs).1, i ∈ (places g id j vs).2.map (·.1)) /\ ∀ p ∈ (places g id j vs).2, ∀ i ∈ p.2.refs, i ∈ (places g id j vs).2.map (·.1)
 | [], id, j => by simp [places, AV.refsL]
 | v :: vs, id, j => by
  obtain ⟨h1, h2⟩ := mb g v (g id j)
  obtain ⟨h3, h4⟩ := places_refs g vs id (j + 1)
  refine ⟨fun i hi => ?_, fun p hp i hi => ?_⟩
  ·simp only [places, AV.refsL, List.mem_append] at hi
   simp only [places, List.map_append, List.mem_append]
   exact hi.imp (h1 i) (h3 i)
  ·simp only [places, List.mem_append] at hp
   simp only [places, List.map_append, List.mem_append]
   exact hp.imp (fun hp => h2 p hp i hi) (fun hp => h4 p hp i hi)
end
mutual
theorem mY {β : Nat -> Loc} (g : Nat -> Nat -> Nat) : ∀ (v : TV) (id : Nat) (t : LT) (c : Value), cY w M v t c -> (∀ p ∈ asg g id t, β p.1 = p.2) →
  aL β w M (bV g id v).1 c /\ ∀ p ∈ (bV g id v).2, cJ β w M (β p.1) p.2
 | .pv x, id, t, c, h, hb => by simp only [cY] at h; exact ⟨by simp only [bV, aL]; exact h.2, by simp [bV]⟩
 | .own sz es, id, t, c, h, hb => by
  simp only [cY] at h
  obtain ⟨l, rfl, h1, h2⟩ := h
  have e := hb (id, l) (by simp [asg])
  simp only at e
  refine ⟨by simp only [bV, aL]; rw [e]; exact h1, fun p hp => ?_⟩
  simp only [bV, List.mem_singleton] at hp; subst hp
  simp only; rw [e]; exact h2
 | .bld bs, id, t, c, h, hb => by
  simp only [cY] at h
  obtain ⟨l, b, o, rfl, h1, h2, h3⟩ := h
  have e := hb (id, l) (by simp [asg])
  simp only at e
  refine ⟨by simp only [bV, aL]; rw [e]; exact ⟨b, o, h1, by simpa using h2⟩, fun p hp => ?_⟩
  simp only [bV, List.mem_singleton] at hp; subst hp
  simp only; rw [e]; exact h3
 | .ptr cells, id, t, c, h, hb => by
  simp only [cY] at h
  obtain ⟨l, subs, b, o, rfl, h1, h2, h3, h4, h5⟩ := h
  have e := hb (id, l) (by simp [asg])
  simp only at e
  obtain ⟨k1, k2, k3⟩ := places_ok g cells id 0 subs b o h5 (fun p hp => hb p (by simp only [asg, List.mem_cons]; exact .inr hp))
  refine ⟨by simp only [bV, aL]; rw [e]; exact ⟨b, o, h1, by simpa using h4⟩, fun p hp => ?_⟩
  simp only [bV, List.mem_cons] at hp
  rcases hp with rfl | hp
  ·simp only; rw [e]
   exact ⟨b, o, h1, by rw [h2, k1], h3, k2⟩
  ·exact k3 p hp
theorem places_ok {β : Nat -> Loc} (g : Nat -> Nat -> Nat) : ∀ (vs : List TV) (id j : Nat) (ts : List LT) (b o : Nat), TVLs w M vs ts b o -> (∀ p ∈ asgs g id j ts, β p.1 = p.2) →
  (places g id j vs).1.length = vs.length /\ (∀ (k : Nat) (v : AV), (places g id j vs).1[k]? = some v -> ∃ c, at_ w b (o + k) = some c /\ cK w b (o + k) = false /\ c.oneCell' = true /\ aL β w M v c) ∧
  ∀ p ∈ (places g id j vs).2, cJ β w M (β p.1) p.2
 | [], id, j, ts, b, o, h, hb => by simp [places]
 | v :: vs, id, j, ts, b, o, h, hb => by
  simp only [TVLs] at h
  obtain ⟨t, r, c, rfl, a1, a2, a3, h1, h2⟩ := h
  obtain ⟨p1, p2⟩ := mY g v (g id j) t c h1 (fun p hp => hb p (by simp only [asgs, List.mem_append]; exact .inl hp))
  obtain ⟨q1, q2, q3⟩ := places_ok g vs id (j + 1) r b (o + 1) h2 (fun p hp => hb p (by simp only [asgs, List.mem_append]; exact .inr hp))
  refine ⟨by simp only [places, List.length_cons, q1], fun k x hx => ?_, fun p hp => ?_⟩
  ·cases k with
   | zero => simp only [places, List.getElem?_cons_zero, Option.some.injEq] at hx; subst hx; exact ⟨c, a1, a2, a3, p1⟩
   | succ k =>
    simp only [places, List.getElem?_cons_succ] at hx
    have := q2 k x hx
    rwa [show o + (k + 1) = o + 1 + k by omega]
  ·simp only [places, List.mem_append] at hp
   exact hp.elim (p2 p) (q3 p)
end
mutual
theorem cY.mono {w' : World} {M' : ay} (hs : w' = w) (hk : ∀ b o v, at_ w b o = some v -> ¬ M b o -> at_ w' b o = some v /\ ¬ M' b o) : ∀ (v : TV) (t : LT) (c : Value),
  (∀ l ∈ t.locs, ∀ b j u, l.F b j -> at_ w b j = some u -> at_ w' b j = some u /\ cK w' b j = cK w b j) -> cY w M v t c -> cY w' M' v t c
 | .pv x, t, c, hF, h => by simp only [cY] at h ⊢; exact ⟨h.1, bp.mono hk x c h.2⟩
 | .own sz es, t, c, hF, h => by
  simp only [cY] at h ⊢
  obtain ⟨l, rfl, h1, h2⟩ := h
  exact ⟨l, rfl, h1, cJ.mono hk (hF l (by simp [LT.locs])) (by subst hs; exact fun _ _ h => h) (by subst hs; exact fun _ _ _ => rfl) (by subst hs; exact fun _ h => h) (by simp [Obj.refs]) h2⟩
 | .bld bs, t, c, hF, h => by
  simp only [cY] at h ⊢
  obtain ⟨l, b, o, rfl, h1, h2, h3⟩ := h
  exact ⟨l, b, o, rfl, h1, h2, cJ.mono (β := fun _ => l) (β' := fun _ => l) (o := .bld bs) hk (hF l (by simp [LT.locs])) (by subst hs; exact fun _ _ h => h) (by subst hs; exact fun _ _ _ => rfl) (by subst hs; exact fun _ h => h) (by simp [Obj.refs]) h3⟩
 | .ptr cells, t, c, hF, h => by
  simp only [cY] at h ⊢
  obtain ⟨l, subs, b, o, rfl, h1, h2, h3, h4, h5⟩ := h
  refine ⟨l, subs, b, o, rfl, h1, h2, h3, h4, TVLs.mono hs hk cells subs b o (fun l' hl => hF l' (by simp only [LT.locs, List.mem_cons]; exact .inr hl)) (fun j hj u hu => ?_) h5⟩
  exact hF l (by simp [LT.locs]) b (o + j) u (.inl ⟨o, h1, by omega, by omega⟩) hu
theorem TVLs.mono {w' : World} {M' : ay} (hs : w' = w) (hk : ∀ b o v, at_ w b o = some v -> ¬ M b o -> at_ w' b o = some v /\ ¬ M' b o) : ∀ (vs : List TV) (ts : List LT) (b o : Nat),
  (∀ l ∈ LT.locsL ts, ∀ b j u, l.F b j -> at_ w b j = some u -> at_ w' b j = some u /\ cK w' b j = cK w b j) -> (∀ j, j < vs.length -> ∀ u, at_ w b (o + j) = some u -> at_ w' b (o + j) = some u /\ cK w' b (o + j) = cK w b (o + j)) →
  TVLs w M vs ts b o -> TVLs w' M' vs ts b o
 | [], ts, b, o, _, _, h => by simpa only [TVLs] using h
 | v :: vs, ts, b, o, hF, hc, h => by
  simp only [TVLs] at h ⊢
  obtain ⟨t, r, c, rfl, a1, a2, a3, h1, h2⟩ := h
  have k := hc 0 (by simp) c (by simpa using a1)
  simp only [Nat.add_zero] at k
  refine ⟨t, r, c, rfl, k.1, k.2.trans a2, a3, cY.mono hs hk v t c (fun l hl => hF l (by simp only [LT.locsL, List.mem_append]; exact .inl hl)) h1, TVLs.mono hs hk vs r b (o + 1) (fun l hl => hF l (by simp only [LT.locsL, List.mem_append]; exact .inr hl)) (fun j hj u hu => ?_) h2⟩
  have := hc (j + 1) (by simp; omega) u (by rwa [show o + (j + 1) = o + 1 + j by omega])
  rwa [show o + (j + 1) = o + 1 + j by omega] at this
end
end
end Go.Proofs.YtcoikmicjbppmaaGreat.Vm
namespace Go.Proofs.YtcoikmicjbppmaaGreat.Vm
open Go
set_option linter.unusedVariables false
set_option linter.unusedSimpArgs false
mutual
def eQ (β : Nat -> Loc) : Back -> LT -> Prop
 | .box i off bs, t => ∃ l subs b o, t = .box l subs /\ (β i).base = some (b, o) /\ l.base = some (b, o + off) /\ l.k = bs.length /\ off + bs.length <= (β i).k /\ l.ext = none /\ BackRs β bs subs
 | .own i, t => t = .one (β i)
 | .nilSl, t => ∃ l, t = .one l /\ l.base = none /\ l.ext = none
 | .bld i, t => t = .bld (β i) /\ (β i).k = 2
def BackRs (β : Nat -> Loc) : List (Option Back) -> List LT -> Prop
 | [], ts => ts = []
 | none :: bs, ts => ∃ t r, ts = t :: r /\ t.fixed = [] /\ BackRs β bs r
 | some x :: bs, ts => ∃ t r, ts = t :: r /\ eQ β x t /\ (∀ i off l, x = .box i off l -> off = 0) /\ BackRs β bs r
end
def iz : Option Back -> List Nat
 | none => []
 | some b => b.ids
theorem kZ (b : Option Back) (bs : List (Option Back)) : Back.idsO (b :: bs) = iz b ++ Back.idsO bs := by
 cases b <;> simp [Back.idsO, iz]
def bK (V : View) (β : Nat -> Loc) : List Loc -> List Nat -> Prop
 | [], js => js = []
 | l :: ls, js => ((∀ b j, ¬ l.F b j) /\ bK V β ls js) ∨ ∃ i r, js = i :: r /\ ((∃ o, V.obj i = some o) /\ ∀ b j, l.F b j -> (β i).F b j) /\ bK V β ls r
theorem bK.append {V : View} {β : Nat -> Loc} : ∀ {ls ls' : List Loc} {js js' : List Nat}, bK V β ls js -> bK V β ls' js' -> bK V β (ls ++ ls') (js ++ js')
 | [], ls', js, js', h, k => by simp only [bK] at h; subst h; exact k
 | l :: ls, ls', js, js', h, k => by
  simp only [bK] at h
  simp only [List.cons_append, bK]
  rcases h with ⟨h1, h2⟩ | ⟨i, r, rfl, h1, h2⟩
  ·exact .inl ⟨h1, bK.append h2 k⟩
  ·exact .inr ⟨i, r ++ js', rfl, h1, bK.append h2 k⟩
theorem bK.nil {V : View} {β : Nat -> Loc} : bK V β [] [] := by simp only [bK]
theorem bK.cons {V : View} {β : Nat -> Loc} {i : Nat} {l : Loc} {js : List Nat} {ls : List Loc} (h : (∃ o, V.obj i = some o) /\ ∀ b j, l.F b j -> (β i).F b j) (k : bK V β ls js) : bK V β (l :: ls) (i :: js) := by simp only [bK]; exact .inr ⟨i, js, rfl, h, k⟩
theorem bK.mem {V : View} {β : Nat -> Loc} : ∀ {ls : List Loc} {js : List Nat}, bK V β ls js -> ∀ l ∈ ls, ∀ b j, l.F b j -> ∃ i ∈ js, (∃ o, V.obj i = some o) /\ (β i).F b j
 | [], _, _, l, hl => by simp at hl
 | l0 :: ls, js, h, l, hl => by
  intro b j hF
  simp only [bK] at h
  rcases h with ⟨h1, h2⟩ | ⟨i, r, rfl, h1, h2⟩
  ·rcases List.mem_cons.1 hl with rfl | hl
   ·exact absurd hF (h1 b j)
   ·exact bK.mem h2 l hl b j hF
  ·rcases List.mem_cons.1 hl with rfl | hl
   ·exact ⟨i, by simp, h1.1, h1.2 b j hF⟩
   ·obtain ⟨i', k1, k2⟩ := bK.mem h2 l hl b j hF
    exact ⟨i', by simp [k1], k2⟩
theorem bK.ids {V : View} {β : Nat -> Loc} : ∀ {ls : List Loc} {js : List Nat}, bK V β ls js -> ∀ i ∈ js, ∃ o, V.obj i = some o
 | [], js, h, i, hi => by simp only [bK] at h; subst h; simp at hi
 | l0 :: ls, js, h, i', hi => by
  simp only [bK] at h
  rcases h with ⟨h1, h2⟩ | ⟨i, r, rfl, h1, h2⟩
  ·exact bK.ids h2 i' hi
  ·rcases List.mem_cons.1 hi with rfl | hi
   ·exact h1.1
   ·exact bK.ids h2 i' hi
theorem bK.pairwise {M0 M : ay} {V : View} {β : Nat -> Loc} {tm : Array Value} {w : World} (hV : VR M0 M β V tm w) : ∀ {ls : List Loc} {js : List Nat}, bK V β ls js -> js.Nodup -> ls.Pairwise (fun l l' => ∀ b j, l.F b j -> ¬ l'.F b j)
 | [], _, _, _ => List.Pairwise.nil
 | l0 :: ls, js, h, hn => by
  simp only [bK] at h
  rcases h with ⟨h1, h2⟩ | ⟨i, r, rfl, h1, h2⟩
  ·exact List.Pairwise.cons (fun l hl b j hF _ => h1 b j hF) (bK.pairwise hV h2 hn)
  ·rw [List.nodup_cons] at hn
   refine List.Pairwise.cons (fun l hl b j hF hF' => ?_) (bK.pairwise hV h2 hn.2)
   obtain ⟨i', k1, ⟨o', ho'⟩, k3⟩ := h2.mem l hl b j hF'
   obtain ⟨⟨o, ho⟩, k2⟩ := h1
   exact hV.disj i i' o o' ho ho' (fun e => hn.1 (e ▸ k1)) b j (k2 b j hF) k3
theorem sM (a b c d : List Nat) : ((a ++ b) ++ (c ++ d)).Perm ((a ++ c) ++ (b ++ d)) := by
 rw [List.append_assoc, List.append_assoc]
 refine List.Perm.append_left a ?_
 rw [<- List.append_assoc, <- List.append_assoc]
 exact List.Perm.append_right d List.perm_append_comm
section
variable {M0 M : ay} {β : Nat -> Loc} {V : View} {tm : Array Value} {w : World}
def ez : Option Back -> List Nat
 | none => []
 | some b => b.blds
theorem jq (b : Option Back) (bs : List (Option Back)) : Back.bldsO (b :: bs) = ez b ++ Back.bldsO bs := by
 cases b <;> simp [Back.bldsO, ez]
def eZ (V : View) (β : Nat -> Loc) (ls : List Loc) (ids blds : List Nat) : Prop :=
 ∀ l ∈ ls, ∀ b j, l.F b j -> (∃ i ∈ ids, (∃ o, V.obj i = some o) /\ (β i).F b j) ∨ ∃ i ∈ blds, (β i).F b j
theorem eZ.append {V : View} {β : Nat -> Loc} {ls ls' : List Loc} {a b a' b' : List Nat} (h : eZ V β ls a b) (k : eZ V β ls' a' b') : eZ V β (ls ++ ls') (a ++ a') (b ++ b') := by
 intro l hl x j hF
 rcases List.mem_append.1 hl with hl | hl
 ·rcases h l hl x j hF with ⟨i, h1, h2⟩ | ⟨i, h1, h2⟩
  ·exact .inl ⟨i, by simp [h1], h2⟩
  ·exact .inr ⟨i, by simp [h1], h2⟩
 ·rcases k l hl x j hF with ⟨i, h1, h2⟩ | ⟨i, h1, h2⟩
  ·exact .inl ⟨i, by simp [h1], h2⟩
  ·exact .inr ⟨i, by simp [h1], h2⟩
def tp (V : View) (β : Nat -> Loc) (w : World) (M : ay) (x : TV) (ids : List Nat) (ob : Option Back) (c : Value) : Prop :=
 ∃ t js, cY w M x t c /\ js.Perm (ids ++ iz ob) /\ bK V β t.locs js /\ (∀ b, ob = some b -> eQ β b t /\ ∀ i off l, b = .box i off l -> off = 0) /\ eZ V β t.loose ids (ez ob) /\ (ob = none -> t.fixed = [])
theorem qz (n : Nat) (hleaf : ∀ (v : AV) (c : Value) (x : TV) (ids : List Nat) (ob : Option Back), aL β w M v c -> gq V n v = some (x, ids, ob) -> tp V β w M x ids ob c) :
  ∀ (cs : List AV) (b o : Nat) (l : List TV) (ids : List Nat) (bs : List (Option Back)),
   (∀ (j : Nat) (v : AV), cs[j]? = some v -> ∃ c, at_ w b (o + j) = some c /\ cK w b (o + j) = false /\ c.oneCell' = true /\ aL β w M v c) -> fP (gq V n) cs = some (l, ids, bs) →
   l.length = cs.length /\ bs.length = cs.length /\ ∃ ts js, TVLs w M l ts b o /\ js.Perm (ids ++ Back.idsO bs) /\ bK V β (LT.locsL ts) js /\ BackRs β bs ts /\ eZ V β (LT.looseL ts) ids (Back.bldsO bs)
 | [], b, o, l, ids, bs, hc, h => by
  simp only [fP, Option.some.injEq, Prod.mk.injEq] at h
  obtain ⟨rfl, rfl, rfl⟩ := h
  exact ⟨rfl, rfl, [], [], by simp only [TVLs], by simp [Back.idsO], bK.nil, by simp only [BackRs], by simp [eZ, LT.looseL]⟩
 | v :: cs, b, o, l, ids, bs, hc, h => by
  simp only [fP] at h
  split at h
  ·rename_i x i ob l' is bs' hx hl
   injection h with h; injection h with h1 h; injection h with h2 h3; subst h1; subst h2; subst h3
   obtain ⟨c, a1, a2, a3, a4⟩ := hc 0 v rfl
   obtain ⟨t, js, k1, k2, k3, k4, k5, k6⟩ := hleaf v c x i ob a4 hx
   obtain ⟨q1, q2, ts, js', q3, q4, q5, q6, q7⟩ := qz n hleaf cs b (o + 1) l' is bs' (fun j v hj => by
    have := hc (j + 1) v (by simpa using hj)
    rwa [show o + (j + 1) = o + 1 + j by omega] at this) hl
   refine ⟨by simp [q1], by simp [q2], t :: ts, js ++ js', ?_, ?_, ?_, ?_, by rw [jq]; simp only [LT.looseL]; exact k5.append q7⟩
   ·simp only [TVLs]; exact ⟨t, ts, c, rfl, by simpa using a1, by simpa using a2, a3, k1, q3⟩
   ·rw [kZ]; exact (List.Perm.append k2 q4).trans (sM ..)
   ·simp only [LT.locsL]; exact k3.append q5
   ·cases ob with
    | none => simp only [BackRs]; exact ⟨t, ts, rfl, k6 rfl, q6⟩
    | some ob => simp only [BackRs]; exact ⟨t, ts, rfl, (k4 ob rfl).1, (k4 ob rfl).2, q6⟩
  ·exact absurd h (by simp)
theorem yh (hV : VR M0 M β V tm w) : ∀ (n : Nat) (v : AV) (c : Value) (x : TV) (ids : List Nat) (ob : Option Back), aL β w M v c -> gq V n v = some (x, ids, ob) -> tp V β w M x ids ob c := by
 have ownCase : ∀ (id : Nat) (c : Value) (x : TV) (ids : List Nat) (ob : Option Back), aL β w M (.own id) c -> (match V.obj id with | some (.buf sz es) => some (TV.own sz es, [id], (none : Option Back)) | _ => none) = some (x, ids, ob) -> tp V β w M x ids ob c := by
  intro id c x ids ob hc h
  split at h
  ·rename_i sz es ho
   injection h with h; injection h with h1 h; injection h with h2 h3; subst h1; subst h2; subst h3
   simp only [aL] at hc
   refine ⟨.one (β id), [id], by simp only [cY]; exact ⟨β id, rfl, hc, hV.objs id _ ho⟩, by simp [iz], ?_, by simp, fun l hl b j hF => .inl ⟨id, by simp, ⟨_, ho⟩, by simp [LT.loose] at hl; subst hl; exact hF⟩, fun _ => rfl⟩
   exact bK.cons ⟨⟨_, ho⟩, fun _ _ h => h⟩ bK.nil
  ·exact absurd h (by simp)
 have pvCase : ∀ (y : PV) (c : Value) (x : TV) (ids : List Nat) (ob : Option Back), bp w M y c -> some (TV.pv y, ([] : List Nat), (none : Option Back)) = some (x, ids, ob) -> tp V β w M x ids ob c := by
  intro y c x ids ob hc h
  injection h with h; injection h with h1 h; injection h with h2 h3; subst h1; subst h2; subst h3
  exact ⟨.none, [], by simp only [cY]; exact ⟨trivial, hc⟩, by simp [iz], bK.nil, by simp, by simp [eZ, LT.loose], fun _ => rfl⟩
 have nilRep : bp w M (.sl []) (.slice none 0 0) := by
  simp only [bp]
  exact ⟨none, 0, rfl, Nat.le_refl _, fun _ => rfl, fun a ha => by simp at ha, 1, by simp only [RepRow]⟩
 intro n
 induction n with
 | zero =>
  intro v c x ids ob hc h
  simp only [gq] at h
  split at h
  ·simp only [aL] at hc; exact pvCase _ _ _ _ _ hc h
  ·simp only [aL] at hc; subst hc; exact pvCase _ _ _ _ _ nilRep h
  ·exact ownCase _ _ _ _ _ hc h
  ·exact absurd h (by simp)
 | succ n ih =>
  intro v c x ids ob hc h
  simp only [gq] at h
  split at h
  ·simp only [aL] at hc; exact pvCase _ _ _ _ _ hc h
  ·simp only [aL] at hc; subst hc; exact pvCase _ _ _ _ _ nilRep h
  ·exact ownCase _ _ _ _ _ hc h
  ·rename_i id
   simp only [aL] at hc
   obtain ⟨b, o, hb, hc⟩ := hc
   simp only [Nat.zero_mul, Nat.add_zero] at hc
   split at h
   ·rename_i cs ho
    split at h
    ·rename_i l ids' bs hl
     injection h with h; injection h with h1 h; injection h with h2 h3; subst h1; subst h2; subst h3
     obtain ⟨b', o', q1, q2, q3, q4⟩ := hV.objs id _ ho
     rw [hb] at q1; injection q1 with q1; injection q1 with e1 e2; subst e1; subst e2
     obtain ⟨k1, k2, ts, js, k3, k4, k5, k6, k7⟩ := qz n ih cs b o l ids' bs q4 hl
     refine ⟨.box (β id) ts, id :: js, ?_, ?_, ?_, ?_, by simpa only [ez, Back.blds, LT.loose] using k7, fun h => by cases h⟩
     ·simp only [cY]; exact ⟨β id, ts, b, o, rfl, hb, by rw [q2, k1], q3, hc, k3⟩
     ·simp only [iz, Back.ids]
      exact (List.Perm.cons id k4).trans (List.perm_middle.symm)
     ·simp only [LT.locs]; exact bK.cons ⟨⟨_, ho⟩, fun _ _ h => h⟩ k5
     ·intro b' hb'; injection hb' with hb'; subst hb'
      refine ⟨by simp only [eQ]; exact ⟨β id, ts, b, o, rfl, hb, by simpa using hb, by rw [q2, k2], by rw [q2, k2]; omega, q3, k6⟩, fun i off l e => by injection e with _ e _; exact e.symm⟩
    ·exact absurd h (by simp)
   ·rename_i bs ho
    have hbk : (β id).k = 2 := by
     obtain ⟨_, _, _, _, _, _, a2, _⟩ := hV.objs id _ ho
     exact a2.1
    injection h with h; injection h with h1 h; injection h with h2 h3; subst h1; subst h2; subst h3
    refine ⟨.bld (β id), [id], ?_, by simp [iz, Back.ids], bK.cons ⟨⟨_, ho⟩, fun _ _ h => h⟩ bK.nil, ?_, fun l hl b j hF => .inr ⟨id, by simp [ez, Back.blds], by simp [LT.loose] at hl; subst hl; exact hF⟩, fun _ => rfl⟩
    ·simp only [cY]; exact ⟨β id, b, o, rfl, hb, hc, hV.objs id _ ho⟩
    ·intro b' hb'; injection hb' with hb'; subst hb'; exact ⟨by simp only [eQ]; exact ⟨trivial, hbk⟩, fun i off l e => by cases e⟩
   ·exact absurd h (by simp)
  ·exact absurd h (by simp)
theorem mX (hV : VR M0 M β V tm w) {Ml : ay} (hMl : ∀ b j, Ml b j -> M b j) {id sz : Nat} {es : LP} (ho : V.obj id = some (.buf sz es)) (hF : ∀ b j, (β id).F b j -> ¬ Ml b j) :
  (∀ c, c = (β id).hdr -> bp w Ml (.sl es) c) /\ ∀ lo n c, aL β w M (.part id lo n) c -> bp w Ml (.sl ((es.drop lo).take n)) c := by
 have hk : ∀ b o v, at_ w b o = some v -> ¬ M b o -> at_ w b o = some v /\ ¬ Ml b o := fun b o v h1 h2 => ⟨h1, fun h => h2 (hMl _ _ h)⟩
 obtain ⟨q1, q2, q3, q4, q5, q6, q7, q8, q9⟩ := hV.objs id _ ho
 have row : ∀ b o, (β id).base = some (b, o) -> RepRow w Ml (some ⟨b, o, none⟩) sz 0 es := by
  intro b o hb
  refine RepRow.of fun i e he => ?_
  obtain ⟨vs, k1, k2⟩ := (q9 b o hb).2 i e he
  refine ⟨_, vs, rfl, q8 e (List.mem_of_getElem? he), RepS.mono hk _ _ k1, fun j c hj => ?_⟩
  show at_ w b (o + (0 + i) * sz + j) = some c /\ ¬ Ml b (o + (0 + i) * sz + j)
  rw [Nat.zero_add]
  refine ⟨k2 j c hj, hF _ _ (.inl ⟨o, hb, by omega, ?_⟩)⟩
  have hj' : j < sz := by
   have := (List.getElem?_eq_some_iff.1 hj).1
   rw [k1.length, q8 e (List.mem_of_getElem? he)] at this; exact this
  have hi := (List.getElem?_eq_some_iff.1 he).1
  have : (i + 1) * sz <= (β id).cap * sz := Nat.mul_le_mul_right _ (by omega)
  rw [Nat.add_mul] at this
  omega
 constructor
 ·intro c hc
  subst hc
  simp only [bp, Loc.hdr]
  cases hb : (β id).base with
  | none =>
   have hcap := q7 hb
   have he : es = [] := List.length_eq_zero_iff.1 (by omega)
   subst he
   exact ⟨none, 0, rfl, Nat.le_refl _, fun _ => rfl, fun p hp => by simp at hp, sz, by simp only [RepRow]⟩
  | some bo =>
   obtain ⟨b, o⟩ := bo
   exact ⟨_, (β id).cap, by rw [q3], by omega, fun h => by simp at h, fun p hp _ => by injection hp with hp; subst hp; rfl, sz, row b o hb⟩
 ·intro lo n c hc
  simp only [aL] at hc
  obtain ⟨A, cap, h1, h2, h3, h4, h5, h6⟩ := hc
  have hlen : ((es.drop lo).take n).length = n := by simp; omega
  simp only [bp]
  refine ⟨A, cap, by rw [hlen]; exact h1, by rw [hlen]; exact h2, h3, fun p hp _ => h4 p hp, sz, ?_⟩
  by_cases hn : n = 0
  ·subst hn; simp [RepRow]
  ·obtain ⟨b, o, hb, hA⟩ := h6 (by omega)
   exact RepRow.cut (row b o hb) lo n A (fun _ => ⟨_, rfl, by rw [hA, q1]⟩)
def dw (β : Nat -> Loc) : List Mode -> List TV -> List LT -> List Back -> Prop
 | _, [], ts, bs => ts = [] /\ bs = []
 | ms, .pv _ :: vs, ts, bs => ∃ t r, ts = t :: r /\ dw β ms.tail vs r bs
 | ms, .own _ _ :: vs, ts, bs => ∃ t r, ts = t :: r /\ if ms.headD .borrow = .mut then ∃ b bs', bs = b :: bs' /\ eQ β b t /\ ((∃ i, b = .own i) ∨ b = .nilSl) /\ dw β ms.tail vs r bs' else dw β ms.tail vs r bs
 | ms, .bld _ :: vs, ts, bs => ∃ t r, ts = t :: r /\ ∃ b bs', bs = b :: bs' /\ eQ β b t /\ (∃ i, b = .bld i) /\ dw β ms.tail vs r bs'
 | ms, .ptr _ :: vs, ts, bs => ∃ t r, ts = t :: r /\ ∃ b bs', bs = b :: bs' /\ eQ β b t /\ (∃ i off l, b = .box i off l) /\ dw β ms.tail vs r bs'
def aX (w : World) (M : ay) : List TV -> List LT -> List Value -> Prop
 | [], ts, cs => ts = [] /\ cs = []
 | v :: vs, ts, cs => ∃ t r c d, ts = t :: r /\ cs = c :: d /\ cY w M v t c /\ aX w M vs r d
theorem cY.sub {Ml : ay} (hMl : ∀ b j, Ml b j -> M b j) {v : TV} {t : LT} {c : Value} (h : cY w M v t c) : cY w Ml v t c :=
 cY.mono rfl (fun _ _ _ h1 h2 => ⟨h1, fun h => h2 (hMl _ _ h)⟩) v t c (fun _ _ _ _ _ _ h => ⟨h, rfl⟩) h
theorem EE {x : PV} {c : Value} (h : bp w M x c) (ho : mV x = true) : c.oneCell' = true := by
 cases x with
 | agg fs => simp [mV] at ho
 | sl es => simp only [bp] at h; obtain ⟨_, _, rfl, _⟩ := h; rfl
 | fn f caps => simp only [bp] at h; obtain ⟨_, rfl, _⟩ := h; rfl
 | iptr cs => simp only [bp] at h; obtain ⟨_, _, _, rfl, _⟩ := h; rfl
 | int _ _ => simp only [bp] at h; subst h; rfl
 | bool _ => simp only [bp] at h; subst h; rfl
 | str _ => simp only [bp] at h; subst h; rfl
 | nilIface => simp only [bp] at h; subst h; rfl
 | nilPtr => simp only [bp] at h; subst h; rfl
 | nilFn => simp only [bp] at h; subst h; rfl
 | nilSlc => simp only [bp] at h; subst h; rfl
theorem qa : ∀ {l : List AV} {vs : List Value} {xs : List PV}, AVRs β w M l vs -> qT l = some xs -> xs.all mV = true -> RepS w M xs vs
 | [], vs, xs, h, hp, _ => by
  simp only [qT, Option.some.injEq] at hp; subst hp
  simp only [AVRs] at h; subst h; simp only [RepS]
 | v :: l, vs, xs, h, hp, ha => by
  simp only [AVRs] at h
  obtain ⟨c, r, rfl, h1, h2⟩ := h
  cases v <;> simp only [qT] at hp <;> try (cases hp; done)
  ·split at hp
   ·rename_i y l' hl
    injection hp with hp; subst hp
    rw [List.all_cons, Bool.and_eq_true] at ha
    simp only [aL] at h1
    simp only [RepS]
    exact ⟨c, r, rfl, EE h1 ha.1, h1, qa h2 hl ha.2⟩
   ·exact absurd hp (by simp)
  ·split at hp
   ·rename_i l' hl
    injection hp with hp; subst hp
    rw [List.all_cons, Bool.and_eq_true] at ha
    simp only [aL] at h1
    subst h1
    simp only [RepS]
    refine ⟨_, r, rfl, rfl, ?_, qa h2 hl ha.2⟩
    simp only [bp]
    exact ⟨none, 0, rfl, Nat.le_refl _, fun _ => rfl, fun a ha => by simp at ha, 1, by simp only [RepRow]⟩
   ·exact absurd hp (by simp)
theorem yi (hV : VR M0 M β V tm w) {Ml : ay} (hMl : ∀ b j, Ml b j -> M b j) {v : AV} {c : Value} {x : TV} {l : List Nat} (hc : aL β w M v c) (h : jy V v = some (x, l)) (hF : ∀ i ∈ l, (∃ o, V.obj i = some o) -> ∀ b j, (β i).F b j -> ¬ Ml b j) :
  ∃ y, x = .pv y /\ bp w Ml y c := by
 have hk : ∀ b o v, at_ w b o = some v -> ¬ M b o -> at_ w b o = some v /\ ¬ Ml b o := fun b o v h1 h2 => ⟨h1, fun h => h2 (hMl _ _ h)⟩
 unfold jy at h
 split at h
 ·injection h with h; injection h with h1 h2; subst h1; subst h2
  simp only [aL] at hc
  exact ⟨_, rfl, bp.mono hk _ _ hc⟩
 ·injection h with h; injection h with h1 h2; subst h1; subst h2
  simp only [aL] at hc; subst hc
  refine ⟨_, rfl, ?_⟩
  simp only [bp]
  exact ⟨none, 0, rfl, Nat.le_refl _, fun _ => rfl, fun a ha => by simp at ha, 1, by simp only [RepRow]⟩
 ·split at h
  ·rename_i id n es ho
   injection h with h; injection h with h1 h2; subst h1; subst h2
   simp only [aL] at hc
   exact ⟨_, rfl, (mX hV hMl ho (hF _ (by simp) ⟨_, ho⟩)).1 c hc⟩
  ·exact absurd h (by simp)
 ·split at h
  ·rename_i id lo n k es ho
   injection h with h; injection h with h1 h2; subst h1; subst h2
   exact ⟨_, rfl, (mX hV hMl ho (hF _ (by simp) ⟨_, ho⟩)).2 _ _ c hc⟩
  ·exact absurd h (by simp)
 ·split at h
  ·rename_i fs _ l' hp
   injection h with h; injection h with h1 h2; subst h1; subst h2
   simp only [aL] at hc
   obtain ⟨cs, rfl, hr, hone⟩ := hc
   have hs : pK β w M fs cs.toList := ⟨(AVRs.length hr).symm, fun j x v hx hv => ⟨hone v (List.mem_of_getElem? hv), AVRs.get hr j x v hx hv⟩⟩
   refine ⟨_, rfl, ?_⟩
   simp only [bp]
   exact ⟨cs, rfl, RepS.mono hk _ _ (mc hs hp)⟩
  ·exact absurd h (by simp)
 ·split at h
  ·rename_i f caps _ l' hp
   split at h
   ·rename_i hall
    injection h with h; injection h with h1 h2; subst h1; subst h2
    simp only [aL] at hc
    obtain ⟨x, y, rfl, hx, hy⟩ := hc
    simp only [AVRs] at hx
    have hx0 : x = #[] := by apply Array.ext'; simpa using hx
    subst hx0
    refine ⟨_, rfl, ?_⟩
    simp only [bp]
    exact ⟨y, rfl, RepS.mono hk _ _ (qa hy hp hall)⟩
   ·exact absurd h (by simp)
  ·exact absurd h (by simp)
 ·exact absurd h (by simp)
def cD : List Mode -> List TV -> List LT -> List Loc
 | ms, .own _ _ :: vs, t :: ts => (if ms.headD .borrow = .mut then [] else t.locs) ++ cD ms.tail vs ts
 | ms, _ :: vs, t :: ts => t.loose ++ cD ms.tail vs ts
 | _, _, _ => []
def fe : List Mode -> List TV -> List LT -> List Loc
 | ms, .pv _ :: vs, _ :: ts => fe ms.tail vs ts
 | ms, .own _ _ :: vs, t :: ts => (if ms.headD .borrow = .mut then t.locs else []) ++ fe ms.tail vs ts
 | ms, _ :: vs, t :: ts => t.fixed ++ fe ms.tail vs ts
 | _, _, _ => []
def E9 (V : View) (β : Nat -> Loc) (w : World) (Ml : ay) (m : Mode) (g : Given) (c : Value) : Prop :=
 ∃ x t js, g.vs = [x] /\ cY w Ml x t c /\ js.Perm (g.dels ++ Back.idsL g.bs) /\ bK V β t.locs js ∧
  (∀ ms, ms.headD .borrow = m -> ∀ vs ts bs, dw β ms.tail vs ts bs -> dw β ms (x :: vs) (t :: ts) (g.bs ++ bs)) ∧
  (∀ ms, ms.headD .borrow = m -> ∀ vs ts, ∃ ls, cD ms (x :: vs) (t :: ts) = ls ++ cD ms.tail vs ts /\ eZ V β ls g.dels (Back.bldsL g.bs))
theorem qu (b : Back) : Back.idsL [b] = b.ids := by simp [Back.idsL]
theorem vK (a b : List Back) : Back.idsL (a ++ b) = Back.idsL a ++ Back.idsL b := by simp [Back.idsL]
theorem Gm {P : Program} (hV : VR M0 M β V tm w) {Ml : ay} (hMl : ∀ b j, Ml b j -> M b j) {m : Mode} {t : TypeId} {v : AV} {c : Value} {g : Given} (hc : aL β w M v c) (h : mt P m t V v = some g)
  (hF : ∀ i ∈ g.lent, (∃ o, V.obj i = some o) -> ∀ b j, (β i).F b j -> ¬ Ml b j) : E9 V β w Ml m g c := by
 have pvOK : ∀ (y : PV) (l : List Nat), bp w Ml y c -> E9 V β w Ml m ⟨[.pv y], [], [], l⟩ c := by
  intro y l hy
  refine ⟨.pv y, .none, [], rfl, by simp only [cY]; exact ⟨trivial, hy⟩, by simp [Back.idsL], bK.nil, fun ms hm vs ts bs hh => ?_, fun ms hm vs ts => ⟨[], by simp [cD, LT.loose], by simp [eZ]⟩⟩
  simp only [dw, List.nil_append]
  exact ⟨.none, ts, rfl, hh⟩
 unfold mt at h
 split at h
 ·rename_i id i off
  split at h
  ·rename_i hi0
   subst hi0
   simp only [aL] at hc
   obtain ⟨b, o, hb, hc⟩ := hc
   rw [Nat.zero_mul, Nat.add_zero] at hc
   split at h
   ·rename_i cs ho
    split at h
    ·rename_i e he
     split at h
     ·rename_i hle
      split at h
      ·rename_i l ids bs hl
       injection h with h; subst h
       obtain ⟨b', o', q1, q2, q3, q4⟩ := hV.objs id _ ho
       rw [hb] at q1; injection q1 with q1; injection q1 with e1 e2; subst e1; subst e2
       obtain ⟨k1, k2, ts, js, k3, k4, k5, k6, k7⟩ := qz 4 (yh hV 4) ((cs.drop off).take (ar P e)) b (o + off) l ids bs (fun j v hj => by
        rw [List.getElem?_take] at hj
        split at hj
        ·rw [List.getElem?_drop] at hj
         have := q4 (off + j) v hj
         rwa [<- Nat.add_assoc] at this
        ·exact absurd hj (by simp)) hl
       have hlen : ((cs.drop off).take (ar P e)).length = ar P e := by simp; omega
       let l0 : Loc := { base := some (b, o + off), len := 0, cap := 0, sz := 0, k := ar P e, ext := none }
       have h5 : cY w M (.ptr l) (.box l0 ts) c := by
        simp only [cY]; exact ⟨l0, ts, b, o + off, rfl, rfl, by rw [k1, hlen], rfl, hc, k3⟩
       refine ⟨.ptr l, .box l0 ts, id :: js, rfl, cY.sub hMl h5, ?_, ?_, fun ms hm vs ts' bs' hh => ?_, fun ms hm vs ts' => ⟨LT.looseL ts, by simp [cD, LT.loose], by simpa [Back.bldsL, Back.blds] using k7⟩⟩
       ·rw [qu]
        simp only [Back.ids]
        exact (List.Perm.cons id k4).trans (List.perm_middle.symm)
       ·simp only [LT.locs]
        refine bK.cons ⟨⟨_, ho⟩, fun b' j hF' => ?_⟩ k5
        rcases hF' with ⟨o', h1, h2, h3⟩ | ⟨n, h1, _⟩
        ·simp only [l0, Option.some.injEq, Prod.mk.injEq] at h1
         obtain ⟨rfl, rfl⟩ := h1
         exact .inl ⟨o, hb, by omega, by simp only [l0] at h3; omega⟩
        ·simp [l0] at h1
       ·simp only [dw]
        exact ⟨_, _, rfl, _, _, rfl, by
         simp only [eQ]
         exact ⟨l0, ts, b, o, rfl, hb, rfl, by rw [k2, hlen], by rw [k2, hlen, q2]; exact hle, rfl, k6⟩, ⟨id, off, bs, rfl⟩, hh⟩
      ·exact absurd h (by simp)
     ·exact absurd h (by simp)
    ·exact absurd h (by simp)
   ·rename_i bs ho
    split at h
    ·rename_i hoff
     subst hoff
     injection h with h; subst h
     have h5 : cY w M (.bld bs) (.bld (β id)) c := by
      simp only [cY]; exact ⟨β id, b, o, rfl, hb, by simpa using hc, hV.objs id _ ho⟩
     refine ⟨.bld bs, .bld (β id), [id], rfl, cY.sub hMl h5, by rw [qu]; simp [Back.ids], bK.cons ⟨⟨_, ho⟩, fun _ _ h => h⟩ bK.nil, fun ms hm vs ts' bs' hh => ?_, fun ms hm vs ts' => ⟨[β id], by simp [cD, LT.loose], fun l hl b j hF => .inr ⟨id, by simp [Back.bldsL, Back.blds], by simp at hl; subst hl; exact hF⟩⟩⟩
     simp only [dw]
     have hbk : (β id).k = 2 := by
      obtain ⟨_, _, _, _, _, _, a2, _⟩ := hV.objs id _ ho
      exact a2.1
     exact ⟨_, _, rfl, _, _, rfl, by simp only [eQ]; exact ⟨trivial, hbk⟩, ⟨id, rfl⟩, hh⟩
    ·exact absurd h (by simp)
   ·exact absurd h (by simp)
  ·exact absurd h (by simp)
 ·simp only [aL] at hc
  have nilOK : ∀ sz, 0 < sz -> cY w Ml (.own sz []) (.one { base := none, len := 0, cap := 0, sz := sz, k := 0, ext := none }) c := by
   intro sz h0
   simp only [cY]
   exact ⟨_, rfl, by rw [hc]; rfl, rfl, h0, rfl, Nat.le_refl _, by simp, ⟨rfl, fun b o hb => by simp at hb⟩, fun _ => rfl, by simp, fun b o hb => by simp at hb⟩
  have noF : ∀ sz b j, ¬ ({ base := none, len := 0, cap := 0, sz := sz, k := 0, ext := none } : Loc).F b j := by
   rintro sz b j (⟨o, h1, _⟩ | ⟨n, h1, _⟩)
   ·simp at h1
   ·simp at h1
  split at h
  ·rename_i e he
   injection h with h; subst h
   refine ⟨_, _, [], rfl, nilOK _ (eT he).2.2, by simp [Back.idsL], by simp only [LT.locs, bK]; exact .inl ⟨noF _, trivial⟩, fun ms hm vs ts bs hh => ?_, fun ms hm vs ts => ⟨_, by simp only [cD, hm]; rfl, fun l hl b j hF => by simp [LT.locs] at hl; subst hl; exact absurd hF (noF _ b j)⟩⟩
   simp only [dw, hm]
   exact ⟨_, _, rfl, by simpa using hh⟩
  ·rename_i e he
   injection h with h; subst h
   refine ⟨_, _, [], rfl, nilOK _ (eT he).2.2, by simp [Back.idsL, Back.ids], by simp only [LT.locs, bK]; exact .inl ⟨noF _, trivial⟩, fun ms hm vs ts bs hh => ?_, fun ms hm vs ts => ⟨[], by simp only [cD, hm, if_true], by simp [eZ]⟩⟩
   simp only [dw, hm]
   exact ⟨_, _, rfl, by rw [if_pos trivial]; exact ⟨_, _, rfl, by simp only [eQ]; exact ⟨_, rfl, rfl, rfl⟩, .inr rfl, hh⟩⟩
  ·injection h with h; subst h
   subst hc
   refine pvOK _ _ ?_
   simp only [bp]
   exact ⟨none, 0, rfl, Nat.le_refl _, fun _ => rfl, fun a ha => by simp at ha, 1, by simp only [RepRow]⟩
  ·injection h with h; subst h
   subst hc
   exact pvOK _ _ (by simp only [bp])
  ·exact absurd h (by simp)
 ·rename_i id
  have hc' := hc
  simp only [aL] at hc
  split at h
  ·rename_i sz es ho
   injection h with h; subst h
   refine ⟨.own sz es, .one (β id), [id], rfl, cY.sub hMl (by simp only [cY]; exact ⟨β id, rfl, hc, hV.objs id _ ho⟩), by simp [Back.idsL], bK.cons ⟨⟨_, ho⟩, fun _ _ h => h⟩ bK.nil, fun ms hm vs ts bs hh => ?_, fun ms hm vs ts => ⟨_, by simp only [cD, hm]; rfl, fun l hl b j hF => .inl ⟨id, by simp, ⟨_, ho⟩, by simp [LT.locs] at hl; subst hl; exact hF⟩⟩⟩
   simp only [dw, hm]
   exact ⟨_, _, rfl, by simpa using hh⟩
  ·rename_i sz es ho
   injection h with h; subst h
   refine ⟨.own sz es, .one (β id), [id], rfl, cY.sub hMl (by simp only [cY]; exact ⟨β id, rfl, hc, hV.objs id _ ho⟩), by rw [qu]; simp [Back.ids], bK.cons ⟨⟨_, ho⟩, fun _ _ h => h⟩ bK.nil, fun ms hm vs ts bs hh => ?_, fun ms hm vs ts => ⟨[], by simp only [cD, hm, if_true], by simp [eZ]⟩⟩
   simp only [dw, hm]
   exact ⟨_, _, rfl, by rw [if_pos trivial]; exact ⟨_, _, rfl, by simp only [eQ], .inl ⟨id, rfl⟩, hh⟩⟩
  ·rename_i sz es ho
   injection h with h; subst h
   exact pvOK _ _ ((mX hV hMl ho (hF id (by simp) ⟨_, ho⟩)).1 c hc)
  ·exact absurd h (by simp)
 ·split at h
  ·rename_i x l hl
   injection h with h; subst h
   obtain ⟨y, rfl, hy⟩ := yi hV hMl hc hl hF
   exact pvOK y _ hy
  ·exact absurd h (by simp)
theorem x0 {P : Program} (hV : VR M0 M β V tm w) {Ml : ay} (hMl : ∀ b j, Ml b j -> M b j) : ∀ (vs : List AV) (cs : List Value) (ms : List Mode) (ts : List TypeId) (g : Given), AVRs β w M vs cs -> iO P V ms ts vs = some g →
  (∀ i ∈ g.lent, (∃ o, V.obj i = some o) -> ∀ b j, (β i).F b j -> ¬ Ml b j) -> ∃ lts js, aX w Ml g.vs lts cs /\ js.Perm (g.dels ++ Back.idsL g.bs) /\ bK V β (LT.locsL lts) js /\ dw β ms g.vs lts g.bs /\ eZ V β (cD ms g.vs lts) g.dels (Back.bldsL g.bs)
 | [], cs, ms, ts, g, hc, h, hF => by
  unfold iO at h
  injection h with h; subst h
  simp only [AVRs] at hc; subst hc
  exact ⟨[], [], by simp [aX], by simp [Back.idsL], bK.nil, by simp [dw], by simp [eZ, cD]⟩
 | v :: vs, cs, ms, ts, g, hc, h, hF => by
  unfold iO at h
  split at h
  ·rename_i g1 g2 h1 h2
   injection h with h; subst h
   simp only [AVRs] at hc
   obtain ⟨c, r, rfl, hc1, hc2⟩ := hc
   obtain ⟨x, t, js, a1, a2, a3, a4, a5, a6⟩ := Gm hV hMl hc1 h1 (fun i hi => hF i (by simp only [List.mem_append]; exact .inl hi))
   obtain ⟨lts, js', b1, b2, b3, b4, b5⟩ := x0 hV hMl vs r ms.tail ts.tail g2 hc2 h2 (fun i hi => hF i (by simp only [List.mem_append]; exact .inr hi))
   refine ⟨t :: lts, js ++ js', ?_, ?_, ?_, ?_, ?_⟩
   ·rw [a1]; simp only [List.singleton_append, aX]; exact ⟨t, lts, c, r, rfl, rfl, a2, b1⟩
   ·rw [vK]
    exact (List.Perm.append a3 b2).trans (sM ..)
   ·simp only [LT.locsL]; exact a4.append b3
   ·rw [a1]; exact a5 ms rfl _ _ _ b4
   ·obtain ⟨ls, e, hl⟩ := a6 ms rfl g2.vs lts
    rw [a1]
    simp only [List.singleton_append, e]
    have : Back.bldsL (g1.bs ++ g2.bs) = Back.bldsL g1.bs ++ Back.bldsL g2.bs := by simp [Back.bldsL]
    rw [this]
    exact hl.append b5
  ·exact absurd h (by simp)
end
end Go.Proofs.YtcoikmicjbppmaaGreat.Vm
namespace Go.Proofs.YtcoikmicjbppmaaGreat.Vm
open Go
set_option linter.unusedVariables false
set_option linter.unusedSimpArgs false
mutual
def jT : LT -> LT -> Prop
 | .none, _ => True
 | .one _, _ => True
 | .bld l, t' => ∃ l', t' = .bld l' /\ l'.base = l.base
 | .box l ss, t' => ∃ l' ss', t' = .box l' ss' /\ l'.base = l.base /\ l'.k = l.k /\ l'.ext = l.ext /\ likes ss ss'
def likes : List LT -> List LT -> Prop
 | [], ts => ts = []
 | t :: r, ts => ∃ t' r', ts = t' :: r' /\ jT t t' /\ likes r r'
end
theorem Loc.F_of {l l' : Loc} (h1 : l'.base = l.base) (h2 : l'.k = l.k) (h3 : l'.ext = l.ext) (b j : Nat) : l.F b j ↔ l'.F b j := by
 simp only [Loc.F, h1, h2, h3]
mutual
theorem lX : ∀ {t t' : LT}, jT t t' -> ∀ l ∈ t.fixed, ∃ l' ∈ t'.fixed, ∀ b j, l.F b j ↔ l'.F b j
 | .none, t', _, l, hl => by simp [LT.fixed] at hl
 | .one _, t', _, l, hl => by simp [LT.fixed] at hl
 | .bld _, t', _, l, hl => by simp [LT.fixed] at hl
 | .box l0 ss, t', h, l, hl => by
  simp only [jT] at h
  obtain ⟨l', ss', rfl, h1, h2, h3, h4⟩ := h
  simp only [LT.fixed, List.mem_cons] at hl
  rcases hl with rfl | hl
  ·exact ⟨l', by simp [LT.fixed], Loc.F_of h1 h2 h3⟩
  ·obtain ⟨l1, k1, k2⟩ := likes_fixed h4 l hl
   exact ⟨l1, by simp [LT.fixed, k1], k2⟩
theorem likes_fixed : ∀ {ts ts' : List LT}, likes ts ts' -> ∀ l ∈ LT.fixedL ts, ∃ l' ∈ LT.fixedL ts', ∀ b j, l.F b j ↔ l'.F b j
 | [], ts', _, l, hl => by simp [LT.fixedL] at hl
 | t :: r, ts', h, l, hl => by
  simp only [likes] at h
  obtain ⟨t', r', rfl, h1, h2⟩ := h
  simp only [LT.fixedL, List.mem_append] at hl
  rcases hl with hl | hl
  ·obtain ⟨l1, k1, k2⟩ := lX h1 l hl
   exact ⟨l1, by simp [LT.fixedL, k1], k2⟩
  ·obtain ⟨l1, k1, k2⟩ := likes_fixed h2 l hl
   exact ⟨l1, by simp [LT.fixedL, k1], k2⟩
end
def cellsOf (M0 : ay) (ls : List Loc) : ay := fun b j => M0 b j ∨ ∃ l ∈ ls, l.F b j
def fu (ls : List Loc) : Prop := ls.Pairwise (fun l l' => ∀ b j, l.F b j -> ¬ l'.F b j)
structure Handed (M0 : ay) (w : World) (as : List TV) (ts : List LT) (args : List Value) : Prop where
 tv : aX w (cellsOf M0 (LT.locsL ts)) as ts args
 apart : fu (LT.locsL ts)
 out : ∀ l ∈ LT.locsL ts, ∀ b j, l.F b j -> ¬ M0 b j /\ b < w.heap.size
 old : ∀ b j, M0 b j -> b < w.heap.size
def cX (w : World) (M : ay) : List Mode -> List TV -> List LT -> List Value -> List TV -> List LT -> Prop
 | _, [], _, _, fs, lfs => fs = [] /\ lfs = []
 | ms, .pv _ :: vs, ts, cs, fs, lfs => ∃ t r c d, ts = t :: r /\ cs = c :: d /\ cX w M ms.tail vs r d fs lfs
 | ms, .own sz es :: vs, ts, cs, fs, lfs => ∃ t r c d, ts = t :: r /\ cs = c :: d /\ if ms.headD .borrow = .mut then
   ∃ es' fr lr, fs = .own sz es' :: fr /\ lfs = t :: lr /\ cY w M (.own sz es') t c /\ cX w M ms.tail vs r d fr lr else cX w M ms.tail vs r d fs lfs
 | ms, .bld _ :: vs, ts, cs, fs, lfs => ∃ t r c d, ts = t :: r /\ cs = c :: d /\ ∃ f fr lf lr, fs = f :: fr /\ lfs = lf :: lr /\ cY w M f lf c /\ jT t lf /\ cX w M ms.tail vs r d fr lr
 | ms, .ptr _ :: vs, ts, cs, fs, lfs => ∃ t r c d, ts = t :: r /\ cs = c :: d /\ ∃ f fr lf lr, fs = f :: fr /\ lfs = lf :: lr /\ cY w M f lf c /\ jT t lf /\ cX w M ms.tail vs r d fr lr
def bQ : List TV -> List LT -> List Loc
 | .own _ _ :: fs, _ :: ts => bQ fs ts
 | _ :: fs, t :: ts => t.loose ++ bQ fs ts
 | _, _ => []
def rt : List Value -> Value
 | [v] => v
 | vs => .tuple vs.toArray
def Gj (ms : List Mode) (M0 : ay) (w : World) (as : List TV) (ts : List LT) (args : List Value) (rs fs : List TV) (v : Value) (w' : World) : Prop :=
 ∃ (vs : List Value) (lrs lfs : List LT), v = rt vs /\ aX w' (cellsOf M0 (LT.locsL (lrs ++ lfs))) rs lrs vs /\ cX w' (cellsOf M0 (LT.locsL (lrs ++ lfs))) ms as ts args fs lfs ∧
  fu (LT.locsL (lrs ++ lfs)) /\ (∀ l ∈ LT.locsL (lrs ++ lfs), ∀ b j, l.F b j -> ¬ M0 b j /\ b < w'.heap.size /\ (w.heap.size <= b ∨ ∃ l0 ∈ LT.locsL ts, l0.F b j)) ∧
  (∀ l ∈ LT.locsL lrs ++ bQ fs lfs, ∀ b j, l.F b j -> w.heap.size <= b ∨ ∃ l0 ∈ cD ms as ts, l0.F b j) ∧
  Fr (fun b j => ∃ l ∈ LT.locsL ts, l.F b j) w w'
def cT (P : Program) (f : FuncId) (args : Array Value) (w : World) (R : Value -> World -> Prop) : Prop :=
 match (callFunc f args).run P w with
 | .ok (.value v) w' => R v w'
 | .ok (.enter g as) w' => Calls P g as w' fun e w'' => ∃ v, e = .returned v /\ R v w''
 | _ => False
def br (P : Program) (ms : List Mode) (f : FuncId) (as rs fs : List TV) : Prop :=
 ∀ M0 w ts args, Handed M0 w as ts args -> cT P f args.toArray w (Gj ms M0 w as ts args rs fs)
mutual
def gZ (β : Nat -> Loc) (id j : Nat) : Option Back -> LT -> List (Nat × Loc)
 | some (.box i off bs), .box _ subs => basgs β i off bs subs
 | some (.bld i), .bld l => [(i, { β i with ext := l.ext })]
 | none, .one l => [(bg id j, l)]
 | _, _ => []
def basgs (β : Nat -> Loc) (id j : Nat) : List (Option Back) -> List LT -> List (Nat × Loc)
 | b :: bs, t :: ts => gZ β id j b t ++ basgs β id (j + 1) bs ts
 | _, _ => []
end
theorem tn.congr {w : World} {l l' : Loc} (h1 : l'.base = l.base) (h2 : l'.k = l.k) (h3 : l'.ext = l.ext) {bs : BS} (h : tn w l bs) : tn w l' bs := by
 obtain ⟨b, o, A, cap, p, a1, a2, a3, a4, a5, a6, a7, a8⟩ := h
 exact ⟨b, o, A, cap, p, by rw [h1]; exact a1, ⟨by rw [h2]; exact a2.1, a2.2⟩, a3, a4, a5, a6, a7, by rw [h3]; exact a8⟩
theorem tn.k2 {w : World} {l : Loc} {bs : BS} (h : tn w l bs) : l.k = 2 := by
 obtain ⟨_, _, _, _, _, _, a2, _⟩ := h; exact a2.1
structure BackOut (β β' : Nat -> Loc) (G : ay) (w w' : World) (M' : ay) (ps : List Patch) (os : List (Nat × Obj)) (ba : List (Nat × Loc)) (ids blds : List Nat) (fx : List Loc) : Prop where
 patch : ∀ p ∈ ps, zG β β' G w w' M' p
 objs : ∀ p ∈ os, cJ β' w' M' (β' p.1) p.2
 pids : (ps.map Patch.id).Perm ids
 pblds : ∀ i ∈ blds, ∃ bs, Patch.bld i bs ∈ ps
 asg : ∀ p ∈ ba, p.1 ∈ os.map (·.1) ∨ ∃ bs, Patch.bld p.1 bs ∈ ps
 osas : ∀ i ∈ os.map (·.1), i ∈ ba.map (·.1)
 refs : ∀ p ∈ os, p.2.refs = []
 prefs : ∀ id off cells, Patch.box id off cells ∈ ps -> ∀ i ∈ AV.refsL cells, i ∈ ids ∨ i ∈ os.map (·.1)
 touch : ∀ l ∈ fx, ∀ b j, l.F b j -> ∃ p ∈ ps, p.touch (β p.id) b j
theorem BackOut.append {β β' : Nat -> Loc} {G : ay} {w w' : World} {M' : ay} {ps ps' : List Patch} {os os' : List (Nat × Obj)} {ba ba' : List (Nat × Loc)} {ids ids' blds blds' : List Nat} {fx fx' : List Loc}
  (h : BackOut β β' G w w' M' ps os ba ids blds fx) (k : BackOut β β' G w w' M' ps' os' ba' ids' blds' fx') : BackOut β β' G w w' M' (ps ++ ps') (os ++ os') (ba ++ ba') (ids ++ ids') (blds ++ blds') (fx ++ fx') where
 patch p hp := (List.mem_append.1 hp).elim (h.patch p) (k.patch p)
 objs p hp := (List.mem_append.1 hp).elim (h.objs p) (k.objs p)
 pids := by rw [List.map_append]; exact List.Perm.append h.pids k.pids
 pblds i hi := (List.mem_append.1 hi).elim (fun hi => (h.pblds i hi).imp fun _ h => List.mem_append.2 (.inl h)) (fun hi => (k.pblds i hi).imp fun _ h => List.mem_append.2 (.inr h))
 asg p hp := by
  rcases List.mem_append.1 hp with hp | hp
  ·rcases h.asg p hp with h | ⟨bs, h⟩
   ·exact .inl (by rw [List.map_append]; exact List.mem_append.2 (.inl h))
   ·exact .inr ⟨bs, List.mem_append.2 (.inl h)⟩
  ·rcases k.asg p hp with h | ⟨bs, h⟩
   ·exact .inl (by rw [List.map_append]; exact List.mem_append.2 (.inr h))
   ·exact .inr ⟨bs, List.mem_append.2 (.inr h)⟩
 osas i hi := by
  rw [List.map_append] at hi ⊢
  exact List.mem_append.2 ((List.mem_append.1 hi).imp (h.osas i) (k.osas i))
 refs p hp := (List.mem_append.1 hp).elim (h.refs p) (k.refs p)
 prefs id off cells hm i hi := by
  rw [List.map_append]
  rcases List.mem_append.1 hm with hm | hm
  ·exact (h.prefs id off cells hm i hi).imp (fun h => List.mem_append.2 (.inl h)) (fun h => List.mem_append.2 (.inl h))
  ·exact (k.prefs id off cells hm i hi).imp (fun h => List.mem_append.2 (.inr h)) (fun h => List.mem_append.2 (.inr h))
 touch l hl b j hF := by
  rcases List.mem_append.1 hl with hl | hl
  ·obtain ⟨p, h1, h2⟩ := h.touch l hl b j hF
   exact ⟨p, List.mem_append.2 (.inl h1), h2⟩
  ·obtain ⟨p, h1, h2⟩ := k.touch l hl b j hF
   exact ⟨p, List.mem_append.2 (.inr h1), h2⟩
theorem BackOut.none {β β' : Nat -> Loc} {G : ay} {w w' : World} {M' : ay} : BackOut β β' G w w' M' [] [] [] [] [] [] :=
 ⟨by simp, by simp, by simp, by simp, by simp, by simp, by simp, by simp, by simp⟩
section
variable {β β' : Nat -> Loc} {G : ay} {w w' : World} {M' : ay}
mutual
theorem j1 : ∀ (ob : Option Back) (id j : Nat) (t lf : LT) (f : TV) (c : Value) (a : AV) (ps : List Patch) (os : List (Nat × Obj)), bw id j ob f = some (a, ps, os) -> cY w' M' f lf c →
  (∀ b, ob = some b -> eQ β b t) -> (ob = none -> t.fixed = []) -> jT t lf -> (∀ l ∈ lf.loose, ∀ b j, l.F b j -> M' b j /\ (w.heap.size <= b ∨ G b j)) -> (∀ p ∈ gZ β id j ob lf, β' p.1 = p.2) -> (∀ i off cells, Patch.box i off cells ∈ ps -> β' i = β i) →
  ((∀ i off l, ob = some (.box i off l) -> off = 0) -> aL β' w' M' a c) /\ (∀ i ∈ a.refs, i ∈ iz ob ∨ i ∈ os.map (·.1)) /\ BackOut β β' G w w' M' ps os (gZ β id j ob lf) (iz ob) (ez ob) t.fixed
 | some (.box i off bs), id, j, t, lf, f, c, a, ps, os, h, hT, hB, hB0, hL, hF, hβ, hk => by
  cases f <;> simp only [bw] at h <;> try (cases h; done)
  rename_i cells
  split at h
  ·rename_i l ps' os' hl
   injection h with h; injection h with h1 h; injection h with h2 h3; subst h1; subst h2; subst h3
   have hb := hB _ rfl
   simp only [eQ] at hb
   obtain ⟨l0, subs, b, o, rfl, hb1, hb2, hb3, hb4, hb5, hb6⟩ := hb
   simp only [jT] at hL
   obtain ⟨l1, subs1, rfl, e1, e2, e3, hL⟩ := hL
   simp only [cY] at hT
   obtain ⟨l2, subs2, b2, o2, e, h21, h22, h23, h24, hT⟩ := hT
   injection e with e4 e5; subst e4; subst e5
   rw [e1, hb2] at h21; injection h21 with h21; injection h21 with x1 x2; subst x1; subst x2
   have hbi : β' i = β i := hk i off l (by simp)
   simp only [gZ] at hβ ⊢
   obtain ⟨k1, k2, k3, k4⟩ := backLeaves_ok bs i off subs subs1 cells b (o + off) l ps' os' hl hT hb6 hL (fun l' hl' => hF l' (by simpa only [LT.loose] using hl')) hβ (fun i' off' cs' hm => hk i' off' cs' (List.mem_append.2 (.inl hm)))
   refine ⟨fun h0 => ?_, fun i' hi' => ?_, ?_⟩
   ·simp only [aL]; rw [hbi]
    have := h0 i off bs rfl
    subst this
    exact ⟨b, o, hb1, by simpa using h24⟩
   ·simp [AV.refs] at hi'; subst hi'; exact .inl (by simp [iz, Back.ids])
   ·refine ⟨fun p hp => ?_, k4.objs, ?_, fun i' hi' => ?_, fun p hp => ?_, k4.osas, k4.refs, fun id' off' cs' hm i' hi' => ?_, fun l' hl' x y hF' => ?_⟩
    ·rcases List.mem_append.1 hp with hp | hp
     ·exact k4.patch p hp
     ·simp at hp; subst hp
      exact ⟨hbi, b, o, hb1, k2⟩
    ·simp only [List.map_append, List.map_cons, List.map_nil, Patch.id, iz, Back.ids]
     exact (List.perm_append_comm.trans (List.Perm.cons i k4.pids))
    ·simp only [ez, Back.blds] at hi'
     exact (k4.pblds i' hi').imp fun _ h => List.mem_append.2 (.inl h)
    ·exact (k4.asg p hp).imp (fun h => h) (fun ⟨bs, h⟩ => ⟨bs, List.mem_append.2 (.inl h)⟩)
    ·simp only [iz, Back.ids, List.mem_cons]
     rcases List.mem_append.1 hm with hm | hm
     ·exact (k4.prefs id' off' cs' hm i' hi').imp (fun h => .inr h) (fun h => h)
     ·simp at hm; obtain ⟨rfl, rfl, rfl⟩ := hm
      exact (k3 i' hi').imp (fun h => .inr h) (fun h => h)
    ·simp only [LT.fixed, List.mem_cons] at hl'
     rcases hl' with rfl | hl'
     ·refine ⟨.box i off l, by simp, ?_⟩
      rcases hF' with ⟨o', t1, t2, t3⟩ | ⟨n, t1, _⟩
      ·rw [hb2] at t1; injection t1 with t1; injection t1 with t4 t5; subst t4; subst t5
       exact ⟨o, hb1, by omega, by rw [k1]; omega⟩
      ·rw [hb5] at t1; simp at t1
     ·obtain ⟨p, p1, p2⟩ := k4.touch l' hl' x y hF'
      exact ⟨p, List.mem_append.2 (.inl p1), p2⟩
  ·exact absurd h (by simp)
 | some (.own i), id, j, t, lf, f, c, a, ps, os, h, hT, hB, hB0, hL, hF, hβ, hk => by
  cases f <;> simp only [bw] at h <;> cases h
 | some .nilSl, id, j, t, lf, f, c, a, ps, os, h, hT, hB, hB0, hL, hF, hβ, hk => by
  cases f <;> simp only [bw] at h <;> cases h
 | some (.bld i), id, j, t, lf, f, c, a, ps, os, h, hT, hB, hB0, hL, hF, hβ, hk => by
  cases f <;> simp only [bw] at h <;> try (cases h; done)
  rename_i bs
  injection h with h; injection h with h1 h; injection h with h2 h3; subst h1; subst h2; subst h3
  have hb := hB _ rfl
  simp only [eQ] at hb
  obtain ⟨rfl, hb2⟩ := hb
  simp only [jT] at hL
  obtain ⟨l1, rfl, e1⟩ := hL
  simp only [cY] at hT
  obtain ⟨l2, b2, o2, e, h21, h22, h23⟩ := hT
  injection e with e4; subst e4
  have hbi := hβ (i, { β i with ext := l1.ext }) (by simp [gZ])
  simp only at hbi
  have hFF : ∀ b j, (β' i).F b j ↔ l1.F b j := fun b j => Loc.F_of (by rw [hbi]; exact e1) (by rw [hbi, h23.k2]; exact hb2.symm) (by rw [hbi]) b j
  refine ⟨fun _ => ?_, fun i' hi' => ?_, ?_⟩
  ·simp only [aL]; rw [hbi]
   exact ⟨b2, o2, by rw [<- e1]; exact h21, by simpa using h22⟩
  ·simp [AV.refs] at hi'; subst hi'; exact .inl (by simp [iz, Back.ids])
  ·refine ⟨fun p hp => ?_, by simp, by simp [iz, Back.ids, Patch.id], fun i' hi' => ?_, fun p hp => ?_, by simp, by simp, by simp, by simp [LT.fixed]⟩
   ·simp at hp; subst hp
    refine ⟨?_, fun b j hFb => hF l1 (by simp [LT.loose]) b j ((hFF b j).1 hFb)⟩
    show tn w' (β' i) bs
    exact tn.congr (by rw [hbi]; exact e1.symm) (by rw [hbi, h23.k2]; exact hb2) (by rw [hbi]) h23
   ·simp [ez, Back.blds] at hi'; subst hi'; exact ⟨bs, by simp⟩
   ·simp [gZ] at hp; subst hp; exact .inr ⟨bs, by simp⟩
 | none, id, j, t, lf, f, c, a, ps, os, h, hT, hB, hB0, hL, hF, hβ, hk => by
  cases f <;> simp only [bw] at h <;> try (cases h; done)
  ·injection h with h; injection h with h1 h; injection h with h2 h3; subst h1; subst h2; subst h3
   simp only [cY] at hT
   obtain ⟨rfl, hT⟩ := hT
   exact ⟨fun _ => by simp only [aL]; exact hT, by simp [AV.refs], by rw [hB0 rfl]; simp only [gZ, iz, ez]; exact BackOut.none⟩
  ·rename_i sz es
   injection h with h; injection h with h1 h; injection h with h2 h3; subst h1; subst h2; subst h3
   simp only [cY] at hT
   obtain ⟨l, rfl, h1, h2⟩ := hT
   have e := hβ (bg id j, l) (by simp [gZ])
   simp only at e
   refine ⟨fun _ => by simp only [aL]; rw [e]; exact h1, fun i hi => .inr (by simpa [AV.refs] using hi), ?_⟩
   refine ⟨by simp, fun p hp => ?_, by simp [iz], by simp [ez], fun p hp => .inl ?_, by simp [gZ], by simp [Obj.refs], by simp, by rw [hB0 rfl]; simp⟩
   ·simp at hp; subst hp; simp only; rw [e]; exact h2
   ·simp [gZ] at hp; subst hp; simp
theorem backLeaves_ok : ∀ (bs : List (Option Back)) (id j : Nat) (ts lfs : List LT) (fs : List TV) (b o : Nat) (l : List AV) (ps : List Patch) (os : List (Nat × Obj)), backLeaves id j bs fs = some (l, ps, os) -> TVLs w' M' fs lfs b o →
  BackRs β bs ts -> likes ts lfs -> (∀ l ∈ LT.looseL lfs, ∀ b j, l.F b j -> M' b j /\ (w.heap.size <= b ∨ G b j)) -> (∀ p ∈ basgs β id j bs lfs, β' p.1 = p.2) -> (∀ i off cells, Patch.box i off cells ∈ ps -> β' i = β i) →
  l.length = bs.length /\ (∀ (k : Nat) (v : AV), l[k]? = some v -> ∃ c, at_ w' b (o + k) = some c /\ cK w' b (o + k) = false /\ c.oneCell' = true /\ aL β' w' M' v c) ∧
  (∀ i ∈ AV.refsL l, i ∈ Back.idsO bs ∨ i ∈ os.map (·.1)) /\ BackOut β β' G w w' M' ps os (basgs β id j bs lfs) (Back.idsO bs) (Back.bldsO bs) (LT.fixedL ts)
 | [], id, j, ts, lfs, fs, b, o, l, ps, os, h, hT, hB, hL, hF, hβ, hk => by
  cases fs <;> simp only [backLeaves] at h <;> try (cases h; done)
  injection h with h; injection h with h1 h; injection h with h2 h3; subst h1; subst h2; subst h3
  exact ⟨rfl, by simp, by simp [AV.refsL], by simp only [BackRs] at hB; subst hB; simp only [basgs, Back.idsO, Back.bldsO, LT.fixedL]; exact BackOut.none⟩
 | ob :: bs, id, j, ts, lfs, fs, b, o, l, ps, os, h, hT, hB, hL, hF, hβ, hk => by
  cases fs <;> simp only [backLeaves] at h <;> try (cases h; done)
  rename_i f fs
  split at h
  ·rename_i a p os1 l' ps' os' h1 h2
   injection h with h; injection h with e1 h; injection h with e2 e3; subst e1; subst e2; subst e3
   simp only [TVLs] at hT
   obtain ⟨lf, lr, c, rfl, a1, a2, a3, hT1, hT2⟩ := hT
   have hts : ∃ t r, ts = t :: r /\ (∀ b, ob = some b -> eQ β b t) /\ (ob = none -> t.fixed = []) /\ (∀ i off l, ob = some (.box i off l) -> off = 0) /\ BackRs β bs r := by
    cases ob with
    | none =>
     simp only [BackRs] at hB
     obtain ⟨t, r, rfl, hB0, hB⟩ := hB
     exact ⟨t, r, rfl, by simp, fun _ => hB0, by simp, hB⟩
    | some x =>
     simp only [BackRs] at hB
     obtain ⟨t, r, rfl, hB1, hB2, hB3⟩ := hB
     exact ⟨t, r, rfl, fun b hb => by injection hb with hb; subst hb; exact hB1, by simp, fun i off l hb => by injection hb with hb; exact hB2 i off l hb, hB3⟩
   obtain ⟨t, r, rfl, hB1, hB0, hB2, hB3⟩ := hts
   simp only [likes] at hL
   obtain ⟨t', r', e, hL1, hL2⟩ := hL
   injection e with e1 e2; subst e1; subst e2
   obtain ⟨p1, p2, p3⟩ := j1 ob id j t lf f c a p os1 h1 hT1 hB1 hB0 hL1 (fun l hl => hF l (by simp only [LT.looseL, List.mem_append]; exact .inl hl)) (fun q hq => hβ q (by simp only [basgs, List.mem_append]; exact .inl hq))
    (fun i off cs hm => hk i off cs (List.mem_append.2 (.inl hm)))
   obtain ⟨q1, q2, q3, q4⟩ := backLeaves_ok bs id (j + 1) r lr fs b (o + 1) l' ps' os' h2 hT2 hB3 hL2 (fun l hl => hF l (by simp only [LT.looseL, List.mem_append]; exact .inr hl)) (fun q hq => hβ q (by simp only [basgs, List.mem_append]; exact .inr hq))
    (fun i off cs hm => hk i off cs (List.mem_append.2 (.inr hm)))
   refine ⟨by simp [q1], fun k v hv => ?_, fun i hi => ?_, ?_⟩
   ·cases k with
    | zero => simp at hv; subst hv; exact ⟨c, by simpa using a1, by simpa using a2, a3, p1 hB2⟩
    | succ k =>
     have := q2 k v (by simpa using hv)
     rwa [show o + (k + 1) = o + 1 + k by omega]
   ·rw [kZ, List.map_append]
    simp only [AV.refsL, List.mem_append] at hi ⊢
    rcases hi with hi | hi
    ·exact (p2 i hi).imp .inl .inl
    ·exact (q3 i hi).imp .inr .inr
   ·rw [kZ, jq]
    simp only [basgs, LT.fixedL]
    exact p3.append q4
  ·exact absurd h (by simp)
end
def gv (β : Nat -> Loc) : List Back -> List LT -> List (Nat × Loc)
 | b :: bs, t :: ts => gZ β 0 0 (some b) t ++ gv β bs ts
 | _, _ => []
theorem fb {b : Back} {bs : List Back} {f : TV} {fs : List TV} {ws : List Patch} {os : List (Nat × Obj)} (hb : (∃ i, b = .bld i) ∨ ∃ i off l, b = .box i off l) (h : bZ (b :: bs) (f :: fs) = some (ws, os)) :
  ∃ a p o q r, bw 0 0 (some b) f = some (a, p, o) /\ bZ bs fs = some (q, r) /\ ws = p ++ q /\ os = o ++ r := by
 rcases hb with ⟨i, rfl⟩ | ⟨i, off, l, rfl⟩
 ·cases f <;> simp only [bZ] at h <;> try (cases h; done)
  split at h
  ·rename_i q r hr
   injection h with h; injection h with h1 h2; subst h1; subst h2
   exact ⟨_, _, _, q, r, rfl, hr, rfl, rfl⟩
  ·exact absurd h (by simp)
 ·cases f <;> simp only [bZ] at h <;> try (cases h; done)
  split at h
  ·rename_i l' ps os' q r h1 h2
   injection h with h; injection h with e1 e2; subst e1; subst e2
   exact ⟨.addr i 0 0, ps ++ [.box i off l'], os', q, r, by simp only [bw, h1], h2, by simp, rfl⟩
  ·exact absurd h (by simp)
theorem gY : ∀ (vs : List TV) (ms : List Mode) (ts : List LT) (cs : List Value) (bs : List Back) (fs : List TV) (lfs : List LT) (ws : List Patch) (os : List (Nat × Obj)), dw β ms vs ts bs -> cX w' M' ms vs ts cs fs lfs -> bZ bs fs = some (ws, os) →
  (∀ l ∈ bQ fs lfs, ∀ b j, l.F b j -> M' b j /\ (w.heap.size <= b ∨ G b j)) -> (∀ p ∈ gv β bs lfs, β' p.1 = p.2) -> (∀ i off cells, Patch.box i off cells ∈ ws -> β' i = β i) -> (∀ i sz es, Patch.buf i sz es ∈ ws -> β' i = β i) →
  BackOut β β' G w w' M' ws os (gv β bs lfs) (Back.idsL bs) (Back.bldsL bs) (fe ms vs ts)
 | [], ms, ts, cs, bs, fs, lfs, ws, os, hA, hFin, h, hF, hβ, hk, hk2 => by
  simp only [dw] at hA
  obtain ⟨rfl, rfl⟩ := hA
  simp only [cX] at hFin
  obtain ⟨rfl, rfl⟩ := hFin
  simp only [bZ] at h
  injection h with h; injection h with h1 h2; subst h1; subst h2
  simp only [gv, Back.idsL, Back.bldsL, List.flatMap_nil, fe]
  exact BackOut.none
 | .pv x :: vs, ms, ts, cs, bs, fs, lfs, ws, os, hA, hFin, h, hF, hβ, hk, hk2 => by
  simp only [dw] at hA
  obtain ⟨t, r, rfl, hA⟩ := hA
  simp only [cX] at hFin
  obtain ⟨t', r', c, d, e, rfl, hFin⟩ := hFin
  injection e with e1 e2; subst e1; subst e2
  simp only [fe]
  exact gY vs ms.tail r d bs fs lfs ws os hA hFin h hF hβ hk hk2
 | .own sz0 es0 :: vs, ms, ts, cs, bs, fs, lfs, ws, os, hA, hFin, h, hF, hβ, hk, hk2 => by
  simp only [dw] at hA
  obtain ⟨t, r, rfl, hA⟩ := hA
  simp only [cX] at hFin
  obtain ⟨t', r', c, d, e, rfl, hFin⟩ := hFin
  injection e with e1 e2; subst e1; subst e2
  by_cases hm : ms.headD .borrow = .mut
  ·rw [if_pos hm] at hA hFin
   obtain ⟨b, bs', rfl, hB, hkind, hA⟩ := hA
   obtain ⟨es', fr, lr, rfl, rfl, hT, hFin⟩ := hFin
   rcases hkind with ⟨i, rfl⟩ | rfl
   ·simp only [bZ] at h
    split at h
    ·rename_i q rr hr
     injection h with h; injection h with h1 h2; subst h1; subst h2
     have ih := gY vs ms.tail r d bs' fr lr q rr hA hFin hr (fun l hl => hF l (by simp only [bQ]; exact hl)) (fun p hp => hβ p (by simp only [gv, gZ, List.nil_append]; exact hp)) (fun i off cells hm => hk i off cells (List.mem_cons_of_mem _ hm)) (fun i sz es hm => hk2 i sz es (List.mem_cons_of_mem _ hm))
     simp only [eQ] at hB
     subst hB
     simp only [cY] at hT
     obtain ⟨l, e, _, hO⟩ := hT
     injection e with e; subst e
     have hbi := hk2 i sz0 es' (by simp)
     refine ⟨fun p hp => ?_, ih.objs, ?_, fun i' hi' => ?_, fun p hp => ?_, fun i' hi' => ?_, ih.refs, fun id off cs hm i' hi' => ?_, fun l hl x y hFl => ?_⟩
     ·rcases List.mem_cons.1 hp with rfl | hp
      ·refine ⟨hbi, ?_⟩
       rw [hbi]
       exact cJ.mono (β := fun _ => β i) (o := .buf sz0 es') (fun _ _ _ h1 h2 => ⟨h1, h2⟩) (fun _ _ _ _ h => ⟨h, rfl⟩) (fun _ _ h => h) (fun _ _ _ => rfl) (fun _ h => h) (by simp [Obj.refs]) hO
      ·exact ih.patch p hp
     ·simp only [List.map_cons, Patch.id, Back.idsL, List.flatMap_cons, Back.ids, List.singleton_append]
      exact List.Perm.cons i ih.pids
     ·have : i' ∈ Back.bldsL bs' := by simpa [Back.bldsL, Back.blds] using hi'
      exact (ih.pblds i' this).imp fun _ h => List.mem_cons_of_mem _ h
     ·simp only [gv, gZ, List.nil_append] at hp
      exact (ih.asg p hp).imp (fun h => h) (fun ⟨x, h⟩ => ⟨x, List.mem_cons_of_mem _ h⟩)
     ·simp only [gv, gZ, List.nil_append]; exact ih.osas i' hi'
     ·rcases List.mem_cons.1 hm with hm | hm
      ·cases hm
      ·exact (ih.prefs id off cs hm i' hi').imp (fun h => by simp only [Back.idsL, List.flatMap_cons]; exact List.mem_append.2 (.inr h)) (fun h => h)
     ·simp only [fe, if_pos hm, LT.locs, List.singleton_append, List.mem_cons] at hl
      rcases hl with rfl | hl
      ·exact ⟨_, List.mem_cons_self, hFl⟩
      ·obtain ⟨p, p1, p2⟩ := ih.touch l hl x y hFl
       exact ⟨p, List.mem_cons_of_mem _ p1, p2⟩
    ·exact absurd h (by simp)
   ·cases es' with
    | cons e es => simp only [bZ] at h; exact absurd h (by simp)
    | nil =>
     simp only [bZ] at h
     have ih := gY vs ms.tail r d bs' fr lr ws os hA hFin h (fun l hl => hF l (by simp only [bQ]; exact hl)) (fun p hp => hβ p (by simp only [gv, gZ, List.nil_append]; exact hp)) hk hk2
     have e1 : gv β (Back.nilSl :: bs') (t :: lr) = gv β bs' lr := by simp only [gv, gZ, List.nil_append]
     have e2 : Back.idsL (Back.nilSl :: bs') = Back.idsL bs' := by simp [Back.idsL, Back.ids]
     have e3 : Back.bldsL (Back.nilSl :: bs') = Back.bldsL bs' := by simp [Back.bldsL, Back.blds]
     rw [e1, e2, e3]
     refine { ih with touch := fun l hl x y hFl => ?_ }
     simp only [fe, if_pos hm] at hl
     rcases List.mem_append.1 hl with hl | hl
     ·simp only [eQ] at hB
      obtain ⟨l0, rfl, hb1, hb2⟩ := hB
      simp [LT.locs] at hl; subst hl
      rcases hFl with ⟨o', t1, _⟩ | ⟨n, t1, _⟩
      ·rw [hb1] at t1; simp at t1
      ·rw [hb2] at t1; simp at t1
     ·exact ih.touch l hl x y hFl
  ·rw [if_neg hm] at hA hFin
   simp only [fe, if_neg hm, List.nil_append]
   exact gY vs ms.tail r d bs fs lfs ws os hA hFin h hF hβ hk hk2
 | .bld s0 :: vs, ms, ts, cs, bs, fs, lfs, ws, os, hA, hFin, h, hF, hβ, hk, hk2 => by
  simp only [dw] at hA
  obtain ⟨t, r, rfl, b, bs', rfl, hB, hkind, hA⟩ := hA
  simp only [cX] at hFin
  obtain ⟨t', r', c, d, e, rfl, f, fr, lf, lr, rfl, rfl, hT, hL, hFin⟩ := hFin
  injection e with e1 e2; subst e1; subst e2
  obtain ⟨a, p, o, q, rr, h1, h2, rfl, rfl⟩ := fb (.inl hkind) h
  have hlo : bQ (f :: fr) (lf :: lr) = lf.loose ++ bQ fr lr := by
   obtain ⟨i, rfl⟩ := hkind
   cases f <;> simp only [bw] at h1 <;> first | (cases h1; done) | simp only [bQ]
  obtain ⟨_, _, k⟩ := j1 (some b) 0 0 t lf f c a p o h1 hT (fun b' hb' => by injection hb' with hb'; subst hb'; exact hB) (by simp) hL (fun l hl => hF l (by rw [hlo]; exact List.mem_append.2 (.inl hl))) (fun x hx => hβ x (by simp only [gv]; exact List.mem_append.2 (.inl hx))) (fun i off cs hm => hk i off cs (List.mem_append.2 (.inl hm)))
  have ih := gY vs ms.tail r d bs' fr lr q rr hA hFin h2 (fun l hl => hF l (by rw [hlo]; exact List.mem_append.2 (.inr hl))) (fun x hx => hβ x (by simp only [gv]; exact List.mem_append.2 (.inr hx))) (fun i off cs hm => hk i off cs (List.mem_append.2 (.inr hm))) (fun i sz es hm => hk2 i sz es (List.mem_append.2 (.inr hm)))
  simp only [gv, Back.idsL, Back.bldsL, List.flatMap_cons, fe]
  exact k.append ih
 | .ptr s0 :: vs, ms, ts, cs, bs, fs, lfs, ws, os, hA, hFin, h, hF, hβ, hk, hk2 => by
  simp only [dw] at hA
  obtain ⟨t, r, rfl, b, bs', rfl, hB, hkind, hA⟩ := hA
  simp only [cX] at hFin
  obtain ⟨t', r', c, d, e, rfl, f, fr, lf, lr, rfl, rfl, hT, hL, hFin⟩ := hFin
  injection e with e1 e2; subst e1; subst e2
  obtain ⟨a, p, o, q, rr, h1, h2, rfl, rfl⟩ := fb (.inr hkind) h
  have hlo : bQ (f :: fr) (lf :: lr) = lf.loose ++ bQ fr lr := by
   obtain ⟨i, off, l, rfl⟩ := hkind
   cases f <;> simp only [bw] at h1 <;> first | (cases h1; done) | simp only [bQ]
  obtain ⟨_, _, k⟩ := j1 (some b) 0 0 t lf f c a p o h1 hT (fun b' hb' => by injection hb' with hb'; subst hb'; exact hB) (by simp) hL (fun l hl => hF l (by rw [hlo]; exact List.mem_append.2 (.inl hl))) (fun x hx => hβ x (by simp only [gv]; exact List.mem_append.2 (.inl hx))) (fun i off cs hm => hk i off cs (List.mem_append.2 (.inl hm)))
  have ih := gY vs ms.tail r d bs' fr lr q rr hA hFin h2 (fun l hl => hF l (by rw [hlo]; exact List.mem_append.2 (.inr hl))) (fun x hx => hβ x (by simp only [gv]; exact List.mem_append.2 (.inr hx))) (fun i off cs hm => hk i off cs (List.mem_append.2 (.inr hm))) (fun i sz es hm => hk2 i sz es (List.mem_append.2 (.inr hm)))
  simp only [gv, Back.idsL, Back.bldsL, List.flatMap_cons, fe]
  exact k.append ih
structure AsgOut (β : Nat -> Loc) (os : List (Nat × Obj)) (ba : List (Nat × Loc)) (blds : List Nat) (ls loose : List Loc) : Prop where
 perm : (ba.map (·.1)).Perm (os.map (·.1) ++ blds)
 pair : fu ls -> ba.Pairwise (fun p q => ∀ b j, p.2.F b j -> ¬ q.2.F b j)
 mem : ∀ p ∈ ba, ∃ l ∈ loose, ∀ b j, p.2.F b j ↔ l.F b j
 same : ∀ p ∈ ba, p.1 ∈ os.map (·.1) ∨ (β p.1).same p.2
theorem AsgOut.none {β : Nat -> Loc} (ls loose : List Loc) : AsgOut β [] [] [] ls loose := ⟨by simp, fun _ => List.Pairwise.nil, by simp, by simp⟩
theorem fu.left {ls ls' : List Loc} (h : fu (ls ++ ls')) : fu ls := (List.pairwise_append.1 h).1
theorem fu.right {ls ls' : List Loc} (h : fu (ls ++ ls')) : fu ls' := (List.pairwise_append.1 h).2.1
theorem AsgOut.append {β : Nat -> Loc} {os os' : List (Nat × Obj)} {ba ba' : List (Nat × Loc)} {blds blds' : List Nat} {ls ls' lo lo' : List Loc} (h : AsgOut β os ba blds ls lo) (k : AsgOut β os' ba' blds' ls' lo') (hl : ∀ l ∈ lo, l ∈ ls) (hl' : ∀ l ∈ lo', l ∈ ls') :
  AsgOut β (os ++ os') (ba ++ ba') (blds ++ blds') (ls ++ ls') (lo ++ lo') where
 perm := by
  rw [List.map_append, List.map_append]
  exact (List.Perm.append h.perm k.perm).trans (sM ..)
 pair ha := by
  refine List.pairwise_append.2 ⟨h.pair ha.left, k.pair ha.right, fun p hp q hq b j hF hF' => ?_⟩
  obtain ⟨l, l1, l2⟩ := h.mem p hp
  obtain ⟨l', l3, l4⟩ := k.mem q hq
  exact (List.pairwise_append.1 ha).2.2 l (hl l l1) l' (hl' l' l3) b j ((l2 b j).1 hF) ((l4 b j).1 hF')
 mem p hp := by
  rcases List.mem_append.1 hp with hp | hp
  ·obtain ⟨l, l1, l2⟩ := h.mem p hp; exact ⟨l, List.mem_append.2 (.inl l1), l2⟩
  ·obtain ⟨l, l1, l2⟩ := k.mem p hp; exact ⟨l, List.mem_append.2 (.inr l1), l2⟩
 same p hp := by
  rw [List.map_append]
  rcases List.mem_append.1 hp with hp | hp
  ·exact (h.same p hp).imp (fun h => List.mem_append.2 (.inl h)) (fun h => h)
  ·exact (k.same p hp).imp (fun h => List.mem_append.2 (.inr h)) (fun h => h)
theorem jC (t : LT) : ∀ l ∈ t.loose, l ∈ t.locs := fun l hl => (LT.mem_locs t l).2 (.inl hl)
theorem vZ (ts : List LT) : ∀ l ∈ LT.looseL ts, l ∈ LT.locsL ts := fun l hl => (LT.mem_locsL ts l).2 (.inl hl)
mutual
theorem p5 : ∀ (ob : Option Back) (id j : Nat) (t lf : LT) (f : TV) (c : Value) (a : AV) (ps : List Patch) (os : List (Nat × Obj)), bw id j ob f = some (a, ps, os) -> cY w' M' f lf c →
  (∀ b, ob = some b -> eQ β b t) -> jT t lf -> AsgOut β os (gZ β id j ob lf) (ez ob) lf.locs lf.loose
 | some (.box i off bs), id, j, t, lf, f, c, a, ps, os, h, hT, hB, hL => by
  cases f <;> simp only [bw] at h <;> try (cases h; done)
  rename_i cells
  split at h
  ·rename_i l ps' os' hl
   injection h with h; injection h with h1 h; injection h with h2 h3; subst h1; subst h2; subst h3
   have hb := hB _ rfl
   simp only [eQ] at hb
   obtain ⟨l0, subs, b, o, rfl, hb1, hb2, hb3, hb4, hb5, hb6⟩ := hb
   simp only [jT] at hL
   obtain ⟨l1, subs1, rfl, e1, e2, e3, hL⟩ := hL
   simp only [cY] at hT
   obtain ⟨l2, subs2, b2, o2, e, h21, h22, h23, h24, hT⟩ := hT
   injection e with e4 e5; subst e4; subst e5
   have k := basgs_out bs i off subs subs1 cells b2 o2 l ps' os' hl hT hb6 hL
   simp only [gZ, ez, Back.blds, LT.locs, LT.loose]
   exact { k with pair := fun ha => k.pair (List.pairwise_cons.1 ha).2 }
  ·exact absurd h (by simp)
 | some (.own i), id, j, t, lf, f, c, a, ps, os, h, hT, hB, hL => by cases f <;> simp only [bw] at h <;> cases h
 | some .nilSl, id, j, t, lf, f, c, a, ps, os, h, hT, hB, hL => by cases f <;> simp only [bw] at h <;> cases h
 | some (.bld i), id, j, t, lf, f, c, a, ps, os, h, hT, hB, hL => by
  cases f <;> simp only [bw] at h <;> try (cases h; done)
  rename_i bs
  injection h with h; injection h with h1 h; injection h with h2 h3; subst h1; subst h2; subst h3
  have hb := hB _ rfl
  simp only [eQ] at hb
  obtain ⟨rfl, hb2⟩ := hb
  simp only [jT] at hL
  obtain ⟨l1, rfl, e1⟩ := hL
  simp only [cY] at hT
  obtain ⟨l2, b2, o2, e, h21, h22, h23⟩ := hT
  injection e with e4; subst e4
  simp only [gZ, ez, Back.blds, LT.locs, LT.loose]
  refine ⟨by simp, fun _ => List.pairwise_singleton _ _, fun p hp => ?_, fun p hp => .inr ?_⟩
  ·simp at hp; subst hp
   exact ⟨l1, by simp, Loc.F_of e1 (by rw [h23.k2]; exact hb2.symm) rfl⟩
  ·simp at hp; subst hp; exact ⟨rfl, rfl, rfl, rfl⟩
 | none, id, j, t, lf, f, c, a, ps, os, h, hT, hB, hL => by
  cases f <;> simp only [bw] at h <;> try (cases h; done)
  ·injection h with h; injection h with h1 h; injection h with h2 h3; subst h1; subst h2; subst h3
   simp only [cY] at hT
   obtain ⟨rfl, hT⟩ := hT
   simp only [gZ, ez]; exact AsgOut.none _ _
  ·rename_i sz es
   injection h with h; injection h with h1 h; injection h with h2 h3; subst h1; subst h2; subst h3
   simp only [cY] at hT
   obtain ⟨l, rfl, h1, h2⟩ := hT
   simp only [gZ, ez, LT.locs, LT.loose]
   refine ⟨by simp, fun _ => List.pairwise_singleton _ _, fun p hp => ?_, fun p hp => .inl ?_⟩
   ·simp at hp; subst hp; exact ⟨l, by simp, fun _ _ => Iff.rfl⟩
   ·simp at hp; subst hp; simp
theorem basgs_out : ∀ (bs : List (Option Back)) (id j : Nat) (ts lfs : List LT) (fs : List TV) (b o : Nat) (l : List AV) (ps : List Patch) (os : List (Nat × Obj)), backLeaves id j bs fs = some (l, ps, os) -> TVLs w' M' fs lfs b o →
  BackRs β bs ts -> likes ts lfs -> AsgOut β os (basgs β id j bs lfs) (Back.bldsO bs) (LT.locsL lfs) (LT.looseL lfs)
 | [], id, j, ts, lfs, fs, b, o, l, ps, os, h, hT, hB, hL => by
  cases fs <;> simp only [backLeaves] at h <;> try (cases h; done)
  injection h with h; injection h with h1 h; injection h with h2 h3; subst h1; subst h2; subst h3
  simp only [basgs, Back.bldsO]; exact AsgOut.none _ _
 | ob :: bs, id, j, ts, lfs, fs, b, o, l, ps, os, h, hT, hB, hL => by
  cases fs <;> simp only [backLeaves] at h <;> try (cases h; done)
  rename_i f fs
  split at h
  ·rename_i a p os1 l' ps' os' h1 h2
   injection h with h; injection h with e1 h; injection h with e2 e3; subst e1; subst e2; subst e3
   simp only [TVLs] at hT
   obtain ⟨lf, lr, c, rfl, a1, a2, a3, hT1, hT2⟩ := hT
   have hts : ∃ t r, ts = t :: r /\ (∀ b, ob = some b -> eQ β b t) /\ BackRs β bs r := by
    cases ob with
    | none =>
     simp only [BackRs] at hB
     obtain ⟨t, r, rfl, _, hB⟩ := hB
     exact ⟨t, r, rfl, by simp, hB⟩
    | some x =>
     simp only [BackRs] at hB
     obtain ⟨t, r, rfl, hB1, hB2, hB3⟩ := hB
     exact ⟨t, r, rfl, fun b hb => by injection hb with hb; subst hb; exact hB1, hB3⟩
   obtain ⟨t, r, rfl, hB1, hB3⟩ := hts
   simp only [likes] at hL
   obtain ⟨t', r', e, hL1, hL2⟩ := hL
   injection e with e1 e2; subst e1; subst e2
   rw [jq]
   simp only [basgs, LT.locsL, LT.looseL]
   exact (p5 ob id j t lf f c a p os1 h1 hT1 hB1 hL1).append (basgs_out bs id (j + 1) r lr fs b (o + 1) l' ps' os' h2 hT2 hB3 hL2) (jC _) (vZ _)
  ·exact absurd h (by simp)
end
theorem AsgOut.skip {β : Nat -> Loc} {os : List (Nat × Obj)} {ba : List (Nat × Loc)} {blds : List Nat} {ls lo : List Loc} (h : AsgOut β os ba blds ls lo) (t : List Loc) : AsgOut β os ba blds (t ++ ls) lo :=
 { h with pair := fun ha => h.pair ha.right }
theorem fd : ∀ (fs : List TV) (ts : List LT), ∀ l ∈ bQ fs ts, l ∈ LT.locsL ts
 | [], ts, l, hl => by simp [bQ] at hl
 | f :: fs, [], l, hl => by cases f <;> simp [bQ] at hl
 | f :: fs, t :: ts, l, hl => by
  simp only [LT.locsL, List.mem_append]
  cases f <;> simp only [bQ, List.mem_append] at hl
  case own => exact .inr (fd fs ts l hl)
  all_goals exact hl.imp (jC t l) (fd fs ts l)
theorem iw : ∀ (vs : List TV) (ms : List Mode) (ts : List LT) (cs : List Value) (bs : List Back) (fs : List TV) (lfs : List LT) (ws : List Patch) (os : List (Nat × Obj)), dw β ms vs ts bs -> cX w' M' ms vs ts cs fs lfs -> bZ bs fs = some (ws, os) →
  AsgOut β os (gv β bs lfs) (Back.bldsL bs) (LT.locsL lfs) (bQ fs lfs)
 | [], ms, ts, cs, bs, fs, lfs, ws, os, hA, hFin, h => by
  simp only [dw] at hA
  obtain ⟨rfl, rfl⟩ := hA
  simp only [cX] at hFin
  obtain ⟨rfl, rfl⟩ := hFin
  simp only [bZ] at h
  injection h with h; injection h with h1 h2; subst h1; subst h2
  simp only [gv, Back.bldsL, List.flatMap_nil]
  exact AsgOut.none _ _
 | .pv x :: vs, ms, ts, cs, bs, fs, lfs, ws, os, hA, hFin, h => by
  simp only [dw] at hA
  obtain ⟨t, r, rfl, hA⟩ := hA
  simp only [cX] at hFin
  obtain ⟨t', r', c, d, e, rfl, hFin⟩ := hFin
  injection e with e1 e2; subst e1; subst e2
  exact iw vs ms.tail r d bs fs lfs ws os hA hFin h
 | .own sz0 es0 :: vs, ms, ts, cs, bs, fs, lfs, ws, os, hA, hFin, h => by
  simp only [dw] at hA
  obtain ⟨t, r, rfl, hA⟩ := hA
  simp only [cX] at hFin
  obtain ⟨t', r', c, d, e, rfl, hFin⟩ := hFin
  injection e with e1 e2; subst e1; subst e2
  by_cases hm : ms.headD .borrow = .mut
  ·rw [if_pos hm] at hA hFin
   obtain ⟨b, bs', rfl, hB, hkind, hA⟩ := hA
   obtain ⟨es', fr, lr, rfl, rfl, hT, hFin⟩ := hFin
   rcases hkind with ⟨i, rfl⟩ | rfl
   ·simp only [bZ] at h
    split at h
    ·rename_i q rr hr
     injection h with h; injection h with h1 h2; subst h1; subst h2
     have ih := iw vs ms.tail r d bs' fr lr q rr hA hFin hr
     simp only [gv, gZ, List.nil_append, Back.bldsL, List.flatMap_cons, Back.blds, LT.locsL, bQ]
     exact ih.skip _
    ·exact absurd h (by simp)
   ·cases es' with
    | cons e es => simp only [bZ] at h; exact absurd h (by simp)
    | nil =>
     simp only [bZ] at h
     have ih := iw vs ms.tail r d bs' fr lr ws os hA hFin h
     simp only [gv, gZ, List.nil_append, Back.bldsL, List.flatMap_cons, Back.blds, LT.locsL, bQ]
     exact ih.skip _
  ·rw [if_neg hm] at hA hFin
   exact iw vs ms.tail r d bs fs lfs ws os hA hFin h
 | .bld s0 :: vs, ms, ts, cs, bs, fs, lfs, ws, os, hA, hFin, h => by
  simp only [dw] at hA
  obtain ⟨t, r, rfl, b, bs', rfl, hB, hkind, hA⟩ := hA
  simp only [cX] at hFin
  obtain ⟨t', r', c, d, e, rfl, f, fr, lf, lr, rfl, rfl, hT, hL, hFin⟩ := hFin
  injection e with e1 e2; subst e1; subst e2
  obtain ⟨a, p, o, q, rr, h1, h2, rfl, rfl⟩ := fb (.inl hkind) h
  have hlo : bQ (f :: fr) (lf :: lr) = lf.loose ++ bQ fr lr := by
   obtain ⟨i, rfl⟩ := hkind
   cases f <;> simp only [bw] at h1 <;> first | (cases h1; done) | simp only [bQ]
  rw [hlo]
  simp only [gv, Back.bldsL, List.flatMap_cons, LT.locsL]
  exact (p5 (some b) 0 0 t lf f c a p o h1 hT (fun b' hb' => by injection hb' with hb'; subst hb'; exact hB) hL).append (iw vs ms.tail r d bs' fr lr q rr hA hFin h2) (jC _) (fd _ _)
 | .ptr s0 :: vs, ms, ts, cs, bs, fs, lfs, ws, os, hA, hFin, h => by
  simp only [dw] at hA
  obtain ⟨t, r, rfl, b, bs', rfl, hB, hkind, hA⟩ := hA
  simp only [cX] at hFin
  obtain ⟨t', r', c, d, e, rfl, f, fr, lf, lr, rfl, rfl, hT, hL, hFin⟩ := hFin
  injection e with e1 e2; subst e1; subst e2
  obtain ⟨a, p, o, q, rr, h1, h2, rfl, rfl⟩ := fb (.inr hkind) h
  have hlo : bQ (f :: fr) (lf :: lr) = lf.loose ++ bQ fr lr := by
   obtain ⟨i, off, l, rfl⟩ := hkind
   cases f <;> simp only [bw] at h1 <;> first | (cases h1; done) | simp only [bQ]
  rw [hlo]
  simp only [gv, Back.bldsL, List.flatMap_cons, LT.locsL]
  exact (p5 (some b) 0 0 t lf f c a p o h1 hT (fun b' hb' => by injection hb' with hb'; subst hb'; exact hB) hL).append (iw vs ms.tail r d bs' fr lr q rr hA hFin h2) (jC _) (fd _ _)
end
end Go.Proofs.YtcoikmicjbppmaaGreat.Vm
namespace Go.Proofs.YtcoikmicjbppmaaGreat.Vm
open Go
set_option linter.unusedVariables false
set_option linter.unusedSimpArgs false
section
variable {w w' : World} {M M' : ay}
mutual
theorem sb : ∀ {x : PV} {c : Value}, kb x = true -> bp w M x c -> bp w' M' x c
 | .int _ _, _, _, k => by simpa only [bp] using k
 | .bool _, _, _, k => by simpa only [bp] using k
 | .str _, _, _, k => by simpa only [bp] using k
 | .nilIface, _, _, k => by simpa only [bp] using k
 | .nilPtr, _, _, k => by simpa only [bp] using k
 | .nilFn, _, _, k => by simpa only [bp] using k
 | .nilSlc, _, _, k => by simpa only [bp] using k
 | .agg fs, c, h, k => by
  simp only [kb] at h
  simp only [bp] at k ⊢
  obtain ⟨cs, h1, h2⟩ := k
  exact ⟨cs, h1, flatPVs_ok h h2⟩
 | .fn f caps, c, h, k => by
  simp only [kb] at h
  simp only [bp] at k ⊢
  obtain ⟨cs, h1, h2⟩ := k
  exact ⟨cs, h1, flatPVs_ok h h2⟩
 | .sl _, c, h, k => by simp [kb] at h
 | .iptr _, c, h, k => by simp [kb] at h
theorem flatPVs_ok : ∀ {xs : List PV} {vs : List Value}, flatPVs xs = true -> RepS w M xs vs -> RepS w' M' xs vs
 | [], vs, _, k => by simpa only [RepS] using k
 | x :: xs, vs, h, k => by
  simp only [flatPVs, Bool.and_eq_true] at h
  simp only [RepS] at k ⊢
  obtain ⟨c, r, h1, h2, h3, h4⟩ := k
  exact ⟨c, r, h1, h2, sb h.1 h3, flatPVs_ok h.2 h4⟩
end
mutual
theorem nQ : ∀ {v : TV} {t : LT} {c : Value}, lP v = true -> cY w M v t c -> cY w M' v t c
 | .pv x, t, c, h, k => by
  simp only [lP] at h
  simp only [cY] at k ⊢
  exact ⟨k.1, sb h k.2⟩
 | .own sz es, t, c, h, k => by
  simp only [lP] at h
  simp only [cY] at k ⊢
  obtain ⟨l, h1, h2, q1, q2, q3, q4, q5, q6, q7, q8, q9⟩ := k
  refine ⟨l, h1, h2, q1, q2, q3, q4, q5, q6, q7, q8, fun b o hb => ?_⟩
  obtain ⟨r1, r2⟩ := q9 b o hb
  refine ⟨r1, fun i e he => ?_⟩
  obtain ⟨vs, s1, s2⟩ := r2 i e he
  exact ⟨vs, flatPVs_ok (List.all_eq_true.1 h e (List.mem_of_getElem? he)) s1, s2⟩
 | .bld bs, t, c, h, k => by simpa only [cY] using k
 | .ptr cells, t, c, h, k => by
  simp only [lP] at h
  simp only [cY] at k ⊢
  obtain ⟨l, subs, b, o, h1, h2, h3, h4, h5, h6⟩ := k
  exact ⟨l, subs, b, o, h1, h2, h3, h4, h5, flatTVs_ok h h6⟩
theorem flatTVs_ok : ∀ {vs : List TV} {ts : List LT} {b o : Nat}, flatTVs vs = true -> TVLs w M vs ts b o -> TVLs w M' vs ts b o
 | [], ts, b, o, _, k => by simpa only [TVLs] using k
 | v :: vs, ts, b, o, h, k => by
  simp only [flatTVs, Bool.and_eq_true] at h
  simp only [TVLs] at k ⊢
  obtain ⟨t, r, c, h1, h2, h3, h4, h5, h6⟩ := k
  exact ⟨t, r, c, h1, h2, h3, h4, nQ h.1 h5, flatTVs_ok h.2 h6⟩
end
theorem aX.imp : ∀ {vs : List TV} {ts : List LT} {cs : List Value}, (∀ v ∈ vs, ∀ t c, cY w M v t c -> cY w M' v t c) -> aX w M vs ts cs -> aX w M' vs ts cs
 | [], ts, cs, _, h => h
 | v :: vs, ts, cs, hi, h => by
  simp only [aX] at h ⊢
  obtain ⟨t, r, c, d, h1, h2, h3, h4⟩ := h
  exact ⟨t, r, c, d, h1, h2, hi v (by simp) t c h3, aX.imp (fun x hx => hi x (by simp [hx])) h4⟩
theorem cX.imp : ∀ {vs : List TV} {ms : List Mode} {ts : List LT} {cs : List Value} {fs : List TV} {lfs : List LT}, (∀ v ∈ fs, ∀ t c, cY w M v t c -> cY w M' v t c) -> cX w M ms vs ts cs fs lfs -> cX w M' ms vs ts cs fs lfs
 | [], ms, ts, cs, fs, lfs, _, h => by simpa only [cX] using h
 | .pv x :: vs, ms, ts, cs, fs, lfs, hi, h => by
  simp only [cX] at h ⊢
  obtain ⟨t, r, c, d, h1, h2, h3⟩ := h
  exact ⟨t, r, c, d, h1, h2, cX.imp hi h3⟩
 | .own sz es :: vs, ms, ts, cs, fs, lfs, hi, h => by
  simp only [cX] at h ⊢
  obtain ⟨t, r, c, d, h1, h2, h3⟩ := h
  refine ⟨t, r, c, d, h1, h2, ?_⟩
  split at h3
  ·rename_i hm
   rw [if_pos hm]
   obtain ⟨es', fr, lr, rfl, h5, h6, h7⟩ := h3
   exact ⟨es', fr, lr, rfl, h5, hi _ (by simp) _ _ h6, cX.imp (fun x hx => hi x (by simp [hx])) h7⟩
  ·rename_i hm
   rw [if_neg hm]
   exact cX.imp hi h3
 | .bld s :: vs, ms, ts, cs, fs, lfs, hi, h => by
  simp only [cX] at h ⊢
  obtain ⟨t, r, c, d, h1, h2, f, fr, lf, lr, rfl, h4, h5, h6, h7⟩ := h
  exact ⟨t, r, c, d, h1, h2, f, fr, lf, lr, rfl, h4, hi _ (by simp) _ _ h5, h6, cX.imp (fun x hx => hi x (by simp [hx])) h7⟩
 | .ptr s :: vs, ms, ts, cs, fs, lfs, hi, h => by
  simp only [cX] at h ⊢
  obtain ⟨t, r, c, d, h1, h2, f, fr, lf, lr, rfl, h4, h5, h6, h7⟩ := h
  exact ⟨t, r, c, d, h1, h2, f, fr, lf, lr, rfl, h4, hi _ (by simp) _ _ h5, h6, cX.imp (fun x hx => hi x (by simp [hx])) h7⟩
theorem kc : ∀ {vs : List TV}, flatTVs vs = true -> ∀ v ∈ vs, lP v = true
 | [], _, v, hv => by simp at hv
 | x :: vs, h, v, hv => by
  simp only [flatTVs, Bool.and_eq_true] at h
  rcases List.mem_cons.1 hv with rfl | hv
  ·exact h.1
  ·exact kc h.2 v hv
theorem aX.length : ∀ {vs : List TV} {ts : List LT} {cs : List Value}, aX w M vs ts cs -> cs.length = vs.length
 | [], ts, cs, h => by simp only [aX] at h; simp [h.2]
 | v :: vs, ts, cs, h => by
  simp only [aX] at h
  obtain ⟨t, r, c, d, rfl, rfl, _, h4⟩ := h
  simp [aX.length h4]
theorem oP {β : Nat -> Loc} (g : Nat -> Nat -> Nat) : ∀ (vs : List TV) (id j : Nat) (ts : List LT) (cs : List Value), aX w M vs ts cs -> (∀ p ∈ asgs g id j ts, β p.1 = p.2) →
  AVRs β w M (places g id j vs).1 cs /\ (∀ p ∈ (places g id j vs).2, cJ β w M (β p.1) p.2) /\ (places g id j vs).2.map (·.1) = (asgs g id j ts).map (·.1)
 | [], id, j, ts, cs, h, hb => by
  simp only [aX] at h
  obtain ⟨rfl, rfl⟩ := h
  simp [places, asgs, AVRs]
 | v :: vs, id, j, ts, cs, h, hb => by
  simp only [aX] at h
  obtain ⟨t, r, c, d, rfl, rfl, h1, h2⟩ := h
  obtain ⟨p1, p2⟩ := mY g v (g id j) t c h1 (fun p hp => hb p (by simp only [asgs, List.mem_append]; exact .inl hp))
  obtain ⟨q1, q2, q3⟩ := oP g vs id (j + 1) r d h2 (fun p hp => hb p (by simp only [asgs, List.mem_append]; exact .inr hp))
  refine ⟨?_, fun p hp => ?_, ?_⟩
  ·simp only [places, AVRs]; exact ⟨c, d, rfl, p1, q1⟩
  ·simp only [places, List.mem_append] at hp
   exact hp.elim (p2 p) (q2 p)
  ·simp only [places, asgs, List.map_append, fG g v (g id j) t c h1, q3]
def me (d : Nat) : List LT -> List (Nat × Loc)
 | [t] => asg bg (aN d) t
 | ts => asgs bg (aN d) 0 ts
theorem H4 {β : Nat -> Loc} {d : Nat} {rs : List TV} {ts : List LT} {cs : List Value} (h : aX w M rs ts cs) (hb : ∀ p ∈ me d ts, β p.1 = p.2) :
  aL β w M (dQ d rs).1 (rt cs) /\ (∀ p ∈ (dQ d rs).2, cJ β w M (β p.1) p.2) /\ (dQ d rs).2.map (·.1) = (me d ts).map (·.1) /\ (me d ts).map (·.2) = LT.locsL ts ∧
  (∀ i ∈ (dQ d rs).1.refs, i ∈ (dQ d rs).2.map (·.1)) /\ ∀ p ∈ (dQ d rs).2, ∀ i ∈ p.2.refs, i ∈ (dQ d rs).2.map (·.1) := by
 have many : ∀ rs ts cs, aX w M rs ts cs -> (∀ p ∈ asgs bg (aN d) 0 ts, β p.1 = p.2) -> aL β w M (.tup (places bg (aN d) 0 rs).1) (.tuple cs.toArray) /\ (∀ p ∈ (places bg (aN d) 0 rs).2, cJ β w M (β p.1) p.2) ∧
   (places bg (aN d) 0 rs).2.map (·.1) = (asgs bg (aN d) 0 ts).map (·.1) /\ (asgs bg (aN d) 0 ts).map (·.2) = LT.locsL ts ∧
   (∀ i ∈ (AV.tup (places bg (aN d) 0 rs).1).refs, i ∈ (places bg (aN d) 0 rs).2.map (·.1)) /\ ∀ p ∈ (places bg (aN d) 0 rs).2, ∀ i ∈ p.2.refs, i ∈ (places bg (aN d) 0 rs).2.map (·.1) := by
  intro rs ts cs h hb
  obtain ⟨q1, q2, q3⟩ := oP bg rs (aN d) 0 ts cs h hb
  obtain ⟨r1, r2⟩ := places_refs bg rs (aN d) 0
  exact ⟨by simp only [aL]; exact ⟨_, rfl, by simpa using q1⟩, q2, q3, asgs_locs _ _ _ _, by simpa only [AV.refs] using r1, r2⟩
 cases rs with
 | nil =>
  have h' := h
  simp only [aX] at h
  obtain ⟨rfl, rfl⟩ := h
  exact many [] [] [] h' hb
 | cons v rs =>
  cases rs with
  | nil =>
   simp only [aX] at h
   obtain ⟨t, r, c, d', rfl, rfl, h1, rfl, rfl⟩ := h
   obtain ⟨p1, p2⟩ := mY bg v (aN d) t c h1 hb
   obtain ⟨r1, r2⟩ := mb bg v (aN d)
   exact ⟨p1, p2, fG bg v (aN d) t c h1, by simp only [me, LT.locsL, pX, List.append_nil], r1, r2⟩
  | cons v' rs =>
   have h' := h
   simp only [aX] at h
   obtain ⟨t, r, c, d', rfl, rfl, h1, t', r', c', d'', rfl, rfl, h2, h3⟩ := h
   exact many _ _ _ h' hb
theorem jF (g : Nat -> Nat -> Nat) : ∀ (vs : List TV) (id j : Nat) (ts : List LT) (cs : List Value), aX w M vs ts cs -> (places g id j vs).2.map (·.1) = (asgs g id j ts).map (·.1)
 | [], id, j, ts, cs, h => by
  simp only [aX] at h
  obtain ⟨rfl, rfl⟩ := h
  simp [places, asgs]
 | v :: vs, id, j, ts, cs, h => by
  simp only [aX] at h
  obtain ⟨t, r, c, d, rfl, rfl, h1, h2⟩ := h
  simp only [places, asgs, List.map_append, fG g v (g id j) t c h1, jF g vs id (j + 1) r d h2]
theorem EF {d : Nat} {rs : List TV} {ts : List LT} {cs : List Value} (h : aX w M rs ts cs) : (dQ d rs).2.map (·.1) = (me d ts).map (·.1) := by
 cases rs with
 | nil =>
  have h' := h
  simp only [aX] at h
  obtain ⟨rfl, rfl⟩ := h
  exact jF bg [] (aN d) 0 [] [] h'
 | cons v rs =>
  cases rs with
  | nil =>
   simp only [aX] at h
   obtain ⟨t, r, c, d', rfl, rfl, h1, rfl, rfl⟩ := h
   exact fG bg v (aN d) t c h1
  | cons v' rs =>
   have h' := h
   simp only [aX] at h
   obtain ⟨t, r, c, d', rfl, rfl, h1, t', r', c', d'', rfl, rfl, h2, h3⟩ := h
   exact jF bg _ (aN d) 0 _ _ h'
theorem jB : ∀ (a b : List LT), LT.locsL (a ++ b) = LT.locsL a ++ LT.locsL b
 | [], b => rfl
 | t :: r, b => by simp only [List.cons_append, LT.locsL, jB r b, List.append_assoc]
theorem fB {w0 : World} {M0 : ay} : ∀ {vs : List TV} {ms : List Mode} {ts : List LT} {cs cs' : List Value} {fs : List TV} {lfs : List LT}, aX w0 M0 vs ts cs' -> cX w M ms vs ts cs fs lfs →
  ∀ l ∈ LT.locsL ts, l ∈ cD ms vs ts ∨ (l ∈ fe ms vs ts /\ ∃ l' ∈ LT.locsL lfs, ∀ b j, l.F b j ↔ l'.F b j)
 | [], ms, ts, cs, cs', fs, lfs, hT, h, l, hl => by
  simp only [aX] at hT
  obtain ⟨rfl, _⟩ := hT
  simp [LT.locsL] at hl
 | .pv x :: vs, ms, ts, cs, cs', fs, lfs, hT, h, l, hl => by
  simp only [cX] at h
  obtain ⟨t, r, c, d, rfl, rfl, h⟩ := h
  simp only [aX, cY] at hT
  obtain ⟨t', r', c', d', e, rfl, ⟨ht, _⟩, hT⟩ := hT
  injection e with e1 e2; subst e1; subst e2; subst ht
  simp only [LT.locsL, LT.locs, List.nil_append] at hl
  simp only [cD, LT.loose, fe, List.nil_append]
  exact fB hT h l hl
 | .own sz es :: vs, ms, ts, cs, cs', fs, lfs, hT, h, l, hl => by
  simp only [cX] at h
  obtain ⟨t, r, c, d, rfl, rfl, h⟩ := h
  simp only [aX] at hT
  obtain ⟨t', r', c', d', e, rfl, _, hT⟩ := hT
  injection e with e1 e2; subst e1; subst e2
  simp only [LT.locsL, List.mem_append] at hl
  by_cases hm : ms.headD .borrow = .mut
  ·rw [if_pos hm] at h
   obtain ⟨es', fr, lr, rfl, rfl, _, h⟩ := h
   simp only [cD, fe, if_pos hm, List.nil_append, List.mem_append, LT.locsL]
   rcases hl with hl | hl
   ·exact .inr ⟨.inl hl, l, .inl hl, fun _ _ => Iff.rfl⟩
   ·rcases fB hT h l hl with k | ⟨k1, l', k2, k3⟩
    ·exact .inl k
    ·exact .inr ⟨.inr k1, l', .inr k2, k3⟩
  ·rw [if_neg hm] at h
   simp only [cD, fe, if_neg hm, List.nil_append, List.mem_append]
   rcases hl with hl | hl
   ·exact .inl (.inl hl)
   ·exact (fB hT h l hl).imp .inr (fun h => h)
 | .bld s :: vs, ms, ts, cs, cs', fs, lfs, hT, h, l, hl => by
  simp only [cX] at h
  obtain ⟨t, r, c, d, rfl, rfl, f, fr, lf, lr, rfl, rfl, _, hL, h⟩ := h
  simp only [aX] at hT
  obtain ⟨t', r', c', d', e, rfl, _, hT⟩ := hT
  injection e with e1 e2; subst e1; subst e2
  simp only [LT.locsL, List.mem_append] at hl ⊢
  simp only [cD, fe, List.mem_append]
  rcases hl with hl | hl
  ·rcases (LT.mem_locs t l).1 hl with hl | hl
   ·exact .inl (.inl hl)
   ·obtain ⟨l', k1, k2⟩ := lX hL l hl
    exact .inr ⟨.inl hl, l', .inl ((LT.mem_locs lf l').2 (.inr k1)), k2⟩
  ·rcases fB hT h l hl with k | ⟨k1, l', k2, k3⟩
   ·exact .inl (.inr k)
   ·exact .inr ⟨.inr k1, l', .inr k2, k3⟩
 | .ptr s :: vs, ms, ts, cs, cs', fs, lfs, hT, h, l, hl => by
  simp only [cX] at h
  obtain ⟨t, r, c, d, rfl, rfl, f, fr, lf, lr, rfl, rfl, _, hL, h⟩ := h
  simp only [aX] at hT
  obtain ⟨t', r', c', d', e, rfl, _, hT⟩ := hT
  injection e with e1 e2; subst e1; subst e2
  simp only [LT.locsL, List.mem_append] at hl ⊢
  simp only [cD, fe, List.mem_append]
  rcases hl with hl | hl
  ·rcases (LT.mem_locs t l).1 hl with hl | hl
   ·exact .inl (.inl hl)
   ·obtain ⟨l', k1, k2⟩ := lX hL l hl
    exact .inr ⟨.inl hl, l', .inl ((LT.mem_locs lf l').2 (.inr k1)), k2⟩
  ·rcases fB hT h l hl with k | ⟨k1, l', k2, k3⟩
   ·exact .inl (.inr k)
   ·exact .inr ⟨.inr k1, l', .inr k2, k3⟩
mutual
theorem mv : ∀ (ob : Option Back) (id j : Nat) (f : TV) (a : AV) (ps : List Patch) (os : List (Nat × Obj)), bw id j ob f = some (a, ps, os) -> (ps.map Patch.id).Perm (iz ob) /\ (∀ i ∈ ez ob, ∃ s, Patch.bld i s ∈ ps) /\ ∀ i s, Patch.bld i s ∈ ps -> i ∈ ez ob
 | some (.box i off bs), id, j, f, a, ps, os, h => by
  cases f <;> simp only [bw] at h <;> try (cases h; done)
  rename_i cells
  split at h
  ·rename_i l ps' os' hl
   injection h with h; injection h with h1 h; injection h with h2 h3; subst h1; subst h2; subst h3
   obtain ⟨k1, k2, k5⟩ := backLeaves_ids bs i off cells l ps' os' hl
   refine ⟨?_, fun i' hi' => (k2 i' (by simpa only [ez, Back.blds] using hi')).imp fun _ h => List.mem_append.2 (.inl h), fun i' s hs => ?_⟩
   rotate_left
   ·simp only [ez, Back.blds]
    rcases List.mem_append.1 hs with hs | hs
    ·exact k5 i' s hs
    ·simp at hs
   simp only [List.map_append, List.map_cons, List.map_nil, Patch.id, iz, Back.ids]
   exact (List.perm_append_comm.trans (List.Perm.cons i k1))
  ·exact absurd h (by simp)
 | some (.own i), id, j, f, a, ps, os, h => by cases f <;> simp only [bw] at h <;> cases h
 | some .nilSl, id, j, f, a, ps, os, h => by cases f <;> simp only [bw] at h <;> cases h
 | some (.bld i), id, j, f, a, ps, os, h => by
  cases f <;> simp only [bw] at h <;> try (cases h; done)
  rename_i bs
  injection h with h; injection h with h1 h; injection h with h2 h3; subst h1; subst h2; subst h3
  refine ⟨by simp [iz, Back.ids, Patch.id], fun i' hi' => ?_, fun i' s hs => by simp at hs; simp [ez, Back.blds, hs.1]⟩
  simp [ez, Back.blds] at hi'; subst hi'; exact ⟨bs, by simp⟩
 | none, id, j, f, a, ps, os, h => by
  cases f <;> simp only [bw] at h <;> try (cases h; done)
  ·injection h with h; injection h with h1 h; injection h with h2 h3; subst h1; subst h2; subst h3
   simp [iz, ez]
  ·injection h with h; injection h with h1 h; injection h with h2 h3; subst h1; subst h2; subst h3
   simp [iz, ez]
theorem backLeaves_ids : ∀ (bs : List (Option Back)) (id j : Nat) (fs : List TV) (l : List AV) (ps : List Patch) (os : List (Nat × Obj)), backLeaves id j bs fs = some (l, ps, os) -> (ps.map Patch.id).Perm (Back.idsO bs) /\ (∀ i ∈ Back.bldsO bs, ∃ s, Patch.bld i s ∈ ps) /\ ∀ i s, Patch.bld i s ∈ ps -> i ∈ Back.bldsO bs
 | [], id, j, fs, l, ps, os, h => by
  cases fs <;> simp only [backLeaves] at h <;> try (cases h; done)
  injection h with h; injection h with h1 h; injection h with h2 h3; subst h1; subst h2; subst h3
  simp [Back.idsO, Back.bldsO]
 | ob :: bs, id, j, fs, l, ps, os, h => by
  cases fs <;> simp only [backLeaves] at h <;> try (cases h; done)
  rename_i f fs
  split at h
  ·rename_i a p os1 l' ps' os' h1 h2
   injection h with h; injection h with e1 h; injection h with e2 e3; subst e1; subst e2; subst e3
   obtain ⟨k1, k2, k5⟩ := mv ob id j f a p os1 h1
   obtain ⟨k3, k4, k6⟩ := backLeaves_ids bs id (j + 1) fs l' ps' os' h2
   rw [kZ, jq, List.map_append]
   refine ⟨List.Perm.append k1 k3, fun i hi => ?_, fun i s hs => (List.mem_append.1 hs).elim (fun hs => List.mem_append.2 (.inl (k5 i s hs))) (fun hs => List.mem_append.2 (.inr (k6 i s hs)))⟩
   rcases List.mem_append.1 hi with hi | hi
   ·exact (k2 i hi).imp fun _ h => List.mem_append.2 (.inl h)
   ·exact (k4 i hi).imp fun _ h => List.mem_append.2 (.inr h)
  ·exact absurd h (by simp)
end
theorem jo : ∀ (bs : List Back) (fs : List TV) (ws : List Patch) (os : List (Nat × Obj)), bZ bs fs = some (ws, os) -> (ws.map Patch.id).Perm (Back.idsL bs) /\ (∀ i ∈ Back.bldsL bs, ∃ s, Patch.bld i s ∈ ws) /\ ∀ i s, Patch.bld i s ∈ ws -> i ∈ Back.bldsL bs
 | [], fs, ws, os, h => by
  cases fs <;> simp only [bZ] at h <;> try (cases h; done)
  injection h with h; injection h with h1 h2; subst h1; subst h2
  simp [Back.idsL, Back.bldsL]
 | b :: bs, [], ws, os, h => by cases b <;> simp only [bZ] at h <;> cases h
 | b :: bs, f :: fs, ws, os, h => by
  have two : ((∃ i, b = .bld i) ∨ ∃ i off l, b = .box i off l) -> (ws.map Patch.id).Perm (Back.idsL (b :: bs)) /\ (∀ i ∈ Back.bldsL (b :: bs), ∃ s, Patch.bld i s ∈ ws) /\ ∀ i s, Patch.bld i s ∈ ws -> i ∈ Back.bldsL (b :: bs) := by
   intro hb
   obtain ⟨a, p, o, q, r, h1, h2, rfl, rfl⟩ := fb hb h
   obtain ⟨k1, k2, k5⟩ := mv _ _ _ _ _ _ _ h1
   obtain ⟨k3, k4, k6⟩ := jo bs fs q r h2
   simp only [Back.idsL, Back.bldsL, List.flatMap_cons, List.map_append]
   refine ⟨List.Perm.append k1 k3, fun i hi => ?_, fun i s hs => (List.mem_append.1 hs).elim (fun hs => List.mem_append.2 (.inl (k5 i s hs))) (fun hs => List.mem_append.2 (.inr (k6 i s hs)))⟩
   rcases List.mem_append.1 hi with hi | hi
   ·exact (k2 i hi).imp fun _ h => List.mem_append.2 (.inl h)
   ·exact (k4 i hi).imp fun _ h => List.mem_append.2 (.inr h)
  cases b with
  | box i off l => exact two (.inr ⟨i, off, l, rfl⟩)
  | bld i => exact two (.inl ⟨i, rfl⟩)
  | nilSl =>
   cases f <;> (try simp only [bZ] at h) <;> try (cases h; done)
   rename_i sz es
   cases es with
   | cons e es => (try simp only [bZ] at h); cases h
   | nil =>
    (try simp only [bZ] at h)
    have := jo bs fs ws os h
    simpa [Back.idsL, Back.bldsL, Back.ids, Back.blds] using this
  | own i =>
   cases f <;> simp only [bZ] at h <;> try (cases h; done)
   split at h
   ·rename_i q r hr
    injection h with h; injection h with h1 h2; subst h1; subst h2
    obtain ⟨k3, k4, k6⟩ := jo bs fs q r hr
    simp only [Back.idsL, Back.bldsL, List.flatMap_cons, Back.ids, Back.blds, List.map_cons, Patch.id, List.singleton_append, List.nil_append]
    exact ⟨List.Perm.cons i k3, fun i' hi' => (k4 i' hi').imp fun _ h => List.mem_cons_of_mem _ h, fun i' s hs => k6 i' s (by simpa using hs)⟩
   ·exact absurd h (by simp)
theorem kt : ∀ {l : List Nat}, nodup l = true -> l.Nodup
 | [], _ => List.nodup_nil
 | a :: r, h => by
  simp only [nodup, Bool.and_eq_true, Bool.not_eq_true', List.contains_eq_mem, decide_eq_false_iff_not] at h
  exact List.nodup_cons.2 ⟨h.1, kt h.2⟩
theorem kY : ∀ {l r : List Nat}, nR l r = true -> ∀ i ∈ l, i ∉ r
 | [], _, _, i, hi => by simp at hi
 | a :: l, r, h, i, hi => by
  simp only [nR, Bool.and_eq_true, Bool.not_eq_true', List.contains_eq_mem, decide_eq_false_iff_not] at h
  rcases List.mem_cons.1 hi with rfl | hi
  ·exact h.1
  ·exact kY h.2 i hi
mutual
theorem va : ∀ (b : Back), b.blds.Sublist b.ids
 | .box id _ leaf => by simp only [Back.blds, Back.ids]; exact (bldsO_sub leaf).cons id
 | .own _ => by simp [Back.blds, Back.ids]
 | .nilSl => by simp [Back.blds, Back.ids]
 | .bld _ => by simp [Back.blds, Back.ids]
theorem bldsO_sub : ∀ (bs : List (Option Back)), (Back.bldsO bs).Sublist (Back.idsO bs)
 | [] => by simp [Back.bldsO, Back.idsO]
 | none :: r => by simp only [Back.bldsO, Back.idsO]; exact bldsO_sub r
 | some b :: r => by simp only [Back.bldsO, Back.idsO]; exact (va b).append (bldsO_sub r)
end
theorem kQ : ∀ (bs : List Back), (Back.bldsL bs).Sublist (Back.idsL bs)
 | [] => by simp [Back.bldsL, Back.idsL]
 | b :: r => by simp only [Back.bldsL, Back.idsL, List.flatMap_cons]; exact (va b).append (kQ r)
end
theorem cT.mono {P : Program} {f : FuncId} {args : Array Value} {w : World} {R R' : Value -> World -> Prop} (h : cT P f args w R) (hr : ∀ v w', R v w' -> R' v w') : cT P f args w R' := by
 unfold cT at h ⊢
 split at h
 ·exact hr _ _ h
 ·exact h.mono fun e w'' ⟨v, h1, h2⟩ => ⟨v, h1, hr _ _ h2⟩
 ·exact h.elim
theorem AVRs.append {β : Nat -> Loc} {w : World} {M : ay} : ∀ {xs ys : List AV} {vs us : List Value}, AVRs β w M xs vs -> AVRs β w M ys us -> AVRs β w M (xs ++ ys) (vs ++ us)
 | [], _, _, _, h, k => by simp only [AVRs] at h; subst h; exact k
 | x :: xs, ys, _, us, h, k => by
  simp only [AVRs] at h
  obtain ⟨c, r, rfl, h1, h2⟩ := h
  simp only [List.cons_append, AVRs]
  exact ⟨c, r ++ us, rfl, h1, AVRs.append h2 k⟩
theorem RepS.avrs {β : Nat -> Loc} {w : World} {M : ay} : ∀ {xs : List PV} {vs : List Value}, RepS w M xs vs -> AVRs β w M (xs.map .pv) vs
 | [], _, h => by simp only [RepS] at h; subst h; simp [AVRs]
 | x :: xs, _, h => by
  simp only [RepS] at h
  obtain ⟨c, r, rfl, _, h1, h2⟩ := h
  simp only [List.map_cons, AVRs]
  exact ⟨c, r, rfl, by simp only [aL]; exact h1, RepS.avrs h2⟩
section
variable {C : Cx} {call : FuncId -> List TV -> Option (RT)} {M0 M : ay} {β : Nat -> Loc} {V : View} {a : Act} {w : World} {R : Nat -> Prop}
theorem yU (hV : VR M0 M β V a.tmps w) {callee : Callee} {args : Array Operand} {ts : Array TypeId} {f : FuncId} {first caps as : List AV} (h : g8 V callee = some (f, first, caps)) (ha : cU V args.toList = some as) :
  ∃ cs : List Value, AVRs β w M (first ++ as ++ caps) cs /\ ∀ oo : Oper, oo.op = .call { callee := callee, args := args, argTypes := ts } -> execOp a.eval oo = callFunc f cs.toArray := by
 have has := ig hV ha
 unfold g8 at h
 split at h
 ·injection h with h; injection h with h1 h; injection h with h2 h3; subst h1; subst h2; subst h3
  refine ⟨args.toList.map a.eval, by simpa using has, fun oo ho => ?_⟩
  simp [execOp, ho, resolve, Deferred.ofValue, invoke, Act.eval]
  congr 1
  apply Array.ext'; simp
 ·rename_i x
  split at h
  ·rename_i f' caps' hx
   injection h with h; injection h with h1 h; injection h with h2 h3; subst h1; subst h2; subst h3
   have ex := aP hV hx
   simp only [aL, bp] at ex
   obtain ⟨cs, hc, hr⟩ := ex
   refine ⟨args.toList.map a.eval ++ cs.toList, by simpa using AVRs.append has hr.avrs, fun oo ho => ?_⟩
   simp [execOp, ho, resolve, Deferred.ofValue, invoke, hc]
   congr 1
   apply Array.ext'; simp
  ·rename_i f' first' caps' hx
   injection h with h; injection h with h1 h; injection h with h2 h3; subst h1; subst h2; subst h3
   have ex := aP hV hx
   simp only [aL] at ex
   obtain ⟨p, q, hc, hp, hq⟩ := ex
   refine ⟨p.toList ++ args.toList.map a.eval ++ q.toList, AVRs.append (AVRs.append hp has) hq, fun oo ho => ?_⟩
   simp [execOp, ho, resolve, Deferred.ofValue, invoke, hc]
   congr 1
   apply Array.ext'; simp
  ·exact absurd h (by simp)
 ·exact absurd h (by simp)
theorem zx (hV : VR M0 M β V a.tmps w) {ms : List Mode} {g : Given} {lts : List LT} {js : List Nat} {cs : List Value} {rs fs : List TV} {d : Nat} {ws : List Patch} {os : List (Nat × Obj)} {frz : List Nat} {v : Value} {w' : World}
  (hjs : js.Perm (g.dels ++ Back.idsL g.bs)) (hOwn : bK V β (LT.locsL lts) js) (hA : dw β ms g.vs lts g.bs) (hLo : eZ V β (cD ms g.vs lts) g.dels (Back.bldsL g.bs))
  (hnd : (g.dels ++ Back.idsL g.bs).Nodup) (hlent : ∀ i ∈ g.lent, i ∉ g.dels ++ Back.idsL g.bs)
  {Ml : ay} (hMl : ∀ b j, Ml b j ↔ M b j /\ ¬ ∃ i ∈ g.lent, (∃ o, V.obj i = some o) /\ (β i).F b j) (hT : aX w Ml g.vs lts cs)
  (hfrz : frz = g.lent ∨ (frz = [] /\ (flatTVs rs = true /\ flatTVs fs = true)))
  (hback : bZ g.bs fs = some (ws, os))
  (hos : (((dQ d rs).2 ++ os).map (·.1)).Nodup) (hfresh : ∀ id ∈ ((dQ d rs).2 ++ os).map (·.1), ∀ o, V.obj id = some o -> id ∈ g.dels ∨ id ∈ frz)
  (htook : Gj ms (fun b j => Ml b j /\ ¬ ∃ l ∈ LT.locsL lts, l.F b j) w g.vs lts cs rs fs v w') :
  ∃ M' β', Post (fun b j => M b j /\ ¬ ∃ i ∈ frz, (∃ o, V.obj i = some o) /\ (β i).F b j) β w (fun id => ∃ o, V.obj id = some o) ⟨(dQ d rs).1, (dQ d rs).2 ++ os, ws, [], g.dels, frz⟩ M' β' w' v ∧
   ∀ R : Nat -> Prop, (∀ id o, V.obj id = some o -> id ∉ g.dels -> id ∉ frz -> R id) -> fZ R ⟨(dQ d rs).1, (dQ d rs).2 ++ os, ws, [], g.dels, frz⟩ := by
 obtain ⟨vs, lrs, lfs, hv, hTr, hFin, hap, hout, hloose, hfr⟩ := htook
 generalize hm : (⟨(dQ d rs).1, (dQ d rs).2 ++ os, ws, [], g.dels, frz⟩ : Made) = m
 generalize hM1 : (fun b j => M b j /\ ¬ ∃ i ∈ frz, (∃ o, V.obj i = some o) /\ (β i).F b j) = M1
 have m1 : ∀ b j, M1 b j ↔ M b j /\ ¬ ∃ i ∈ frz, (∃ o, V.obj i = some o) /\ (β i).F b j := fun b j => by rw [<- hM1]
 let D0 : ay := fun b j => ∃ l ∈ LT.locsL lts, l.F b j
 let NL : ay := fun b j => ∃ l ∈ LT.locsL (lrs ++ lfs), l.F b j
 let M' : ay := fun b j => (M1 b j /\ ¬ D0 b j) ∨ NL b j
 let dom : Nat -> Prop := fun id => ∃ o, V.obj id = some o
 let G := to β dom m
 have locs_app := jB lrs lfs
 have hjn : js.Nodup := hjs.symm.nodup hnd
 have hD : ∀ b j, D0 b j -> ∃ i ∈ js, (∃ o, V.obj i = some o) /\ (β i).F b j := by
  rintro b j ⟨l, hl, hF⟩
  exact hOwn.mem l hl b j hF
 have hDM : ∀ b j, D0 b j -> Ml b j := by
  intro b j h
  obtain ⟨i, hi, ⟨o, ho⟩, hF⟩ := hD b j h
  refine (hMl b j).2 ⟨(hV.own i o ho b j hF).1, ?_⟩
  rintro ⟨k, hk, ⟨o', ho'⟩, hF'⟩
  have hne : i ≠ k := fun e => hlent k hk (e ▸ hjs.subset hi)
  exact hV.disj i k o o' ho ho' hne b j hF hF'
 have hMl1 : ∀ b j, Ml b j -> M1 b j := by
  intro b j h
  obtain ⟨h1, h2⟩ := (hMl b j).1 h
  refine (m1 b j).2 ⟨h1, ?_⟩
  rintro ⟨k, hk, hk2⟩
  rcases hfrz with e | ⟨e, _⟩
  ·exact h2 ⟨k, e ▸ hk, hk2⟩
  ·rw [e] at hk; simp at hk
 have hM1M : ∀ b j, M1 b j -> M b j := fun b j h => ((m1 b j).1 h).1
 have hNL : ∀ b j, NL b j -> M1 b j ∨ w.heap.size <= b := by
  rintro b j ⟨l, hl, hF⟩
  rcases (hout l hl b j hF).2.2 with h | h
  ·exact .inr h
  ·exact .inl (hMl1 b j (hDM b j h))
 have hsub : frz = g.lent -> ∀ b j, M' b j -> cellsOf (fun b j => Ml b j /\ ¬ ∃ l ∈ LT.locsL lts, l.F b j) (LT.locsL (lrs ++ lfs)) b j := by
  rintro e b j (⟨h1, h2⟩ | h)
  ·refine .inl ⟨(hMl b j).2 ?_, h2⟩
   have := (m1 b j).1 h1
   rw [e] at this; exact this
  ·exact .inr h
 have hTr' : aX w' M' rs lrs vs := by
  rcases hfrz with e | ⟨_, hf, _⟩
  ·exact aX.imp (fun x hx t c h => cY.sub (hsub e) h) hTr
  ·exact aX.imp (fun x hx t c h => nQ (kc hf x hx) h) hTr
 have hFin' : cX w' M' ms g.vs lts cs fs lfs := by
  rcases hfrz with e | ⟨_, _, hf⟩
  ·exact cX.imp (fun x hx t c h => cY.sub (hsub e) h) hFin
  ·exact cX.imp (fun x hx t c h => nQ (kc hf x hx) h) hFin
 have hTO := iw (β := β) g.vs ms lts cs g.bs fs lfs ws os hA hFin' hback
 have hresIds := EF (d := d) hTr'
 have hno : ∀ i, i ∈ ((dQ d rs).2 ++ os).map (·.1) -> ∀ o, V.obj i = some o -> i ∈ Back.idsL g.bs -> False := by
  intro i hi o ho hb
  rcases hfresh i hi o ho with h | h
  ·exact (List.nodup_append.1 hnd).2.2 i h i hb rfl
  ·rcases hfrz with e | ⟨e, _⟩
   ·exact hlent i (e ▸ h) (List.mem_append.2 (.inr hb))
   ·rw [e] at h; simp at h
 generalize hba : me d lrs ++ gv β g.bs lfs = ba
 have hbaN : (ba.map (·.1)).Nodup := by
  have hp : (ba.map (·.1)).Perm (((dQ d rs).2 ++ os).map (·.1) ++ Back.bldsL g.bs) := by
   rw [<- hba, List.map_append, List.map_append, <- hresIds, List.append_assoc]
   exact List.Perm.append_left _ hTO.perm
  refine hp.symm.nodup (List.nodup_append.2 ⟨hos, (kQ g.bs).nodup (List.nodup_append.1 hnd).2.1, fun x hx y hy e => ?_⟩)
  subst e
  have hxi := (kQ g.bs).subset hy
  obtain ⟨o, ho⟩ := hOwn.ids x (hjs.symm.subset (List.mem_append.2 (.inr hxi)))
  exact hno x hx o ho hxi
 generalize hβ' : (fun i => match cB i ba with | some l => l | none => β i) = β'
 have b1 : ∀ p ∈ ba, β' p.1 = p.2 := fun p hp => by
  rw [<- hβ']
  have := e9 (n := p.1) (a := p.2) hbaN hp
  simp only [this]
 have b2 : ∀ i, i ∉ ba.map (·.1) -> β' i = β i := fun i hi => by
  rw [<- hβ']
  cases hl : cB i ba with
  | none => simp only [hl]
  | some l => exact absurd (List.mem_map_of_mem (f := (·.1)) (dX hl)) hi
 have hresB : ∀ p ∈ me d lrs, β' p.1 = p.2 := fun p hp => b1 p (by rw [<- hba]; exact List.mem_append.2 (.inl hp))
 have htopB : ∀ p ∈ gv β g.bs lfs, β' p.1 = p.2 := fun p hp => b1 p (by rw [<- hba]; exact List.mem_append.2 (.inr hp))
 have hbaM : ∀ i, i ∈ ba.map (·.1) ↔ i ∈ ((dQ d rs).2 ++ os).map (·.1) ∨ i ∈ Back.bldsL g.bs := by
  intro i
  rw [<- hba, List.map_append, List.map_append, <- hresIds, List.mem_append, List.mem_append, or_assoc]
  have := hTO.perm.mem_iff (a := i)
  rw [this, List.mem_append]
 have hidx : ∀ i ∈ Back.idsL g.bs, (∃ o, V.obj i = some o) /\ i ∉ ((dQ d rs).2 ++ os).map (·.1) := by
  intro i hi
  obtain ⟨o, ho⟩ := hOwn.ids i (hjs.symm.subset (List.mem_append.2 (.inr hi)))
  exact ⟨⟨o, ho⟩, fun hx => hno i hx o ho hi⟩
 obtain ⟨hwsP, hwsB, hwsC⟩ := jo g.bs fs ws os hback
 have hwsN : (ws.map Patch.id).Nodup := hwsP.symm.nodup (List.nodup_append.1 hnd).2.1
 have hone : ∀ p ∈ ws, ∀ q ∈ ws, p.id = q.id -> p = q := by
  intro p hp q hq he
  obtain ⟨k, hk⟩ := List.mem_iff_getElem?.1 hp
  obtain ⟨k', hk'⟩ := List.mem_iff_getElem?.1 hq
  have n1 : (ws.map Patch.id)[k]? = some p.id := by rw [List.getElem?_map, hk]; rfl
  have n2 : (ws.map Patch.id)[k']? = some p.id := by rw [List.getElem?_map, hk', he]; rfl
  have hkk := (List.getElem?_inj (List.getElem?_eq_some_iff.1 n1).1 hwsN).1 (n1.trans n2.symm)
  subst hkk
  rw [hk] at hk'; injection hk'
 have hwsid : ∀ p ∈ ws, p.id ∈ Back.idsL g.bs := fun p hp => hwsP.subset (List.mem_map_of_mem (f := Patch.id) hp)
 have hkeep : ∀ p ∈ ws, (∀ bs, p ≠ .bld p.id bs) -> β' p.id = β p.id := by
  intro p hp hnb
  refine b2 _ (fun hx => ?_)
  rcases (hbaM _).1 hx with hx | hx
  ·exact (hidx _ (hwsid p hp)).2 hx
  ·obtain ⟨s, hs⟩ := hwsB _ hx
   exact hnb s (hone p hp _ hs rfl)
 have hmw : m.ws = ws := by rw [<- hm]
 have hmd : m.dels = g.dels := by rw [<- hm]
 have hmo : m.os = (dQ d rs).2 ++ os := by rw [<- hm]
 have hmu : m.use = [] := by rw [<- hm]
 have hG : ∀ l ∈ cD ms g.vs lts, ∀ b j, l.F b j -> G b j := by
  intro l hl b j hF
  rcases hLo l hl b j hF with ⟨i, hi, ho, hF'⟩ | ⟨i, hi, hF'⟩
  ·exact .inl ⟨i, by rw [hmd, hmu]; simpa using hi, ho, hF'⟩
  ·obtain ⟨s, hs⟩ := hwsB i hi
   exact .inr ⟨i, s, by rw [hmw]; exact hs, hF'⟩
 have hFl : ∀ l ∈ LT.locsL lrs ++ bQ fs lfs, ∀ b j, l.F b j -> M' b j /\ (w.heap.size <= b ∨ G b j) := by
  intro l hl b j hF
  refine ⟨.inr ⟨l, ?_, hF⟩, ?_⟩
  ·rw [locs_app]
   exact (List.mem_append.1 hl).elim (fun h => List.mem_append.2 (.inl h)) (fun h => List.mem_append.2 (.inr (fd _ _ l h)))
  ·rcases hloose l hl b j hF with h | ⟨l0, h1, h2⟩
   ·exact .inl h
   ·exact .inr (hG l0 h1 b j h2)
 have hBO := gY (β := β) (β' := β') (G := G) (w := w) (w' := w') (M' := M') g.vs ms lts cs g.bs fs lfs ws os hA hFin' hback (fun l hl => hFl l (List.mem_append.2 (.inr hl))) htopB
  (fun i off cells hm' => hkeep _ hm' (fun bs e => by cases e)) (fun i sz es hm' => hkeep _ hm' (fun bs e => by cases e))
 obtain ⟨r1, r2, r3, r4, r5, r6⟩ := H4 (β := β') (d := d) hTr' hresB
 have hbaF : ∀ p ∈ ba, ∃ l ∈ LT.locsL lrs ++ bQ fs lfs, ∀ b j, p.2.F b j ↔ l.F b j := by
  intro p hp
  rw [<- hba] at hp
  rcases List.mem_append.1 hp with hp | hp
  ·exact ⟨p.2, List.mem_append.2 (.inl (by rw [<- r4]; exact List.mem_map_of_mem (f := (·.2)) hp)), fun _ _ => Iff.rfl⟩
  ·obtain ⟨l, l1, l2⟩ := hTO.mem p hp
   exact ⟨l, List.mem_append.2 (.inr l1), l2⟩
 have hap' : fu (LT.locsL lrs ++ LT.locsL lfs) := by rw [<- locs_app]; exact hap
 have hbaD : ba.Pairwise (fun p q => ∀ b j, p.2.F b j -> ¬ q.2.F b j) := by
  rw [<- hba]
  refine List.pairwise_append.2 ⟨?_, hTO.pair hap'.right, fun p hp q hq b j hF hF' => ?_⟩
  ·have := hap'.left
   rw [fu, <- r4, List.pairwise_map] at this
   exact this
  ·obtain ⟨l, l1, l2⟩ := hTO.mem q hq
   refine (List.pairwise_append.1 hap').2.2 p.2 (by rw [<- r4]; exact List.mem_map_of_mem (f := (·.2)) hp) l (fd _ _ l l1) b j hF ((l2 b j).1 hF')
 have hpair : ∀ p ∈ ba, ∀ q ∈ ba, p.1 ≠ q.1 -> ∀ b j, p.2.F b j -> ¬ q.2.F b j := by
  intro p hp q hq hne b j hF hF'
  obtain ⟨x, hx⟩ := List.mem_iff_getElem?.1 hp
  obtain ⟨y, hy⟩ := List.mem_iff_getElem?.1 hq
  obtain ⟨hx1, hx2⟩ := List.getElem?_eq_some_iff.1 hx
  obtain ⟨hy1, hy2⟩ := List.getElem?_eq_some_iff.1 hy
  have hxy : x ≠ y := fun e => by subst e; rw [hx] at hy; injection hy with hy; exact hne (by rw [hy])
  rw [List.pairwise_iff_getElem] at hbaD
  rcases Nat.lt_or_gt_of_ne hxy with hlt | hgt
  ·have := hbaD x y hx1 hy1 hlt b j
   rw [hx2, hy2] at this; exact this hF hF'
  ·have := hbaD y x hy1 hx1 hgt b j
   rw [hx2, hy2] at this; exact this hF' hF
 have entry : ∀ i, i ∈ ba.map (·.1) -> ∃ p ∈ ba, p.1 = i /\ β' i = p.2 := by
  intro i hi
  obtain ⟨p, hp, rfl⟩ := List.mem_map.1 hi
  exact ⟨p, hp, rfl, b1 p hp⟩
 have newB : ∀ i, i ∈ m.os.map (·.1) -> i ∈ ba.map (·.1) := fun i hi => (hbaM i).2 (.inl (by rw [<- hmo]; exact hi))
 have newF : ∀ i, i ∈ m.os.map (·.1) -> ∀ b j, (β' i).F b j -> M' b j /\ (w.heap.size <= b ∨ G b j) := by
  intro i hi b j hF
  obtain ⟨p, hp, rfl, e⟩ := entry i (newB i hi)
  rw [e] at hF
  obtain ⟨l, l1, l2⟩ := hbaF p hp
  exact hFl l l1 b j ((l2 b j).1 hF)
 refine ⟨M', β', ⟨fun id hid => ?_, fun id hid hid' => ?_, fun b j h => ?_, fun b j h => ?_, fun b j h => ?_, fun p hp => ⟨?_, ?_⟩, fun p hp => ?_, by rw [hmw]; exact hwsN, fun id id' h h' hne => ?_, ?_, ?_⟩, fun R hR => ?_⟩
 ·by_cases hb : id ∈ ba.map (·.1)
  ·obtain ⟨p, hp, rfl, e⟩ := entry id hb
   rw [e]
   rw [<- hba] at hp
   rcases List.mem_append.1 hp with hp | hp
   ·exact absurd (by rw [hmo, List.map_append, hresIds]; exact List.mem_append.2 (.inl (List.mem_map_of_mem (f := (·.1)) hp))) hid
   ·rcases hTO.same p hp with h | h
    ·exact absurd (by rw [hmo, List.map_append]; exact List.mem_append.2 (.inr h)) hid
    ·exact h
  ·exact Loc.same_of (b2 id hb)
 ·refine b2 id (fun hx => ?_)
  rcases (hbaM id).1 hx with hx | hx
  ·exact hid (by rw [hmo]; exact hx)
  ·obtain ⟨s, hs⟩ := hwsB id hx
   exact hid' (by rw [hmw]; exact List.mem_map_of_mem (f := Patch.id) hs)
 ·by_cases hd : D0 b j
  ·obtain ⟨l, hl, hF⟩ := hd
   rcases fB hT hFin' l hl with h1 | ⟨h1, l', h2, h3⟩
   ·exact .inr (hG l h1 b j hF)
   ·exact .inl (.inr ⟨l', by rw [locs_app]; exact List.mem_append.2 (.inr h2), (h3 b j).1 hF⟩)
  ·exact .inl (.inl ⟨h, hd⟩)
 ·rcases h with h | h
  ·exact .inl h.1
  ·exact hNL b j h
 ·rcases h with h | ⟨l, hl, hF⟩
  ·have := hV.old b j (hM1M b j h.1)
   have := hfr.size
   omega
  ·exact (hout l hl b j hF).2.1
 ·rw [hmo] at hp
  rcases List.mem_append.1 hp with hp | hp
  ·exact r2 p hp
  ·exact hBO.objs p hp
 ·exact newF p.1 (List.mem_map_of_mem (f := (·.1)) hp)
 ·rw [hmw] at hp; exact hBO.patch p hp
 ·have inB : ∀ x, (x ∈ m.os.map (·.1) ∨ ∃ bs, Patch.bld x bs ∈ m.ws) -> x ∈ ba.map (·.1) := by
   rintro x (h | ⟨bs, h⟩)
   ·exact newB x h
   ·refine (hbaM x).2 (.inr ?_)
    rw [hmw] at h
    exact hwsC x bs h
  intro b j hF hF'
  obtain ⟨p, hp, rfl, e⟩ := entry id (inB id h)
  obtain ⟨q, hq, rfl, e'⟩ := entry id' (inB id' h')
  rw [e] at hF; rw [e'] at hF'
  exact hpair p hp q hq hne b j hF hF'
 ·refine hfr.mono (fun b j h => ?_)
  obtain ⟨l, hl, hF⟩ := h
  rcases fB hT hFin' l hl with h1 | ⟨h1, _⟩
  ·rcases hLo l h1 b j hF with ⟨i, hi, ho, hF'⟩ | ⟨i, hi, hF'⟩
   ·exact .inl ⟨i, by rw [hmd, hmu]; simpa using hi, ho, hF'⟩
   ·obtain ⟨s, hs⟩ := hwsB i hi
    exact .inr ⟨.bld i s, by rw [hmw]; exact hs, (hidx i ((kQ g.bs).subset hi)).1, hF'⟩
  ·obtain ⟨p, hp, ht⟩ := hBO.touch l h1 b j hF
   exact .inr ⟨p, by rw [hmw]; exact hp, (hidx _ (hwsid p hp)).1, ht⟩
 ·have : m.v = (dQ d rs).1 := by rw [<- hm]
  rw [this, hv]; exact r1
 ·have hmv : m.v = (dQ d rs).1 := by rw [<- hm]
  refine ⟨fun i hi => .inr ?_, fun p hp i hi => .inr ?_, fun id off cells hc i hi => ?_⟩
  ·rw [hmv] at hi; rw [hmo, List.map_append]; exact List.mem_append.2 (.inl (r5 i hi))
  ·rw [hmo] at hp
   rw [hmo, List.map_append]
   rcases List.mem_append.1 hp with hp | hp
   ·exact List.mem_append.2 (.inl (r6 p hp i hi))
   ·rw [hBO.refs p hp] at hi; simp at hi
  ·rw [hmw] at hc
   rw [hmo, List.map_append]
   rcases hBO.prefs id off cells hc i hi with h | h
   ·obtain ⟨o, ho⟩ := (hidx i h).1
    refine .inl (hR i o ho (fun hd => (List.nodup_append.1 hnd).2.2 i hd i h rfl) (fun hz => ?_))
    rcases hfrz with e | ⟨e, _⟩
    ·exact hlent i (e ▸ hz) (List.mem_append.2 (.inr h))
    ·rw [e] at hz; simp at hz
   ·exact .inr (List.mem_append.2 (.inr h))
theorem Aa (hcall : ∀ f as rs fs, call f as = some (rs, fs) -> br C.P (C.modes f) f as rs fs) (hV : VR M0 M β V a.tmps w) {d : Nat} {c : Call} {m : Made} (h : gw C call d c V = some m)
  (hos : (m.os.map (·.1)).Nodup) (hfresh : ∀ id ∈ m.os.map (·.1), ∀ o, V.obj id = some o -> id ∈ m.dels ∨ id ∈ m.frz) :
  ∃ (f : FuncId) (cs : List Value), (∀ oo : Oper, oo.op = .call c -> execOp a.eval oo = callFunc f cs.toArray) /\ cT C.P f cs.toArray w fun v w' =>
   ∃ M' β', Post (fun b j => M b j /\ ¬ ∃ i ∈ m.frz, (∃ o, V.obj i = some o) /\ (β i).F b j) β w (fun id => ∃ o, V.obj id = some o) m M' β' w' v /\ ∀ R : Nat -> Prop, (∀ id o, V.obj id = some o -> id ∉ m.dels -> id ∉ m.frz -> R id) -> fZ R m := by
 obtain ⟨callee, args, ats⟩ := c
 unfold gw at h
 split at h
 ·rename_i f first caps as hcal has
  split at h
  ·rename_i fn hfn
   split at h
   ·rename_i g hg
    split at h
    ·rename_i hchk
     simp only [Bool.and_eq_true] at hchk
     split at h
     ·rename_i rs fs hc
      split at h
      ·rename_i ws os hback
       injection h with h; subst h
       obtain ⟨cs, hcs, hex⟩ := yU (ts := ats) hV hcal has
       let Ml : ay := fun b j => M b j /\ ¬ ∃ i ∈ g.lent, (∃ o, V.obj i = some o) /\ (β i).F b j
       obtain ⟨lts, js, hT, hjs, hOwn, hA, hLo⟩ := x0 (Ml := Ml) hV (fun b j h => h.1) _ cs (C.modes f) _ g hcs hg (fun i hi ho b j hF hM => hM.2 ⟨i, hi, ho, hF⟩)
       have hnd := kt hchk.1
       have hlent := kY hchk.2
       have hjn : js.Nodup := hjs.symm.nodup hnd
       have hD : ∀ l ∈ LT.locsL lts, ∀ b j, l.F b j -> Ml b j := by
        intro l hl b j hF
        obtain ⟨i, hi, ⟨o, ho⟩, hF'⟩ := hOwn.mem l hl b j hF
        refine ⟨(hV.own i o ho b j hF').1, ?_⟩
        rintro ⟨k, hk, ⟨o', ho'⟩, hF''⟩
        exact hV.disj i k o o' ho ho' (fun e => hlent k hk (e ▸ hjs.subset hi)) b j hF' hF''
       have hHanded : Handed (fun b j => Ml b j /\ ¬ ∃ l ∈ LT.locsL lts, l.F b j) w g.vs lts cs := by
        refine ⟨aX.imp (fun v _ t c h => cY.sub (fun b j hx => ?_) h) hT, bK.pairwise hV hOwn hjn, fun l hl b j hF => ⟨fun hx => hx.2 ⟨l, hl, hF⟩, hV.old b j (hD l hl b j hF).1⟩, fun b j hx => hV.old b j hx.1.1⟩
        rcases hx with hx | ⟨l, hl, hF⟩
        ·exact hx.1
        ·exact hD l hl b j hF
       refine ⟨f, cs, hex, (hcall f g.vs rs fs hc _ w lts cs hHanded).mono fun v w' htook => ?_⟩
       refine zx hV hjs hOwn hA hLo hnd hlent (fun b j => Iff.rfl) hT ?_ hback hos hfresh htook
       split
       ·rename_i hl; exact .inl hl.symm
       ·rename_i l hl
        split
        ·rename_i hf
         simp only [Bool.and_eq_true] at hf
         exact .inr ⟨rfl, hf⟩
        ·exact .inl rfl
      ·exact absurd h (by simp)
     ·exact absurd h (by simp)
    ·exact absurd h (by simp)
   ·exact absurd h (by simp)
  ·exact absurd h (by simp)
 ·exact absurd h (by simp)
end
end Go.Proofs.YtcoikmicjbppmaaGreat.Vm
namespace Go.Proofs.YtcoikmicjbppmaaGreat.Vm
open Go
set_option linter.unusedVariables false
set_option linter.unusedSimpArgs false
theorem gE {α γ : Type} (f : α -> γ) (n : Nat) : ∀ (l : List (Nat × α)), cB n (l.map fun p => (p.1, f p.2)) = (cB n l).map f
 | [] => rfl
 | (m, a) :: r => by
  simp only [List.map_cons, cB]
  split
  ·rfl
  ·exact gE f n r
theorem jA {α : Type} (n k : Nat) : ∀ (l : List (Nat × α)), cB n (tE k l) = if n = k then none else cB n l
 | [] => by simp [tE, cB]
 | (m, a) :: r => by
  simp only [tE]
  split
  ·rename_i h
   subst h
   rw [jA]
   split
   ·rfl
   ·rename_i h; simp only [cB]; rw [if_neg h]
  ·rename_i h
   simp only [cB]
   split
   ·rename_i h'; subst h'
    rw [if_neg (fun e => h e.symm)]
   ·rw [jA]
def SR (M0 M : ay) (β : Nat -> Loc) (st : St) (tm : Array Value) (w : World) : Prop :=
 VR M0 M β st.view tm w /\ bI (fun id => ∃ o, st.obj id = some o) st.view
theorem ym {f : AV -> AV} (h : f .undef = .undef) (st : St) (t : Nat) (os : List (Nat × Obj)) : (St.mk (st.map f).tmps os).get t = f (st.get t) := by
 simp only [St.get, St.map, gE]
 cases cB t st.tmps <;> simp [h]
theorem lj (f : AV -> AV) (st : St) (id k : Nat) (tms : List (Nat × AV)) : (St.mk tms (tE k (st.map f).objs)).obj id = if id = k then none else (st.obj id).map (Obj.map f) := by
 simp only [St.obj, St.map, jA, gE]
section
variable {M0 M Ml : ay} {β : Nat -> Loc} {st : St} {tm : Array Value} {w : World}
theorem xq {f : AV -> AV} {id : Nat} (hf0 : f .undef = .undef) (hf : ∀ v c, aL β w M v c -> aL β w Ml (f v) c) (hr : ∀ v, ∀ i ∈ (f v).refs, i ∈ v.refs /\ i ≠ id) (hMl : ∀ b j, Ml b j -> M b j)
  (hMk : ∀ b j, M b j -> Ml b j ∨ ∃ o, st.obj id = some o /\ (β id).F b j) (h : SR M0 M β st tm w) : SR M0 Ml β ⟨(st.map f).tmps, tE id (st.map f).objs⟩ tm w := by
 obtain ⟨hV, hC⟩ := h
 have hk : ∀ b o v, at_ w b o = some v -> ¬ M b o -> at_ w b o = some v /\ ¬ Ml b o := fun b o v h1 h2 => ⟨h1, fun h => h2 (hMl _ _ h)⟩
 have hobj : ∀ i o, (St.mk (st.map f).tmps (tE id (st.map f).objs)).obj i = some o -> i ≠ id /\ ∃ o0, st.obj i = some o0 /\ o = o0.map f := by
  intro i o ho
  rw [lj] at ho
  split at ho
  ·exact absurd ho (by simp)
  ·rename_i hne
   simp only [Option.map_eq_some_iff] at ho
   obtain ⟨o0, h1, rfl⟩ := ho
   exact ⟨hne, o0, h1, rfl⟩
 have hsub : ∀ {o0 : Obj}, ∀ i ∈ (o0.map f).refs, i ∈ o0.refs /\ i ≠ id := by
  intro o0 i hi
  cases o0 with
  | box cs =>
   simp only [Obj.map, Obj.refs] at hi ⊢
   obtain ⟨v, hv, hi⟩ := bj.1 hi
   obtain ⟨u, hu, rfl⟩ := List.mem_map.1 hv
   exact ⟨bj.2 ⟨u, hu, (hr u i hi).1⟩, (hr u i hi).2⟩
  | buf s es => simp [Obj.map, Obj.refs] at hi
  | bld bs => simp [Obj.map, Obj.refs] at hi
 refine ⟨⟨fun b j h0 => ?_, fun b j h => hV.old b j (hMl b j h), fun t => ?_, fun i o ho => ?_, fun i o ho b j hF => ?_, fun i i' o o' ho ho' hne => ?_⟩, ⟨fun t i hi => ?_, fun i o ho => ⟨⟨o, ho⟩, fun i' hi' => ?_⟩⟩⟩
 ·rcases hMk b j (hV.sup b j h0) with h | ⟨o, ho, hF⟩
  ·exact h
  ·exact absurd h0 (hV.own id o ho b j hF).2
 ·show aL β w Ml ((St.mk (st.map f).tmps (tE id (st.map f).objs)).get t) _
  rw [ym hf0]
  exact hf _ _ (hV.slots t)
 ·obtain ⟨hne, o0, h1, rfl⟩ := hobj i o ho
  have hO := hV.objs i o0 h1
  cases o0 with
  | box cs =>
   obtain ⟨b, o, q1, q2, q3, q4⟩ := hO
   refine ⟨b, o, q1, by simpa using q2, q3, fun j v hj => ?_⟩
   rw [List.getElem?_map] at hj
   simp only [Option.map_eq_some_iff] at hj
   obtain ⟨u, hu, rfl⟩ := hj
   obtain ⟨c, k1, k2, k3, k4⟩ := q4 j u hu
   exact ⟨c, k1, k2, k3, hf _ _ k4⟩
  | buf s es => exact cJ.mono (o := .buf s es) hk (fun _ _ _ _ h => ⟨h, rfl⟩) (fun _ _ h => h) (fun _ _ _ => rfl) (fun _ h => h) (fun _ _ => Loc.same_of rfl) hO
  | bld bs => exact cJ.mono (o := .bld bs) hk (fun _ _ _ _ h => ⟨h, rfl⟩) (fun _ _ h => h) (fun _ _ _ => rfl) (fun _ h => h) (fun _ _ => Loc.same_of rfl) hO
 ·obtain ⟨hne, o0, h1, rfl⟩ := hobj i o ho
  have k := hV.own i o0 h1 b j hF
  refine ⟨?_, k.2⟩
  rcases hMk b j k.1 with h | ⟨o', ho', hF'⟩
  ·exact h
  ·exact absurd hF' (hV.disj i id o0 o' h1 ho' hne b j hF)
 ·obtain ⟨_, o0, h1, rfl⟩ := hobj i o ho
  obtain ⟨_, o1, h2, rfl⟩ := hobj i' o' ho'
  exact hV.disj i i' o0 o1 h1 h2 hne
 ·have hi' : i ∈ (f (st.get t)).refs := by
   have := ym hf0 st t (tE id (st.map f).objs)
   show i ∈ (f (st.get t)).refs
   rw [<- this]; exact hi
  obtain ⟨k1, k2⟩ := hr _ i hi'
  obtain ⟨o, ho⟩ := hC.1 t i k1
  exact ⟨o.map f, by rw [lj, if_neg k2, ho]; rfl⟩
 ·obtain ⟨hne, o0, h1, rfl⟩ := hobj i o ho
  obtain ⟨k1, k2⟩ := hsub i' hi'
  obtain ⟨o, ho⟩ := (hC.2 i o0 h1).2 i' k1
  exact ⟨o.map f, by rw [lj, if_neg k2, ho]; rfl⟩
def gn (id : Nat) : Nat -> Option Nat := fun i => if i = id then none else some i
mutual
theorem CS (id : Nat) : ∀ (v : AV) (c : Value), aL β w M v c -> aL β w M (AV.sub (gn id) v) c
 | .undef, c, h => by simp only [AV.sub, aL]
 | .pv x, c, h => by simpa only [AV.sub] using h
 | .nilSl, c, h => by simpa only [AV.sub] using h
 | .own i, c, h => by
  simp only [AV.sub, gn]
  by_cases e : i = id
  ·simp [e, aL]
  ·simp only [e, if_false]; exact h
 | .part i lo n, c, h => by
  simp only [AV.sub, gn]
  by_cases e : i = id
  ·simp [e, aL]
  ·simp only [e, if_false]; exact h
 | .addr i k o, c, h => by
  simp only [AV.sub, gn]
  by_cases e : i = id
  ·simp [e, aL]
  ·simp only [e, if_false]; exact h
 | .tup vs, c, h => by
  simp only [aL] at h
  obtain ⟨cs, h1, h2⟩ := h
  simp only [AV.sub, aL]; exact ⟨cs, h1, subL_ok id vs _ h2⟩
 | .agg vs, c, h => by
  simp only [aL] at h
  obtain ⟨cs, h1, h2, h3⟩ := h
  simp only [AV.sub, aL]; exact ⟨cs, h1, subL_ok id vs _ h2, h3⟩
 | .clo f a b, c, h => by
  simp only [aL] at h
  obtain ⟨x, y, h1, h2, h3⟩ := h
  simp only [AV.sub, aL]; exact ⟨x, y, h1, subL_ok id a _ h2, subL_ok id b _ h3⟩
theorem subL_ok (id : Nat) : ∀ (vs : List AV) (cs : List Value), AVRs β w M vs cs -> AVRs β w M (AV.subL (gn id) vs) cs
 | [], cs, h => by simpa only [AV.subL] using h
 | v :: vs, cs, h => by
  simp only [AVRs] at h
  obtain ⟨c, r, h1, h2, h3⟩ := h
  simp only [AV.subL, AVRs]; exact ⟨c, r, h1, CS id v c h2, subL_ok id vs r h3⟩
end
mutual
theorem rk (id : Nat) : ∀ (v : AV), ∀ i ∈ (AV.sub (gn id) v).refs, i ∈ v.refs /\ i ≠ id
 | .undef, i, h => by simp [AV.sub, AV.refs] at h
 | .pv x, i, h => by simp [AV.sub, AV.refs] at h
 | .nilSl, i, h => by simp [AV.sub, AV.refs] at h
 | .own k, i, h => by
  simp only [AV.sub, gn] at h
  by_cases e : k = id
  ·simp [e, AV.refs] at h
  ·simp only [e, if_false, AV.refs, List.mem_singleton] at h; subst h; exact ⟨by simp [AV.refs], e⟩
 | .part k lo n, i, h => by
  simp only [AV.sub, gn] at h
  by_cases e : k = id
  ·simp [e, AV.refs] at h
  ·simp only [e, if_false, AV.refs, List.mem_singleton] at h; subst h; exact ⟨by simp [AV.refs], e⟩
 | .addr k x y, i, h => by
  simp only [AV.sub, gn] at h
  by_cases e : k = id
  ·simp [e, AV.refs] at h
  ·simp only [e, if_false, AV.refs, List.mem_singleton] at h; subst h; exact ⟨by simp [AV.refs], e⟩
 | .tup vs, i, h => by
  simp only [AV.sub, AV.refs] at h ⊢; exact subL_refs id vs i h
 | .agg vs, i, h => by
  simp only [AV.sub, AV.refs] at h ⊢; exact subL_refs id vs i h
 | .clo f a b, i, h => by
  simp only [AV.sub, AV.refs, List.mem_append] at h ⊢
  rcases h with h | h
  ·exact ⟨.inl (subL_refs id a i h).1, (subL_refs id a i h).2⟩
  ·exact ⟨.inr (subL_refs id b i h).1, (subL_refs id b i h).2⟩
theorem subL_refs (id : Nat) : ∀ (vs : List AV), ∀ i ∈ AV.refsL (AV.subL (gn id) vs), i ∈ AV.refsL vs /\ i ≠ id
 | [], i, h => by simp [AV.subL, AV.refsL] at h
 | v :: vs, i, h => by
  simp only [AV.subL, AV.refsL, List.mem_append] at h ⊢
  rcases h with h | h
  ·exact ⟨.inl (rk id v i h).1, (rk id v i h).2⟩
  ·exact ⟨.inr (subL_refs id vs i h).1, (subL_refs id vs i h).2⟩
end
theorem Ea (id : Nat) (h : SR M0 M β st tm w) : SR M0 M β (st.kill id) tm w :=
 xq (f := AV.sub (gn id)) rfl (CS id) (rk id) (fun _ _ h => h) (fun _ _ h => .inl h) h
theorem Bq (id i : Nat) (st : St) : (st.kill id).obj i = if i = id then none else (st.obj i).map (Obj.map (AV.sub (gn id))) := lj _ _ _ _ _
def kq (M : ay) (l : Loc) : ay := fun b j => M b j /\ ¬ l.F b j
theorem oa {l : Loc} : ∀ b o v, at_ w b o = some v -> ¬ M b o -> at_ w b o = some v /\ ¬ kq M l b o := fun b o v h1 h2 => ⟨h1, fun h => h2 h.1⟩
section frz
variable {id sz : Nat} {es : LP}
mutual
theorem AC (hV : VR M0 M β st.view tm w) (ho : st.obj id = some (.buf sz es)) : ∀ (v : AV) (c : Value), aL β w M v c -> aL β w (kq M (β id)) (AV.frz id es v) c
 | .undef, c, h => by simp only [AV.frz, aL]
 | .pv x, c, h => by simp only [aL] at h; simp only [AV.frz, aL]; exact bp.mono oa x c h
 | .nilSl, c, h => by simpa only [AV.frz, aL] using h
 | .own i, c, h => by
  simp only [AV.frz]
  by_cases e : i = id
  ·subst e
   simp only [if_true, aL] at h ⊢
   exact (mX hV (fun b j h => h.1) (V := st.view) ho (fun b j hF hM => hM.2 hF)).1 c h
  ·simp only [e, if_false, aL] at h ⊢; exact h
 | .part i lo n, c, h => by
  simp only [AV.frz]
  by_cases e : i = id
  ·subst e
   simp only [if_true]
   have := (mX hV (fun b j h => h.1) (V := st.view) ho (fun b j hF hM => hM.2 hF) (Ml := kq M (β i))).2 lo n c h
   simpa only [aL] using this
  ·simp only [e, if_false, aL] at h ⊢; exact h
 | .addr i k o, c, h => by
  simp only [AV.frz]
  by_cases e : i = id
  ·simp [e, aL]
  ·simp only [e, if_false, aL] at h ⊢; exact h
 | .tup vs, c, h => by
  simp only [aL] at h
  obtain ⟨cs, h1, h2⟩ := h
  simp only [AV.frz, aL]; exact ⟨cs, h1, frzL_ok hV ho vs _ h2⟩
 | .agg vs, c, h => by
  simp only [aL] at h
  obtain ⟨cs, h1, h2, h3⟩ := h
  simp only [AV.frz, aL]; exact ⟨cs, h1, frzL_ok hV ho vs _ h2, h3⟩
 | .clo f a b, c, h => by
  simp only [aL] at h
  obtain ⟨x, y, h1, h2, h3⟩ := h
  simp only [AV.frz, aL]; exact ⟨x, y, h1, frzL_ok hV ho a _ h2, frzL_ok hV ho b _ h3⟩
theorem frzL_ok (hV : VR M0 M β st.view tm w) (ho : st.obj id = some (.buf sz es)) : ∀ (vs : List AV) (cs : List Value), AVRs β w M vs cs -> AVRs β w (kq M (β id)) (AV.frzL id es vs) cs
 | [], cs, h => by simpa only [AV.frzL, AVRs] using h
 | v :: vs, cs, h => by
  simp only [AVRs] at h
  obtain ⟨c, r, h1, h2, h3⟩ := h
  simp only [AV.frzL, AVRs]; exact ⟨c, r, h1, AC hV ho v c h2, frzL_ok hV ho vs r h3⟩
end
mutual
theorem qo : ∀ (v : AV), ∀ i ∈ (AV.frz id es v).refs, i ∈ v.refs /\ i ≠ id
 | .undef, i, h => by simp [AV.frz, AV.refs] at h
 | .pv x, i, h => by simp [AV.frz, AV.refs] at h
 | .nilSl, i, h => by simp [AV.frz, AV.refs] at h
 | .own k, i, h => by
  simp only [AV.frz] at h
  by_cases e : k = id
  ·simp [e, AV.refs] at h
  ·simp only [e, if_false, AV.refs, List.mem_singleton] at h; subst h; exact ⟨by simp [AV.refs], e⟩
 | .part k lo n, i, h => by
  simp only [AV.frz] at h
  by_cases e : k = id
  ·simp [e, AV.refs] at h
  ·simp only [e, if_false, AV.refs, List.mem_singleton] at h; subst h; exact ⟨by simp [AV.refs], e⟩
 | .addr k x y, i, h => by
  simp only [AV.frz] at h
  by_cases e : k = id
  ·simp [e, AV.refs] at h
  ·simp only [e, if_false, AV.refs, List.mem_singleton] at h; subst h; exact ⟨by simp [AV.refs], e⟩
 | .tup vs, i, h => by
  simp only [AV.frz, AV.refs] at h ⊢; exact frzL_refs vs i h
 | .agg vs, i, h => by
  simp only [AV.frz, AV.refs] at h ⊢; exact frzL_refs vs i h
 | .clo f a b, i, h => by
  simp only [AV.frz, AV.refs, List.mem_append] at h ⊢
  rcases h with h | h
  ·exact ⟨.inl (frzL_refs a i h).1, (frzL_refs a i h).2⟩
  ·exact ⟨.inr (frzL_refs b i h).1, (frzL_refs b i h).2⟩
theorem frzL_refs : ∀ (vs : List AV), ∀ i ∈ AV.refsL (AV.frzL id es vs), i ∈ AV.refsL vs /\ i ≠ id
 | [], i, h => by simp [AV.frzL, AV.refsL] at h
 | v :: vs, i, h => by
  simp only [AV.frzL, AV.refsL, List.mem_append] at h ⊢
  rcases h with h | h
  ·exact ⟨.inl (qo v i h).1, (qo v i h).2⟩
  ·exact ⟨.inr (frzL_refs vs i h).1, (frzL_refs vs i h).2⟩
end
end frz
theorem sg {id : Nat} {st' : St} (h : SR M0 M β st tm w) (hf : st.freeze id = some st') : SR M0 (kq M (β id)) β st' tm w := by
 unfold St.freeze at hf
 split at hf
 ·rename_i sz es ho
  injection hf with hf; subst hf
  refine xq (f := AV.frz id es) rfl (AC h.1 ho) qo (fun b j h => h.1) (fun b j hM => ?_) h
  by_cases hF : (β id).F b j
  ·exact .inr ⟨_, ho, hF⟩
  ·exact .inl ⟨hM, hF⟩
 ·exact absurd hf (by simp)
theorem qn {id : Nat} {st' : St} (hf : st.freeze id = some st') (i : Nat) : (∃ o, st'.obj i = some o) ↔ i ≠ id /\ ∃ o, st.obj i = some o := by
 unfold St.freeze at hf
 split at hf
 ·injection hf with hf; subst hf
  rw [lj]
  by_cases e : i = id
  ·simp [e]
  ·simp only [e, if_false, Option.map_eq_some_iff, ne_eq, not_false_eq_true, true_and]
   exact ⟨fun ⟨o, a, h1, _⟩ => ⟨a, h1⟩, fun ⟨a, h1⟩ => ⟨_, a, h1, rfl⟩⟩
 ·exact absurd hf (by simp)
theorem DJ (hV : VR M0 M β st.view tm w) {id : Nat} {cs : List AV} {l : List PV} (ho : st.obj id = some (.box cs)) (hp : qT cs = some l) {o : Nat} {c : Value} (hc : aL β w M (.addr id 0 o) c) : bp w (kq M (β id)) (.iptr (l.drop o)) c := by
 simp only [aL] at hc
 obtain ⟨b, p, hb, hc⟩ := hc
 rw [Nat.zero_mul, Nat.add_zero] at hc
 have hO := hV.objs id _ ho
 obtain ⟨b', p', vs, h1, h2, h3, h4⟩ := rV hO
 rw [hb] at h1; injection h1 with h1; injection h1 with e1 e2; subst e1; subst e2
 obtain ⟨_, _, _, _, hext, _⟩ := hO
 simp only [bp]
 refine ⟨b, p + o, vs.drop o, hc, RepS.mono oa _ _ (RepS.drop o (mc h3 hp)), fun j d hj => ?_⟩
 rw [List.getElem?_drop] at hj
 have := (h4 _ _ hj).1
 rw [<- Nat.add_assoc] at this
 refine ⟨this, fun hM => hM.2 (.inl ⟨p, hb, by omega, ?_⟩)⟩
 have hlt := (List.getElem?_eq_some_iff.1 hj).1
 rw [h2, h3.1]; omega
section frzBox
variable {id : Nat} {cs : List AV} {l : List PV}
mutual
theorem sh (hV : VR M0 M β st.view tm w) (ho : st.obj id = some (.box cs)) (hp : qT cs = some l) : ∀ (v : AV) (c : Value), aL β w M v c -> aL β w (kq M (β id)) (AV.frzBox id l v) c
 | .undef, c, h => by simp only [AV.frzBox, aL]
 | .pv x, c, h => by simp only [aL] at h; simp only [AV.frzBox, aL]; exact bp.mono oa x c h
 | .nilSl, c, h => by simpa only [AV.frzBox, aL] using h
 | .own i, c, h => by
  simp only [AV.frzBox]
  by_cases e : i = id
  ·simp [e, aL]
  ·simp only [e, if_false, aL] at h ⊢; exact h
 | .part i lo n, c, h => by
  simp only [AV.frzBox]
  by_cases e : i = id
  ·simp [e, aL]
  ·simp only [e, if_false, aL] at h ⊢; exact h
 | .addr i k o, c, h => by
  simp only [AV.frzBox]
  by_cases e : i = id
  ·subst e
   simp only [if_true]
   by_cases e0 : k = 0
   ·subst e0
    simp only [if_true]
    have := DJ hV ho hp h
    simpa only [aL] using this
   ·simp [e0, aL]
  ·simp only [e, if_false, aL] at h ⊢; exact h
 | .tup vs, c, h => by
  simp only [aL] at h
  obtain ⟨cs, h1, h2⟩ := h
  simp only [AV.frzBox, aL]; exact ⟨cs, h1, frzBoxL_ok hV ho hp vs _ h2⟩
 | .agg vs, c, h => by
  simp only [aL] at h
  obtain ⟨cs, h1, h2, h3⟩ := h
  simp only [AV.frzBox, aL]; exact ⟨cs, h1, frzBoxL_ok hV ho hp vs _ h2, h3⟩
 | .clo f a b, c, h => by
  simp only [aL] at h
  obtain ⟨x, y, h1, h2, h3⟩ := h
  simp only [AV.frzBox, aL]; exact ⟨x, y, h1, frzBoxL_ok hV ho hp a _ h2, frzBoxL_ok hV ho hp b _ h3⟩
theorem frzBoxL_ok (hV : VR M0 M β st.view tm w) (ho : st.obj id = some (.box cs)) (hp : qT cs = some l) : ∀ (vs : List AV) (ds : List Value), AVRs β w M vs ds -> AVRs β w (kq M (β id)) (AV.frzBoxL id l vs) ds
 | [], ds, h => by simpa only [AV.frzBoxL, AVRs] using h
 | v :: vs, ds, h => by
  simp only [AVRs] at h
  obtain ⟨c, r, h1, h2, h3⟩ := h
  simp only [AV.frzBoxL, AVRs]; exact ⟨c, r, h1, sh hV ho hp v c h2, frzBoxL_ok hV ho hp vs r h3⟩
end
mutual
theorem ke : ∀ (v : AV), ∀ i ∈ (AV.frzBox id l v).refs, i ∈ v.refs /\ i ≠ id
 | .undef, i, h => by simp [AV.frzBox, AV.refs] at h
 | .pv x, i, h => by simp [AV.frzBox, AV.refs] at h
 | .nilSl, i, h => by simp [AV.frzBox, AV.refs] at h
 | .own k, i, h => by
  simp only [AV.frzBox] at h
  by_cases e : k = id
  ·simp [e, AV.refs] at h
  ·simp only [e, if_false, AV.refs, List.mem_singleton] at h; subst h; exact ⟨by simp [AV.refs], e⟩
 | .part k lo n, i, h => by
  simp only [AV.frzBox] at h
  by_cases e : k = id
  ·simp [e, AV.refs] at h
  ·simp only [e, if_false, AV.refs, List.mem_singleton] at h; subst h; exact ⟨by simp [AV.refs], e⟩
 | .addr k x y, i, h => by
  simp only [AV.frzBox] at h
  by_cases e : k = id
  ·simp only [e, if_true] at h
   split at h <;> simp [AV.refs] at h
  ·simp only [e, if_false, AV.refs, List.mem_singleton] at h; subst h; exact ⟨by simp [AV.refs], e⟩
 | .tup vs, i, h => by
  simp only [AV.frzBox, AV.refs] at h ⊢; exact frzBoxL_refs vs i h
 | .agg vs, i, h => by
  simp only [AV.frzBox, AV.refs] at h ⊢; exact frzBoxL_refs vs i h
 | .clo f a b, i, h => by
  simp only [AV.frzBox, AV.refs, List.mem_append] at h ⊢
  rcases h with h | h
  ·exact ⟨.inl (frzBoxL_refs a i h).1, (frzBoxL_refs a i h).2⟩
  ·exact ⟨.inr (frzBoxL_refs b i h).1, (frzBoxL_refs b i h).2⟩
theorem frzBoxL_refs : ∀ (vs : List AV), ∀ i ∈ AV.refsL (AV.frzBoxL id l vs), i ∈ AV.refsL vs /\ i ≠ id
 | [], i, h => by simp [AV.frzBoxL, AV.refsL] at h
 | v :: vs, i, h => by
  simp only [AV.frzBoxL, AV.refsL, List.mem_append] at h ⊢
  rcases h with h | h
  ·exact ⟨.inl (ke v i h).1, (ke v i h).2⟩
  ·exact ⟨.inr (frzBoxL_refs vs i h).1, (frzBoxL_refs vs i h).2⟩
end
end frzBox
theorem tL {id : Nat} {cs : List AV} {l : List PV} (h : SR M0 M β st tm w) (ho : st.obj id = some (.box cs)) (hp : qT cs = some l) : SR M0 (kq M (β id)) β (st.freezeBox id l) tm w := by
 refine xq (f := AV.frzBox id l) rfl (sh h.1 ho hp) ke (fun b j h => h.1) (fun b j hM => ?_) h
 by_cases hF : (β id).F b j
 ·exact .inr ⟨_, ho, hF⟩
 ·exact .inl ⟨hM, hF⟩
theorem rF (id i : Nat) (l : List PV) (st : St) : (st.freezeBox id l).obj i = if i = id then none else (st.obj i).map (Obj.map (AV.frzBox id l)) := lj _ _ _ _ _
end
end Go.Proofs.YtcoikmicjbppmaaGreat.Vm
