/-
  The operations that write: append, store, copy.
-/
import Derived.Test.YtmjkdghcfihfiaaVmPost
import Derived.Laws.IdiomCopy
import Derived.Laws.AppendOwn
namespace Go.Proofs.Ytmjkdghcfihfiaa.Vm
open Go
set_option linter.unusedVariables false
set_option linter.unusedSimpArgs false

/-- What an operation makes leads only where it may. -/
def MRefs (R : Nat → Prop) (m : Made) : Prop :=
  (∀ i ∈ m.v.refs, R i ∨ i ∈ m.os.map (·.1)) ∧ (∀ p ∈ m.os, ∀ i ∈ p.2.refs, R i ∨ i ∈ m.os.map (·.1)) ∧ ∀ id off cells, Patch.box id off cells ∈ m.ws → ∀ i ∈ AV.refsL cells, R i ∨ i ∈ m.os.map (·.1)

/-- The operation gives this value, or nothing; this is the world then. -/
def Does (P : Program) (ρ : Operand → Value) (o : Op) (w : World) (c : Value) (w' : World) : Prop :=
  ∀ oo : Oper, oo.op = o → (execOp ρ oo).run P w = .ok (.value c) w' ∨ (c = undef ∧ (execOp ρ oo).run P w = .ok .skip w')
theorem Gives.does {P : Program} {ρ : Operand → Value} {o : Op} {w : World} {c : Value} {w' : World} (h : Gives P ρ o w c w') : Does P ρ o w c w' := fun oo ho => .inl (h oo ho)

def WOk (P : Program) (ρ : Operand → Value) (o : Op) (w : World) (M : Cells) (β : Nat → Loc) (dom : Nat → Prop) (R : Nat → Prop) (m : Made) : Prop :=
  ∃ c w' M' β', Does P ρ o w c w' ∧ Post M β w dom m M' β' w' c ∧ MRefs R m

theorem QOk.wok {P : Program} {ρ : Operand → Value} {o : Op} {w : World} {M : Cells} {β : Nat → Loc} {R : Nat → Prop} {v : AV} {os : List (Nat × Obj)} {dom : Nat → Prop} (h : QOk P ρ o w M β R v os) : WOk P ρ o w M β dom R (.only v os) := by
  obtain ⟨c, w', M', β', h1, h2, h3, h4, h5, h6⟩ := h
  refine ⟨c, w', M', β', h1.does, ⟨fun id hid => Loc.same_of (h2.keep id hid), fun id hid _ => h2.keep id hid, fun b j hm => .inl ((h2.grow b j).2 (.inl hm)), fun b j hm => ?_, h4, fun p hp => ⟨h2.objs p hp, fun b j hF => ?_⟩, by simp [Made.only], by simp [Made.only], fun id id' hi hi' hne => ?_, h2.fr.mono (fun _ _ h => h.elim), h3⟩, h5, h6, by simp [Made.only]⟩
  · rcases (h2.grow b j).1 hm with h | ⟨id, hid, hF⟩
    · exact .inl h
    · exact .inr (h2.fresh id hid b j hF).1
  · have hid : p.1 ∈ os.map (·.1) := List.mem_map_of_mem (f := (·.1)) hp
    exact ⟨(h2.grow b j).2 (.inr ⟨_, hid, hF⟩), .inl (h2.fresh _ hid b j hF).1⟩
  · rcases hi with hi | ⟨_, hi⟩
    · rcases hi' with hi' | ⟨_, hi'⟩
      · exact h2.disj id hi id' hi' hne
      · simp [Made.only] at hi'
    · simp [Made.only] at hi

section ops
variable {P : Program} {M0 M : Cells} {β : Nat → Loc} {V : View} {a : Act} {w : World} {R : Nat → Prop} {dom : Nat → Prop}

theorem at_setCells_out {w : World} {b : Nat} {vs : List Value} {o x y : Nat} (h : x = b → y < o ∨ o + vs.length ≤ y) : at_ (w.setCells b o vs) x y = at_ w x y :=
  World.cell?_setCells_out b vs o w ⟨x, y, none⟩ (fun e _ => h e)
theorem at_setCells_in {w : World} {b : Nat} {vs : List Value} {o : Nat} (h : ∀ j, j < vs.length → ∃ c, at_ w b (o + j) = some c) {j : Nat} {v : Value} (hv : vs[j]? = some v) : at_ (w.setCells b o vs) b (o + j) = some v := by
  obtain ⟨hj, hv⟩ := List.getElem?_eq_some_iff.1 hv
  have := World.cell?_setCells_in b vs o w (fun j hj => by obtain ⟨c, hc⟩ := h j hj; exact Option.isSome_iff_exists.2 ⟨c, hc⟩) j hj
  rw [hv] at this; exact this
theorem frz_setCells {w : World} {b : Nat} {vs : List Value} {o x y : Nat} : frz_ (w.setCells b o vs) x y = frz_ w x y := World.frozen?_setCells b vs o w ⟨x, y, none⟩

theorem Fr.setCells {D : Cells} (b : Nat) : ∀ (vs : List Value) (o : Nat) (w : World), (∀ j, j < vs.length → D b (o + j)) → Fr D w (w.setCells b o vs)
  | [], o, w, _ => Fr.refl D w
  | v :: vs, o, w, h => by
    have h1 := Fr.setCell w (h 0 (by simp)) v
    have h2 := Fr.setCells b vs (o + 1) (w.setCell ⟨b, o, none⟩ v) (fun j hj => by
      have := h (j + 1) (by simp; omega)
      rwa [show o + 1 + j = o + (j + 1) by omega])
    exact h1.trans h2 (fun _ _ h => h) (fun _ _ h => .inl h)
theorem size_setCells (b : Nat) : ∀ (vs : List Value) (o : Nat) (w : World), (w.setCells b o vs).heap.size = w.heap.size
  | [], o, w => rfl
  | v :: vs, o, w => by rw [World.setCells, size_setCells b vs]; simp

/-- What is joined, its cells. -/
theorem behind_ok (hV : VR M0 M β V a.tmps w) {e u : TypeId} {y : Operand} {l : List (List PV)} (hs : 0 < sizeT P e) (hl : behind P u V y = some l) (hr : rowOk (sizeT P e) l = true) :
    (P.underlying u = some .string ∨ ∃ e', P.underlying u = some (.slice e')) ∧ ∃ news : List Value, news.length = l.length * sizeT P e ∧ (∀ v ∈ news, v.oneCell' = true) ∧ RowS w M (sizeT P e) l news ∧
      (∀ W, (Builtin.lenOf (a.eval y)).run P W = .ok l.length W) ∧
      ∀ W k, k ≤ l.length → (∀ b j v, at_ w b j = some v → at_ W b j = some v) → (Builtin.firstCells (sizeT P e) k (a.eval y)).run P W = .ok (news.take (k * sizeT P e)).toArray W := by
  unfold behind at hl
  split at hl
  · rename_i s hu hy
    injection hl with hl; subst hl
    have ey := eval_ok hV hy
    simp only [AVR, Rep] at ey
    refine ⟨.inl hu, ?_⟩
    have hsz : ∀ b ∈ s, sizeT P e = 1 := fun b hb => by
      have := List.all_eq_true.1 hr [.int .u8 b.toNat] (List.mem_map_of_mem (f := fun b : UInt8 => [PV.int .u8 b.toNat]) hb)
      simp at this; omega
    have hba : (⟨s.toArray⟩ : ByteArray).size = s.length := by simp [ByteArray.size]
    have hlen : (u8s s).length = s.length := by simp [u8s]
    refine ⟨s.map fun b => Value.int .u8 b.toNat, ?_, fun v hv => ?_, ⟨?_, fun i c hi => ?_⟩, fun W => ?_, fun W k hk _ => ?_⟩
    · cases s with
      | nil => simp [u8s]
      | cons b s => rw [hsz b (by simp)]; simp [u8s]
    · obtain ⟨b, _, rfl⟩ := List.mem_map.1 hv; rfl
    · cases s with
      | nil => simp [u8s]
      | cons b s => rw [hsz b (by simp)]; simp [u8s]
    · rw [u8s, List.getElem?_map] at hi
      cases hsi : s[i]? with
      | none => rw [hsi] at hi; simp at hi
      | some b =>
        rw [hsi] at hi; simp at hi; subst hi
        have h1 := hsz b (List.mem_of_getElem? hsi)
        refine ⟨by simp [h1], ?_⟩
        have : (((s.map fun b => Value.int .u8 b.toNat).drop (i * sizeT P e)).take (sizeT P e)) = [.int .u8 b.toNat] := by
          rw [h1]
          apply List.ext_getElem?
          intro j
          rw [List.getElem?_take]
          cases j with
          | zero => simp [hsi]
          | succ j => simp
        rw [this]
        simp only [RepS]
        exact ⟨_, _, rfl, rfl, by simp only [Rep], rfl⟩
    · rw [ey, hlen, ← hba]; rfl
    · rw [ey]
      have hx := extract_mk s 0 k
      simp only [Builtin.firstCells, hx, Sem.run_pure]
      congr 1
      apply Array.ext'
      cases s with
      | nil => simp
      | cons b s => rw [hsz b (by simp)]; simp
  · rename_i e' v hu hy
    refine ⟨.inr ⟨_, hu⟩, ?_⟩
    obtain ⟨A, cap, sz, hc, hle, hnone, hspot, hrow⟩ := asList_ok hV (eval_ok hV hy) hl
    have hrow' : ∀ i e0, l[i]? = some e0 → ∃ b o vs, A = some ⟨b, o, none⟩ ∧ e0.length = sizeT P e ∧ RepS w M e0 vs ∧ ∀ j d, vs[j]? = some d → at_ w b (o + i * sizeT P e + j) = some d := by
      intro i e0 he
      obtain ⟨b, o, vs, h1, h2, h3, h4⟩ := hrow i e0 he
      have : e0.length = sizeT P e := by simpa using List.all_eq_true.1 hr e0 (List.mem_of_getElem? he)
      have hsz : sz = sizeT P e := by rw [← h2, this]
      subst hsz
      exact ⟨b, o, vs, h1, h2, h3, h4⟩
    obtain ⟨news, k1, k2, k3, k4⟩ := row_cells hs hrow'
    refine ⟨news, k1, k2, k3, fun W => by rw [hc]; rfl, fun W k hk hW => ?_⟩
    rw [hc]
    cases A with
    | none =>
      have : l = [] := by
        cases l with
        | nil => rfl
        | cons e0 l => obtain ⟨b, o, vs, hA, _⟩ := hrow 0 e0 rfl; simp at hA
      subst this
      have : news = [] := List.length_eq_zero_iff.1 (by simpa using k1)
      subst this
      simpa using run_firstCells_none W _ _ _ _
    | some pa =>
      by_cases hl0 : l = []
      · subst hl0
        have : news = [] := List.length_eq_zero_iff.1 (by simpa using k1)
        subst this
        have hk0 : k = 0 := by simpa using hk
        subst hk0
        simpa using run_firstCells_some W _ 0 pa _ _ [] (by simp) (fun j v hj => by simp at hj)
      have := hspot pa rfl hl0
      obtain ⟨pb, po, ps⟩ := pa
      simp only at this; subst this
      refine run_firstCells_some W _ _ _ _ _ _ ?_ (fun j v hj => by
        rw [addr_add]
        rw [List.getElem?_take] at hj
        split at hj
        · exact hW _ _ _ (k4 pb po rfl j v hj)
        · exact absurd hj (by simp))
      have : k * sizeT P e ≤ l.length * sizeT P e := Nat.mul_le_mul_right _ hk
      simp only [List.length_take, k1]; omega
  · exact absurd hl (by simp)

/-- In place. -/
theorem run_append_in {t u ty e : TypeId} {i : TypeInfo} (ht : P.underlying t = some (.slice e)) (hi : P.info? e = some i) (hu : P.underlying u = some .string ∨ ∃ e', P.underlying u = some (.slice e')) {y : Value} {m : Nat} {news : List Value}
    (hl : (Builtin.lenOf y).run P w = .ok m w) (hf : (Builtin.firstCells i.size m y).run P w = .ok news.toArray w) (h1 : ∀ v ∈ news, v.oneCell' = true)
    {b off n cap : Nat} (hroom : n + m ≤ cap) (hc : ∀ j, j < news.length → (w.cell? ⟨b, off + n * i.size + j, none⟩).isSome = true) (hz : ∀ j, j < news.length → w.frozen? ⟨b, off + n * i.size + j, none⟩ = false) :
    (Builtin.append_ #[t, u] ty #[.slice (some ⟨b, off, none⟩) n cap, y]).run P w = .ok (.slice (some ⟨b, off, none⟩) (n + m) cap) (w.setCells b (off + n * i.size) news) := by
  have hst := run_storeCells_cells (P := P) b (off + n * i.size) news 0 w (by simpa using hc) (by simpa using hz) h1
  simp only [Nat.add_zero] at hst
  rcases hu with hd | ⟨e', hd⟩ <;> simp [Builtin.append_, run_underlying ht, run_underlying hd, sizeOf, typeInfo, hi, hl, hroom, hf, addr_add, hst]

/-- In place, where there is no memory. -/
theorem run_append_in0 {t u ty e : TypeId} {i : TypeInfo} (ht : P.underlying t = some (.slice e)) (hi : P.info? e = some i) (hu : P.underlying u = some .string ∨ ∃ e', P.underlying u = some (.slice e')) {y : Value}
    (hl : (Builtin.lenOf y).run P w = .ok 0 w) {news : Array Value} (hf : (Builtin.firstCells i.size 0 y).run P w = .ok news w) :
    (Builtin.append_ #[t, u] ty #[.slice none 0 0, y]).run P w = .ok (.slice none 0 0) w := by
  rcases hu with hd | ⟨e', hd⟩ <;> simp [Builtin.append_, run_underlying ht, run_underlying hd, sizeOf, typeInfo, hi, hl, hf]

/-- To a new row. -/
theorem run_append_new {t u ty e : TypeId} {i : TypeInfo} {z : Value} (ht : P.underlying t = some (.slice e)) (hi : P.info? e = some i) (hz : i.zero = some z) (hu : P.underlying u = some .string ∨ ∃ e', P.underlying u = some (.slice e')) {x y : Value} {n m cap : Nat} {olds news : List Value}
    {A : Option Addr} (hx : x = .slice A n cap) (hl : (Builtin.lenOf y).run P w = .ok m w) (hfo : (Builtin.firstCells i.size n x).run P w.drew = .ok olds.toArray w.drew) (hf : (Builtin.firstCells i.size m y).run P w.drew = .ok news.toArray w.drew)
    (hroom : cap < n + m) (h63 : n + m ≤ 9223372036854775807) (hfit : (n + m) * i.bytes ≤ 140737488355328) :
    (Builtin.append_ #[t, u] ty #[x, y]).run P w = .ok (.slice (some ⟨w.heap.size, 0, none⟩) (n + m) (grownCap w (n + m) cap e)) (w.drew.alloc (.cells (olds.toArray ++ news.toArray ++ Builtin.zeroCells z.cells (grownCap w (n + m) cap e - (n + m))) e)) := by
  subst hx
  have hn : ¬ (n + m ≤ cap) := by omega
  have h63' : ¬ (9223372036854775807 < ((n : Int) + (m : Int))) := by omega
  have hfit' := growslice_fits hroom hfit
  have h48' : ¬ (281474976710656 < Builtin.nextslicecap (n + m) cap * i.bytes) := by omega
  rcases hu with hd | ⟨e', hd⟩ <;> simp [Builtin.append_, run_underlying ht, run_underlying hd, sizeOf, typeInfo, zeroValue, hi, hz, hl, hn, h63', h48', Question.forced, hf, hfo, newRow, grownCap]
  all_goals
    congr 2
    apply Array.ext'
    simp [List.append_assoc]

theorem gives_append {x y : Operand} {t u : TypeId} {ρ : Operand → Value} {c : Value} {w' : World} (h : ∀ ty, (Builtin.append_ #[t, u] ty #[ρ x, ρ y]).run P w = .ok c w') :
    Gives P ρ (.call { callee := .builtin .append, args := #[x, y], argTypes := #[t, u] }) w c w' :=
  fun oo ho => by simp [execOp, ho, resolve, invoke, Go.builtin, h]

/-- What is new, and what is gone. -/
theorem NewOK.post {m : Made} {M' : Cells} {β' : Nat → Loc} {w' : World} {c : Value} (h2 : NewOK M β w m.os M' β' w') (hws : m.ws = []) (h3 : AVR β' w' M' m.v c) (h4 : ∀ b j, M' b j → b < w'.heap.size) : Post M β w dom m M' β' w' c := by
  refine ⟨fun id hid => Loc.same_of (h2.keep id hid), fun id hid _ => h2.keep id hid, fun b j hm => .inl ((h2.grow b j).2 (.inl hm)), fun b j hm => ?_, h4, fun p hp => ⟨h2.objs p hp, fun b j hF => ?_⟩, by simp [hws], by simp [hws], fun id id' hi hi' hne => ?_, h2.fr.mono (fun _ _ h => h.elim), h3⟩
  · rcases (h2.grow b j).1 hm with h | ⟨id, hid, hF⟩
    · exact .inl h
    · exact .inr (h2.fresh id hid b j hF).1
  · have hid : p.1 ∈ m.os.map (·.1) := List.mem_map_of_mem (f := (·.1)) hp
    exact ⟨(h2.grow b j).2 (.inr ⟨_, hid, hF⟩), .inl (h2.fresh _ hid b j hF).1⟩
  · rcases hi with hi | ⟨_, hi⟩
    · rcases hi' with hi' | ⟨_, hi'⟩
      · exact h2.disj id hi id' hi' hne
      · simp [hws] at hi'
    · simp [hws] at hi

theorem RowS.append {sz : Nat} {es l : List (List PV)} {olds news : List Value} (h : RowS w M sz es olds) (k : RowS w M sz l news) (ho : olds.length = es.length * sz) (rest : List Value) : RowS w M sz (es ++ l) (olds ++ news ++ rest) := by
  refine ⟨by have := k.1; simp [Nat.add_mul]; omega, fun i e he => ?_⟩
  rw [List.getElem?_append] at he
  split at he
  · rename_i hi
    obtain ⟨h1, h2⟩ := h.2 i e he
    refine ⟨h1, ?_⟩
    have hle : (i + 1) * sz ≤ es.length * sz := Nat.mul_le_mul_right _ hi
    rw [Nat.add_mul] at hle
    have : ((olds ++ news ++ rest).drop (i * sz)).take sz = (olds.drop (i * sz)).take sz := by
      apply List.ext_getElem?
      intro j
      rw [List.getElem?_take, List.getElem?_take]
      split
      · rename_i hj
        rw [List.getElem?_drop, List.getElem?_drop, List.append_assoc, List.getElem?_append_left (by omega)]
      · rfl
    rw [this]; exact h2
  · rename_i hi
    obtain ⟨h1, h2⟩ := k.2 _ e he
    refine ⟨h1, ?_⟩
    have hlt := (List.getElem?_eq_some_iff.1 he).1
    have hle : (i - es.length + 1) * sz ≤ l.length * sz := Nat.mul_le_mul_right _ hlt
    have hk1 := k.1
    rw [Nat.add_mul] at hle
    have hsub : i * sz = es.length * sz + (i - es.length) * sz := by rw [← Nat.add_mul]; congr 1; omega
    have : ((olds ++ news ++ rest).drop (i * sz)).take sz = (news.drop ((i - es.length) * sz)).take sz := by
      apply List.ext_getElem?
      intro j
      rw [List.getElem?_take, List.getElem?_take]
      split
      · rename_i hj
        rw [List.getElem?_drop, List.getElem?_drop, List.append_assoc, List.getElem?_append_right (by omega), List.getElem?_append_left (by omega)]
        congr 1; omega
      · rfl
    rw [this]; exact h2

theorem opA_ok (hV : VR M0 M β V a.tmps w) (hR : ClosedIn R V) (hdom : ∀ id o, V.obj id = some o → dom id) {d : Nat} {o : Op} {v : AV} {os : List (Nat × Obj)} {id : Option Nat} (h : opA P d o V = some (v, os, id)) : WOk P a.eval o w M β dom R ⟨v, os, [], id.toList, [], []⟩ := by
  unfold opA at h
  split at h
  · rename_i as ts
    split at h
    · rename_i x y t u ha hts
      have hx' : as = #[x, y] := by apply Array.ext'; simpa using ha
      have ht' : ts = #[t, u] := by apply Array.ext'; simpa using hts
      subst hx'; subst ht'
      split at h
      · rename_i e he
        obtain ⟨ht, hk, h0⟩ := elemT_eq he
        split at h
        · rename_i es id' l hrow hb
          split at h
          · rename_i hc
            obtain ⟨c1, c2, c3, c4⟩ := hc
            injection h with h; injection h with h1 h; injection h with h2 h3; subst h1; subst h2; subst h3
            obtain ⟨zs, hzs⟩ := Option.isSome_iff_exists.1 c4
            obtain ⟨i, z, hi, hz, hzc, hzl⟩ := zeroV_eq hzs
            have hst : sizeT P e = i.size := by simp [sizeT, hi]
            have hbt : bytesT P e = i.bytes := by simp [bytesT, hi]
            obtain ⟨hu, news, n1, n2, n3, n4, n5'⟩ := behind_ok hV h0 hb c3
            have n5 : ∀ W, (∀ b j v, at_ w b j = some v → at_ W b j = some v) → (Builtin.firstCells (sizeT P e) l.length (a.eval y)).run P W = .ok news.toArray W := fun W hW => by
              have := n5' W l.length (Nat.le_refl _) hW
              rwa [List.take_of_length_le (by omega)] at this
            have hrefs : ∀ m : Made, m = ⟨.own (dstId d), [(dstId d, .buf (sizeT P e) (es ++ l))], [], id'.toList, [], []⟩ → MRefs R m := by
              rintro m rfl
              exact ⟨fun i hi => by simp [AV.refs] at hi; subst hi; exact .inr (by simp), fun p hp i hi => by simp at hp; subst hp; simp [Obj.refs] at hi, by simp⟩
            -- what x is
            have hxs : ∃ xv, V.eval x = some xv ∧ asList V xv = some es ∧ (xv = .nilSl ∧ es = [] ∧ id' = none ∨ ∃ i0, xv = .own i0 ∧ id' = some i0 ∧ V.obj i0 = some (.buf (sizeT P e) es)) := by
              unfold rowOf at hrow
              simp only at hrow
              split at hrow
              · rename_i hx
                injection hrow with hrow; injection hrow with e1 e2
                exact ⟨_, hx, by simp [asList, ← e1], .inl ⟨rfl, e1.symm, e2.symm⟩⟩
              · rename_i i0 hx
                split at hrow
                · rename_i n0 es0 ho
                  split at hrow
                  · rename_i hn
                    injection hrow with hrow; injection hrow with e1 e2
                    subst e1; subst hn
                    exact ⟨_, hx, by simp [asList, ho], .inr ⟨i0, rfl, e2.symm, ho⟩⟩
                  · exact absurd hrow (by simp)
                · exact absurd hrow (by simp)
              · exact absurd hrow (by simp)
            obtain ⟨xv, hx, hxl, hkind⟩ := hxs
            obtain ⟨A, cap, sz, hxc, hle, hnone, hspot, hrows⟩ := asList_ok hV (eval_ok hV hx) hxl
            have hrows' : ∀ i e0, es[i]? = some e0 → ∃ b o vs, A = some ⟨b, o, none⟩ ∧ e0.length = sizeT P e ∧ RepS w M e0 vs ∧ ∀ j d, vs[j]? = some d → at_ w b (o + i * sizeT P e + j) = some d := by
              intro k e0 hk0
              obtain ⟨b, o, vs, q1, q2, q3, q4⟩ := hrows k e0 hk0
              have hes : e0.length = sizeT P e := by
                rcases hkind with ⟨_, rfl, _⟩ | ⟨i0, _, _, ho⟩
                · simp at hk0
                · exact (hV.objs i0 _ ho).2.2.2.2.2.2.2.1 e0 (List.mem_of_getElem? hk0)
              have : sz = sizeT P e := by rw [← q2, hes]
              subst this
              exact ⟨b, o, vs, q1, q2, q3, q4⟩
            obtain ⟨olds, o1, o2, o3, o4⟩ := row_cells h0 hrows'
            by_cases hroom : es.length + l.length ≤ cap
            · -- in place
              cases hA : A with
              | none =>
                have hcap := hnone hA
                have he0 : es = [] := List.length_eq_zero_iff.1 (by omega)
                have hl0 : l = [] := List.length_eq_zero_iff.1 (by omega)
                subst he0; subst hl0
                have hf := n5 w (fun _ _ _ h => h)
                have hrun := fun ty => run_append_in0 (P := P) (w := w) (ty := ty) ht hi hu (y := a.eval y) (n4 w) (by simpa [hst] using hf)
                rw [hA, hcap] at hxc
                let l0 : Loc := { base := none, len := 0, cap := 0, sz := sizeT P e, k := 0, ext := none }
                have hF : ∀ b j, ¬ l0.F b j := by
                  rintro b j (⟨o, q1, _⟩ | ⟨n, q1, _⟩)
                  · simp [l0] at q1
                  · simp [l0] at q1
                let β' : Nat → Loc := fun i => if i = dstId d then l0 else β i
                have hβ : β' (dstId d) = l0 := by simp [β']
                refine ⟨.slice none 0 0, w, M, β', (gives_append (fun ty => by rw [hxc]; exact hrun ty)).does, NewOK.post ⟨fun i hi => ?_, fun b j => ?_, fun i hi b j hb => ?_, fun p hp => ?_, fun i hi i' hi' hne => ?_, Fr.refl _ _⟩ rfl ?_ hV.old, hrefs _ rfl⟩
                · simp at hi; simp [β', hi]
                · simp [hβ, hF]
                · simp at hi; subst hi; rw [hβ] at hb; exact absurd hb (hF b j)
                · simp at hp; subst hp
                  rw [hβ]
                  exact ⟨rfl, h0, rfl, Nat.le_refl _, by simp [l0], rfl, fun _ => rfl, by simp, fun b o hb => by simp [l0] at hb⟩
                · simp at hi hi'; omega
                · simp only [AVR]; rw [hβ]; rfl
              | some pa =>
                have hsp : pa.spot = none := by
                  rcases hkind with ⟨rfl, rfl, rfl⟩ | ⟨i0, rfl, rfl, ho⟩
                  · have ex := eval_ok hV hx
                    simp only [AVR] at ex
                    rw [hxc, hA] at ex; simp at ex
                  · have ex := eval_ok hV hx
                    simp only [AVR, Loc.hdr] at ex
                    cases hb0 : (β i0).base with
                    | none => rw [hb0, hxc, hA] at ex; simp at ex
                    | some bo =>
                      obtain ⟨b0, o0⟩ := bo
                      rw [hb0, hxc, hA] at ex; simp at ex; rw [ex.1]
                obtain ⟨b, o, ps⟩ := pa
                simp only at hsp; subst hsp
                rcases hkind with ⟨rfl, rfl, rfl⟩ | ⟨i0, rfl, rfl, ho⟩
                · have ex := eval_ok hV hx
                  simp only [AVR] at ex
                  rw [hxc, hA] at ex; simp at ex
                · obtain ⟨q1, q2, q3, q4, q5, q6, q7, q8, q9⟩ := hV.objs i0 _ ho
                  have ex := eval_ok hV hx
                  simp only [AVR, Loc.hdr] at ex
                  cases hb0 : (β i0).base with
                  | none => rw [hb0, hxc, hA] at ex; simp at ex
                  | some bo =>
                    obtain ⟨b1, p1⟩ := bo
                    rw [hb0, hxc, hA] at ex
                    simp only [Value.slice.injEq, Option.some.injEq, Addr.mk.injEq, and_true] at ex
                    obtain ⟨⟨rfl, rfl⟩, e3, rfl⟩ := ex
                    obtain ⟨r1, r2⟩ := q9 b o hb0
                    have hin : ∀ j, j < news.length → es.length * sizeT P e + j < (β i0).k := by
                      intro j hj
                      rw [q5]
                      have : (es.length + l.length) * sizeT P e ≤ (β i0).cap * sizeT P e := Nat.mul_le_mul_right _ hroom
                      rw [Nat.add_mul] at this; omega
                    have hcell : ∀ j, j < news.length → ∃ c, at_ w b (o + es.length * sizeT P e + j) = some c := by
                      intro j hj
                      have := (r1 _ (hin j hj)).1
                      rwa [← Nat.add_assoc] at this
                    have hrun := fun ty => run_append_in (P := P) (w := w) (ty := ty) ht hi hu (y := a.eval y) (n4 w) (by simpa [hst] using n5 w (fun _ _ _ h => h)) n2 (b := b) (off := o) (n := es.length) (cap := (β i0).cap) hroom
                      (fun j hj => by rw [← hst]; obtain ⟨c, hc⟩ := hcell j hj; exact Option.isSome_iff_exists.2 ⟨c, hc⟩)
                      (fun j hj => by
                        rw [← hst]
                        have := (r1 _ (hin j hj)).2
                        rw [← Nat.add_assoc] at this; exact this)
                    let l0 : Loc := { β i0 with len := es.length + l.length }
                    let β' : Nat → Loc := fun i => if i = dstId d then l0 else β i
                    have hβ : β' (dstId d) = l0 := by simp [β']
                    have hF : ∀ x j, l0.F x j → (β i0).F x j := fun x j h => h
                    have hown := hV.own i0 _ ho
                    let w' := w.setCells b (o + es.length * i.size) news
                    have hD : ∀ j, j < news.length → (β i0).F b (o + es.length * i.size + j) := fun j hj => by
                      rw [← hst]
                      exact .inl ⟨o, hb0, by omega, by have := hin j hj; omega⟩
                    have hfr : Fr (Dm β dom ⟨.own (dstId d), [(dstId d, .buf (sizeT P e) (es ++ l))], [], [i0], [], []⟩) w w' := Fr.setCells b news _ w (fun j hj => .inl ⟨i0, by simp, hdom i0 _ ho, hD j hj⟩)
                    have hk : ∀ x y u, at_ w x y = some u → ¬ M x y → at_ w' x y = some u ∧ ¬ M x y := fun x y u hu hm => by
                      refine ⟨?_, hm⟩
                      have : at_ w' x y = at_ w x y := at_setCells_out (fun e1 => by
                        subst e1
                        rcases Nat.lt_or_ge y (o + es.length * i.size) with h | h
                        · exact .inl h
                        · rcases Nat.lt_or_ge y (o + es.length * i.size + news.length) with h' | h'
                          · have := hD (y - (o + es.length * i.size)) (by omega)
                            rw [show o + es.length * i.size + (y - (o + es.length * i.size)) = y by omega] at this
                            exact absurd (hown _ _ this).1 hm
                          · exact .inr h')
                      rw [this]; exact hu
                    refine ⟨_, w', M, β', (gives_append (fun ty => by rw [hxc, hA]; exact hrun ty)).does, ⟨fun j hj => Loc.same_of ?_, fun j hj _ => ?_, fun x j h => .inl h, fun x j h => .inl h, fun x j h => ?_, fun p hp => ?_, by simp, by simp, fun j j' hj hj' hne => ?_, hfr, ?_⟩, hrefs _ rfl⟩
                    · simp at hj; simp [β', hj]
                    · simp at hj; simp [β', hj]
                    · rw [size_setCells]; exact hV.old x j h
                    · simp at hp; subst hp
                      rw [hβ]
                      refine ⟨⟨q1, h0, by simp [l0], hroom, q5, q6, fun hb => by simp [l0, hb0] at hb, fun e0 he0 => ?_, fun b' o' hb' => ?_⟩, fun x j hx => ⟨(hown x j (hF x j hx)).1, .inr (.inl ⟨i0, by simp, hdom i0 _ ho, hF x j hx⟩)⟩⟩
                      · rcases List.mem_append.1 he0 with he0 | he0
                        · exact q8 e0 he0
                        · simpa using List.all_eq_true.1 c3 e0 he0
                      · simp only [l0, hb0, Option.some.injEq, Prod.mk.injEq] at hb'
                        obtain ⟨rfl, rfl⟩ := hb'
                        refine ⟨fun j hj => ?_, fun k e0 hk0 => ?_⟩
                        · obtain ⟨⟨c, hc⟩, hz0⟩ := r1 j hj
                          refine ⟨?_, by rw [frz_setCells]; exact hz0⟩
                          by_cases hin' : o + es.length * i.size ≤ o + j ∧ o + j < o + es.length * i.size + news.length
                          · have hlt : j - es.length * i.size < news.length := by omega
                            refine ⟨news[j - es.length * i.size], ?_⟩
                            have := at_setCells_in (w := w) (b := b) (vs := news) (o := o + es.length * i.size) (fun j hj => by rw [← hst]; exact hcell j hj) (List.getElem?_eq_getElem hlt)
                            rwa [show o + es.length * i.size + (j - es.length * i.size) = o + j by omega] at this
                          · exact ⟨c, by rw [at_setCells_out (fun _ => by omega)]; exact hc⟩
                        · rw [List.getElem?_append] at hk0
                          split at hk0
                          · rename_i hlt
                            obtain ⟨vs, s1, s2⟩ := r2 k e0 hk0
                            refine ⟨vs, RepS.mono hk _ _ s1, fun j c hj => ?_⟩
                            have hj' : j < sizeT P e := by
                              have := (List.getElem?_eq_some_iff.1 hj).1
                              rw [s1.length, q8 e0 (List.mem_of_getElem? hk0)] at this; exact this
                            have : (k + 1) * sizeT P e ≤ es.length * sizeT P e := Nat.mul_le_mul_right _ hlt
                            rw [Nat.add_mul] at this
                            rw [at_setCells_out (fun _ => .inl (by rw [← hst]; omega))]
                            exact s2 j c hj
                          · rename_i hge
                            obtain ⟨s1, s2⟩ := n3.2 _ e0 hk0
                            refine ⟨_, RepS.mono hk _ _ s2, fun j c hj => ?_⟩
                            rw [List.getElem?_take] at hj
                            split at hj
                            · rw [List.getElem?_drop] at hj
                              have := at_setCells_in (w := w) (b := b) (vs := news) (o := o + es.length * i.size) (fun j hj => by rw [← hst]; exact hcell j hj) hj
                              have hsub : k * sizeT P e = es.length * i.size + (k - es.length) * sizeT P e := by
                                rw [← hst, ← Nat.add_mul]; congr 1; omega
                              rw [hsub, ← Nat.add_assoc o, Nat.add_assoc (o + es.length * i.size)]
                              exact this
                            · exact absurd hj (by simp)
                    · rcases hj with hj | ⟨_, hj⟩
                      · rcases hj' with hj' | ⟨_, hj'⟩
                        · simp at hj hj'; omega
                        · simp at hj'
                      · simp at hj
                    · simp only [AVR]; rw [hβ]; simp [Loc.hdr, l0, hb0]
            · -- a new row
              have hfo : (Builtin.firstCells i.size es.length (a.eval x)).run P w.drew = .ok olds.toArray w.drew := by
                rw [hxc]
                cases hA : A with
                | none =>
                  have hcap := hnone hA
                  have he0 : es = [] := List.length_eq_zero_iff.1 (by omega)
                  subst he0
                  have : olds = [] := List.length_eq_zero_iff.1 (by simpa using o1)
                  subst this
                  exact run_firstCells_none _ _ _ _ _
                | some pa =>
                  have hsp : pa.spot = none := by
                    rcases hkind with ⟨rfl, rfl, rfl⟩ | ⟨i0, rfl, rfl, ho⟩
                    · have ex := eval_ok hV hx
                      simp only [AVR] at ex
                      rw [hxc, hA] at ex; simp at ex
                    · have ex := eval_ok hV hx
                      simp only [AVR, Loc.hdr] at ex
                      cases hb0 : (β i0).base with
                      | none => rw [hb0, hxc, hA] at ex; simp at ex
                      | some bo =>
                        obtain ⟨b0, o0⟩ := bo
                        rw [hb0, hxc, hA] at ex; simp at ex; rw [ex.1]
                  obtain ⟨b, o, ps⟩ := pa
                  simp only at hsp; subst hsp
                  exact run_firstCells_some w.drew _ _ _ _ _ _ (by rw [o1, hst]) (fun j u hj => by
                    rw [addr_add]; exact o4 b o hA j u hj)
              have hfn : (Builtin.firstCells i.size l.length (a.eval y)).run P w.drew = .ok news.toArray w.drew := by
                have := n5 w.drew (fun _ _ _ h => h)
                simpa [hst] using this
              have hrun := fun ty => run_append_new (P := P) (w := w) (ty := ty) ht hi hz hu (x := a.eval x) (y := a.eval y) (n := es.length) (m := l.length) (cap := cap) hxc (n4 w) hfo hfn (by omega) (by unfold maxInt at c2; omega) (by rw [← hbt]; exact c1)
              let cp := grownCap w (es.length + l.length) cap e
              have hcp : es.length + l.length ≤ cp := grownCap_ge _ _ _ _
              let vs : List Value := olds ++ news ++ (Builtin.zeroCells z.cells (cp - (es.length + l.length))).toList
              have hvs : (olds.toArray ++ news.toArray ++ Builtin.zeroCells z.cells (cp - (es.length + l.length))) = vs.toArray := by
                apply Array.ext'; simp [vs]
              have hzs' : z.cells.size = sizeT P e := by rw [← hzl, ← hzc]; simp
              have hvl : vs.length = cp * sizeT P e := by
                simp only [vs, List.length_append, Array.length_toList, size_zeroCells, o1, n1, hzs', ← Nat.add_mul]
                congr 1; omega
              have hblk : (w.drew.alloc (.cells vs.toArray e)).heap[w.heap.size]? = some (.cells vs.toArray e (0, 0)) := heap_alloc_new w.drew _
              obtain ⟨β', M', m1, m2, m3⟩ := new_buf_at (id := dstId d) (β := β) (cap := cp) (w' := w.drew.alloc (.cells vs.toArray e)) hV.old h0 (RowS.append o3 n3 o1 _) hvl (by simpa using hcp)
                (fun j => by have := cell_of_row (w.drew.alloc (.cells vs.toArray e)) w.heap.size j vs.toArray e (0, 0) hblk; exact this.trans (List.getElem?_toArray ..)) (fun j _ => by show World.frozen? _ _ = false; unfold World.frozen?; simp only [hblk]; simp) ((Fr.drew w _).trans (Fr.alloc w.drew _ _ _) (fun _ _ h => h) (fun _ _ h => .inl h)) (by simp)
              refine ⟨_, _, M', β', (gives_append (fun ty => by rw [hrun ty, hvs])).does, NewOK.post m1 rfl ?_ (fun b j h => by simpa using m3 b j h), hrefs _ rfl⟩
              simp only [AVR]
              rw [m2]; simp [cp]
          · exact absurd h (by simp)
        · exact absurd h (by simp)
      · exact absurd h (by simp)
    · exact absurd h (by simp)
  · exact absurd h (by simp)

theorem does_store {t : TypeId} {x y : Operand} {ρ : Operand → Value} {b o : Nat} {vs : List Value} (ht : okT P t = true) (hx : ρ x = .pointer (some ⟨b, o, none⟩)) (hy : (ρ y).cells.toList = vs) (hl : vs.length = sizeT P t)
    (hc : ∀ j, j < vs.length → ∃ c, at_ w b (o + j) = some c) (hz : ∀ j, j < vs.length → frz_ w b (o + j) = false) (h1 : ∀ v ∈ vs, v.oneCell' = true) : Does P ρ (.store t x y) w undef (w.setCells b o vs) := by
  intro oo ho
  subst hy
  have hst := run_storeCells_cells (P := P) b o (ρ y).cells.toList 0 w (fun j hj => by obtain ⟨c, hc⟩ := hc j hj; exact Option.isSome_iff_exists.2 ⟨c, by simp only [Nat.add_zero]; exact hc⟩) (fun j hj => by simp only [Nat.add_zero]; exact hz j hj) h1
  simp only [Nat.add_zero] at hst
  have hsz : (ρ y).cells.size = sizeT P t := by rw [← hl]; simp
  refine .inr ⟨rfl, ?_⟩
  simp [execOp, ho, hx, Instr.storeAt, Instr.sureAddr, storeVar, run_sizeT ht, hsz, hst]

/-- What others read is not written. -/
theorem keep_setCells {b o : Nat} {vs : List Value} (hM : ∀ j, j < vs.length → M b (o + j)) : ∀ x y u, at_ w x y = some u → ¬ M x y → at_ (w.setCells b o vs) x y = some u ∧ ¬ M x y := fun x y u hu hm => by
  refine ⟨?_, hm⟩
  rw [at_setCells_out (fun e1 => by
    subst e1
    rcases Nat.lt_or_ge y o with h | h
    · exact .inl h
    · rcases Nat.lt_or_ge y (o + vs.length) with h' | h'
      · have := hM (y - o) (by omega)
        rw [show o + (y - o) = y by omega] at this
        exact absurd this hm
      · exact .inr h')]
  exact hu

/-- Elements of an owned slice that are written. -/
theorem Post.buf (hV : VR M0 M β V a.tmps w) (hdom : ∀ id o, V.obj id = some o → dom id) {id sz : Nat} {es es' : List (List PV)} (ho : V.obj id = some (.buf sz es)) {b o p : Nat} (hb : (β id).base = some (b, o)) {news : List Value}
    (hp : p + news.length ≤ (β id).k) (hlen : es'.length = es.length) (hel : ∀ e ∈ es', e.length = sz)
    (hcells : ∀ k e, es'[k]? = some e → ∃ vs, RepS w M e vs ∧ ∀ j c, vs[j]? = some c → if p ≤ k * sz + j ∧ k * sz + j < p + news.length then news[k * sz + j - p]? = some c else at_ w b (o + k * sz + j) = some c)
    {v : AV} {c : Value} (hc : ∀ w', AVR β w' M v c) : Post M β w dom ⟨v, [], [.buf id sz es'], [], [], []⟩ M β (w.setCells b (o + p) news) c := by
  obtain ⟨q1, q2, q3, q4, q5, q6, q7, q8, q9⟩ := hV.objs id _ ho
  obtain ⟨r1, r2⟩ := q9 b o hb
  have hF : ∀ j, j < news.length → (β id).F b (o + p + j) := fun j hj => .inl ⟨o, hb, by omega, by omega⟩
  have hk := keep_setCells (w := w) (M := M) (vs := news) (b := b) (o := o + p) (fun j hj => (hV.own id _ ho _ _ (hF j hj)).1)
  have hcell : ∀ j, j < news.length → ∃ c, at_ w b (o + p + j) = some c := fun j hj => by
    have := (r1 (p + j) (by omega)).1
    rwa [← Nat.add_assoc] at this
  refine ⟨fun _ _ => Loc.same_of rfl, fun _ _ _ => rfl, fun _ _ h => .inl h, fun _ _ h => .inl h, fun x j h => by rw [size_setCells]; exact hV.old x j h, by simp, fun q hq => ?_, by simp, fun i i' hi => by simp at hi, ?_, hc _⟩
  · simp at hq; subst hq
    refine ⟨rfl, q1, q2, by rw [hlen]; exact q3, q4, q5, q6, q7, hel, fun b' o' hb' => ?_⟩
    rw [hb] at hb'; injection hb' with hb'; injection hb' with e1 e2; subst e1; subst e2
    refine ⟨fun j hj => ?_, fun k e he => ?_⟩
    · obtain ⟨⟨c, hc⟩, hz0⟩ := r1 j hj
      refine ⟨?_, by rw [frz_setCells]; exact hz0⟩
      by_cases hin' : p ≤ j ∧ j < p + news.length
      · have hlt : j - p < news.length := by omega
        refine ⟨news[j - p], ?_⟩
        have := at_setCells_in (w := w) (b := b) (vs := news) (o := o + p) hcell (List.getElem?_eq_getElem hlt)
        rwa [show o + p + (j - p) = o + j by omega] at this
      · exact ⟨c, by rw [at_setCells_out (fun _ => by omega)]; exact hc⟩
    · obtain ⟨vs, s1, s2⟩ := hcells k e he
      refine ⟨vs, RepS.mono hk _ _ s1, fun j c hj => ?_⟩
      have := s2 j c hj
      split at this
      · rename_i hin'
        have h2 := at_setCells_in (w := w) (b := b) (vs := news) (o := o + p) hcell this
        rwa [show o + p + (k * sz + j - p) = o + k * sz + j by omega] at h2
      · rw [at_setCells_out (fun _ => by omega)]; exact this
  · refine Fr.setCells b news _ w (fun j hj => .inr ⟨_, List.mem_singleton.2 rfl, hdom _ _ ho, ?_⟩)
    exact hF j hj

theorem RepS.setFrom {off : Nat} {l xs : List PV} {us vs : List Value} (h : RepS w M l us) (k : RepS w M xs vs) (hle : off + l.length ≤ xs.length) : RepS w M (setFrom off l xs) (setFrom off us vs) := by
  have e1 : Vm.setFrom off l xs = xs.take off ++ (l ++ xs.drop (off + l.length)) := by
    apply List.ext_getElem?
    intro j
    rw [setFrom_get _ _ _ hle, List.getElem?_append, List.getElem?_append, List.getElem?_take, List.getElem?_drop]
    simp only [List.length_take]
    have : min off xs.length = off := by omega
    rw [this]
    by_cases h1 : j < off
    · rw [if_neg (by omega), if_pos h1, if_pos h1]
    · by_cases h2 : j < off + l.length
      · rw [if_pos ⟨by omega, h2⟩, if_neg h1, if_pos (by omega)]
      · rw [if_neg (by omega), if_neg h1, if_neg (by omega)]; congr 1; omega
  have e2 : Vm.setFrom off us vs = vs.take off ++ (us ++ vs.drop (off + l.length)) := by
    have hul := h.length
    have hvl := k.length
    apply List.ext_getElem?
    intro j
    rw [setFrom_get _ _ _ (by omega), List.getElem?_append, List.getElem?_append, List.getElem?_take, List.getElem?_drop]
    simp only [List.length_take]
    have : min off vs.length = off := by omega
    rw [this]
    by_cases h1 : j < off
    · rw [if_neg (by omega), if_pos h1, if_pos h1]
    · by_cases h2 : j < off + us.length
      · rw [if_pos ⟨by omega, h2⟩, if_neg h1, if_pos (by omega)]
      · rw [if_neg (by omega), if_neg h1, if_neg (by omega)]; congr 1; omega
  rw [e1, e2]
  exact RepS.append (RepS.take _ k) (RepS.append h (RepS.drop _ k))

theorem opL_store_ok (hV : VR M0 M β V a.tmps w) (hR : ClosedIn R V) (hdom : ∀ id o, V.obj id = some o → dom id) {t : TypeId} {x y : Operand} {m : Made} (h : opL P (.store t x y) V = some m) : WOk P a.eval (.store t x y) w M β dom R m := by
  simp only [opL] at h
  split at h
  · rename_i id i off v hx hy
    split at h
    · rename_i hc
      obtain ⟨ht, hfit, hl⟩ := hc
      have ex := eval_ok hV hx
      simp only [AVR] at ex
      obtain ⟨b, o, hb, hxc⟩ := ex
      have hlv := leaves_ok (eval_ok hV hy) hfit
      have hvl : (a.eval y).cells.toList.length = sizeT P t := by rw [← hlv.1]; exact hl
      have hone : ∀ u ∈ (a.eval y).cells.toList, u.oneCell' = true := fun u hu => by
        obtain ⟨j, hj⟩ := List.mem_iff_getElem?.1 hu
        have hlt : j < (leaves v).length := by rw [hlv.1]; exact (List.getElem?_eq_some_iff.1 hj).1
        exact (hlv.2 j _ u (List.getElem?_eq_getElem hlt) hj).1
      split at h
      · rename_i cs ho
        split at h
        · rename_i hco
          obtain ⟨rfl, hle⟩ := hco
          injection h with h; subst h
          rw [Nat.zero_mul, Nat.add_zero] at hxc
          obtain ⟨b', o', q1, q2, q3, q4⟩ := hV.objs id _ ho
          rw [hb] at q1; injection q1 with q1; injection q1 with e1 e2; subst e1; subst e2
          have hF : ∀ j, j < (a.eval y).cells.toList.length → (β id).F b (o + off + j) := fun j hj => .inl ⟨o, hb, by omega, by omega⟩
          have hcell : ∀ j, j < (a.eval y).cells.toList.length → ∃ c, at_ w b (o + off + j) = some c ∧ frz_ w b (o + off + j) = false := fun j hj => by
            have hlt : off + j < cs.length := by omega
            obtain ⟨c, k1, k2, _, _⟩ := q4 (off + j) _ (List.getElem?_eq_getElem hlt)
            rw [← Nat.add_assoc] at k1 k2
            exact ⟨c, k1, k2⟩
          have hk := keep_setCells (w := w) (M := M) (vs := (a.eval y).cells.toList) (b := b) (o := o + off) (fun j hj => (hV.own id _ ho _ _ (hF j hj)).1)
          refine ⟨undef, _, M, β, does_store ht hxc rfl hvl (fun j hj => (hcell j hj).imp fun _ h => h.1) (fun j hj => (hcell j hj).elim fun _ h => h.2) hone,
            ⟨fun _ _ => Loc.same_of rfl, fun _ _ _ => rfl, fun _ _ h => .inl h, fun _ _ h => .inl h, fun x j h => by rw [size_setCells]; exact hV.old x j h, by simp, fun q hq => ?_, by simp, fun i i' hi => by simp at hi, ?_, ?_⟩, ?_, by simp, ?_⟩
          · simp at hq; subst hq
            refine ⟨rfl, b, o, hb, fun j u hj => ?_⟩
            have hlt : j < (a.eval y).cells.toList.length := by rw [← hlv.1]; exact (List.getElem?_eq_some_iff.1 hj).1
            obtain ⟨s1, s2⟩ := hlv.2 j u _ hj (List.getElem?_eq_getElem hlt)
            refine ⟨_, at_setCells_in (fun j hj => (hcell j hj).imp fun _ h => h.1) (List.getElem?_eq_getElem hlt), by rw [frz_setCells]; exact (hcell j hlt).elim fun _ h => h.2, s1, AVR.mono hk _ _ (fun _ _ => Loc.same_of rfl) s2⟩
          · refine Fr.setCells b _ _ w (fun j hj => .inr ⟨_, List.mem_singleton.2 rfl, hdom _ _ ho, ?_⟩)
            exact ⟨o, hb, by omega, by rw [hlv.1]; omega⟩
          · simp only [AVR]; exact ⟨#[], rfl, by simp only [AVRs]⟩
          · simp [AV.refs, AV.refsL]
          · intro i off' cells hm i' hi'
            simp at hm; obtain ⟨rfl, rfl, rfl⟩ := hm
            exact .inl (eval_refs hR hy i' (leaves_refs v i' hi'))
        · exact absurd h (by simp)
      · rename_i sz es ho
        split at h
        · rename_i l c hpv hci
          split at h
          · rename_i hle
            injection h with h; subst h
            obtain ⟨q1, q2, q3, q4, q5, q6, q7, q8, q9⟩ := hV.objs id _ ho
            obtain ⟨r1, r2⟩ := q9 b o hb
            have hrep := pvs_ok hlv hpv
            have hll : l.length = sizeT P t := by rw [← hvl, hrep.length]
            have hcl : c.length = sz := q8 c (List.mem_of_getElem? hci)
            have hilt := (List.getElem?_eq_some_iff.1 hci).1
            have hik : (i + 1) * sz ≤ (β id).cap * sz := Nat.mul_le_mul_right _ (by omega)
            rw [Nat.add_mul] at hik
            rw [q1] at hxc
            have hcell : ∀ j, j < (a.eval y).cells.toList.length → (∃ c, at_ w b (o + (i * sz + off) + j) = some c) ∧ frz_ w b (o + (i * sz + off) + j) = false := fun j hj => by
              have := r1 (i * sz + off + j) (by omega)
              rwa [← Nat.add_assoc] at this
            rw [Nat.add_assoc] at hxc
            refine ⟨undef, _, M, β, does_store ht hxc rfl hvl (fun j hj => (hcell j hj).1) (fun j hj => (hcell j hj).2) hone, Post.buf hV hdom ho hb (by rw [hvl]; omega) (by simp) ?_ ?_ (fun w' => ?_), ?_, by simp, by simp⟩
            · intro e he
              obtain ⟨k, hk⟩ := List.mem_iff_getElem?.1 he
              by_cases hik' : i = k
              · subst hik'
                rw [List.getElem?_set_self hilt] at hk
                injection hk with hk; subst hk
                rw [setFrom_length _ _ _ (by omega)]; exact hcl
              · rw [List.getElem?_set_ne hik'] at hk
                exact q8 e (List.mem_of_getElem? hk)
            · intro k e hk
              by_cases hik' : i = k
              · subst hik'
                rw [List.getElem?_set_self hilt] at hk
                injection hk with hk; subst hk
                obtain ⟨vs, s1, s2⟩ := r2 i c hci
                refine ⟨_, RepS.setFrom hrep s1 (by omega), fun j u hj => ?_⟩
                have hvs := s1.length
                have hus := hrep.length
                rw [setFrom_get _ _ _ (by omega)] at hj
                split at hj
                · rename_i hin'
                  rw [if_pos ⟨by omega, by omega⟩]
                  rw [← hj]; congr 1; omega
                · rw [if_neg (by omega)]
                  exact s2 j u hj
              · have hne := hik'
                rw [List.getElem?_set_ne hik'] at hk
                obtain ⟨vs, s1, s2⟩ := r2 k e hk
                refine ⟨vs, s1, fun j u hj => ?_⟩
                have hj' : j < sz := by
                  have := (List.getElem?_eq_some_iff.1 hj).1
                  rw [s1.length, q8 e (List.mem_of_getElem? hk)] at this; exact this
                rw [if_neg]
                · exact s2 j u hj
                · rintro ⟨h1, h2⟩
                  rcases Nat.lt_or_gt_of_ne hne with hlt | hgt
                  · have : (i + 1) * sz ≤ k * sz := Nat.mul_le_mul_right _ hlt
                    rw [Nat.add_mul] at this; omega
                  · have : (k + 1) * sz ≤ i * sz := Nat.mul_le_mul_right _ hgt
                    rw [Nat.add_mul] at this; omega
            · simp only [AVR]; exact ⟨#[], rfl, by simp only [AVRs]⟩
            · simp [AV.refs, AV.refsL]
          · exact absurd h (by simp)
        · exact absurd h (by simp)
      · exact absurd h (by simp)
    · exact absurd h (by simp)
  · exact absurd h (by simp)

theorem rowIn_ok (hV : VR M0 M β V a.tmps w) {xv : AV} {c : Value} {sz id lo m : Nat} {es : List (List PV)} (hc : AVR β w M xv c) (h : rowIn sz V xv = some (id, lo, m, es)) :
    V.obj id = some (.buf sz es) ∧ lo + m ≤ es.length ∧ ∃ A cap, c = .slice A m cap ∧ (0 < m → ∃ b o, (β id).base = some (b, o) ∧ A = some ⟨b, o + lo * sz, none⟩) ∧ (∀ p, A = some p → p.spot = none) := by
  unfold rowIn at h
  split at h
  · rename_i i
    split at h
    · rename_i n es' ho
      split at h
      · rename_i hn
        injection h with h; injection h with e1 h; injection h with e2 h; injection h with e3 e4
        subst e1; subst e2; subst e3; subst e4; subst hn
        obtain ⟨q1, q2, q3, q4, q5, q6, q7, q8, q9⟩ := hV.objs i _ ho
        simp only [AVR, Loc.hdr] at hc
        refine ⟨ho, by omega, ?_⟩
        cases hb : (β i).base with
        | none =>
          rw [hb] at hc
          have := q7 hb
          have hl0 : es'.length = 0 := by omega
          exact ⟨none, 0, by rw [hc, hl0], fun h => by omega, fun p hp => by simp at hp⟩
        | some bo =>
          obtain ⟨b, o⟩ := bo
          rw [hb] at hc
          exact ⟨_, _, by rw [hc, q3], fun _ => ⟨b, o, rfl, by simp⟩, fun p hp => by injection hp with hp; subst hp; rfl⟩
      · exact absurd h (by simp)
    · exact absurd h (by simp)
  · rename_i i l0 n
    split at h
    · rename_i k es' ho
      split at h
      · rename_i hn
        injection h with h; injection h with e1 h; injection h with e2 h; injection h with e3 e4
        subst e1; subst e2; subst e3; subst e4
        obtain ⟨hn1, hn2⟩ := hn
        subst hn1
        obtain ⟨q1, q2, q3, q4, q5, q6, q7, q8, q9⟩ := hV.objs i _ ho
        simp only [AVR] at hc
        obtain ⟨A, cap, h1, h2, h3, h4, h5, h6⟩ := hc
        exact ⟨ho, hn2, A, cap, h1, fun hm => by rw [← q1]; exact h6 hm, h4⟩
      · exact absurd h (by simp)
    · exact absurd h (by simp)
  · exact absurd h (by simp)

theorem does_copy {x y : Operand} {t u e : TypeId} {ρ : Operand → Value} {A : Option Addr} {m cap n : Nat} {news : List Value} {w' : World} (ht : P.underlying t = some (.slice e)) (he : okT P e = true) (hx : ρ x = .slice A m cap) (hl : (Builtin.lenOf (ρ y)).run P w = .ok n w)
    (hf : (Builtin.firstCells (sizeT P e) (min n m) (ρ y)).run P w = .ok news.toArray w) (hw : match A with | some p => (storeCells p news).run P w = .ok () w' | none => w' = w) :
    Does P ρ (.call { callee := .builtin .copy, args := #[x, y], argTypes := #[t, u] }) w (.int .i64 (min n m : Nat)) w' := by
  intro oo ho
  refine .inl ?_
  have hf' : (Builtin.firstCells (sizeT P e) (Nat.min n m) (ρ y)).run P w = .ok news.toArray w := hf
  cases A with
  | none =>
    simp only at hw; subst hw
    simp [execOp, ho, resolve, invoke, Go.builtin, Builtin.copy_, run_underlying ht, hx, hl, run_sizeT he, hf', goInt]
  | some p =>
    simp only at hw
    simp [execOp, ho, resolve, invoke, Go.builtin, Builtin.copy_, run_underlying ht, hx, hl, run_sizeT he, hf', hw, goInt]

theorem opL_copy_ok (hV : VR M0 M β V a.tmps w) (hR : ClosedIn R V) (hdom : ∀ id o, V.obj id = some o → dom id) {as : Array Operand} {ts : Array TypeId} {m : Made} (h : opL P (.call { callee := .builtin .copy, args := as, argTypes := ts }) V = some m) :
    WOk P a.eval (.call { callee := .builtin .copy, args := as, argTypes := ts }) w M β dom R m := by
  simp only [opL] at h
  split at h
  · rename_i x y t u ha hts
    have hx' : as = #[x, y] := by apply Array.ext'; simpa using ha
    have ht' : ts = #[t, u] := by apply Array.ext'; simpa using hts
    subst hx'; subst ht'
    split at h
    · rename_i e xv he hx
      obtain ⟨ht, hk, h0⟩ := elemT_eq he
      split at h
      · rename_i id lo m0 es l hr hb
        split at h
        · rename_i hrow
          injection h with h; subst h
          obtain ⟨ho, hle, A, cap, hxc, hpos, hspot⟩ := rowIn_ok hV (eval_ok hV hx) hr
          obtain ⟨hu, news, n1, n2, n3, n4, n5⟩ := behind_ok hV h0 hb hrow
          obtain ⟨q1, q2, q3, q4, q5, q6, q7, q8, q9⟩ := hV.objs id _ ho
          have hkl : min l.length m0 ≤ l.length := Nat.min_le_left _ _
          have hkm : min l.length m0 ≤ m0 := Nat.min_le_right _ _
          have hdo := fun (news' : List Value) (w' : World) => does_copy (P := P) (w := w) (x := x) (y := y) (t := t) (u := u) (ρ := a.eval) (A := A) (news := news') (w' := w') ht hk hxc (n4 w)
          generalize min l.length m0 = k at hkl hkm hdo ⊢
          have hf := n5 w k hkl (fun _ _ _ h => h)
          have hnl : (news.take (k * sizeT P e)).length = k * sizeT P e := by
            have : k * sizeT P e ≤ l.length * sizeT P e := Nat.mul_le_mul_right _ hkl
            simp only [List.length_take, n1]; omega
          have hrefs : ∀ es' : List (List PV), MRefs R ⟨i64 (k : Nat), [], [.buf id (sizeT P e) es'], [], [], []⟩ := fun es' => ⟨by simp [i64, AV.refs], by simp, by simp⟩
          by_cases hk0 : k = 0
          · -- nothing is copied
            have hn0 : news.take (k * sizeT P e) = [] := List.length_eq_zero_iff.1 (by rw [hnl, hk0]; simp)
            have hes : es.take lo ++ (l.take k ++ es.drop (lo + k)) = es := by rw [hk0]; simp
            show WOk P a.eval _ w M β dom R ⟨i64 (k : Nat), [], [.buf id (sizeT P e) (es.take lo ++ (l.take k ++ es.drop (lo + k)))], [], [], []⟩
            rw [hes]
            refine ⟨_, w, M, β, hdo _ w hf (by rw [hn0]; cases A <;> simp [storeCells]), ?_, hrefs es⟩
            refine ⟨fun _ _ => Loc.same_of rfl, fun _ _ _ => rfl, fun _ _ h => .inl h, fun _ _ h => .inl h, hV.old, by simp, fun q hq => ?_, by simp, fun i i' hi => by simp at hi, Fr.refl _ _, by simp only [i64, AVR, Rep]⟩
            simp at hq; subst hq
            exact ⟨rfl, hV.objs id _ ho⟩
          · have hm0 : 0 < m0 := by omega
            obtain ⟨b, o, hbase, hA⟩ := hpos hm0
            subst hA
            obtain ⟨r1, r2⟩ := q9 b o hbase
            have hcap : lo * sizeT P e + k * sizeT P e ≤ (β id).k := by
              rw [q5, ← Nat.add_mul]; exact Nat.mul_le_mul_right _ (by omega)
            have hst := run_storeCells_cells (P := P) b (o + lo * sizeT P e) (news.take (k * sizeT P e)) 0 w
              (fun j hj => by
                obtain ⟨c, hc⟩ := (r1 (lo * sizeT P e + j) (by omega)).1
                rw [← Nat.add_assoc] at hc
                exact Option.isSome_iff_exists.2 ⟨c, by simp only [Nat.add_zero]; exact hc⟩)
              (fun j hj => by
                have hc := (r1 (lo * sizeT P e + j) (by omega)).2
                rw [← Nat.add_assoc] at hc
                simp only [Nat.add_zero]; exact hc)
              (fun v hv => n2 v (List.mem_of_mem_take hv))
            simp only [Nat.add_zero] at hst
            refine ⟨_, _, M, β, hdo _ _ hf hst, Post.buf hV hdom ho hbase (by rw [hnl]; exact hcap) ?_ ?_ ?_ (fun w' => by simp only [i64, AVR, Rep]), hrefs _⟩
            · simp; omega
            · intro e0 he0
              rcases List.mem_append.1 he0 with he0 | he0
              · exact q8 e0 (List.mem_of_mem_take he0)
              · rcases List.mem_append.1 he0 with he0 | he0
                · simpa using List.all_eq_true.1 hrow e0 (List.mem_of_mem_take he0)
                · exact q8 e0 (List.mem_of_mem_drop he0)
            · intro i e0 hi
              have mono : ∀ x y : Nat, x ≤ y → x * sizeT P e ≤ y * sizeT P e := fun x y h => Nat.mul_le_mul_right _ h
              have old : es[i]? = some e0 → (i < lo ∨ lo + k ≤ i) → ∃ vs, RepS w M e0 vs ∧ ∀ j c, vs[j]? = some c → if lo * sizeT P e ≤ i * sizeT P e + j ∧ i * sizeT P e + j < lo * sizeT P e + (news.take (k * sizeT P e)).length then (news.take (k * sizeT P e))[i * sizeT P e + j - lo * sizeT P e]? = some c else at_ w b (o + i * sizeT P e + j) = some c := by
                intro hi hio
                obtain ⟨vs, s1, s2⟩ := r2 i e0 hi
                refine ⟨vs, s1, fun j u hj => ?_⟩
                have hj' : j < sizeT P e := by
                  have := (List.getElem?_eq_some_iff.1 hj).1
                  rw [s1.length, q8 e0 (List.mem_of_getElem? hi)] at this; exact this
                rw [if_neg]
                · exact s2 j u hj
                · rw [hnl, ← Nat.add_mul]
                  rintro ⟨h1, h2⟩
                  rcases hio with hio | hio
                  · have := mono (i + 1) lo hio; rw [Nat.add_mul] at this; omega
                  · have := mono (lo + k) i hio; omega
              have hlo : (es.take lo).length = lo := by simp; omega
              have hlk : (l.take k).length = k := by simp; omega
              rw [List.getElem?_append] at hi
              split at hi
              · rename_i hlt
                rw [List.getElem?_take] at hi
                split at hi
                · exact old hi (.inl (by omega))
                · exact absurd hi (by simp)
              · rename_i hge
                rw [List.getElem?_append, hlo] at hi
                split at hi
                · rename_i hlt
                  rw [List.getElem?_take] at hi
                  split at hi
                  · rename_i hik
                    obtain ⟨s1, s2⟩ := n3.2 (i - lo) e0 hi
                    refine ⟨_, s2, fun j u hj => ?_⟩
                    have hj' : j < sizeT P e := by
                      have := (List.getElem?_eq_some_iff.1 hj).1
                      rw [s2.length, s1] at this; exact this
                    have hsub : i * sizeT P e = lo * sizeT P e + (i - lo) * sizeT P e := by rw [← Nat.add_mul]; congr 1; omega
                    have hup := mono (i - lo + 1) k (by omega)
                    rw [Nat.add_mul] at hup
                    rw [if_pos ⟨by omega, by rw [hnl]; omega⟩]
                    rw [List.getElem?_take, if_pos hj', List.getElem?_drop] at hj
                    rw [List.getElem?_take, if_pos (by omega), ← hj]
                    congr 1; omega
                  · exact absurd hi (by simp)
                · rename_i hge2
                  rw [List.getElem?_drop, hlk] at hi
                  have : lo + k + (i - lo - k) = i := by omega
                  rw [this] at hi
                  exact old hi (.inr (by omega))
        · exact absurd h (by simp)
      · exact absurd h (by simp)
    · exact absurd h (by simp)
  · exact absurd h (by simp)

theorem opL_ok (hV : VR M0 M β V a.tmps w) (hR : ClosedIn R V) (hdom : ∀ id o, V.obj id = some o → dom id) {o : Op} {m : Made} (h : opL P o V = some m) : WOk P a.eval o w M β dom R m := by
  cases o
  case store t x y => exact opL_store_ok hV hR hdom h
  case call c =>
    obtain ⟨callee, as, ts⟩ := c
    cases callee
    case builtin b =>
      cases b
      case copy => exact opL_copy_ok hV hR hdom h
      all_goals (simp only [opL] at h; exact absurd h (by simp))
    all_goals (simp only [opL] at h; exact absurd h (by simp))
  all_goals (simp only [opL] at h; exact absurd h (by simp))

end ops
end Go.Proofs.Ytmjkdghcfihfiaa.Vm
