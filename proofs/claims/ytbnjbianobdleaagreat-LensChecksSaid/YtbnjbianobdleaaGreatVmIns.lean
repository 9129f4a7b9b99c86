/-
  slices.Insert of one value, slices.Delete of one, of rows of two cells, by contract.
-/
import Derived.Test.YtbnjbianobdleaaGreatVmPlain
import Derived.Shelf.RegionOpenPlain
import Derived.Lib.AppendZerosOnto
namespace Go.Proofs.YtbnjbianobdleaaGreat.Vm
open Go Go.RowKit
set_option linter.unusedVariables false
set_option linter.unusedSimpArgs false

/-- An owned row's cells. -/
theorem old_cells {w : World} {M : Cells} {l : Loc} {sz : Nat} {es : List (List PV)} (hO : ObjR (fun _ => l) w M l (.buf sz es)) :
    ∃ cs : List Value, cs.length = es.length * sz ∧ (∀ d ∈ cs, d.oneCell' = true) ∧ RowS w M sz es cs ∧ ∀ b o, l.base = some (b, o) → ∀ j d, cs[j]? = some d → at_ w b (o + j) = some d := by
  simp only [ObjR] at hO
  obtain ⟨h1, h2, h3, h4, h5, h6, h7, h8, h9⟩ := hO
  obtain ⟨cs, k1, k2, k3, k4⟩ := row_cells (w := w) (M := M) (A := l.base.map fun x => ⟨x.1, x.2, none⟩) (sz := sz) (es := es) h2 (fun i e he => by
    cases hb : l.base with
    | none =>
      have := h7 hb
      have := (List.getElem?_eq_some_iff.1 he).1
      omega
    | some p =>
      obtain ⟨b, o⟩ := p
      obtain ⟨vs, r1, r2⟩ := (h9 b o hb).2 i e he
      exact ⟨b, o, vs, rfl, h8 e (List.mem_of_getElem? he), r1, r2⟩)
  exact ⟨cs, k1, k2, k3, fun b o hb => k4 b o (by rw [hb]; rfl)⟩

theorem RowS.take {w : World} {M : Cells} {sz : Nat} {es : List (List PV)} {cs : List Value} (h : RowS w M sz es cs) (i : Nat) : RowS w M sz (es.take i) (cs.take (i * sz)) := by
  obtain ⟨h1, h2⟩ := h
  refine ⟨?_, fun k e he => ?_⟩
  · rw [List.length_take, List.length_take]
    have : min i es.length * sz ≤ i * sz := Nat.mul_le_mul_right _ (Nat.min_le_left ..)
    have : min i es.length * sz ≤ es.length * sz := Nat.mul_le_mul_right _ (Nat.min_le_right ..)
    omega
  · rw [List.getElem?_take] at he
    split at he
    · rename_i hk
      obtain ⟨k1, k2⟩ := h2 k e he
      refine ⟨k1, ?_⟩
      have e1 : (List.drop (k * sz) (cs.take (i * sz))).take sz = (cs.drop (k * sz)).take sz := by
        rw [List.drop_take, List.take_take]
        congr 1
        have : (k + 1) * sz ≤ i * sz := Nat.mul_le_mul_right _ hk
        rw [Nat.add_mul] at this
        omega
      rw [e1]; exact k2
    · exact absurd he (by simp)

theorem RowS.drop {w : World} {M : Cells} {sz : Nat} {es : List (List PV)} {cs : List Value} (h : RowS w M sz es cs) (i : Nat) : RowS w M sz (es.drop i) (cs.drop (i * sz)) := by
  obtain ⟨h1, h2⟩ := h
  refine ⟨?_, fun k e he => ?_⟩
  · rw [List.length_drop, List.length_drop, Nat.sub_mul]; omega
  · rw [List.getElem?_drop] at he
    obtain ⟨k1, k2⟩ := h2 _ e he
    refine ⟨k1, ?_⟩
    rw [List.drop_drop]
    rwa [Nat.add_mul] at k2

theorem RowS.mono {w w' : World} {M M' : Cells} (hk : ∀ b o v, at_ w b o = some v → ¬ M b o → at_ w' b o = some v ∧ ¬ M' b o) {sz : Nat} {es : List (List PV)} {cs : List Value} (h : RowS w M sz es cs) : RowS w' M' sz es cs :=
  ⟨h.1, fun i e he => ⟨(h.2 i e he).1, RepS.mono hk _ _ (h.2 i e he).2⟩⟩

/-- A row whose cells are known. -/
theorem row_made {w' : World} {M' : Cells} {l' : Loc} {sz : Nat} {es' : List (List PV)} {news : List Value} (h0 : 0 < sz) (hr : RowS w' M' sz es' news) (h1 : l'.sz = sz) (h3 : l'.len = es'.length) (h4 : l'.len ≤ l'.cap) (h5 : l'.k = l'.cap * sz) (h6 : l'.ext = none) (h7 : l'.base = none → l'.cap = 0)
    (hu : ∀ b o, l'.base = some (b, o) → 2 ≤ sz → Unm w' b)
    (hc : ∀ b o, l'.base = some (b, o) → (∀ j, j < l'.k → (∃ c, at_ w' b (o + j) = some c) ∧ frz_ w' b (o + j) = false) ∧ ∀ j d, news[j]? = some d → at_ w' b (o + j) = some d) : ObjR (fun _ => l') w' M' l' (.buf sz es') := by
  simp only [ObjR]
  refine ⟨h1, h0, h3, h4, h5, ⟨h6, hu⟩, h7, fun e he => ?_, fun b o hb => ⟨(hc b o hb).1, fun i e he => ?_⟩⟩
  · obtain ⟨i, hi⟩ := List.mem_iff_getElem?.1 he
    exact (hr.2 i e hi).1
  · obtain ⟨k1, k2⟩ := hr.2 i e he
    refine ⟨_, k2, fun j c hj => ?_⟩
    rw [List.getElem?_take] at hj
    split at hj
    · rw [List.getElem?_drop] at hj
      rw [Nat.add_assoc]
      exact (hc b o hb).2 _ _ hj
    · exact absurd hj (by simp)

/-- Where one's own row and another one's do not meet. -/
theorem run_overlaps_own {P : Program} (w : World) (tS tR e : TypeId) (ht : P.underlying tS = some (.slice e)) (size : Nat) (hz : ∀ w, (Go.sizeOf e).run P w = .ok size w)
    (a b : Addr) (la ca lb cb : Nat) (tA tB : TypeId) (kA kB : Nat) (hsa : w.shape? a.block = some (tA, kA)) (hkA : kA ≠ 0) (hsb : w.shape? b.block = some (tB, kB)) (hkB : kB ≠ 0)
    (hfb : w.frozen? b = false) (hfe : w.frozen? { block := b.block, off := kB } = false) (hdis : a.block = b.block → ¬ (a.off < b.off + lb * size ∧ b.off < a.off + la * size)) :
    (Extern.SlicesOverlaps.overlaps #[tS, tS] #[tR] #[.slice (some a) la ca, .slice (some b) lb cb]).run P w = .ok (.bool false) w := by
  change Sem.run P (α := Value) (do
    let some t := (#[tS, tS] : Array TypeId)[0]? | stuck "slices.overlaps: no parameter types"
    let .slice elem ← underlying t | stuck "slices.overlaps: slice type expected"
    let size ← sizeOf elem
    match (some a : Option Addr), (some b : Option Addr) with
    | some a, some b =>
      if la = 0 ∨ lb = 0 ∨ size = 0 then pure (Value.bool false)
      else if a.block != b.block && (← frozen a) && (← frozen b) then unsupported .addressObserved
      else do
        if a.block != b.block then do
          noView a; noView b
          if ← mayBeOne a b then return Value.bool ((← choose (.extern "sameAddr.stringBytes" 2)) == 1)
        pure (Value.bool (a.block == b.block && a.off < b.off + lb * size && b.off < a.off + la * size))
    | _, _ => pure (Value.bool false)) w = _
  by_cases h0 : la = 0 ∨ lb = 0 ∨ size = 0
  · simp [run_underlying ht, hz, h0]
  · cases kB with
    | zero => exact absurd rfl hkB
    | succ kB =>
      cases kA with
      | zero => exact absurd rfl hkA
      | succ kA =>
        by_cases hne : a.block = b.block
        · have hd := hdis hne
          have hd' : (decide (a.off < b.off + lb * size) && decide (b.off < a.off + la * size)) = false := by
            simp only [Bool.and_eq_false_iff, decide_eq_false_iff_not]
            by_cases h1 : a.off < b.off + lb * size
            · exact .inr fun h2 => hd ⟨h1, h2⟩
            · exact .inl h1
          simp [run_underlying ht, hz, h0, hne, Sem.run]
          intro h1
          rcases Nat.lt_or_ge b.off (a.off + la * size) with h2 | h2
          · exact absurd ⟨h1, h2⟩ hd
          · exact h2
        · have hnb : (a.block != b.block) = true := by simpa using hne
          have hnb' : (a.block == b.block) = false := by simpa using hne
          cases hfa : w.frozen? a <;> simp [run_underlying ht, hz, h0, hnb, hnb', frozen, noView, viewAt, mayBeOne, stringish, shape, Sem.run, hsa, hsb, hfa, hfb, hfe]

theorem at_setCells_get {w : World} {b o p j : Nat} {R vs : List Value} (h : p + vs.length ≤ R.length) (hj : at_ w b (o + j) = R[j]?) (hex : ∀ q, q < vs.length → ∃ c, at_ w b (o + p + q) = some c) :
    at_ (w.setCells b (o + p) vs) b (o + j) = (R.take p ++ vs ++ R.drop (p + vs.length))[j]? := by
  have hp : (R.take p).length = p := by rw [List.length_take]; omega
  have hpv : (R.take p ++ vs).length = p + vs.length := by rw [List.length_append, hp]
  rcases Nat.lt_or_ge j p with h1 | h1
  · rw [at_setCells_out (fun _ => .inl (by omega)), hj, List.getElem?_append_left (by omega), List.getElem?_append_left (by omega), List.getElem?_take, if_pos h1]
  · rcases Nat.lt_or_ge j (p + vs.length) with h2 | h2
    · rw [List.getElem?_append_left (by omega), List.getElem?_append_right (by omega), hp]
      have hv := List.getElem?_eq_getElem (l := vs) (i := j - p) (by omega)
      rw [hv]
      have := at_setCells_in (w := w) (b := b) (vs := vs) (o := o + p) hex hv
      rwa [show o + p + (j - p) = o + j by omega] at this
    · rw [at_setCells_out (fun _ => .inr (by omega)), hj, List.getElem?_append_right (by omega), hpv, List.getElem?_drop]
      congr 1; omega

theorem shape_of_at {w : World} {b j : Nat} {v : Value} (h : at_ w b j = some v) : ∃ T n, w.shape? b = some (T, n) ∧ j < n := by
  unfold at_ World.cell? at h
  unfold World.shape?
  split at h
  · rename_i c e fz hh
    rw [hh]
    refine ⟨e, c.size, rfl, ?_⟩
    split at h
    · exact absurd h (by simp)
    · have := (Array.getElem?_eq_some_iff.1 h).1
      exact this
  · exact absurd h (by simp)

/-- All cells of a row, as they stand. -/
theorem row_all {w : World} {M : Cells} {l : Loc} {sz : Nat} {es : List (List PV)} {cs : List Value} (hO : ObjR (fun _ => l) w M l (.buf sz es)) (hcl : cs.length = es.length * sz) {b o : Nat} (hb : l.base = some (b, o)) (hc : ∀ j d, cs[j]? = some d → at_ w b (o + j) = some d) :
    ∃ spare : List Value, (cs ++ spare).length = l.cap * sz ∧ ∀ j, j < l.cap * sz → at_ w b (o + j) = (cs ++ spare)[j]? := by
  simp only [ObjR] at hO
  obtain ⟨h1, h2, h3, h4, h5, h6, h7, h8, h9⟩ := hO
  have hle : es.length * sz ≤ l.cap * sz := Nat.mul_le_mul_right _ (by omega)
  refine ⟨(List.range (l.cap * sz - es.length * sz)).map fun j => (at_ w b (o + (es.length * sz + j))).getD undef, by simp [hcl]; omega, fun j hj => ?_⟩
  rcases Nat.lt_or_ge j cs.length with h | h
  · rw [List.getElem?_append_left h, List.getElem?_eq_getElem h]
    exact hc j _ (List.getElem?_eq_getElem h)
  · rw [List.getElem?_append_right h, List.getElem?_map, List.getElem?_range (by omega)]
    obtain ⟨c, k1⟩ := ((h9 b o hb).1 j (by omega)).1
    have e : es.length * sz + (j - cs.length) = j := by omega
    simp only [Option.map_some, e, k1, Option.getD_some]

/-- What stays in its place. -/
theorem moved_in {w W : World} {M0 : Cells} {l : Loc} {sz : Nat} {es es' : List (List PV)} (hO : ObjR (fun _ => l) w (fun b j => M0 b j ∨ l.F b j) l (.buf sz es)) {b o : Nat} (hb : l.base = some (b, o)) {Rf : List Value} (hRl : Rf.length = l.cap * sz) (hle : es'.length ≤ l.cap)
    (hk : ∀ x y u, at_ w x y = some u → ¬ (M0 x y ∨ l.F x y) → at_ W x y = some u) (hat : ∀ j, j < l.cap * sz → at_ W b (o + j) = Rf[j]?) (hz : ∀ x y, frz_ W x y = frz_ w x y) (hfr : Fr l.F w W) (hr : RowS w (fun b j => M0 b j ∨ l.F b j) sz es' Rf) :
    ∃ l', Value.slice (some ⟨b, o, none⟩) es'.length l.cap = l'.hdr ∧ ObjR (fun _ => l') W (fun b j => M0 b j ∨ l'.F b j) l' (.buf sz es') ∧ (∀ b j, l'.F b j → (w.heap.size ≤ b ∧ b < W.heap.size) ∨ l.F b j) ∧ Fr l.F w W := by
  have hO2 := hO
  simp only [ObjR] at hO2
  obtain ⟨h1, h2, h3, h4, h5, h6, h7, h8, h9⟩ := hO2
  refine ⟨{ l with len := es'.length }, by unfold Loc.hdr; rw [hb], ?_, fun b j h => .inr h, hfr⟩
  refine row_made h2 (RowS.mono (fun x y u hu hm => ⟨hk x y u hu hm, hm⟩) hr) h1 rfl hle h5 h6.1 h7 (fun b1 o1 hb1 hz1 => hfr.unm (h6.2 b1 o1 hb1 hz1)) (fun b1 o1 hb1 => ?_)
  have hb1 : l.base = some (b1, o1) := hb1
  rw [hb] at hb1
  simp only [Option.some.injEq, Prod.mk.injEq] at hb1
  obtain ⟨rfl, rfl⟩ := hb1
  refine ⟨fun j hj => ?_, fun j d hd => ?_⟩
  · have hj : j < l.cap * sz := by have : j < l.k := hj; omega
    refine ⟨⟨Rf[j]'(by omega), by rw [hat j hj]; exact List.getElem?_eq_getElem _⟩, ?_⟩
    rw [hz]
    exact ((h9 b o hb).1 j (by omega)).2
  · have hj := (List.getElem?_eq_some_iff.1 hd).1
    rw [hat j (by omega)]; exact hd

/-- What goes to a new row. -/
theorem moved_new {w W : World} {M0 : Cells} {l : Loc} {sz cap : Nat} {es' : List (List PV)} (h0 : 0 < sz) (hold : ∀ b j, (M0 b j ∨ l.F b j) → b < w.heap.size) {Rf : List Value} (hRl : Rf.length = cap * sz) (hle : es'.length ≤ cap)
    (hs : W.heap.size = w.heap.size + 1) (hat : ∀ j : Nat, at_ W w.heap.size j = Rf[j]?) (hz : ∀ j, frz_ W w.heap.size j = false) (hu : Unm W w.heap.size) (hfr : Fr (fun _ _ => False) w W) (hr : RowS w (fun b j => M0 b j ∨ l.F b j) sz es' Rf) :
    ∃ l', Value.slice (some ⟨w.heap.size, 0, none⟩) es'.length cap = l'.hdr ∧ ObjR (fun _ => l') W (fun b j => M0 b j ∨ l'.F b j) l' (.buf sz es') ∧ (∀ b j, l'.F b j → (w.heap.size ≤ b ∧ b < W.heap.size) ∨ l.F b j) ∧ Fr l.F w W := by
  obtain ⟨l', k1, k2, k3, k4⟩ := fresh_block (M0 := fun b j => M0 b j ∨ l.F b j) hold h0 hr hRl hle (Nat.le_refl _) (by omega) hat (fun j _ => hz j) hfr (fun _ => hu)
  refine ⟨l', k1, ?_, fun b j h => .inl (k3 b j h), hfr.mono fun _ _ h => h.elim⟩
  exact ObjR.mono (o := .buf sz es') (fun b o v h1 h2 => ⟨h1, fun h3 => h2 (h3.elim (fun h => .inl (.inl h)) .inr)⟩) (fun _ _ _ _ h => ⟨h, rfl⟩) (fun _ _ h => h) (fun _ _ _ => rfl) (fun _ h => h) (by simp [Obj.refs]) k2

end Go.Proofs.YtbnjbianobdleaaGreat.Vm
