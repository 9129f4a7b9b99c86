/-
  What is handed in, of a type made of whole numbers, bools, strings, slices and structs, read as plain values.
-/
import Derived.Test.YtbnjbianobdleaaGreatVmRows
import Derived.ChangeArms
import Derived.SizedLaws
namespace Go.Proofs.YtbnjbianobdleaaGreat.Vm
open Go Go.RowKit
set_option linter.unusedVariables false
set_option linter.unusedSimpArgs false

/-- Do a struct's fields lie one behind the other, from a place on, up to its end? -/
def tiles (P : Program) : Nat → List Field → Nat → Bool
  | o, [], n => o == n
  | o, f :: r, n => f.offset == o && tiles P (o + P.cellsOf f.type) r n
/-- Are these types made of such types alone? -/
def closedT (P : Program) (L : List TypeId) : Bool := L.all fun t => match P.underlying t with
  | some (.int _) | some .bool | some .string => true
  | some (.slice e) => L.contains e && decide (0 < P.cellsOf e)
  | some (.struct fs) => fs.toList.all (fun f => L.contains f.type) && tiles P 0 fs.toList (P.cellsOf t)
  | _ => false

/-- A value's leaves are of a type. -/
inductive Shp (P : Program) : TypeId → List PV → Prop
  | int {t k n} : P.underlying t = some (.int k) → (Lit.int k n).wf = true → Shp P t [.int k n]
  | bool {t b} : P.underlying t = some .bool → Shp P t [.bool b]
  | str {t s} : P.underlying t = some .string → s.length ≤ reachBytes → Shp P t [.str s]
  | sl {t e es} : P.underlying t = some (.slice e) → es.length * P.bytesOf e ≤ reachBytes → (∀ x, x ∈ es → Shp P e x) → Shp P t [.sl es]
  | struct {t fs} (xs : Nat → List PV) : P.underlying t = some (.struct fs) → (∀ i f, fs.toList[i]? = some f → Shp P f.type (xs i)) → Shp P t ((List.range fs.toList.length).flatMap xs)

theorem exists_list {α : Type} {p : Nat → α → Prop} : ∀ {n : Nat}, (∀ i, i < n → ∃ x, p i x) → ∃ l : List α, l.length = n ∧ ∀ i x, l[i]? = some x → p i x
  | 0, _ => ⟨[], rfl, fun i x h => by simp at h⟩
  | n + 1, h => by
    obtain ⟨l, h1, h2⟩ := exists_list (n := n) fun i hi => h i (by omega)
    obtain ⟨x, hx⟩ := h n (by omega)
    refine ⟨l ++ [x], by simp [h1], fun i y hy => ?_⟩
    rcases Nat.lt_or_ge i n with hi | hi
    · rw [List.getElem?_append_left (by omega)] at hy; exact h2 i y hy
    · rw [List.getElem?_append_right (by omega)] at hy
      have : i = n := by
        have := (List.getElem?_eq_some_iff.1 hy).1
        simp at this; omega
      subst this
      rw [h1, Nat.sub_self] at hy
      simp only [List.getElem?_cons_zero, Option.some.injEq] at hy
      subst hy; exact hx
theorem exists_fun {α : Type} [Inhabited α] {p : Nat → α → Prop} {n : Nat} (h : ∀ i, i < n → ∃ x, p i x) : ∃ g : Nat → α, ∀ i, i < n → p i (g i) := by
  obtain ⟨l, h1, h2⟩ := exists_list h
  refine ⟨fun i => l[i]?.getD default, fun i hi => ?_⟩
  have : l[i]? = some l[i] := List.getElem?_eq_getElem (by omega)
  simp only [this, Option.getD_some]
  exact h2 i _ this

theorem cells_some {w : World} {base : Nat} {a : Addr} {n : Nat} {vs : List Value} (h : w.cells? base a n = some vs) : vs.length = n ∧ ∀ j v, vs[j]? = some v → w.cell? (a.add j) = some v := by
  unfold World.cells? at h
  split at h
  · refine ⟨by simpa using mapM_some_length h, fun j v hj => ?_⟩
    have hlt : j < n := by
      have h1 := (List.getElem?_eq_some_iff.1 hj).1
      have h2 := mapM_some_length h
      simp at h2; omega
    have := mapM_some_get h j j (by simp [hlt])
    rw [this, hj]
  · exact absurd h (by simp)

theorem tiles_rep {P : Program} {W : World} {M : Cells} {cs : List Value} : ∀ {fs : List Field} {o n : Nat} {ys : Nat → List PV}, tiles P o fs n = true → cs.length = n →
    (∀ i f, fs[i]? = some f → RepS W M (ys i) ((cs.drop f.offset).take (P.cellsOf f.type))) → RepS W M ((List.range fs.length).flatMap ys) (cs.drop o)
  | [], o, n, ys, h, hl, _ => by
    simp only [tiles, beq_iff_eq] at h
    subst h
    rw [List.drop_of_length_le (by omega)]
    simp [RepS]
  | f :: r, o, n, ys, h, hl, hy => by
    simp only [tiles, Bool.and_eq_true, beq_iff_eq] at h
    obtain ⟨rfl, h⟩ := h
    rw [List.length_cons, List.range_succ_eq_map, List.flatMap_cons, List.flatMap_map]
    have ih := tiles_rep (ys := fun i => ys (i + 1)) h hl fun i g hg => hy (i + 1) g (by simpa using hg)
    have h0 := hy 0 f rfl
    have := RepS.append h0 ih
    rw [← List.drop_drop, List.take_append_drop] at this
    exact this

theorem weights_all {H : Type} {P : Program} {e : TypeId} : ∀ {l : List (DataW H)} {d : DataW H}, d ∈ l → ∀ n ∈ d.weights P e, n ∈ DataW.weightsAll P e l
  | [], d, h, n, hn => by simp at h
  | y :: l, d, h, n, hn => by
    simp only [DataW.weightsAll, List.mem_append]
    rcases List.mem_cons.1 h with rfl | h
    · exact .inl hn
    · exact .inr (weights_all h n hn)

theorem trod_rep {H : Type} {enc : TypeId × Value → H} {P : Program} {W : World} {spare : Nat → Bool} {held : Bool} {L : List TypeId} (hL : closedT P L = true) :
    ∀ (fuel : Nat) (t : TypeId) (cs : List Value) (x : DataW H × List MemPlace), t ∈ L → DataW.trod enc P W 0 spare held fuel t cs = some x → (∀ n ∈ x.1.weights P t, n ≤ reachBytes) → ∃ xs, RepS W noCells xs cs ∧ Shp P t xs
  | 0, t, cs, x, _, h, hw => by simp [DataW.trod] at h
  | fuel + 1, t, cs, x, ht, h, hw => by
    have hc := List.all_eq_true.1 hL t ht
    split at hc
    · rename_i k hu
      unfold DataW.trod at h
      rw [hu] at h
      split at h <;> simp_all
      obtain ⟨h1, h2⟩ := h
      obtain ⟨rfl, hwf⟩ := h1
      exact ⟨[.int _ _], by simp only [RepS, Rep]; exact ⟨_, _, rfl, rfl, rfl, rfl⟩, .int hu hwf⟩
    · rename_i hu
      unfold DataW.trod at h
      rw [hu] at h
      split at h <;> simp_all
      exact ⟨[.bool _], by simp only [RepS, Rep]; exact ⟨_, _, rfl, rfl, rfl, rfl⟩, .bool hu⟩
    · rename_i hu
      unfold DataW.trod at h
      rw [hu] at h
      split at h <;> simp_all
      rename_i s
      refine ⟨[.str s.data.toList], by simp only [RepS, Rep]; exact ⟨_, _, rfl, rfl, by simp, rfl⟩, .str hu ?_⟩
      obtain ⟨_, rfl⟩ := h
      exact hw _ (by simp [DataW.weights])
    · rename_i e hu
      simp only [Bool.and_eq_true, decide_eq_true_eq, List.contains_iff_mem] at hc
      obtain ⟨he, hpos⟩ := hc
      rcases DataW.trod_slice hu h with ⟨rfl, _⟩ | ⟨a, len, cap, elems, rest, n, hn, rfl, hx, _, hlc, hcm, hll, hel0, _, _⟩
      · exact ⟨[.sl []], by simp only [RepS, Rep]; exact ⟨_, _, rfl, rfl, ⟨none, 0, rfl, by simp, fun _ => rfl, by simp, 1, by simp [RepRow]⟩, rfl⟩, .sl hu (by simp) (by simp)⟩
      · have hn' : n = fuel := by omega
        subst hn'
        subst hx
        have hw1 : (elems.length + rest.length) * P.bytesOf e ≤ reachBytes := by
          have := hw ((elems.length + rest.length) * P.bytesOf e) (by simp [DataW.weights, hu])
          exact this
        have hw2 : ∀ i (hi : i < elems.length), ∀ k ∈ elems[i].1.weights P e, k ≤ reachBytes := fun i hi k hk => by
          refine hw k ?_
          simp only [DataW.weights, hu, List.mem_cons, List.mem_append]
          exact .inr (.inl (weights_all (List.mem_map.2 ⟨elems[i], List.getElem_mem hi, rfl⟩) k hk))
        have hel : ∀ i, i < len → ∃ y : List PV × List Value, W.cells? 0 (a.add (i * P.cellsOf e)) (P.cellsOf e) = some y.2 ∧ RepS W noCells y.1 y.2 ∧ Shp P e y.1 := by
          intro i hi
          have := hel0 i hi
          rw [List.getElem?_eq_getElem (by omega)] at this
          obtain ⟨vs, k1, k2⟩ := Option.bind_eq_some_iff.1 this
          obtain ⟨xs, k3, k4⟩ := trod_rep hL n e vs _ he k2 (hw2 i (by omega))
          exact ⟨(xs, vs), k1, k3, k4⟩
        obtain ⟨l, l1, l2⟩ := exists_list hel
        refine ⟨[.sl (l.map (·.1))], ?_, .sl hu ?_ ?_⟩
        · simp only [RepS, Rep]
          have hsp : 0 < len → a.spot = none := by
            intro h0
            obtain ⟨y, hy⟩ : ∃ y, l[0]? = some y := ⟨l[0], List.getElem?_eq_getElem (by omega)⟩
            obtain ⟨k1, _, _⟩ := l2 0 y hy
            obtain ⟨k2, k3⟩ := cells_some k1
            have := k3 0 y.2[0] (List.getElem?_eq_getElem (by omega))
            simp only [Nat.zero_mul] at this
            simpa [Addr.add] using World.cell?_spot this
          refine ⟨_, [], rfl, rfl, ⟨some a, cap, by simp [l1], by simp [l1]; omega, by simp, fun b hb hne => ?_, P.cellsOf e, RepRow.of fun j x hj => ?_⟩, rfl⟩
          · simp only [Option.some.injEq] at hb; subst hb
            exact hsp (by rw [← l1]; exact List.length_pos_iff.2 (by simpa using hne))
          · rw [List.getElem?_map] at hj
            cases hy : l[j]? with
            | none => rw [hy] at hj; simp at hj
            | some y =>
              rw [hy] at hj; simp at hj; subst hj
              obtain ⟨k1, k2, k3⟩ := l2 j y hy
              obtain ⟨k4, k5⟩ := cells_some k1
              have hj' := (List.getElem?_eq_some_iff.1 hy).1
              have hs := hsp (by omega)
              obtain ⟨b, o, sp⟩ := a
              simp only at hs; subst hs
              refine ⟨_, y.2, rfl, by rw [← k2.length, k4], k2, fun i c hi => ⟨?_, fun h => h⟩⟩
              have := k5 i c hi
              rw [addr_add, addr_add] at this
              simpa [at_] using this
        · refine Nat.le_trans (Nat.mul_le_mul_right _ ?_) hw1
          simp only [List.length_map]; omega
        · intro x hx
          obtain ⟨y, hy, rfl⟩ := List.mem_map.1 hx
          obtain ⟨j, hj⟩ := List.getElem?_of_mem hy
          exact (l2 j y hj).2.2
    · rename_i fs hu
      simp only [Bool.and_eq_true, List.all_eq_true, List.contains_iff_mem] at hc
      obtain ⟨hf, htl⟩ := hc
      obtain ⟨ys, n, hn, hx, hlen, hys, hall⟩ := DataW.trod_struct hu h
      have hn' : n = fuel := by omega
      subst hn'
      subst hx
      have hw2 : ∀ i (hi : i < fs.toList.length) (hi2 : i < ys.length), ∀ k ∈ ys[i].1.weights P fs.toList[i].type, k ≤ reachBytes := fun i hi hi2 k hk => by
        refine hw k ?_
        simp only [DataW.weights, hu]
        exact DataW.weights_mem_each (j := i) (t := fs.toList[i].type) (d := ys[i].1) (by rw [List.getElem?_map, List.getElem?_eq_getElem hi]; rfl) (by rw [List.getElem?_map, List.getElem?_eq_getElem hi2]; rfl) k hk
      have hel : ∀ i, i < fs.toList.length → ∃ x : List PV, ∀ f, fs.toList[i]? = some f → RepS W noCells x ((cs.drop f.offset).take (P.cellsOf f.type)) ∧ Shp P f.type x := by
        intro i hi
        have hfi : fs.toList[i]? = some fs.toList[i] := List.getElem?_eq_getElem hi
        have hli : i < ys.length := by simp at hi; omega
        have := hall i fs.toList[i] (by simp)
        rw [List.getElem?_eq_getElem hli] at this
        obtain ⟨xs, k1, k2⟩ := trod_rep hL n _ _ _ (hf _ (List.mem_of_getElem? hfi)) this (hw2 i hi hli)
        refine ⟨xs, fun f hf' => ?_⟩
        rw [hfi] at hf'; simp only [Option.some.injEq] at hf'; subst hf'
        exact ⟨k1, k2⟩
      obtain ⟨g, hg⟩ := exists_fun hel
      refine ⟨(List.range fs.toList.length).flatMap g, ?_, .struct g hu fun i f hif => (hg i (List.getElem?_eq_some_iff.1 hif).1 f hif).2⟩
      have := tiles_rep (ys := g) (W := W) (M := noCells) htl hlen fun i f hif => (hg i (List.getElem?_eq_some_iff.1 hif).1 f hif).1
      exact this
    · exact absurd hc (by simp)

/-- A slice that is handed in. -/
theorem read_slice {H : Type} {enc : TypeId × Value → H} {P : Program} {W : World} {t e : TypeId} {a : Option Addr} {len cap : Nat} {spare : Nat → Bool} {held : Bool} {d : DataW H} {ps : List MemPlace} (L : List TypeId) (hL : closedT P L = true) (htL : L.contains t = true)
    (ht : P.underlying t = some (.slice e)) (h : DataW.Trod enc P W 0 spare held t (.slice a len cap) d ps) (hw : ∀ n ∈ d.weights P t, n ≤ reachBytes) : ∃ es : List (List PV), Rep W noCells (.sl es) (.slice a len cap) ∧ Shp P t [.sl es] := by
  obtain ⟨fuel, hf⟩ := h
  obtain ⟨xs, h1, h2⟩ := trod_rep hL fuel t _ _ (by simpa using htL) hf hw
  have hcs : (Value.slice a len cap).cells.toList = [.slice a len cap] := rfl
  rw [hcs] at h1
  cases h2 with
  | int h => rw [h] at ht; simp at ht
  | bool h => rw [h] at ht; simp at ht
  | str h => rw [h] at ht; simp at ht
  | sl h1' h2' h3' =>
    simp only [RepS] at h1
    obtain ⟨c, r, e1, _, h4, _⟩ := h1
    simp only [List.cons.injEq] at e1
    obtain ⟨rfl, _⟩ := e1
    exact ⟨_, h4, .sl h1' h2' h3'⟩
  | struct xs h => rw [h] at ht; simp at ht

/-- A struct that is handed in. -/
theorem read_struct {H : Type} {enc : TypeId × Value → H} {P : Program} {W : World} {t : TypeId} {v : Value} {spare : Nat → Bool} {held : Bool} {d : DataW H} {ps : List MemPlace} {cs : Array Value} (L : List TypeId) (hL : closedT P L = true) (htL : L.contains t = true)
    (h : DataW.Trod enc P W 0 spare held t (.agg cs) d ps) (hw : ∀ n ∈ d.weights P t, n ≤ reachBytes) : ∃ xs : List PV, Rep W noCells (.agg xs) (.agg cs) ∧ Shp P t xs := by
  obtain ⟨fuel, hf⟩ := h
  obtain ⟨xs, h1, h2⟩ := trod_rep hL fuel t _ _ (by simpa using htL) hf hw
  exact ⟨xs, by simp only [Rep]; exact ⟨cs, rfl, h1⟩, h2⟩

end Go.Proofs.YtbnjbianobdleaaGreat.Vm
