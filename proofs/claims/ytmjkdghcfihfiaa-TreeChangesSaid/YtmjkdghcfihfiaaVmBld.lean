/-
  strings.Builder's methods, by contracts.
-/
import Derived.Test.YtmjkdghcfihfiaaVmGrow
import Derived.Lib.Builder
import Derived.Lib.UnsafeStr
import Derived.Lib.Hide
import Derived.Laws.Externs
namespace Go.Proofs.Ytmjkdghcfihfiaa.Vm
open Go Go.RowKit
set_option linter.unusedVariables false
set_option maxRecDepth 100000
set_option linter.unusedSimpArgs false

theorem bld_info : (Try.prog.info? 105).map (·.size) = some 2 := by kernel_rfl
theorem bld_lies : liesAt Try.prog Try.prog.depth 105 (2 / Try.prog.cellsOf 105) 0 105 1 = true := by kernel_rfl

set_option maxHeartbeats 400000 in
theorem copyCheck_used (b : Nat) (w : World) (h0 : w.cell? ⟨b, 0, none⟩ = some (.pointer (some ⟨b, 0, none⟩))) :
    Calls Try.prog 92 #[.pointer (some ⟨b, 0, none⟩)] w fun e w' => e = .returned (.tuple #[]) ∧ w' = w := by
  obtain ⟨j, hj, _⟩ := Option.map_eq_some_iff.1 bld_info
  go_enter Try.func92, Try.ntmps92
  go_wp2
  rw [Lib.run_neq_ptr_same w _ Try.underlying103 hj]
  go_wp2
  go_end0
  exact ⟨rfl, rfl⟩

set_option maxHeartbeats 400000 in
theorem copyCheck_fresh (b : Nat) (w : World) (h0 : w.cell? ⟨b, 0, none⟩ = some (.pointer none)) (hsh : w.shape? b = some (105, 2)) (hfz : w.frozen? ⟨b, 0, none⟩ = false) :
    Calls Try.prog 92 #[.pointer (some ⟨b, 0, none⟩)] w fun e w' => e = .returned (.tuple #[]) ∧ w' = w.setCell ⟨b, 0, none⟩ (.pointer (some ⟨b, 0, none⟩)) := by
  obtain ⟨j, hj, hjs⟩ := Option.map_eq_some_iff.1 bld_info
  go_enter Try.func92, Try.ntmps92
  go_wp2
  rw [Lib.run_to_unsafe w ⟨b, 0, none⟩ Try.underlying103 Try.underlying145 hj (by rw [hjs]; decide) hsh (Nat.zero_lt_succ 1)]
  simp only [Result.andThen]
  rw [Oper.upon_value]
  go_wp2
  rw [run_callFunc_extern Try.func112 (by kernel_rfl) (by kernel_rfl) (by kernel_rfl) (e := Extern.AbiNoEscape.same) (by kernel_rfl)]
  rw [Lib.run_noEscape]
  simp only [Result.andThen]
  rw [Oper.upon_value]
  go_wp2
  rw [Lib.run_from_unsafe w ⟨b, 0, none⟩ Try.underlying145 Try.underlying103 hj hsh bld_lies]
  simp only [Result.andThen]
  rw [Oper.upon_value]
  go_wp2
  go_end0
  exact ⟨rfl, rfl⟩

/-- Behind copyCheck the first cell is the Builder's own address. -/
def Sm (b : Nat) (w w' : World) : Prop := w'.cell? ⟨b, 0, none⟩ = some (.pointer (some ⟨b, 0, none⟩)) ∧ Fr (fun x j => x = b ∧ j = 0) w w' ∧ w'.frozen? ⟨b, 0, none⟩ = w.frozen? ⟨b, 0, none⟩
theorem copyCheck_any (b : Nat) (w : World) {p : Value} (h0 : w.cell? ⟨b, 0, none⟩ = some p) (hp : p = .pointer none ∨ p = .pointer (some ⟨b, 0, none⟩)) (hsh : w.shape? b = some (105, 2)) (hfz : w.frozen? ⟨b, 0, none⟩ = false) :
    Calls Try.prog 92 #[.pointer (some ⟨b, 0, none⟩)] w fun e w' => e = .returned (.tuple #[]) ∧ Sm b w w' := by
  rcases hp with rfl | rfl
  · refine (copyCheck_fresh b w h0 hsh hfz).mono ?_
    rintro e w' ⟨rfl, rfl⟩
    exact ⟨rfl, World.cell?_setCell_same _ _ _ h0, Fr.setCell w ⟨rfl, rfl⟩ _, World.frozen?_setCell _ _ _ _⟩
  · refine (copyCheck_used b w h0).mono ?_
    rintro e w' ⟨rfl, rfl⟩
    exact ⟨rfl, h0, Fr.refl _ _, rfl⟩

/-- What an append leaves. -/
structure App (t u : TypeId) (x y : Value) (b : Nat) (W : World) (v : Value) (W' : World) : Prop where
  run : ∀ ty, (Builtin.append_ #[t, u] ty #[x, y]).run Try.prog W = .ok v W'
  one : ∃ A n c, v = .slice A n c
  cell : ∃ u, W'.cell? ⟨b, 1, none⟩ = some u
  frz : W'.frozen? ⟨b, 1, none⟩ = false

set_option maxHeartbeats 400000 in
theorem writeString_raw (b : Nat) (w : World) (s : ByteArray) {p : Value} {A : Option Addr} {n cap : Nat} (h0 : w.cell? ⟨b, 0, none⟩ = some p) (hp : p = .pointer none ∨ p = .pointer (some ⟨b, 0, none⟩)) (hsh : w.shape? b = some (105, 2)) (hfz : w.frozen? ⟨b, 0, none⟩ = false)
    (h1 : w.cell? ⟨b, 1, none⟩ = some (.slice A n cap)) (R : Value → World → Prop)
    (happ : ∀ W, Sm b w W → ∃ v W', App 29 9 (.slice A n cap) (.string s) b W v W' ∧ R v W') :
    Calls Try.prog 72 #[.pointer (some ⟨b, 0, none⟩), .string s] w fun e w' => e = .returned (.tuple #[.int .i64 s.size, .nilIface]) ∧ ∃ v W', w' = W'.setCell ⟨b, 1, none⟩ v ∧ R v W' := by
  have HW : ∀ W, Sm b w W → W.cell? ⟨b, 1, none⟩ = some (.slice A n cap) := fun W hW => (hW.2.1.keeps (b := b) (o := 1) h1 (by simp)).1
  go_enter Try.func72, Try.ntmps72
  go_wp2_with (first
    | (go_at_call 92; refine (copyCheck_any _ _ h0 hp hsh hfz).mono ?_; rintro e w' ⟨rfl, hW⟩; have c1 := HW w' hW; obtain ⟨v, W', ⟨hrun, ⟨A', n', c', rfl⟩, ⟨u, hu⟩, hfu⟩, HR⟩ := happ w' hW; have HR' := Lib.hid HR; have hrun' := Lib.hid hrun; clear HR happ HW hW hrun)
    | (at_builtin; refine wpList_app rfl _ _ _ _ rfl hrun'.out ?_))
  go_ret2
  exact ⟨rfl, _, W', rfl, HR'.out⟩

set_option maxHeartbeats 400000 in
theorem writeByte_raw (b : Nat) (w : World) (x : Int) {p : Value} {A : Option Addr} {n cap : Nat} (h0 : w.cell? ⟨b, 0, none⟩ = some p) (hp : p = .pointer none ∨ p = .pointer (some ⟨b, 0, none⟩)) (hsh : w.shape? b = some (105, 2)) (hfz : w.frozen? ⟨b, 0, none⟩ = false)
    (h1 : w.cell? ⟨b, 1, none⟩ = some (.slice A n cap)) (R : Value → World → Prop)
    (happ : ∀ W, Sm b w W → ∃ v W', App 29 29 (.slice A n cap) (.slice (some ⟨W.heap.size, 0, none⟩) 1 1) b (W.alloc (.cells #[.int .u8 x] 5)) v W' ∧ R v W') :
    Calls Try.prog 73 #[.pointer (some ⟨b, 0, none⟩), .int .u8 x] w fun e w' => e = .returned .nilIface ∧ ∃ v W', w' = W'.setCell ⟨b, 1, none⟩ v ∧ R v W' := by
  have HW : ∀ W, Sm b w W → W.cell? ⟨b, 1, none⟩ = some (.slice A n cap) := fun W hW => (hW.2.1.keeps (b := b) (o := 1) h1 (by simp)).1
  go_enter Try.func73, Try.ntmps73
  go_wp2_with (first
    | (go_at_call 92; refine (copyCheck_any _ _ h0 hp hsh hfz).mono ?_; rintro e w' ⟨rfl, hW⟩; have c1 := HW w' hW; obtain ⟨v, W', ⟨hrun, ⟨A', n', c', rfl⟩, ⟨u, hu⟩, hfu⟩, HR⟩ := happ w' hW; have HR' := Lib.hid HR; have hrun' := Lib.hid hrun; clear HR happ HW hW hrun)
    | (at_builtin; refine wpList_app rfl _ _ _ _ rfl hrun'.out ?_))
  go_ret
  exact ⟨rfl, _, W', rfl, HR'.out⟩

def byteV (c : UInt8) : Value := .int .u8 c.toNat

theorem zeroCells_u8 (n : Nat) : ∀ j, j < n → (Builtin.zeroCells #[.int .u8 0] n)[j]? = some (.int .u8 0) := by
  intro j hj
  simp [Builtin.zeroCells, hj, Nat.mod_one]

theorem u8_info : ∃ i, Try.prog.info? 5 = some i ∧ i.zero = some (.int .u8 0) ∧ i.size = 1 ∧ i.bytes = 1 := by
  have h : (Try.prog.info? 5).map (fun i => (i.zero, i.size, i.bytes)) = some (some (.int .u8 0), 1, 1) := by kernel_rfl
  cases hi : Try.prog.info? 5 with
  | none => rw [hi] at h; simp at h
  | some i => rw [hi] at h; simp at h; exact ⟨i, rfl, h.1, h.2.1, h.2.2⟩

theorem BldR.ext_ne {w : World} {l : Loc} {bs : List UInt8} (h : BldR w l bs) : ∃ b A cap p, l.base = some (b, 0) ∧ l.k = 2 ∧ w.shape? b = some (bldTy, 2) ∧ at_ w b 0 = some p ∧ frz_ w b 0 = false ∧ (p = .pointer none ∨ p = .pointer (some ⟨b, 0, none⟩)) ∧
    at_ w b 1 = some (.slice A bs.length cap) ∧ frz_ w b 1 = false ∧
    ((A = none ∧ bs = [] ∧ cap = 0 ∧ l.ext = none) ∨ ∃ g, A = some ⟨g, 0, none⟩ ∧ l.ext = some (g, cap) ∧ (bs.length ≤ cap ∧ Rng w g cap bs.length) ∧ (0 < cap → g ≠ b) ∧
      (∀ j, j < cap → ∃ n : Int, at_ w g j = some (.int .u8 n)) ∧ (∀ j, bs.length ≤ j → j < cap → frz_ w g j = false) ∧
      (∀ j c, bs[j]? = some c → at_ w g j = some (.int .u8 c.toNat))) := by
  obtain ⟨b, o, A, cap, p, h1, ⟨h2, rfl, h2'⟩, h3, h4, h5, h6, h7, h8⟩ := h
  refine ⟨b, A, cap, p, h1, h2, h2', h3, h4, h5, by simpa using h6, by simpa using h7, ?_⟩
  rcases h8 with h8 | ⟨g, g1, g2, g3, g4, g5, g6⟩
  · exact .inl h8
  · refine .inr ⟨g, g1, g2, g3, fun hc e => ?_, g4, g5, g6⟩
    subst e
    obtain ⟨n, hn⟩ := g4 0 hc
    rw [h3] at hn
    rcases h5 with rfl | rfl <;> simp at hn

theorem BldR.lt {w : World} {l : Loc} {bs : List UInt8} (h : BldR w l bs) : ∀ x j, l.F x j → x < w.heap.size := by
  obtain ⟨b, A, cap, p, h1, h2, h2', h3, h4, h5, h6, h7, h8⟩ := h.ext_ne
  rintro x j (⟨o, e, e1, e2⟩ | ⟨n, e, e1⟩)
  · rw [h1] at e; injection e with e; injection e with e _; subst e; exact at_lt h3
  · rcases h8 with ⟨_, _, _, hx⟩ | ⟨g, _, hx, _, _, g4, _⟩
    · rw [hx] at e; simp at e
    · rw [hx] at e; injection e with e; injection e with e e'; subst e; subst e'
      obtain ⟨n, hn⟩ := g4 j e1
      exact at_lt hn

/-- Behind copyCheck it holds what it held. -/
theorem BldR.sm {w W : World} {l : Loc} {bs : List UInt8} {b : Nat} (h : BldR w l bs) (hb : l.base = some (b, 0)) (hW : Sm b w W) : BldR W l bs := by
  obtain ⟨b', A, cap, p, h1, h2, h2', h3, h4, h5, h6, h7, h8⟩ := h.ext_ne
  rw [hb] at h1; injection h1 with h1; injection h1 with h1 _; subst h1
  have k1 := hW.2.1.keeps h6 (by simp)
  have f0 : frz_ W b 0 = false := hW.2.2.trans h4
  refine ⟨b, 0, A, cap, _, hb, ⟨h2, rfl, hW.2.1.shape _ _ h2'⟩, hW.1, f0, .inr rfl, k1.1, k1.2.trans h7, ?_⟩
  rcases h8 with h8 | ⟨g, g1, g2, g3, gb, g4, g5, g6⟩
  · exact .inl h8
  · have hgl : g < w.heap.size := by
      obtain ⟨n, hn⟩ := g4 0 g3.2.1
      exact at_lt hn
    refine .inr ⟨g, g1, g2, ⟨g3.1, by unfold Rng; rw [hW.2.1.block g hgl (fun j v _ e => gb g3.2.1 e.1)]; exact g3.2⟩, fun j hj => ?_, fun j hj hj' => ?_, fun j c hj => ?_⟩
    · obtain ⟨n, hn⟩ := g4 j hj
      exact ⟨n, (hW.2.1.keeps hn (fun e => gb (by omega) e.1)).1⟩
    · obtain ⟨n, hn⟩ := g4 j hj'
      exact (hW.2.1.keeps hn (fun e => gb (by omega) e.1)).2.trans (g5 j hj hj')
    · have := (List.getElem?_eq_some_iff.1 hj).1
      exact (hW.2.1.keeps (g6 j c hj) (fun e => gb g3.2.1 e.1)).1

theorem Loc.F_base {l : Loc} {b k : Nat} (h : l.base = some (b, 0)) (hk : l.k = k) {j : Nat} (hj : j < k) : l.F b j := .inl ⟨0, h, Nat.zero_le _, by omega⟩

/-- The Builder's cells once the new slice is stored. -/
theorem bld_store {W W' : World} {l : Loc} {bs bs' : List UInt8} {b : Nat} {A : Option Addr} {cap : Nat} {p q : Value} (hb : l.base = some (b, 0)) (hk : l.k = 2) (hsh : W'.shape? b = some (bldTy, 2)) (h0 : at_ W' b 0 = some p) (hz0 : frz_ W' b 0 = false) (hp : p = .pointer none ∨ p = .pointer (some ⟨b, 0, none⟩))
    (h1 : at_ W' b 1 = some q) (hz1 : frz_ W' b 1 = false) (l' : Loc) (hl : l'.base = l.base) (hlk : l'.k = 2)
    (h : (A = none ∧ bs' = [] ∧ cap = 0 ∧ l'.ext = none) ∨ ∃ g, A = some ⟨g, 0, none⟩ ∧ l'.ext = some (g, cap) ∧ (bs'.length ≤ cap ∧ Rng W' g cap bs'.length) ∧ (0 < cap → g ≠ b) ∧
      (∀ j, j < cap → ∃ n : Int, at_ W' g j = some (.int .u8 n)) ∧ (∀ j, bs'.length ≤ j → j < cap → frz_ W' g j = false) ∧ (∀ j c, bs'[j]? = some c → at_ W' g j = some (.int .u8 c.toNat))) :
    BldR (W'.setCell ⟨b, 1, none⟩ (.slice A bs'.length cap)) l' bs' := by
  have hne : ∀ x j, ¬ (x = b ∧ j = 1) → at_ (W'.setCell ⟨b, 1, none⟩ (.slice A bs'.length cap)) x j = at_ W' x j := fun x j h => World.cell?_setCell_other _ _ _ _ (fun e => h (by injection e with e1 e2; exact ⟨e1.symm, e2.symm⟩))
  have hfr : ∀ x j, frz_ (W'.setCell ⟨b, 1, none⟩ (.slice A bs'.length cap)) x j = frz_ W' x j := fun x j => World.frozen?_setCell _ _ _ _
  refine ⟨b, 0, A, cap, p, hl.trans hb, ⟨hlk, rfl, shape_setCell hsh⟩, by rw [hne _ _ (by simp)]; exact h0, by rw [hfr]; exact hz0, hp, World.cell?_setCell_same _ _ _ h1, by rw [hfr]; exact hz1, ?_⟩
  rcases h with h | ⟨g, g1, g2, g3, gb, g4, g5, g6⟩
  · exact .inl h
  · have hgs : (W'.setCell ⟨b, 1, none⟩ (.slice A bs'.length cap)).heap[g]? = W'.heap[g]? := Go.RowKit.Below.heap_setCell _ _ _ _ (gb g3.2.1)
    refine .inr ⟨g, g1, g2, ⟨g3.1, by unfold Rng; rw [hgs]; exact g3.2⟩, fun j hj => ?_, fun j hj hj' => by rw [hfr]; exact g5 j hj hj', fun j c hj => ?_⟩
    · rw [hne _ _ (fun e => gb (by omega) e.1)]; exact g4 j hj
    · have := (List.getElem?_eq_some_iff.1 hj).1
      rw [hne _ _ (fun e => gb g3.2.1 e.1)]; exact g6 j c hj

theorem setCells_rng {g : Nat} {t : TypeId} {fz : Nat × Nat} : ∀ (vs : List Value) (o : Nat) (w : World) {cur : Array Value}, w.heap[g]? = some (.cells cur t fz) → ∃ cur', (w.setCells g o vs).heap[g]? = some (.cells cur' t fz) ∧ cur'.size = cur.size
  | [], o, w, cur, h => ⟨cur, h, rfl⟩
  | v :: vs, o, w, cur, h => by
    have h1 : (w.setCell ⟨g, o, none⟩ v).heap[g]? = some (.cells (cur.setIfInBounds o v) t fz) := by
      simp [World.setCell, Array.getElem?_modify, h]
    obtain ⟨cur', h2, h3⟩ := setCells_rng vs (o + 1) _ h1
    exact ⟨cur', h2, by rw [h3]; simp⟩
theorem bld_app {W : World} {l : Loc} {bs us : List UInt8} {b : Nat} (hB : BldR W l bs) (hb : l.base = some (b, 0)) {A : Option Addr} {n cap : Nat} (h1 : W.cell? ⟨b, 1, none⟩ = some (.slice A n cap)) {u : TypeId} (hu : Try.prog.underlying u = some .string ∨ ∃ e', Try.prog.underlying u = some (.slice e'))
    {y : Value} (hl : ∀ W', (Builtin.lenOf y).run Try.prog W' = .ok us.length W') (hf : ∀ W', (∀ x j v, at_ W x j = some v → at_ W' x j = some v) → (Builtin.firstCells 1 us.length y).run Try.prog W' = .ok (us.map byteV).toArray W')
    (hroom : bs.length + us.length ≤ 140737488355328) :
    ∃ v W', App 29 u (.slice A n cap) y b W v W' ∧ ∃ l', l'.base = l.base ∧ BldR (W'.setCell ⟨b, 1, none⟩ v) l' (bs ++ us) ∧ Fr l.F W (W'.setCell ⟨b, 1, none⟩ v) ∧ ∀ x j, l'.F x j → l.F x j ∨ W.heap.size ≤ x := by
  obtain ⟨b', A', cap', p, e1, k2, hsh, c0, f0, hp, c1, f1, hA⟩ := hB.ext_ne
  rw [hb] at e1; injection e1 with e1; injection e1 with e1 _; subst e1
  have e2 : Value.slice A n cap = .slice A' bs.length cap' := by have := h1.symm.trans c1; injection this
  injection e2 with e3 e4 e5; subst e3; subst e4; subst e5
  obtain ⟨i, hi, hz, hs, hby⟩ := u8_info
  have ht := Try.underlying29
  have hFb : ∀ j, j < 2 → l.F b j := fun j hj => Loc.F_base hb k2 hj
  have hone : ∀ v ∈ us.map byteV, v.oneCell' = true := by intro v hv; obtain ⟨c, _, rfl⟩ := List.mem_map.1 hv; rfl
  have hf' : ∀ W', (∀ x j v, at_ W x j = some v → at_ W' x j = some v) → (Builtin.firstCells i.size us.length y).run Try.prog W' = .ok (us.map byteV).toArray W' := by rw [hs]; exact hf
  -- in place
  by_cases hin : bs.length + us.length ≤ cap
  · rcases hA with ⟨rfl, rfl, rfl, hx⟩ | ⟨g, rfl, hx, hle, gb, g4, g5, g6⟩
    · have hus : us = [] := List.length_eq_zero_iff.1 (by simp at hin; simpa using hin)
      subst hus
      refine ⟨.slice none 0 0, W, ⟨fun ty => run_append_in0 ht hi hu (hl W) (hf' W (fun _ _ _ h => h)), ⟨_, _, _, rfl⟩, ⟨_, h1⟩, f1⟩, l, rfl, ?_, Fr.setCell W (hFb 1 (by omega)) _, fun x j h => .inl h⟩
      have := bld_store (W := W) (bs := []) (bs' := []) (l := l) (A := none) (cap := 0) hb k2 hsh c0 f0 hp c1 f1 l rfl k2 (.inl ⟨rfl, rfl, rfl, hx⟩)
      simpa using this
    · have hrun := fun ty => run_append_in (P := Try.prog) (w := W) (ty := ty) ht hi hu (y := y) (m := us.length) (news := us.map byteV) (hl W) (hf' W (fun _ _ _ h => h)) hone (b := g) (off := 0) (n := bs.length) (cap := cap) hin
        (fun j hj => by
          simp only [List.length_map] at hj
          obtain ⟨n, hn⟩ := g4 (bs.length + j) (by omega)
          rw [hs]; simp only [Nat.mul_one, Nat.zero_add]
          exact Option.isSome_iff_exists.2 ⟨_, hn⟩)
        (fun j hj => by
          simp only [List.length_map] at hj
          rw [hs]; simp only [Nat.mul_one, Nat.zero_add]
          exact g5 _ (by omega) (by omega))
      rw [hs] at hrun
      simp only [Nat.mul_one, Nat.zero_add] at hrun
      have hlt : ∀ j, j < us.length → at_ (W.setCells g bs.length (us.map byteV)) g (bs.length + j) = (us.map byteV)[j]? := fun j hj => by
        have hj' : j < (us.map byteV).length := by simpa using hj
        rw [List.getElem?_eq_getElem hj']
        exact at_setCells_in (w := W) (b := g) (vs := us.map byteV) (o := bs.length) (fun k hk => by
          simp only [List.length_map] at hk
          obtain ⟨n, hn⟩ := g4 (bs.length + k) (by omega)
          exact ⟨_, hn⟩) (List.getElem?_eq_getElem hj')
      have hout : ∀ x j, (x = g → j < bs.length ∨ bs.length + us.length ≤ j) → at_ (W.setCells g bs.length (us.map byteV)) x j = at_ W x j := fun x j h => at_setCells_out (fun e => (h e).imp (fun h => h) (fun h => by simpa using h))
      have hb0 : ∀ j, at_ (W.setCells g bs.length (us.map byteV)) b j = at_ W b j := fun j => by
        by_cases hu0 : us.length = 0
        · exact hout b j (fun _ => by omega)
        · exact hout b j (fun e => absurd e.symm (gb (by omega)))
      have hshape : (W.setCells g bs.length (us.map byteV)).shape? b = some (bldTy, 2) := (Fr.setCells (D := fun _ _ => True) g (us.map byteV) bs.length W (fun _ _ => trivial)).shape _ _ hsh
      have hFg : ∀ j, j < us.length → l.F g (bs.length + j) := fun j hj => .inr ⟨cap, hx, by omega⟩
      refine ⟨_, _, ⟨hrun, ⟨_, _, _, rfl⟩, ⟨_, (hb0 1).trans h1⟩, by show frz_ _ b 1 = false; rw [frz_setCells]; exact f1⟩, l, rfl, ?_, (Fr.setCells g (us.map byteV) bs.length W (fun j hj => hFg j (by simpa using hj))).trans (Fr.setCell _ (hFb 1 (by omega)) _) (fun _ _ h => h) (fun _ _ h => .inl h), fun x j h => .inl h⟩
      have hlen : (bs ++ us).length = bs.length + us.length := by simp
      have hrng : Rng (W.setCells g bs.length (us.map byteV)) g cap (bs ++ us).length := by
        obtain ⟨q1, cur, lo, hi, q2, q3, q4⟩ := hle.2
        obtain ⟨cur', r1, r2⟩ := setCells_rng (us.map byteV) bs.length W q2
        exact ⟨q1, cur', lo, hi, r1, r2.trans q3, q4.imp (fun h => h) (fun h => by omega)⟩
      have := bld_store (W := W) (W' := W.setCells g bs.length (us.map byteV)) (bs := bs) (bs' := bs ++ us) (l := l) (A := some ⟨g, 0, none⟩) (cap := cap) hb k2 hshape ((hb0 0).trans c0) (by rw [frz_setCells]; exact f0) hp ((hb0 1).trans c1) (by rw [frz_setCells]; exact f1) l rfl k2
        (.inr ⟨g, rfl, hx, ⟨by omega, hrng⟩, gb, fun j hj => ?_, fun j hj hj' => by rw [frz_setCells]; exact g5 j (by omega) hj', fun j c hj => ?_⟩)
      · rw [hlen] at this; exact this
      · by_cases hjn : bs.length ≤ j ∧ j < bs.length + us.length
        · have := hlt (j - bs.length) (by omega)
          rw [show bs.length + (j - bs.length) = j by omega] at this
          rw [this, List.getElem?_map]
          have h2 : j - bs.length < us.length := by omega
          rw [List.getElem?_eq_getElem h2]
          exact ⟨_, rfl⟩
        · rw [hout g j (fun _ => by omega)]; exact g4 j hj
      · rw [List.getElem?_append] at hj
        split at hj
        · rename_i h2; rw [hout g j (fun _ => .inl h2)]; exact g6 j c hj
        · rename_i h2
          have h3 := (List.getElem?_eq_some_iff.1 hj).1
          have := hlt (j - bs.length) h3
          rw [show bs.length + (j - bs.length) = j by omega] at this
          rw [this, List.getElem?_map, hj]; rfl
  -- to a new row
  · have hfo : (Builtin.firstCells i.size bs.length (.slice A bs.length cap)).run Try.prog W.drew = .ok (bs.map byteV).toArray W.drew := by
      rcases hA with ⟨rfl, rfl, rfl, hx⟩ | ⟨g, rfl, hx, hle, gb, g4, g5, g6⟩
      · exact run_firstCells_none _ _ _ _ _
      · refine run_firstCells_some W.drew _ _ _ _ _ _ (by rw [hs]; simp) (fun j v hj => ?_)
        rw [addr_add, Nat.zero_add]
        rw [List.getElem?_map] at hj
        cases hbj : bs[j]? with
        | none => rw [hbj] at hj; simp at hj
        | some c => rw [hbj] at hj; simp at hj; subst hj; exact g6 j c hbj
    have hrun := fun ty => run_append_new (P := Try.prog) (w := W) (ty := ty) ht hi hz hu (x := .slice A bs.length cap) (y := y) (n := bs.length) (m := us.length) (cap := cap) rfl (hl W) hfo (hf' W.drew (fun _ _ _ h => h)) (by omega) (by omega) (by rw [hby]; omega)
    have hcp : bs.length + us.length ≤ grownCap W (bs.length + us.length) cap 5 := grownCap_ge _ _ _ _
    generalize hcpe : grownCap W (bs.length + us.length) cap 5 = cp at hrun hcp
    have hcz : (Value.int IntKind.u8 0).cells = #[.int .u8 0] := rfl
    rw [hcz] at hrun
    have hblk : (W.drew.alloc (.cells ((bs.map byteV).toArray ++ (us.map byteV).toArray ++ Builtin.zeroCells #[.int .u8 0] (cp - (bs.length + us.length))) 5)).heap[W.heap.size]? = some (.cells ((bs.map byteV).toArray ++ (us.map byteV).toArray ++ Builtin.zeroCells #[.int .u8 0] (cp - (bs.length + us.length))) 5 (0, 0)) := heap_alloc_new W.drew _
    generalize hW' : (W.drew.alloc (.cells ((bs.map byteV).toArray ++ (us.map byteV).toArray ++ Builtin.zeroCells #[.int .u8 0] (cp - (bs.length + us.length))) 5)) = W' at hrun hblk
    have hfr : Fr (fun _ _ => False) W W' := by rw [← hW']; exact (Fr.drew W (fun _ _ => False)).trans (Fr.alloc W.drew _ _ _) (fun _ _ h => h) (fun _ _ h => .inl h)
    have hsz : W'.heap.size = W.heap.size + 1 := by rw [← hW']; simp
    have hat : ∀ j : Nat, at_ W' W.heap.size j = ((bs.map byteV).toArray ++ (us.map byteV).toArray ++ Builtin.zeroCells #[.int .u8 0] (cp - (bs.length + us.length)))[j]? := fun j => cell_of_row W' W.heap.size j _ _ _ hblk
    have hfz : ∀ j, frz_ W' W.heap.size j = false := fun j => by show World.frozen? _ _ = false; unfold World.frozen?; simp only [hblk]; simp
    have hbl : b < W.heap.size := at_lt c0
    have kb0 := hfr.keeps c0 (fun h => h)
    have kb1 := hfr.keeps c1 (fun h => h)
    refine ⟨_, W', ⟨hrun, ⟨_, _, _, rfl⟩, ⟨_, kb1.1⟩, kb1.2.trans f1⟩, { l with ext := some (W.heap.size, cp) }, rfl, ?_, (hfr.mono (fun _ _ h => h.elim)).trans (Fr.setCell _ (hFb 1 (by omega)) _) (fun _ _ h => h) (fun _ _ h => .inl h), fun x j h => ?_⟩
    · have hlen : (bs ++ us).length = bs.length + us.length := by simp
      have hget : ∀ j, j < cp → ∃ n : Int, at_ W' W.heap.size j = some (.int .u8 n) := by
        intro j hj
        rw [hat]
        by_cases h1 : j < bs.length
        · rw [Array.getElem?_append_left (by simp; omega), Array.getElem?_append_left (by simp; omega)]
          simp [h1, byteV]
        · by_cases h2 : j < bs.length + us.length
          · rw [Array.getElem?_append_left (by simp; omega), Array.getElem?_append_right (by simp; omega)]
            have : j - bs.length < us.length := by omega
            simp [this, byteV]
          · rw [Array.getElem?_append_right (by simp; omega)]
            exact ⟨0, zeroCells_u8 _ _ (by simp; omega)⟩
      have := bld_store (W := W) (W' := W') (bs := bs) (bs' := bs ++ us) (l := l) (A := some ⟨W.heap.size, 0, none⟩) (cap := cp) hb k2 (hfr.shape _ _ hsh) kb0.1 (kb0.2.trans f0) hp kb1.1 (kb1.2.trans f1) { l with ext := some (W.heap.size, cp) } rfl k2
        (.inr ⟨W.heap.size, rfl, rfl, ⟨by omega, by omega, _, 0, 0, hblk, by simp [Builtin.zeroCells]; omega, .inl rfl⟩, fun _ => by omega, hget, fun j _ _ => hfz j, fun j c hj => ?_⟩)
      · rw [hlen] at this; exact this
      · rw [hat]
        rw [List.getElem?_append] at hj
        split at hj
        · rename_i h1
          rw [Array.getElem?_append_left (by simp; omega), Array.getElem?_append_left (by simp; omega)]
          simp [hj, byteV]
        · rename_i h1
          have h3 := (List.getElem?_eq_some_iff.1 hj).1
          rw [Array.getElem?_append_left (by simp; omega), Array.getElem?_append_right (by simp; omega)]
          simp [hj, byteV]
    · rcases h with ⟨o, e, e1, e2⟩ | ⟨m, e, e1⟩
      · exact .inl (.inl ⟨o, e, e1, e2⟩)
      · injection e with e; injection e with e _; subst e; exact .inr (Nat.le_refl _)

/-- A Builder's bytes are frozen: nothing else turns. -/
theorem bld_freeze {w : World} {l : Loc} {bs : List UInt8} {b g cap : Nat} (h : BldR w l bs) (hb : l.base = some (b, 0)) (hg : at_ w b 1 = some (.slice (some ⟨g, 0, none⟩) bs.length cap)) (hn : bs ≠ []) : BldR (w.freeze ⟨g, 0, none⟩ bs.length) l bs ∧ Fr l.F w (w.freeze ⟨g, 0, none⟩ bs.length) := by
  have hn0 : bs.length ≠ 0 := by simpa using hn
  obtain ⟨b', A, cap', p, h1, h2, h2', h3, h4, h5, h6, h7, h8⟩ := h.ext_ne
  rw [hb] at h1; injection h1 with h1; injection h1 with h1 _; subst h1
  have e := hg.symm.trans h6
  injection e with e; injection e with e1 _ e3; subst e1; subst e3
  rcases h8 with ⟨e, _⟩ | ⟨g', e, g2, g3, gb, g4, g5, g6⟩
  · simp at e
  · injection e with e; injection e with e _ _; subst e
    obtain ⟨q1, cur, lo, hi, q2, q3, q4⟩ := g3.2
    have hgb := gb q1
    obtain ⟨lo', hi', hr, hr'⟩ : ∃ lo' hi' : Nat, (if lo == hi then (0, 0 + bs.length) else (min lo 0, max hi (0 + bs.length))) = (lo', hi') ∧ hi' ≤ bs.length := by
      by_cases e : lo = hi
      · exact ⟨0, bs.length, by simp [e], Nat.le_refl _⟩
      · refine ⟨0, max hi bs.length, by simp [e], ?_⟩
        rcases q4 with q4 | q4
        · exact absurd q4 e
        · omega
    have hheap : (w.freeze ⟨g, 0, none⟩ bs.length).heap[g]? = some (.cells cur u8Ty (lo', hi')) := by
      unfold World.freeze
      rw [if_neg hn0]
      simp only [Array.getElem?_modify, if_true, q2, Option.map_some]
      rw [← hr]
    have hother : ∀ x, x ≠ g → (w.freeze ⟨g, 0, none⟩ bs.length).heap[x]? = w.heap[x]? := by
      intro x hx
      unfold World.freeze
      rw [if_neg hn0]
      simp only [Array.getElem?_modify]
      rw [if_neg (fun e => hx e.symm)]
    have hat : ∀ x j, at_ (w.freeze ⟨g, 0, none⟩ bs.length) x j = at_ w x j := by
      intro x j
      by_cases e : x = g
      · subst e; simp only [at_, World.cell?, hheap, q2]
      · exact at_heap (hother x e) j
    have hfo : ∀ x j, x ≠ g → frz_ (w.freeze ⟨g, 0, none⟩ bs.length) x j = frz_ w x j := by
      intro x j e
      show World.frozen? _ _ = World.frozen? _ _
      unfold World.frozen?
      simp only [hother x e]
    have hfg : ∀ j, bs.length ≤ j → frz_ (w.freeze ⟨g, 0, none⟩ bs.length) g j = false := by
      intro j hj
      show World.frozen? _ _ = _
      unfold World.frozen?
      simp only [hheap]
      simp; omega
    have hfg0 : ∀ j, bs.length ≤ j → frz_ w g j = false := by
      intro j hj
      show World.frozen? _ _ = _
      unfold World.frozen?
      simp only [q2]
      rcases q4 with q4 | q4 <;> (simp; omega)
    have hne : b ≠ g := fun e => hgb e.symm
    have hshape : ∀ x T, w.shape? x = some T → (w.freeze ⟨g, 0, none⟩ bs.length).shape? x = some T := by
      intro x T hT
      by_cases e : x = g
      · subst e
        unfold World.shape? at hT ⊢
        rw [q2] at hT; rw [hheap]; exact hT
      · unfold World.shape? at hT ⊢
        rw [hother x e]; exact hT
    refine ⟨⟨b, 0, _, cap, p, hb, ⟨h2, rfl, hshape _ _ h2'⟩, by rw [hat]; exact h3, by rw [hfo _ _ hne]; exact h4, h5, by rw [hat]; exact h6, by rw [hfo _ _ hne]; exact h7, .inr ⟨g, rfl, g2, ⟨g3.1, q1, cur, lo', hi', hheap, q3, .inr hr'⟩, fun j hj => ?_, fun j hj _ => hfg j hj, fun j c hj => ?_⟩⟩, ?_⟩
    · rw [hat]; exact g4 j hj
    · rw [hat]; exact g6 j c hj
    · refine ⟨?_, ?_, ?_, ?_, fun x hx hd => ?_, fun x j hx hd => ⟨hat x j, ?_⟩, hshape, fun x T n hT hz => ?_⟩
      · unfold World.freeze; rw [if_neg hn0]
      · unfold World.freeze; rw [if_neg hn0]
      · unfold World.freeze; rw [if_neg hn0]
      · unfold World.freeze; rw [if_neg hn0]; simp
      · by_cases e : x = g
        · subst e
          obtain ⟨n, hn⟩ := g4 0 q1
          exact absurd (.inr ⟨cap, g2, q1⟩) (hd 0 _ hn)
        · exact hother x e
      · by_cases e : x = g
        · subst e
          have hj : bs.length ≤ j := by
            rcases Nat.lt_or_ge j bs.length with h1 | h1
            · exact absurd (.inr ⟨cap, g2, by omega⟩) hd
            · exact h1
          rw [hfg j hj, hfg0 j hj]
        · exact hfo x j e
      · by_cases e : x = g
        · subst e
          unfold World.shape? at hT
          rw [q2] at hT
          simp only [Option.some.injEq, Prod.mk.injEq] at hT
          exact hfg n (by omega)
        · rw [hfo x n e]; exact hz

theorem byte_cells : Try.prog.cellsOf 5 = 1 := by kernel_rfl

set_option maxHeartbeats 1000000 in
theorem string_some (b : Nat) (w : World) (l : List UInt8) (g cap : Nat) (h0 : l ≠ []) (hc0 : cap ≠ 0) (hlc : l.length ≤ cap) (h63 : l.length ≤ 140737488355328) (hsh : w.shape? g = some (5, cap)) (hcell : ∀ j x, l[j]? = some x → w.cell? ⟨g, j, none⟩ = some (.int .u8 x.toNat))
    (h1 : w.cell? ⟨b, 1, none⟩ = some (.slice (some ⟨g, 0, none⟩) l.length cap)) :
    Calls Try.prog 74 #[.pointer (some ⟨b, 0, none⟩)] w fun e w' => e = .returned (.string ⟨l.toArray⟩) ∧ w' = w.drew.freeze ⟨g, 0, none⟩ l.length := by
  have c1 : w.drew.cell? ⟨b, 1, none⟩ = some (.slice (some ⟨g, 0, none⟩) l.length cap) := h1
  have hSD : (Builtin.unsafeSliceData_ #[29] 131 #[.slice (some ⟨g, 0, none⟩) l.length cap]).run Try.prog w.drew = .ok (.pointer (some ⟨g, 0, none⟩)) w.drew := Lib.run_unsafeSliceData_row _ _ _ _ _ _ hc0
  have hUS : (Builtin.unsafeString_ #[131, 3] 9 #[.pointer (some ⟨g, 0, none⟩), .int .i64 l.length]).run Try.prog w.drew = .ok (.string ⟨l.toArray⟩) (w.drew.freeze ⟨g, 0, none⟩ l.length) := by
    refine Lib.run_unsafeString_row w.drew 131 3 9 5 Try.underlying131 byte_cells g cap hsh l h0 (by omega) (by omega) ?_
    intro j x hx
    rw [addr_add, Nat.zero_add]
    exact hcell j x hx
  clear hc0 hlc h63 hcell hsh h0
  go_enter Try.func74, Try.ntmps74
  go_wp2
  go_region
  all_goals (go_wp2; go_ret; exact ⟨rfl, rfl⟩)

set_option maxHeartbeats 1000000 in
theorem string_none (b : Nat) (w : World) (h1 : w.cell? ⟨b, 1, none⟩ = some (.slice none 0 0)) :
    Calls Try.prog 74 #[.pointer (some ⟨b, 0, none⟩)] w fun e w' => e = .returned (.string ⟨#[]⟩) ∧ w' = w.drew := by
  have hUS : ∀ W q, (Builtin.unsafeString_ #[131, 3] 9 #[.pointer q, .int .i64 0]).run Try.prog W = .ok (.string .empty) W := fun W q => Lib.run_unsafeString_none W _ _ _ q
  have c1 : w.drew.cell? ⟨b, 1, none⟩ = some (.slice none 0 0) := h1
  have hSD : (Builtin.unsafeSliceData_ #[29] 131 #[.slice none 0 0]).run Try.prog w.drew = .ok (.pointer none) w.drew := rfl
  go_enter Try.func74, Try.ntmps74
  go_wp2
  go_region
  all_goals (go_wp2; go_ret; exact ⟨rfl, rfl⟩)

set_option maxHeartbeats 1000000 in
theorem string_room (b : Nat) (w : World) (g cap : Nat) (hc0 : cap ≠ 0) (h1 : w.cell? ⟨b, 1, none⟩ = some (.slice (some ⟨g, 0, none⟩) 0 cap)) :
    Calls Try.prog 74 #[.pointer (some ⟨b, 0, none⟩)] w fun e w' => e = .returned (.string ⟨#[]⟩) ∧ w' = w.drew := by
  have hUS : ∀ W q, (Builtin.unsafeString_ #[131, 3] 9 #[.pointer q, .int .i64 0]).run Try.prog W = .ok (.string .empty) W := fun W q => Lib.run_unsafeString_none W _ _ _ q
  have c1 : w.drew.cell? ⟨b, 1, none⟩ = some (.slice (some ⟨g, 0, none⟩) 0 cap) := h1
  have hSD : (Builtin.unsafeSliceData_ #[29] 131 #[.slice (some ⟨g, 0, none⟩) 0 cap]).run Try.prog w.drew = .ok (.pointer (some ⟨g, 0, none⟩)) w.drew := Lib.run_unsafeSliceData_row _ _ _ _ _ _ hc0
  clear hc0
  go_enter Try.func74, Try.ntmps74
  go_wp2
  go_region
  all_goals (go_wp2; go_ret; exact ⟨rfl, rfl⟩)

/-- A function of a Builder and plain values. -/
theorem contract_bld {P : Program} {ms : List Mode} {f : FuncId} {bs bs' : List UInt8} {xs rs : List PV} (hrun : ∀ args w, (callFunc f args).run P w = .ok (.enter f args) w)
    (h : ∀ w M0 l b cs, BldR w l bs → l.base = some (b, 0) → RepA w M0 xs cs → (∀ x j, l.F x j → ¬ M0 x j) → Calls P f (.pointer (some ⟨b, 0, none⟩) :: cs).toArray w fun e w' => ∃ vs l', e = .returned (wrapV vs) ∧ (∀ M', RepA w' M' rs vs) ∧
      l'.base = l.base ∧ BldR w' l' bs' ∧ Fr l.F w w' ∧ ∀ x j, l'.F x j → l.F x j ∨ w.heap.size ≤ x) : Contract P ms f (.bld bs :: xs.map .pv) (rs.map .pv) [.bld bs'] := by
  intro M0 w ts args hH
  have hT := hH.tv
  simp only [TVAll, TVL] at hT
  obtain ⟨t, r, c, d, rfl, rfl, ⟨l, b, o, rfl, hb, rfl, hB⟩, hr⟩ := hT
  have ho : o = 0 := by
    obtain ⟨b', _, _, _, e1, _⟩ := hB.ext_ne
    rw [hb] at e1; injection e1 with e1; injection e1
  subst ho
  obtain ⟨hx, hl0⟩ := tvall_pv hr
  have hlen := tvall_len hr
  have hlc := TVAll.length hr
  have hlocs : LT.locsL (.bld l :: r) = [l] := by simp [LT.locsL, LT.locs, hl0]
  have hout : ∀ x j, l.F x j → ¬ M0 x j ∧ x < w.heap.size := fun x j hF => hH.out l (by rw [hlocs]; simp) x j hF
  have hx0 : RepA w M0 xs d := by
    have hmono : ∀ (xs : List PV) (cs : List Value), RepA w (cellsOf M0 (LT.locsL (.bld l :: r))) xs cs → RepA w M0 xs cs := by
      intro xs
      induction xs with
      | nil => intro cs h; exact h
      | cons x xs ih =>
        intro cs h
        simp only [RepA] at h ⊢
        obtain ⟨c, r, rfl, h1, h2⟩ := h
        exact ⟨c, r, rfl, Rep.mono (fun b o v h1 h2 => ⟨h1, fun h => h2 (.inl h)⟩) _ _ h1, ih _ h2⟩
    exact hmono _ _ hx
  unfold Invokes
  rw [hrun]
  refine (h w M0 l b d hB hb hx0 (fun x j hF => (hout x j hF).1)).mono ?_
  rintro e w' ⟨vs, l', rfl, hrs, hb', hB', hFr, hF'⟩
  refine ⟨_, rfl, vs, rs.map (fun _ => .none), [.bld l'], rfl, ?_, ?_, ?_, ?_, ?_, ?_⟩
  · exact tvall_of (hrs _)
  · simp only [FinR]
    refine ⟨.bld l, r, _, d, rfl, rfl, .bld bs', [], .bld l', [], rfl, rfl, ?_, ?_, finR_pv (by simpa using hlen) (by simpa using hlc)⟩
    · simp only [TVL]; exact ⟨l', b, 0, rfl, hb'.trans hb, rfl, hB'⟩
    · simp only [like]; exact ⟨l', rfl, hb'⟩
  · rw [locsL_append, locs_none]; simp [LT.locsL, LT.locs, Apart]
  · intro l1 hl1 x j hF
    rw [locsL_append, locs_none] at hl1
    simp [LT.locsL, LT.locs] at hl1; subst hl1
    refine ⟨?_, hB'.lt x j hF, ?_⟩
    · intro h0
      rcases hF' x j hF with h | h
      · exact (hout x j h).1 h0
      · have := hH.old x j h0; omega
    · rcases hF' x j hF with h | h
      · exact .inr ⟨l, by rw [hlocs]; simp, h⟩
      · exact .inl h
  · intro l1 hl1 x j hF
    rw [locs_none] at hl1
    simp [LooseF, LT.loose] at hl1; subst hl1
    rcases hF' x j hF with h | h
    · exact .inr ⟨l, by simp [LooseA, LT.loose], h⟩
    · exact .inl h
  · rw [hlocs]; exact hFr.mono (fun x j h => ⟨l, by simp, h⟩)

def xWriteString : List TV → Option (List TV × List TV)
  | [.bld bs, .pv (.str s)] => if bs.length + s.length ≤ room then some ([.pv (.int .i64 s.length), .pv .nilIface], [.bld (bs ++ s)]) else none
  | _ => none
def xWriteByte : List TV → Option (List TV × List TV)
  | [.bld bs, .pv (.int .u8 n)] => if bs.length + 1 ≤ room ∧ 0 ≤ n ∧ n < 256 then some ([.pv .nilIface], [.bld (bs ++ [UInt8.ofNat n.toNat])]) else none
  | _ => none
def xString : List TV → Option (List TV × List TV)
  | [.bld bs] => if bs.length ≤ room then some ([.pv (.str bs)], [.bld bs]) else none
  | _ => none

/-- From what a writing method does to what it leaves. -/
theorem bld_written {w : World} {l : Loc} {bs us : List UInt8} {b : Nat} (hB : BldR w l bs) (hb : l.base = some (b, 0)) {W : World} (hW : Sm b w W) {W2 : World} {v : Value} {W' : World} (hW2 : Fr (fun _ _ => False) W W2)
    (h : ∃ l', l'.base = l.base ∧ BldR (W'.setCell ⟨b, 1, none⟩ v) l' (bs ++ us) ∧ Fr l.F W2 (W'.setCell ⟨b, 1, none⟩ v) ∧ ∀ x j, l'.F x j → l.F x j ∨ W2.heap.size ≤ x) :
    ∃ l', l'.base = l.base ∧ BldR (W'.setCell ⟨b, 1, none⟩ v) l' (bs ++ us) ∧ Fr l.F w (W'.setCell ⟨b, 1, none⟩ v) ∧ ∀ x j, l'.F x j → l.F x j ∨ w.heap.size ≤ x := by
  obtain ⟨l', h1, h2, h3, h4⟩ := h
  have hk : l.k = 2 := hB.k2
  have hF0 : ∀ x j, x = b ∧ j = 0 → l.F x j := by rintro x j ⟨rfl, rfl⟩; exact Loc.F_base hb hk (by omega)
  have hw2 : Fr l.F w W2 := (hW.2.1.mono hF0).trans hW2 (fun _ _ h => h) (fun _ _ h => h.elim)
  exact ⟨l', h1, h2, hw2.trans h3 (fun _ _ h => h) (fun _ _ h => .inl h), fun x j h => (h4 x j h).imp (fun h => h) (fun h => Nat.le_trans hw2.size h)⟩

theorem c_writeString (ms : List Mode) (ag rs fs : List TV) (h : xWriteString ag = some (rs, fs)) : Contract Try.prog ms 72 ag rs fs := by
  unfold xWriteString at h
  split at h
  · rename_i bs s
    split at h
    · rename_i hroom
      simp only [Option.some.injEq, Prod.mk.injEq] at h; obtain ⟨rfl, rfl⟩ := h
      refine contract_bld (xs := [.str s]) (rs := [.int .i64 s.length, .nilIface]) (enters Try.func72 (by kernel_rfl) rfl) ?_
      intro w M0 l b cs hB hb hx hM
      simp only [RepA, Rep] at hx
      obtain ⟨c, r, rfl, rfl, rfl⟩ := hx
      obtain ⟨b', A, cap, p, e1, k2, hsh, c0, f0, hp, c1, f1, hA⟩ := hB.ext_ne
      rw [hb] at e1; injection e1 with e1; injection e1 with e1 _; subst e1
      have hss : (⟨s.toArray⟩ : ByteArray).size = s.length := by simp [ByteArray.size]
      refine (writeString_raw b w ⟨s.toArray⟩ c0 hp hsh f0 c1 (fun v W' => ∃ l', l'.base = l.base ∧ BldR (W'.setCell ⟨b, 1, none⟩ v) l' (bs ++ s) ∧ Fr l.F w (W'.setCell ⟨b, 1, none⟩ v) ∧ ∀ x j, l'.F x j → l.F x j ∨ w.heap.size ≤ x) (fun W hW => ?_)).mono ?_
      · obtain ⟨v, W', h1, h2⟩ := bld_app (us := s) (hB.sm hb hW) hb (hW.2.1.keeps c1 (by simp)).1 (u := 9) (.inl Try.underlying9) (y := .string ⟨s.toArray⟩) (fun W' => by rw [← hss]; rfl) (fun W' _ => by
          have hx := extract_mk s 0 s.length
          simp only [Builtin.firstCells, hx, Sem.run_pure]
          congr 1
          apply Array.ext'
          simp [byteV]
          ) hroom
        exact ⟨v, W', h1, bld_written hB hb hW (Fr.refl _ _) h2⟩
      · rintro e w' ⟨rfl, v, W', rfl, l', h1, h2, h3, h4⟩
        exact ⟨[.int .i64 s.length, .nilIface], l', by rw [hss]; rfl, fun M' => by simp [RepA, Rep], h1, h2, h3, h4⟩
    · exact absurd h (by simp)
  · exact absurd h (by simp)

theorem c_writeByte (ms : List Mode) (ag rs fs : List TV) (h : xWriteByte ag = some (rs, fs)) : Contract Try.prog ms 73 ag rs fs := by
  unfold xWriteByte at h
  split at h
  · rename_i bs n
    split at h
    · rename_i hroom
      obtain ⟨hroom, hn0, hn1⟩ := hroom
      simp only [Option.some.injEq, Prod.mk.injEq] at h; obtain ⟨rfl, rfl⟩ := h
      refine contract_bld (xs := [.int .u8 n]) (rs := [.nilIface]) (enters Try.func73 (by kernel_rfl) rfl) ?_
      intro w M0 l b cs hB hb hx hM
      simp only [RepA, Rep] at hx
      obtain ⟨c, r, rfl, rfl, rfl⟩ := hx
      obtain ⟨b', A, cap, p, e1, k2, hsh, c0, f0, hp, c1, f1, hA⟩ := hB.ext_ne
      rw [hb] at e1; injection e1 with e1; injection e1 with e1 _; subst e1
      have hv : byteV (UInt8.ofNat n.toNat) = .int .u8 n := by
        simp only [byteV, UInt8.toNat_ofNat', Value.int.injEq, true_and]
        have : n.toNat % 2 ^ 8 = n.toNat := Nat.mod_eq_of_lt (by omega)
        rw [this]; omega
      refine (writeByte_raw b w n c0 hp hsh f0 c1 (fun v W' => ∃ l', l'.base = l.base ∧ BldR (W'.setCell ⟨b, 1, none⟩ v) l' (bs ++ [UInt8.ofNat n.toNat]) ∧ Fr l.F w (W'.setCell ⟨b, 1, none⟩ v) ∧ ∀ x j, l'.F x j → l.F x j ∨ w.heap.size ≤ x) (fun W hW => ?_)).mono ?_
      · have hfr : Fr (fun _ _ => False) W (W.alloc (.cells #[.int .u8 n] 5)) := Fr.alloc _ _ _ _
        have hB2 : BldR (W.alloc (.cells #[.int .u8 n] 5)) l bs := by
          have hBW := hB.sm hb hW
          refine ObjR.mono (β := fun _ => l) (β' := fun _ => l) (o := .bld bs) (M := fun _ _ => False) (M' := fun _ _ => False) (fun b o v hv hm => ⟨(hfr.keeps hv (fun h => h)).1, hm⟩) (fun b j v hF hv => hfr.keeps hv (fun h => h)) hfr.shape (fun g hg hF => hfr.block g hg (fun _ _ _ h => h)) (fun _ h => hfr.unm h) (by simp [Obj.refs]) hBW
        obtain ⟨v, W', h1, h2⟩ := bld_app (us := [UInt8.ofNat n.toNat]) hB2 hb (hfr.keeps (hW.2.1.keeps c1 (by simp)).1 (fun h => h)).1 (u := 29) (.inr ⟨_, Try.underlying29⟩) (y := .slice (some ⟨W.heap.size, 0, none⟩) 1 1) (fun W' => rfl) (fun W' hk => by
          refine run_firstCells_some W' _ _ _ _ _ _ (by simp) (fun j v hj => ?_)
          rw [addr_add, Nat.zero_add]
          cases j with
          | zero =>
            simp [hv] at hj; subst hj
            exact hk _ _ _ (by simp [at_])
          | succ j => simp at hj) hroom
        exact ⟨v, W', h1, bld_written hB hb hW hfr h2⟩
      · rintro e w' ⟨rfl, v, W', rfl, l', h1, h2, h3, h4⟩
        exact ⟨[.nilIface], l', rfl, fun M' => by simp [RepA, Rep], h1, h2, h3, h4⟩
    · exact absurd h (by simp)
  · exact absurd h (by simp)

theorem c_string (ms : List Mode) (ag rs fs : List TV) (h : xString ag = some (rs, fs)) : Contract Try.prog ms 74 ag rs fs := by
  unfold xString at h
  split at h
  · rename_i bs
    split at h
    · rename_i hroom
      simp only [Option.some.injEq, Prod.mk.injEq] at h; obtain ⟨rfl, rfl⟩ := h
      refine contract_bld (xs := []) (rs := [.str bs]) (enters Try.func74 (by kernel_rfl) rfl) ?_
      intro w M0 l b cs hB hb hx hM
      simp only [RepA] at hx; subst hx
      obtain ⟨b', A, cap, p, e1, k2, hsh, c0, f0, hp, c1, f1, hA⟩ := hB.ext_ne
      rw [hb] at e1; injection e1 with e1; injection e1 with e1 _; subst e1
      have hdr : BldR w.drew l bs := hB
      rcases hA with ⟨rfl, rfl, rfl, hx⟩ | ⟨g, rfl, hx, hle, gb, g4, g5, g6⟩
      · refine (string_none b w c1).mono ?_
        rintro e w' ⟨rfl, rfl⟩
        exact ⟨[.string ⟨#[]⟩], l, rfl, fun M' => by simp [RepA, Rep], rfl, hdr, Fr.drew w _, fun x j h => .inl h⟩
      · have hcap := hle.2.1
        by_cases hn : bs = []
        · subst hn
          refine (string_room b w g cap (by omega) c1).mono ?_
          rintro e w' ⟨rfl, rfl⟩
          exact ⟨[.string ⟨#[]⟩], l, rfl, fun M' => by simp [RepA, Rep], rfl, hdr, Fr.drew w _, fun x j h => .inl h⟩
        · have hshg : w.shape? g = some (5, cap) := by
            obtain ⟨_, cur, lo, hi, q2, q3, _⟩ := hle.2
            unfold World.shape?
            rw [q2, ← q3]; rfl
          refine (string_some b w bs g cap hn (by omega) hle.1 hroom hshg (fun j x hj => g6 j x hj) c1).mono ?_
          rintro e w' ⟨rfl, rfl⟩
          obtain ⟨k1, k2⟩ := bld_freeze (w := w.drew) hdr hb c1 hn
          exact ⟨[.string ⟨bs.toArray⟩], l, rfl, fun M' => by simp [RepA, Rep], rfl, k1, (Fr.drew w l.F).trans k2 (fun _ _ h => h) (fun _ _ h => .inl h), fun x j h => .inl h⟩
    · exact absurd h (by simp)
  · exact absurd h (by simp)

end Go.Proofs.Ytmjkdghcfihfiaa.Vm
