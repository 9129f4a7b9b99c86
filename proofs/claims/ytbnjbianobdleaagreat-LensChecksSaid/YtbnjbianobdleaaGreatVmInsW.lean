/-
  slices.Insert of one edge: the library's own text, walked on its four roads; its contract.
-/
import Derived.Test.YtbnjbianobdleaaGreatVmIns
namespace Go.Proofs.YtbnjbianobdleaaGreat.Vm
open Go Go.RowKit Go.Lib Go.Shelf
set_option linter.unusedVariables false
set_option linter.unusedSimpArgs false
set_option maxRecDepth 100000

theorem ins_copy {w : World} {o : Oper} {a : Act} {K : Act → World → Prop} {Q : Exit → Act → World → Prop} {P : Program} (d s : Operand) (t t' : TypeId)
    (ho : o.op = .call { callee := .builtin .copy, args := #[d, s], argTypes := #[t, t'] }) (v u : Value) (hd : a.eval d = v) (hs : a.eval s = u) {v' : Value} {w' : World}
    (hr : (Builtin.copy_ #[t, t'] o.type #[v, u]).run P w = .ok v' w') (h : K (a.put o.dst v') w') : o.wp P a w K Q := by
  unfold Oper.wp execOp
  simp only [ho, resolve, invoke, builtin, Sem.run_bind, Sem.run_pure, Result.andThen_ok, List.map_toArray, List.map_cons, List.map_nil, hd, hs, hr]
  exact h
theorem ins_copyL {P : Program} {w : World} {ops : Array Oper} {rest : List Oper} {o : Oper} {a : Act} {Q : Exit → Act → World → Prop} (hgd : o.guard = none) (d s : Operand) (t t' : TypeId)
    (ho : o.op = .call { callee := .builtin .copy, args := #[d, s], argTypes := #[t, t'] }) (v u : Value) (hd : a.eval d = v) (hs : a.eval s = u) {v' : Value} {w' : World}
    (hr : (Builtin.copy_ #[t, t'] o.type #[v, u]).run P w = .ok v' w') (h : wpList P ops Q rest (a.put o.dst v') w') : wpList P ops Q (o :: rest) a w :=
  wpList_plain hgd fun _ hK => ins_copy d s t t' ho v u hd hs hr (hK _ _ h)
theorem ins_copyS {P : Program} {ops : Array Oper} {o : Oper} {a : Act} {w : World} {K : Act → World → Prop} {Q : Exit → Act → World → Prop} {E : Prop}
    (hg : o.guard = none) (d x : Operand) (dT sT : TypeId) (hop : o.op = Op.call { callee := Callee.builtin Builtin.copy, args := #[d, x], argTypes := #[dT, sT] })
    (v u : Value) (hd : a.eval d = v) (hx : a.eval x = u) {v' : Value} {w' : World} (hr : (Builtin.copy_ #[dT, sT] o.type #[v, u]).run P w = .ok v' w') (hK : K (a.put o.dst v') w') :
    if Region.wanted o (yielded ops a.tmps) = true then Oper.wp P o a w K Q else E := by
  have hw : Region.wanted o (yielded ops a.tmps) = true := by simp [Region.wanted, hg]
  rw [if_pos hw]
  exact ins_copy d x dT sT hop v u hd hx hr hK

/-- Elements of k cells are copied: all is read ahead of any writing. -/
theorem run_copy_k {P : Program} (w : World) (dT sT ty elem : TypeId) {i0 : TypeInfo} (b o dLen dCap : Nat) (a : Addr) (sLen sCap k : Nat) (cs : List Value)
    (hu : P.underlying dT = some (.slice elem)) (hi : P.info? elem = some i0) (hk : k = Nat.min sLen dLen) (hn : cs.length = k * i0.size)
    (hsrc : ∀ j v, cs[j]? = some v → w.cell? (a.add j) = some v) (hc : ∀ j, j < cs.length → (w.cell? ⟨b, o + j, none⟩).isSome = true) (hf : ∀ j, j < cs.length → w.frozen? ⟨b, o + j, none⟩ = false) (h1 : ∀ v ∈ cs, v.oneCell' = true) :
    (Builtin.copy_ #[dT, sT] ty #[.slice (some ⟨b, o, none⟩) dLen dCap, .slice (some a) sLen sCap]).run P w = .ok (goInt k) (w.setCells b o cs) := by
  have hl := run_firstCells_some (P := P) w i0.size k a sLen sCap cs hn hsrc
  have hst := run_storeCells_cells (P := P) b o cs 0 w (by simpa using hc) (by simpa using hf) h1
  simp only [Nat.add_zero] at hst
  simp [Builtin.copy_, run_underlying hu, Builtin.lenOf, sizeOf, typeInfo, hi, ← hk, hl, hst]

set_option maxHeartbeats 4000000 in
theorem ins_end_room (i0 : TypeInfo) (hi0 : Tryz.prog.info? 44 = some i0) (hs2 : i0.size = 2) (b off n c vb voff vc : Nat) (vs : List Value) (w : World) (hn : n ≤ 4000000) (hroom : n + 1 ≤ c)
    (hvl : vs.length = 2) (hsp : ∀ j, j < 2 → (w.cell? ⟨b, off + n * 2 + j, none⟩).isSome = true) (hfz : ∀ j, j < 2 → w.frozen? ⟨b, off + n * 2 + j, none⟩ = false)
    (hvs : ∀ j v, vs[j]? = some v → w.cell? ⟨vb, voff + j, none⟩ = some v) (h1v : ∀ v ∈ vs, v.oneCell' = true) :
    Calls Tryz.prog 114 #[.slice (some ⟨b, off, none⟩) n c, .int .i64 n, .slice (some ⟨vb, voff, none⟩) 1 vc] w fun e w' =>
      e = .returned (.slice (some ⟨b, off, none⟩) (n + 1) c) ∧ w' = w.setCells b (off + n * 2) vs := by
  have zE : ∀ w, (Go.sizeOf 44).run Tryz.prog w = .ok 2 w := fun w => by simp [Go.sizeOf, typeInfo, hi0, hs2]
  have hrun : ∀ ty, (Builtin.append_ #[32, 31] ty #[.slice (some ⟨b, off, none⟩) n c, .slice (some ⟨vb, voff, none⟩) 1 vc]).run Tryz.prog w = .ok (.slice (some ⟨b, off, none⟩) (n + 1) c) (w.setCells b (off + n * 2) vs) := fun ty => by
    have := run_append_in (P := Tryz.prog) (w := w) (ty := ty) Tryz.underlying32 hi0 (.inr ⟨_, Tryz.underlying31⟩) (y := .slice (some ⟨vb, voff, none⟩) 1 vc) (m := 1) (news := vs) rfl
      (by rw [hs2]; exact run_firstCells_some w 2 1 ⟨vb, voff, none⟩ 1 vc vs hvl (fun j v hj => by rw [Addr.add_lit]; exact hvs j v hj)) h1v (b := b) (off := off) (n := n) (cap := c) hroom (by rw [hs2, hvl]; exact hsp) (by rw [hs2, hvl]; exact hfz)
    rw [hs2] at this; exact this
  go_enter Tryz.func114, Tryz.ntmps114
  go_wp2_with (at_builtin; refine Lib.wpList_append_run _ rfl _ _ _ _ rfl _ _ rfl rfl _ _ (hrun _) ?_)
  go_ret
  exact ⟨rfl, rfl⟩

set_option maxHeartbeats 4000000 in
theorem ins_end_grow (i0 : TypeInfo) (z : Value) (hi0 : Tryz.prog.info? 44 = some i0) (hz0 : i0.zero = some z) (hs2 : i0.size = 2) (base : Option Addr) (n c vb voff vc : Nat) (cs vs : List Value) (w : World) (hn : n ≤ 4000000) (hnc : n ≤ c) (hroom : c < n + 1)
    (hbig : (n + 1) * i0.bytes ≤ 140737488355328) (hcl : cs.length = n * 2) (hvl : vs.length = 2) (hnil : base = none → n = 0)
    (hcs : ∀ a, base = some a → ∀ j v, cs[j]? = some v → w.cell? (a.add j) = some v) (hvs : ∀ j v, vs[j]? = some v → w.cell? ⟨vb, voff + j, none⟩ = some v) :
    Calls Tryz.prog 114 #[.slice base n c, .int .i64 n, .slice (some ⟨vb, voff, none⟩) 1 vc] w fun e w' =>
      e = .returned (.slice (some ⟨w.heap.size, 0, none⟩) (n + 1) (grownCap w (n + 1) c 44)) ∧
      w' = w.drew.alloc (.cells (cs.toArray ++ vs.toArray ++ Builtin.zeroCells z.cells (grownCap w (n + 1) c 44 - (n + 1))) 44) := by
  have zE : ∀ w, (Go.sizeOf 44).run Tryz.prog w = .ok 2 w := fun w => by simp [Go.sizeOf, typeInfo, hi0, hs2]
  have hold : (Builtin.firstCells i0.size n (.slice base n c)).run Tryz.prog w.drew = .ok cs.toArray w.drew := by
    rw [hs2]
    cases base with
    | none =>
      have h0 := hnil rfl
      subst h0
      rw [List.length_eq_zero_iff.1 (by omega : cs.length = 0)]
      exact run_firstCells_none w.drew 2 0 0 c
    | some a => exact run_firstCells_some w.drew 2 n a n c cs (by omega) (fun j v hj => hcs a rfl j v hj)
  have hrun : ∀ ty, (Builtin.append_ #[32, 31] ty #[.slice base n c, .slice (some ⟨vb, voff, none⟩) 1 vc]).run Tryz.prog w = .ok (.slice (some ⟨w.heap.size, 0, none⟩) (n + 1) (grownCap w (n + 1) c 44)) (w.drew.alloc (.cells (cs.toArray ++ vs.toArray ++ Builtin.zeroCells z.cells (grownCap w (n + 1) c 44 - (n + 1))) 44)) := fun ty =>
    run_append_new (P := Tryz.prog) (w := w) (ty := ty) Tryz.underlying32 hi0 hz0 (.inr ⟨_, Tryz.underlying31⟩) (x := .slice base n c) (y := .slice (some ⟨vb, voff, none⟩) 1 vc) (n := n) (m := 1) (cap := c) (olds := cs) (news := vs) rfl rfl hold
      (by rw [hs2]; exact run_firstCells_some w.drew 2 1 ⟨vb, voff, none⟩ 1 vc vs hvl (fun j v hj => by rw [Addr.add_lit]; exact hvs j v hj)) hroom (by omega) hbig
  obtain ⟨G, hG⟩ : ∃ G, G = grownCap w (n + 1) c 44 := ⟨_, rfl⟩
  rw [← hG] at hrun ⊢
  obtain ⟨ROW, hROW⟩ : ∃ ROW : Array Value, ROW = cs.toArray ++ vs.toArray ++ Builtin.zeroCells z.cells (G - (n + 1)) := ⟨_, rfl⟩
  rw [← hROW] at hrun ⊢
  clear hold hROW hG
  go_enter Tryz.func114, Tryz.ntmps114
  cases base with
  | none =>
    have h0 := hnil rfl
    subst h0
    go_wp2_with (at_builtin; refine Lib.wpList_append_run _ rfl _ _ _ _ rfl _ _ rfl rfl _ _ (hrun _) ?_)
    all_goals (go_ret; exact ⟨rfl, rfl⟩)
  | some a =>
    obtain ⟨ab, ao, asp⟩ := a
    go_wp2_with (at_builtin; refine Lib.wpList_append_run _ rfl _ _ _ _ rfl _ _ rfl rfl _ _ (hrun _) ?_)
    all_goals (go_ret; exact ⟨rfl, rfl⟩)

theorem isSome_setC (b : Nat) (vs : List Value) (o : Nat) (w : World) (h : ∀ j, j < vs.length → (w.cell? ⟨b, o + j, none⟩).isSome = true) (k : Nat) (hk : (w.cell? ⟨b, k, none⟩).isSome = true) : ((w.setCells b o vs).cell? ⟨b, k, none⟩).isSome = true := by
  by_cases hin : o ≤ k ∧ k < o + vs.length
  · have := World.cell?_setCells_in b vs o w h (k - o) (by omega)
    rw [show o + (k - o) = k by omega] at this
    rw [this]; rfl
  · rw [World.cell?_setCells_out b vs o w ⟨b, k, none⟩ (fun _ _ => by show k < o ∨ o + vs.length ≤ k; omega)]
    exact hk

set_option maxHeartbeats 4000000 in
theorem ins_shift (i0 : TypeInfo) (hi0 : Tryz.prog.info? 44 = some i0) (hs2 : i0.size = 2) (b off n c i vb voff vc : Nat) (cs vs : List Value) (w : World) (hn : n ≤ 4000000) (hi : i < n) (hroom : n + 1 ≤ c)
    (hcl : cs.length = n * 2) (hvl : vs.length = 2)
    (hcs : ∀ j v, cs[j]? = some v → w.cell? ⟨b, off + j, none⟩ = some v) (hsp : ∀ j, j < (n + 1) * 2 → (w.cell? ⟨b, off + j, none⟩).isSome = true) (hfz : ∀ j, j < (n + 1) * 2 → w.frozen? ⟨b, off + j, none⟩ = false)
    (hvs : ∀ j v, vs[j]? = some v → w.cell? ⟨vb, voff + j, none⟩ = some v) (hva : ∀ j, j < 2 → vb = b → voff + j < off ∨ off + (n + 1) * 2 ≤ voff + j) (h1c : ∀ v ∈ cs, v.oneCell' = true) (h1v : ∀ v ∈ vs, v.oneCell' = true)
    (tA tB : TypeId) (kA kB : Nat) (hsa : w.shape? vb = some (tA, kA)) (hkA : kA ≠ 0) (hsb : w.shape? b = some (tB, kB)) (hkB : kB ≠ 0) (hfe : w.frozen? { block := b, off := kB } = false) :
    Calls Tryz.prog 114 #[.slice (some ⟨b, off, none⟩) n c, .int .i64 i, .slice (some ⟨vb, voff, none⟩) 1 vc] w fun e w' =>
      e = .returned (.slice (some ⟨b, off, none⟩) (n + 1) c) ∧ w' = (w.drew.setCells b (off + (i + 1) * 2) (cs.drop (i * 2))).setCells b (off + i * 2) vs := by
  have zE : ∀ w, (Go.sizeOf 44).run Tryz.prog w = .ok 2 w := fun w => by simp [Go.sizeOf, typeInfo, hi0, hs2]
  have hz2 : ¬ ((i : Int) = (n : Int)) := by omega
  have hov : ∀ lb cb, lb ≤ n - i → (callFunc 124 #[.slice (some ⟨vb, voff, none⟩) 1 vc, .slice (some ⟨b, off + (i + 1) * 2, none⟩) lb cb]).run Tryz.prog w = .ok (.value (.bool false)) w := fun lb cb hlb => by
    rw [run_callFunc_extern Tryz.func124 (by kernel_rfl) (by kernel_rfl) (by kernel_rfl) (e := Extern.SlicesOverlaps.overlaps #[31, 31] #[4]) (by kernel_rfl),
      run_overlaps_own w 31 4 44 Tryz.underlying31 2 zE ⟨vb, voff, none⟩ ⟨b, off + (i + 1) * 2, none⟩ 1 vc lb cb tA tB kA kB hsa hkA hsb hkB
        (by have := hfz ((i + 1) * 2) (by omega); exact this) hfe (fun e => by
          have e : vb = b := e
          have h1 := hva 0 (by omega) e
          have h2 := hva 1 (by omega) e
          simp only
          omega)]
    rfl
  have hdl : (cs.drop (i * 2)).length = (n - i) * 2 := by rw [List.length_drop, hcl]; omega
  have hw1 : IntKind.i64.wrap ((i : Int) + 1) = (i : Int) + 1 := by rw [IntKind.wrap_i64]; omega
  have hb1 : (0 : Int) ≤ (i : Int) + 1 := by omega
  have hin : i ≤ n := by omega
  have htn : ((i : Int) + 1).toNat = i + 1 := by omega
  have hb2 : ¬ (c = i + 1) := by omega
  have hb3 : (i : Int) ≤ (n : Int) + 1 := by omega
  have hb4 : ¬ (c = i) := by omega
  have mixed : Tryz.prog.follows Departure.mixedOrders = true := by kernel_rfl
  have hcp1 : ∀ ty dc sc, (Builtin.copy_ #[32, 32] ty #[.slice (some ⟨b, off + (i + 1) * 2, none⟩) (n - i) dc, .slice (some ⟨b, off + i * 2, none⟩) (n + 1 - i) sc]).run Tryz.prog w.drew = .ok (goInt (n - i : Nat)) (w.drew.setCells b (off + (i + 1) * 2) (cs.drop (i * 2))) := fun ty dc sc =>
    run_copy_k w.drew _ _ ty 44 b (off + (i + 1) * 2) (n - i) dc ⟨b, off + i * 2, none⟩ (n + 1 - i) sc (n - i) (cs.drop (i * 2)) Tryz.underlying32 hi0 (by simp only [Nat.min_def]; split <;> omega) (by rw [hs2, hdl])
      (fun j v hj => by rw [Addr.add_lit, Nat.add_assoc]; exact hcs (i * 2 + j) v (by rwa [List.getElem?_drop] at hj))
      (fun j hj => by rw [Nat.add_assoc]; exact hsp _ (by omega)) (fun j hj => by rw [Nat.add_assoc]; exact hfz _ (by omega)) (fun v hv => h1c v (List.mem_of_mem_drop hv))
  obtain ⟨W1, hW1⟩ : ∃ W1, W1 = w.drew.setCells b (off + (i + 1) * 2) (cs.drop (i * 2)) := ⟨_, rfl⟩
  have hsp1 : ∀ k, k < (n + 1) * 2 → (W1.cell? ⟨b, off + k, none⟩).isSome = true := fun k hk => by
    rw [hW1]
    exact isSome_setC b _ _ _ (fun j hj => by rw [Nat.add_assoc]; exact hsp _ (by omega)) _ (hsp k hk)
  have hcp2 : ∀ (W : World), (∀ x, W.cell? x = W1.cell? x) → (∀ x, W.frozen? x = W1.frozen? x) → ∀ ty dc, (Builtin.copy_ #[32, 31] ty #[.slice (some ⟨b, off + i * 2, none⟩) (n + 1 - i) dc, .slice (some ⟨vb, voff, none⟩) 1 vc]).run Tryz.prog W = .ok (goInt 1) (W.setCells b (off + i * 2) vs) := fun W hWc hWf ty dc =>
    run_copy_k W _ _ ty 44 b (off + i * 2) (n + 1 - i) dc ⟨vb, voff, none⟩ 1 vc 1 vs Tryz.underlying32 hi0 (by simp only [Nat.min_def]; split <;> omega) (by rw [hs2, hvl])
      (fun j v hj => by
        have hj2 : j < 2 := by rw [← hvl]; exact (List.getElem?_eq_some_iff.1 hj).1
        rw [Addr.add_lit, hWc, hW1, World.cell?_setCells_out b _ _ _ _ (fun h _ => by
          have := hva j hj2 h
          show voff + j < off + (i + 1) * 2 ∨ off + (i + 1) * 2 + (cs.drop (i * 2)).length ≤ voff + j
          rw [hdl]; omega)]
        exact hvs j v hj)
      (fun j hj => by rw [hWc, Nat.add_assoc]; exact hsp1 _ (by omega)) (fun j hj => by rw [hWf, hW1, World.frozen?_setCells, Nat.add_assoc]; exact hfz _ (by omega)) h1v
  rw [← hW1] at hcp1
  go_enter Tryz.func114, Tryz.ntmps114
  go_wp2_with (simp only [hov _ _ (by omega)])
  go_region_law_o (refine ins_copyS rfl _ _ 32 32 rfl _ _ (by simp [Act.eval, Act.put]) (by simp [Act.eval, Act.put]) (hcp1 _ _ _) ?_)
  go_wp2_with (at_builtin; refine ins_copyL _ rfl _ _ 32 31 rfl _ _ rfl rfl (hcp2 _ (fun _ => rfl) (fun _ => rfl) _ _) ?_)
  go_ret
  first | exact ⟨rfl, rfl⟩ | exact ⟨rfl, by rw [hW1]⟩

set_option maxHeartbeats 4000000 in
theorem ins_grow (i0 : TypeInfo) (z : Value) (hi0 : Tryz.prog.info? 44 = some i0) (hz0 : i0.zero = some z) (hs2 : i0.size = 2) (hzl : z.cells.size = 2) (b off n c i vb voff vc : Nat) (cs vs : List Value) (w : World) (hn : n ≤ 4000000) (hi : i < n) (hnc : n ≤ c) (hroom : c < n + 1)
    (hbig : (n + 1) * i0.bytes ≤ 140737488355328) (hcl : cs.length = n * 2) (hvl : vs.length = 2)
    (hcs : ∀ j v, cs[j]? = some v → w.cell? ⟨b, off + j, none⟩ = some v) (hvs : ∀ j v, vs[j]? = some v → w.cell? ⟨vb, voff + j, none⟩ = some v) (h1c : ∀ v ∈ cs, v.oneCell' = true) (h1v : ∀ v ∈ vs, v.oneCell' = true) :
    Calls Tryz.prog 114 #[.slice (some ⟨b, off, none⟩) n c, .int .i64 i, .slice (some ⟨vb, voff, none⟩) 1 vc] w fun e w' =>
      e = .returned (.slice (some ⟨w.heap.size, 0, none⟩) (n + 1) (grownCap w (n + 1) c 44)) ∧
      w' = (((w.alloc (.cells ((cs.take (i * 2)).toArray ++ Builtin.zeroCells z.cells (n + 1 - i) ++ Builtin.zeroCells z.cells (grownCap w (n + 1) c 44 - (n + 1))) 44)).drew.setCells w.heap.size (i * 2) vs).drew).setCells w.heap.size ((i + 1) * 2) (cs.drop (i * 2)) := by
  have zE : ∀ w, (Go.sizeOf 44).run Tryz.prog w = .ok 2 w := fun w => by simp [Go.sizeOf, typeInfo, hi0, hs2]
  have mixed : Tryz.prog.follows Departure.mixedOrders = true := by kernel_rfl
  have hz2 : ¬ ((i : Int) = (n : Int)) := by omega
  have hz3 : (c : Int) < (n : Int) + 1 := by omega
  have hbw : b < w.heap.size := block_lt_of_cell (hcs 0 _ (List.getElem?_eq_getElem (by omega)))
  have hvw : vb < w.heap.size := block_lt_of_cell (hvs 0 _ (List.getElem?_eq_getElem (by omega)))
  have hkk : (n : Int) + 1 - (i : Int) = ((n + 1 - i : Nat) : Int) := by omega
  have hik : i + (n + 1 - i) = n + 1 := by omega
  have hold : (Builtin.firstCells i0.size i (.slice (some ⟨b, off, none⟩) i c)).run Tryz.prog w.drew = .ok (cs.take (i * 2)).toArray w.drew := by
    rw [hs2]
    exact run_firstCells_some w.drew 2 i ⟨b, off, none⟩ i c (cs.take (i * 2)) (by rw [List.length_take]; omega) (fun j v hj => by
      rw [Addr.add_lit]
      rw [List.getElem?_take] at hj
      split at hj
      · exact hcs j v hj
      · cases hj)
  have hb64 : (n + 1 - i) * i0.bytes ≤ (n + 1) * i0.bytes := Nat.mul_le_mul_right _ (by omega)
  have hrz : ∀ ty, (Builtin.append_ #[32, 3] ty #[.slice (some ⟨b, off, none⟩) i c, .int .i64 ((n : Int) + 1 - (i : Int))]).run Tryz.prog w =
      .ok (.slice (some ⟨w.heap.size, 0, none⟩) (n + 1) (grownCap w (n + 1) c 44)) (w.drew.alloc (.cells ((cs.take (i * 2)).toArray ++ Builtin.zeroCells z.cells (n + 1 - i) ++ Builtin.zeroCells z.cells (grownCap w (n + 1) c 44 - (n + 1))) 44)) := fun ty => by
    have h := Lib.run_append_grow_zeros w 32 3 ty 44 i0 z .i64 .i64 Tryz.underlying32 Tryz.underlying3 hi0 hz0 (some ⟨b, off, none⟩) i c (cs.take (i * 2)) hold (n + 1 - i) (by omega) (by omega) (by omega) (by omega) (by omega) (by rw [hik]; exact growslice_fits hroom hbig)
    rw [hik] at h
    rw [hkk]
    exact h
  obtain ⟨G, hG⟩ : ∃ G, G = grownCap w (n + 1) c 44 := ⟨_, rfl⟩
  obtain ⟨ROW, hROW⟩ : ∃ ROW : Array Value, ROW = (cs.take (i * 2)).toArray ++ Builtin.zeroCells z.cells (n + 1 - i) ++ Builtin.zeroCells z.cells (G - (n + 1)) := ⟨_, rfl⟩
  rw [← hG] at hrz ⊢
  rw [← hROW] at hrz ⊢
  have hRl : (n + 1) * 2 ≤ ROW.size := by
    rw [hROW]
    simp only [Array.size_append, size_zeroCells, hzl, List.size_toArray, List.length_take]
    omega
  obtain ⟨W1, hW1⟩ : ∃ W1, W1 = w.drew.alloc (.cells ROW 44) := ⟨_, rfl⟩
  rw [← hW1] at hrz
  have hN : ∀ j, j < (n + 1) * 2 → (W1.cell? ⟨w.heap.size, j, none⟩).isSome = true := fun j hj => by
    rw [hW1, World.cell?_alloc_at (w := w.drew) ROW _ w.heap.size j rfl, Array.getElem?_eq_getElem (by omega)]; rfl
  have hNf : ∀ j, W1.frozen? ⟨w.heap.size, j, none⟩ = false := fun j => by rw [hW1]; exact World.frozen?_alloc_at (w := w.drew) ROW _ w.heap.size j rfl
  have hOb : ∀ j v, w.cell? ⟨b, j, none⟩ = some v → W1.cell? ⟨b, j, none⟩ = some v := fun j v h => by rw [hW1, World.cell?_alloc_past (w := w.drew) _ b j hbw]; exact h
  have hOv : ∀ j v, w.cell? ⟨vb, j, none⟩ = some v → W1.cell? ⟨vb, j, none⟩ = some v := fun j v h => by rw [hW1, World.cell?_alloc_past (w := w.drew) _ vb j hvw]; exact h
  have hcpA : ∀ (W : World), (∀ x, W.cell? x = W1.cell? x) → (∀ x, W.frozen? x = W1.frozen? x) → ∀ ty dc, (Builtin.copy_ #[32, 31] ty #[.slice (some ⟨w.heap.size, i * 2, none⟩) (n + 1 - i) dc, .slice (some ⟨vb, voff, none⟩) 1 vc]).run Tryz.prog W = .ok (goInt 1) (W.setCells w.heap.size (i * 2) vs) := fun W hWc hWf ty dc =>
    run_copy_k W _ _ ty 44 w.heap.size (i * 2) (n + 1 - i) dc ⟨vb, voff, none⟩ 1 vc 1 vs Tryz.underlying32 hi0 (by simp only [Nat.min_def]; split <;> omega) (by rw [hs2, hvl])
      (fun j v hj => by rw [Addr.add_lit, hWc]; exact hOv _ v (hvs j v hj))
      (fun j hj => by rw [hWc]; exact hN _ (by omega)) (fun j hj => by rw [hWf]; exact hNf _) h1v
  have hGn : n + 1 ≤ G := by rw [hG]; exact grownCap_ge w _ _ _
  have hG63 : G ≤ 9223372036854775807 := by
    have := grownCap_le_maxLen w (n + 1) c 44 (by unfold maxLen; omega)
    rw [← hG] at this
    unfold maxLen at this
    omega
  have hGi : ¬ (G = i) := by omega
  have hGim : ¬ (G = i + 1) := by omega
  have hci : ¬ (c = i) := by omega
  have hbN : b ≠ w.heap.size := by omega
  have hdl : (cs.drop (i * 2)).length = (n - i) * 2 := by rw [List.length_drop, hcl]; omega
  have hcpB : ∀ (W : World), (∀ x, W.cell? x = (W1.setCells w.heap.size (i * 2) vs).cell? x) → (∀ x, W.frozen? x = (W1.setCells w.heap.size (i * 2) vs).frozen? x) → ∀ ty dc sc, (Builtin.copy_ #[32, 32] ty #[.slice (some ⟨w.heap.size, (i + 1) * 2, none⟩) (n - i) dc, .slice (some ⟨b, off + i * 2, none⟩) (n - i) sc]).run Tryz.prog W = .ok (goInt (n - i : Nat)) (W.setCells w.heap.size ((i + 1) * 2) (cs.drop (i * 2))) := fun W hWc hWf ty dc sc =>
    run_copy_k W _ _ ty 44 w.heap.size ((i + 1) * 2) (n - i) dc ⟨b, off + i * 2, none⟩ (n - i) sc (n - i) (cs.drop (i * 2)) Tryz.underlying32 hi0 (by simp only [Nat.min_def]; split <;> omega) (by rw [hs2, hdl])
      (fun j v hj => by
        rw [Addr.add_lit, hWc, World.cell?_setCells_out _ _ _ _ _ (fun h _ => absurd h hbN), Nat.add_assoc]
        exact hOb _ v (hcs (i * 2 + j) v (by rwa [List.getElem?_drop] at hj)))
      (fun j hj => by rw [hWc]; exact isSome_setC _ _ _ _ (fun t ht => hN _ (by omega)) _ (hN _ (by omega)))
      (fun j hj => by rw [hWf, World.frozen?_setCells]; exact hNf _) (fun v hv => h1c v (List.mem_of_mem_drop hv))
  subst hW1
  have hE1 : ∀ x, ((w.alloc (.cells ROW 44)).drew).cell? x = (w.drew.alloc (.cells ROW 44)).cell? x := fun x => rfl
  have hE2 : ∀ x, ((w.alloc (.cells ROW 44)).drew).frozen? x = (w.drew.alloc (.cells ROW 44)).frozen? x := fun x => rfl
  have hF1 : ∀ x, (((w.alloc (.cells ROW 44)).drew.setCells w.heap.size (i * 2) vs).drew).cell? x = ((w.drew.alloc (.cells ROW 44)).setCells w.heap.size (i * 2) vs).cell? x := fun x => rfl
  have hF2 : ∀ x, (((w.alloc (.cells ROW 44)).drew.setCells w.heap.size (i * 2) vs).drew).frozen? x = ((w.drew.alloc (.cells ROW 44)).setCells w.heap.size (i * 2) vs).frozen? x := fun x => rfl
  have hw1 : IntKind.i64.wrap ((i : Int) + 1) = (i : Int) + 1 := by rw [IntKind.wrap_i64]; omega
  have hb1 : (0 : Int) ≤ (i : Int) + 1 := by omega
  have hin : i ≤ n := by omega
  have htn : ((i : Int) + 1).toNat = i + 1 := by omega
  have hb3 : (i : Int) ≤ (n : Int) := by omega
  clear hkk hik hold hROW hG hRl hb64
  go_enter Tryz.func114, Tryz.ntmps114
  go_wp2_with (first
    | (at_builtin; refine Lib.wpList_append_run _ rfl _ _ _ _ rfl _ _ rfl rfl _ _ (hrz _) ?_)
    | (at_builtin; refine ins_copyL _ rfl _ _ 32 31 rfl _ _ rfl rfl (hcpA _ hE1 hE2 _ _) ?_)
    | (at_builtin; refine ins_copyL _ rfl _ _ 32 32 rfl _ _ rfl rfl (hcpB _ (fun _ => rfl) (fun _ => rfl) _ _ _) ?_))
  go_region_law_o (refine ins_copyS rfl _ _ 32 32 rfl (.slice (some ⟨w.heap.size, (i + 1) * 2, none⟩) (n - i) (G - (i + 1))) (.slice (some ⟨b, off + i * 2, none⟩) (n - i) (c - i)) (by simp [Act.eval, Act.put]) (by simp [Act.eval, Act.put]) (hcpB _ hF1 hF2 3 (G - (i + 1)) (c - i)) ?_)
  go_wp2
  go_ret
  exact ⟨rfl, rfl⟩

def xInsert : List TV → Option (List TV × List TV)
  | [.own 2 es, .pv (.int .i64 i), .pv (.sl [v])] => if 0 ≤ i ∧ i.toNat ≤ es.length ∧ es.length ≤ 4000000 ∧ v.length = 2 then some ([.own 2 (es.take i.toNat ++ [v] ++ es.drop i.toNat)], []) else none
  | _ => none

theorem bytesEdge : bytesT Tryz.prog 44 = 40 := by kernel_rfl
theorem sizeEdge : sizeT Tryz.prog 44 = 2 := by kernel_rfl
theorem zeroEdge : (zeroV Tryz.prog 44).isSome = true := by kernel_rfl

set_option maxHeartbeats 1000000 in
theorem c_insert (ms : List Mode) (hms : ms.headD .borrow ≠ .mut) (ag rs fs : List TV) (h : xInsert ag = some (rs, fs)) : Contract Tryz.prog ms 114 ag rs fs := by
  unfold xInsert at h
  split at h
  · rename_i es i v
    split at h
    · rename_i hc
      obtain ⟨hi0, hie, hbig, hvlen⟩ := hc
      simp only [Option.some.injEq, Prod.mk.injEq] at h; obtain ⟨rfl, rfl⟩ := h
      obtain ⟨zv, hzv⟩ := Option.isSome_iff_exists.1 zeroEdge
      obtain ⟨i0, z, hin, hzz, hzl, hl⟩ := zeroV_eq hzv
      have hs2 : i0.size = 2 := by have := sizeEdge; simpa [sizeT, hin] using this
      have hbt : i0.bytes = 40 := by have := bytesEdge; simpa [bytesT, hin] using this
      have hzs : z.cells.size = 2 := by rw [← Array.length_toList, hzl, hl, sizeEdge]
      obtain ⟨k, rfl⟩ : ∃ k : Nat, i = k := ⟨i.toNat, by omega⟩
      rw [Int.toNat_natCast] at hie ⊢
      refine contract_moved (xs := [.int .i64 k, .sl [v]]) hms ?_
      intro w M0 lc args hO hx hold hM0
      unfold Invokes
      rw [enters Tryz.func114 (by kernel_rfl) rfl]
      simp only [RepA, Rep] at hx
      obtain ⟨c1, r1, rfl, rfl, c2, r2, rfl, ⟨A, vc, rfl, hvc, hnone, hspot, sz, hrow⟩, rfl⟩ := hx
      simp only [RepRow, Nat.zero_mul, Nat.add_zero] at hrow
      obtain ⟨⟨a, vs, rfl, hsz, hvs, hho⟩, _⟩ := hrow
      have hsp := hspot a rfl (by simp)
      obtain ⟨vb, voff, vsp⟩ := a
      simp only at hsp hho; subst hsp
      have hvl : vs.length = 2 := by rw [hvs.length, hvlen]
      have h1v : ∀ d ∈ vs, d.oneCell' = true := RepS.one hvs
      have hvc : ∀ j d, vs[j]? = some d → w.cell? ⟨vb, voff + j, none⟩ = some d := fun j d hj => (hho j d hj).1
      have hvm : ∀ j, j < 2 → ¬ (M0 vb (voff + j) ∨ lc.F vb (voff + j)) := fun j hj => (hho j _ (List.getElem?_eq_getElem (by omega))).2
      have hO2 := hO
      simp only [ObjR] at hO2
      obtain ⟨q1, q2, q3, q4, q5, q6, q7, q8, q9⟩ := hO2
      obtain ⟨cs, k1, k2, k3, k4⟩ := old_cells hO
      have hrv : RowS w (fun b j => M0 b j ∨ lc.F b j) 2 [v] vs := ⟨by simp [hvl], fun i e he => by
        cases i with
        | zero =>
          simp only [List.getElem?_cons_zero, Option.some.injEq] at he
          subst he
          refine ⟨hvlen, ?_⟩
          simp only [Nat.zero_mul, List.drop_zero]
          rw [List.take_of_length_le (by omega)]
          exact hvs
        | succ i => simp at he⟩
      have hck : (cs.take (k * 2)).length = (es.take k).length * 2 := by rw [List.length_take, List.length_take]; omega
      have hR : ∀ rest, RowS w (fun b j => M0 b j ∨ lc.F b j) 2 (es.take k ++ [v] ++ es.drop k) (cs.take (k * 2) ++ vs ++ cs.drop (k * 2) ++ rest) := fun rest => by
        have ha := RowS.append (k3.take k) hrv hck []
        rw [List.append_nil] at ha
        refine RowS.append ha (k3.drop k) ?_ rest
        rw [List.length_append, hck, hvl, List.length_append, List.length_singleton]; omega
      have hlen' : (es.take k ++ [v] ++ es.drop k).length = es.length + 1 := by simp; omega
      have hold' : ∀ b j, (M0 b j ∨ lc.F b j) → b < w.heap.size := fun b j h => h.elim (hM0 b j) (fun h => (hold b j h).2)
      have hroomB : (es.length + 1) * i0.bytes ≤ 140737488355328 := by rw [hbt]; omega
      have hdk : (cs.drop (k * 2)).length = (es.length - k) * 2 := by rw [List.length_drop]; omega
      have htk : (cs.take (k * 2)).length = k * 2 := by rw [List.length_take]; omega
      by_cases hend : k = es.length
      · subst hend
        have hdr : cs.drop (es.length * 2) = [] := List.drop_eq_nil_of_le (by omega)
        have htr : cs.take (es.length * 2) = cs := List.take_of_length_le (by omega)
        rw [hdr, htr, List.append_nil] at hR
        by_cases hroom : es.length + 1 ≤ lc.cap
        · cases hb : lc.base with
          | none => have := q7 hb; omega
          | some p =>
            obtain ⟨b, o⟩ := p
            have hhdr : lc.hdr = .slice (some ⟨b, o, none⟩) es.length lc.cap := by unfold Loc.hdr; rw [hb, q3]
            rw [hhdr]
            obtain ⟨spare, s1, s2⟩ := row_all hO k1 hb (k4 b o hb)
            rw [List.length_append] at s1
            have hF : ∀ j, j < lc.cap * 2 → lc.F b (o + j) := fun j hj => .inl ⟨o, hb, by omega, by omega⟩
            have hc2 : (es.length + 1) * 2 ≤ lc.cap * 2 := Nat.mul_le_mul_right _ hroom
            have hex : ∀ j, j < 2 → ∃ c, at_ w b (o + es.length * 2 + j) = some c := fun j hj => by
              have := ((q9 b o hb).1 (es.length * 2 + j) (by omega)).1
              rwa [← Nat.add_assoc] at this
            refine (ins_end_room i0 hin hs2 b o es.length lc.cap vb voff vc vs w hbig hroom hvl (fun j hj => Option.isSome_iff_exists.2 (hex j hj)) (fun j hj => by
              have := ((q9 b o hb).1 (es.length * 2 + j) (by omega)).2
              rw [← Nat.add_assoc] at this; exact this) hvc h1v).mono ?_
            rintro e w' ⟨rfl, rfl⟩
            refine ⟨_, rfl, ?_⟩
            rw [← hlen']
            refine moved_in (Rf := cs ++ vs ++ (cs ++ spare).drop (es.length * 2 + 2)) hO hb ?_ (by omega) (fun x y u hu hm => (keep_setCells (M := fun b j => M0 b j ∨ lc.F b j) (fun j hj => .inr (by have := hF (es.length * 2 + j) (by omega); rwa [← Nat.add_assoc] at this)) x y u hu hm).1) (fun j hj => ?_) (fun x y => frz_setCells) (Fr.setCells b vs _ w fun j hj => by have := hF (es.length * 2 + j) (by omega); rwa [← Nat.add_assoc] at this) (hR _)
            · rw [List.length_append, List.length_append, List.length_drop, List.length_append]; omega
            · have := at_setCells_get (w := w) (b := b) (o := o) (p := es.length * 2) (j := j) (R := cs ++ spare) (vs := vs) (by rw [List.length_append]; omega) (s2 j hj) (fun q hq => hex q (by omega))
              rw [this, hvl, List.take_left' (by omega)]
        · have hhdr : ∃ A : Option Addr, lc.hdr = .slice A es.length (if lc.base = none then 0 else lc.cap) ∧ (A = none → es.length = 0) ∧ (∀ a, A = some a → ∀ j d, cs[j]? = some d → w.cell? (a.add j) = some d) := by
            cases hb : lc.base with
            | none =>
              have := q7 hb
              refine ⟨none, ?_, fun _ => by omega, fun a h => by simp at h⟩
              unfold Loc.hdr; rw [hb]
              simp; omega
            | some p =>
              obtain ⟨b, o⟩ := p
              refine ⟨some ⟨b, o, none⟩, ?_, fun h => by simp at h, fun a ha j d hj => ?_⟩
              · unfold Loc.hdr; rw [hb, q3]; simp
              · simp only [Option.some.injEq] at ha; subst ha
                rw [addr_add]; exact k4 b o hb j d hj
          obtain ⟨A, hh1, hh2, hh3⟩ := hhdr
          rw [hh1]
          have hcapE : (if lc.base = none then 0 else lc.cap) = lc.cap := by
            split
            · rename_i hb; exact (q7 hb).symm
            · rfl
          rw [hcapE]
          refine (ins_end_grow i0 z hin hzz hs2 A es.length lc.cap vb voff vc cs vs w hbig (by omega) (by omega) hroomB (by omega) hvl hh2 hh3 hvc).mono ?_
          rintro e w' ⟨rfl, rfl⟩
          refine ⟨_, rfl, ?_⟩
          have hcp := grownCap_ge w (es.length + 1) lc.cap 44
          generalize grownCap w (es.length + 1) lc.cap 44 = cp at hcp ⊢
          have hvs' : cs.toArray ++ vs.toArray ++ Builtin.zeroCells z.cells (cp - (es.length + 1)) = (cs ++ vs ++ (Builtin.zeroCells z.cells (cp - (es.length + 1))).toList).toArray := by
            apply Array.ext'; simp
          rw [hvs']
          generalize hZ : (Builtin.zeroCells z.cells (cp - (es.length + 1))).toList = Z
          have hZl : Z.length = (cp - (es.length + 1)) * 2 := by rw [← hZ, Array.length_toList, size_zeroCells, hzs]
          have hblk : (w.drew.alloc (.cells (cs ++ vs ++ Z).toArray 44)).heap[w.heap.size]? = some (.cells (cs ++ vs ++ Z).toArray 44 (0, 0)) := heap_alloc_new w.drew _
          rw [← hlen']
          refine moved_new (by omega) hold' (Rf := cs ++ vs ++ Z) ?_ (by omega) (by simp) (fun j => ?_) (fun j => ?_) (unm_alloc w.drew _ _) ((Fr.drew w (fun _ _ => False)).trans (Fr.alloc _ _ _ (fun _ _ => False)) (fun _ _ h => h) (fun _ _ h => h.elim)) (hR _)
          · rw [List.length_append, List.length_append]; omega
          · have := cell_of_row _ w.heap.size j _ 44 (0, 0) hblk
            exact this.trans (List.getElem?_toArray ..)
          · show World.frozen? _ _ = false
            unfold World.frozen?
            simp only [hblk]; simp
      · have hlt : k < es.length := by omega
        cases hb : lc.base with
        | none => have := q7 hb; omega
        | some p =>
          obtain ⟨b, o⟩ := p
          have hhdr : lc.hdr = .slice (some ⟨b, o, none⟩) es.length lc.cap := by unfold Loc.hdr; rw [hb, q3]
          rw [hhdr]
          have hF : ∀ j, j < lc.cap * 2 → lc.F b (o + j) := fun j hj => .inl ⟨o, hb, by omega, by omega⟩
          by_cases hroom : es.length + 1 ≤ lc.cap
          · obtain ⟨spare, s1, s2⟩ := row_all hO k1 hb (k4 b o hb)
            rw [List.length_append] at s1
            have hc2 : (es.length + 1) * 2 ≤ lc.cap * 2 := Nat.mul_le_mul_right _ hroom
            have hex : ∀ j, j < lc.cap * 2 → ∃ c, at_ w b (o + j) = some c := fun j hj => ((q9 b o hb).1 j (by omega)).1
            obtain ⟨c0, hc0⟩ := hex 0 (by omega)
            obtain ⟨tB, kB, hsb, hfe⟩ := q6.2 b o hb (Nat.le_refl _)
            obtain ⟨tB', kB', hsb', hlt'⟩ := shape_of_at hc0
            have ekB : kB = kB' := by rw [hsb] at hsb'; simp only [Option.some.injEq, Prod.mk.injEq] at hsb'; exact hsb'.2
            obtain ⟨tA, kA, hsa, hltA⟩ := shape_of_at (hvc 0 _ (List.getElem?_eq_getElem (by omega)))
            refine (ins_shift i0 hin hs2 b o es.length lc.cap k vb voff vc cs vs w hbig hlt hroom (by omega) hvl (k4 b o hb) (fun j hj => Option.isSome_iff_exists.2 (hex j (by omega))) (fun j hj => ((q9 b o hb).1 j (by omega)).2) hvc (fun j hj e => by
              subst e
              have := hvm j hj
              rcases Nat.lt_or_ge (voff + j) o with h1 | h1
              · exact .inl h1
              · rcases Nat.lt_or_ge (voff + j) (o + lc.cap * 2) with h2 | h2
                · exact absurd (.inr (by have := hF (voff + j - o) (by omega); rwa [show o + (voff + j - o) = voff + j by omega] at this)) this
                · exact .inr (by omega)) k2 h1v tA tB kA kB hsa (by omega) hsb (by omega) hfe).mono ?_
            rintro e w' ⟨rfl, rfl⟩
            refine ⟨_, rfl, ?_⟩
            rw [← hlen']
            have hm1 : ∀ j, j < (cs.drop (k * 2)).length → lc.F b (o + (k + 1) * 2 + j) := fun j hj => by
              have := hF ((k + 1) * 2 + j) (by omega)
              rwa [← Nat.add_assoc] at this
            have hm2 : ∀ j, j < vs.length → lc.F b (o + k * 2 + j) := fun j hj => by
              have := hF (k * 2 + j) (by omega)
              rwa [← Nat.add_assoc] at this
            have hfr1 : Fr lc.F w (w.drew.setCells b (o + (k + 1) * 2) (cs.drop (k * 2))) := (Fr.drew w lc.F).trans (Fr.setCells b _ _ w.drew hm1) (fun _ _ h => h) (fun _ _ h => .inl h)
            have hR1 : ∀ j, j < lc.cap * 2 → at_ (w.drew.setCells b (o + (k + 1) * 2) (cs.drop (k * 2))) b (o + j) = ((cs ++ spare).take ((k + 1) * 2) ++ cs.drop (k * 2) ++ (cs ++ spare).drop ((k + 1) * 2 + (cs.drop (k * 2)).length))[j]? := fun j hj =>
              at_setCells_get (w := w.drew) (by rw [List.length_append]; omega) (s2 j hj) (fun q hq => by have := hex ((k + 1) * 2 + q) (by omega); rwa [← Nat.add_assoc] at this)
            generalize hRest : (cs ++ spare).drop ((k + 1) * 2 + (cs.drop (k * 2)).length) = rest at hR1
            have hrl : rest.length = lc.cap * 2 - (es.length + 1) * 2 := by rw [← hRest, List.length_drop, List.length_append]; omega
            have hpre : ((cs ++ spare).take ((k + 1) * 2)).length = (k + 1) * 2 := by rw [List.length_take, List.length_append]; omega
            generalize hPre : (cs ++ spare).take ((k + 1) * 2) = pre at hR1 hpre
            have hpt : pre.take (k * 2) = cs.take (k * 2) := by
              rw [← hPre, List.take_take, Nat.min_eq_left (by omega), List.take_append_of_le_length (by omega)]
            refine moved_in (Rf := cs.take (k * 2) ++ vs ++ cs.drop (k * 2) ++ rest) hO hb ?_ (by omega) (fun x y u hu hm => ?_) (fun j hj => ?_) (fun x y => by rw [frz_setCells, frz_setCells]; rfl) (hfr1.trans (Fr.setCells b vs _ _ hm2) (fun _ _ h => h) (fun _ _ h => .inl h)) (hR _)
            · simp only [List.length_append]; omega
            · have h1 := (keep_setCells (w := w.drew) (M := fun b j => M0 b j ∨ lc.F b j) (fun j hj => .inr (hm1 j hj)) x y u hu hm).1
              exact (keep_setCells (M := fun b j => M0 b j ∨ lc.F b j) (fun j hj => .inr (hm2 j hj)) x y u h1 hm).1
            · have h2 := at_setCells_get (w := w.drew.setCells b (o + (k + 1) * 2) (cs.drop (k * 2))) (b := b) (o := o) (p := k * 2) (j := j) (vs := vs) (by simp only [List.length_append]; omega) (hR1 j hj) (fun q hq => by
                have h3 := hR1 (k * 2 + q) (by omega)
                rw [← Nat.add_assoc] at h3
                exact ⟨_, h3.trans (List.getElem?_eq_getElem (by simp only [List.length_append]; omega))⟩)
              rw [h2]
              congr 1
              rw [List.append_assoc pre, List.take_append_of_le_length (by omega), hpt, hvl]
              rw [List.drop_left' (l₁ := pre) (by omega)]
              simp only [List.append_assoc]
          · refine (ins_grow i0 z hin hzz hs2 hzs b o es.length lc.cap k vb voff vc cs vs w hbig hlt (by omega) (by omega) hroomB (by omega) hvl (k4 b o hb) hvc k2 h1v).mono ?_
            rintro e w' ⟨rfl, rfl⟩
            refine ⟨_, rfl, ?_⟩
            have hcp := grownCap_ge w (es.length + 1) lc.cap 44
            generalize grownCap w (es.length + 1) lc.cap 44 = cp at hcp ⊢
            generalize hZ1 : Builtin.zeroCells z.cells (es.length + 1 - k) = Z1
            generalize hZ2 : Builtin.zeroCells z.cells (cp - (es.length + 1)) = Z2
            have z1 : Z1.toList.length = (es.length + 1 - k) * 2 := by rw [← hZ1, Array.length_toList, size_zeroCells, hzs]
            have z2 : Z2.toList.length = (cp - (es.length + 1)) * 2 := by rw [← hZ2, Array.length_toList, size_zeroCells, hzs]
            have hvs' : (cs.take (k * 2)).toArray ++ Z1 ++ Z2 = (cs.take (k * 2) ++ Z1.toList ++ Z2.toList).toArray := by
              apply Array.ext'; simp
            rw [hvs', ← hlen']
            have hblk : (w.alloc (.cells (cs.take (k * 2) ++ Z1.toList ++ Z2.toList).toArray 44)).heap[w.heap.size]? = some (.cells (cs.take (k * 2) ++ Z1.toList ++ Z2.toList).toArray 44 (0, 0)) := heap_alloc_new w _
            have hA0 : ∀ j : Nat, at_ (w.alloc (.cells (cs.take (k * 2) ++ Z1.toList ++ Z2.toList).toArray 44)).drew w.heap.size (0 + j) = (cs.take (k * 2) ++ Z1.toList ++ Z2.toList)[j]? := fun j => by
              rw [Nat.zero_add]
              have := cell_of_row _ w.heap.size j _ 44 (0, 0) hblk
              exact this.trans (List.getElem?_toArray ..)
            have hf0 : ∀ j : Nat, frz_ (w.alloc (.cells (cs.take (k * 2) ++ Z1.toList ++ Z2.toList).toArray 44)).drew w.heap.size j = false := fun j => by
              show World.frozen? (w.alloc _) _ = false
              unfold World.frozen?
              simp only [hblk]; simp
            have hW0 : (w.alloc (.cells (cs.take (k * 2) ++ Z1.toList ++ Z2.toList).toArray 44)).drew.heap.size = w.heap.size + 1 := by simp
            have hfr0 : Fr (fun _ _ => False) w (w.alloc (.cells (cs.take (k * 2) ++ Z1.toList ++ Z2.toList).toArray 44)).drew := (Fr.alloc w _ _ (fun _ _ => False)).trans (Fr.drew _ (fun _ _ => False)) (fun _ _ h => h) (fun _ _ h => h.elim)
            have hu0 : Unm (w.alloc (.cells (cs.take (k * 2) ++ Z1.toList ++ Z2.toList).toArray 44)).drew w.heap.size := unm_alloc w _ _
            generalize (w.alloc (.cells (cs.take (k * 2) ++ Z1.toList ++ Z2.toList).toArray 44)).drew = W0 at hA0 hf0 hW0 hfr0 hu0 ⊢
            have hex0 : ∀ j, j < (cs.take (k * 2) ++ Z1.toList ++ Z2.toList).length → ∃ c, at_ W0 w.heap.size j = some c := fun j hj => by
              have := hA0 j
              rw [Nat.zero_add] at this
              exact ⟨_, this.trans (List.getElem?_eq_getElem hj)⟩
            have hA1 : ∀ j : Nat, at_ (W0.setCells w.heap.size (0 + k * 2) vs) w.heap.size (0 + j) = ((cs.take (k * 2) ++ Z1.toList ++ Z2.toList).take (k * 2) ++ vs ++ (cs.take (k * 2) ++ Z1.toList ++ Z2.toList).drop (k * 2 + vs.length))[j]? := fun j =>
              at_setCells_get (by simp only [List.length_append]; omega) (hA0 j) (fun q hq => by rw [Nat.zero_add]; exact hex0 _ (by simp only [List.length_append]; omega))
            have e1 : (cs.take (k * 2) ++ Z1.toList ++ Z2.toList).take (k * 2) = cs.take (k * 2) := by rw [List.append_assoc, List.take_left' htk]
            rw [e1] at hA1
            generalize hD1 : (cs.take (k * 2) ++ Z1.toList ++ Z2.toList).drop (k * 2 + vs.length) = D1 at hA1
            have hd1 : D1.length = (cp - k) * 2 - 2 := by rw [← hD1, List.length_drop]; simp only [List.length_append]; omega
            rw [Nat.zero_add] at hA1
            have hA2 : ∀ j : Nat, at_ ((W0.setCells w.heap.size (k * 2) vs).drew.setCells w.heap.size (0 + (k + 1) * 2) (cs.drop (k * 2))) w.heap.size (0 + j) = ((cs.take (k * 2) ++ vs ++ D1).take ((k + 1) * 2) ++ cs.drop (k * 2) ++ (cs.take (k * 2) ++ vs ++ D1).drop ((k + 1) * 2 + (cs.drop (k * 2)).length))[j]? := fun j =>
              at_setCells_get (by simp only [List.length_append]; omega) (hA1 j) (fun q hq => by
                have := hA1 ((k + 1) * 2 + q)
                rw [← Nat.add_assoc] at this
                exact ⟨_, this.trans (List.getElem?_eq_getElem (by simp only [List.length_append]; omega))⟩)
            have e2 : (cs.take (k * 2) ++ vs ++ D1).take ((k + 1) * 2) = cs.take (k * 2) ++ vs := List.take_left' (by rw [List.length_append]; omega)
            rw [e2] at hA2
            generalize hD2 : (cs.take (k * 2) ++ vs ++ D1).drop ((k + 1) * 2 + (cs.drop (k * 2)).length) = D2 at hA2
            have hd2 : D2.length = (cp - (es.length + 1)) * 2 := by rw [← hD2, List.length_drop]; simp only [List.length_append]; omega
            have hFr1 : Fr (fun b j => b = w.heap.size) W0 ((W0.setCells w.heap.size (k * 2) vs).drew.setCells w.heap.size ((k + 1) * 2) (cs.drop (k * 2))) :=
              ((Fr.setCells w.heap.size vs _ W0 (fun _ _ => rfl)).trans (Fr.drew _ (fun b j => b = w.heap.size)) (fun _ _ h => h) (fun _ _ h => .inl h)).trans (Fr.setCells w.heap.size _ _ _ (fun _ _ => rfl)) (fun _ _ h => h) (fun _ _ h => .inl h)
            simp only [Nat.zero_add] at hA2
            refine moved_new (by omega) hold' (Rf := cs.take (k * 2) ++ vs ++ cs.drop (k * 2) ++ D2) ?_ (by omega) ?_ hA2 (fun j => ?_) (hFr1.unm hu0) (hfr0.trans hFr1 (fun _ _ h => h) (fun b j h => .inr (by omega))) (hR _)
            · simp only [List.length_append]; omega
            · rw [size_setCells]
              show (W0.setCells _ _ _).heap.size = _
              rw [size_setCells, hW0]
            · rw [frz_setCells]
              show frz_ (W0.setCells _ _ _) _ _ = false
              rw [frz_setCells]; exact hf0 j
    · exact absurd h (by simp)
  · exact absurd h (by simp)

end Go.Proofs.YtbnjbianobdleaaGreat.Vm
