/-
  slices.Delete of one edge: the library's own text, walked; its contract.
-/
import Derived.Test.YtbnjbianobdleaaGreatVmInsW
namespace Go.Proofs.YtbnjbianobdleaaGreat.Vm
open Go Go.RowKit Go.Lib Go.Shelf
set_option linter.unusedVariables false
set_option linter.unusedSimpArgs false
set_option maxRecDepth 100000

theorem ins_app {w : World} {o : Oper} {a : Act} {K : Act → World → Prop} {Q : Exit → Act → World → Prop} {P : Program} (d s : Operand) (t t' : TypeId)
    (ho : o.op = .call { callee := .builtin .append, args := #[d, s], argTypes := #[t, t'] }) (v u : Value) (hd : a.eval d = v) (hs : a.eval s = u) {v' : Value} {w' : World}
    (hr : (Builtin.append_ #[t, t'] o.type #[v, u]).run P w = .ok v' w') (h : K (a.put o.dst v') w') : o.wp P a w K Q := by
  unfold Oper.wp execOp
  simp only [ho, resolve, invoke, builtin, Sem.run_bind, Sem.run_pure, Result.andThen_ok, List.map_toArray, List.map_cons, List.map_nil, hd, hs, hr]
  exact h
theorem ins_appS {P : Program} {ops : Array Oper} {o : Oper} {a : Act} {w : World} {K : Act → World → Prop} {Q : Exit → Act → World → Prop} {E : Prop}
    (hg : o.guard = none) (d x : Operand) (dT sT : TypeId) (hop : o.op = Op.call { callee := Callee.builtin Builtin.append, args := #[d, x], argTypes := #[dT, sT] })
    (v u : Value) (hd : a.eval d = v) (hx : a.eval x = u) {v' : Value} {w' : World} (hr : (Builtin.append_ #[dT, sT] o.type #[v, u]).run P w = .ok v' w') (hK : K (a.put o.dst v') w') :
    if Region.wanted o (yielded ops a.tmps) = true then Oper.wp P o a w K Q else E := by
  have hw : Region.wanted o (yielded ops a.tmps) = true := by simp [Region.wanted, hg]
  rw [if_pos hw]
  exact ins_app d x dT sT hop v u hd hx hr hK

theorem run_clear_k {P : Program} (w : World) (t e ty : TypeId) (z : Value) (ht : P.underlying t = some (.slice e)) (hv : ∀ w, (zeroValue e).run P w = .ok z w) (b o n c : Nat) (hn : 0 < n) (vs : List Value) (hvs : (Builtin.zeroCells z.cells n).toList = vs) (h1 : ∀ v ∈ vs, v.oneCell' = true)
    (hc : ∀ j, j < vs.length → (w.cell? ⟨b, o + j, none⟩).isSome = true) (hf : ∀ j, j < vs.length → w.frozen? ⟨b, o + j, none⟩ = false) :
    (Builtin.clear_ #[t] ty #[.slice (some ⟨b, o, none⟩) n c]).run P w = .ok (.tuple #[]) (w.setCells b o vs) := by
  have hst := run_storeCells_cells (P := P) b o vs 0 w (by simpa using hc) (by simpa using hf) h1
  simp only [Nat.add_zero] at hst
  obtain ⟨m, rfl⟩ : ∃ m, n = m + 1 := ⟨n - 1, by omega⟩
  simp [Builtin.clear_, run_underlying ht, hv, hvs, hst]

set_option maxHeartbeats 4000000 in
theorem del_one (i0 : TypeInfo) (z : Value) (hi0 : Tryz.prog.info? 44 = some i0) (hz0 : i0.zero = some z) (hs2 : i0.size = 2) (hzc : (Builtin.zeroCells z.cells 1).toList = [.string ⟨#[]⟩, .slice none 0 0]) (b off q c i : Nat) (cs : List Value) (w : World) (hn : q ≤ 4000000) (hi : i ≤ q) (hnc : q + 1 ≤ c)
    (hcl : cs.length = (q + 1) * 2) (hcs : ∀ j v, cs[j]? = some v → w.cell? ⟨b, off + j, none⟩ = some v) (hsp : ∀ j, j < (q + 1) * 2 → (w.cell? ⟨b, off + j, none⟩).isSome = true) (hfz : ∀ j, j < (q + 1) * 2 → w.frozen? ⟨b, off + j, none⟩ = false) (h1c : ∀ v ∈ cs, v.oneCell' = true) :
    Calls Tryz.prog 115 #[.slice (some ⟨b, off, none⟩) (q + 1 : Nat) c, .int .i64 i, .int .i64 ((i : Int) + 1)] w fun e w' =>
      e = .returned (.slice (some ⟨b, off, none⟩) q c) ∧ w' = (w.drew.setCells b (off + i * 2) (cs.drop ((i + 1) * 2))).setCells b (off + q * 2) [.string ⟨#[]⟩, .slice none 0 0] := by
  have zE : ∀ w, (Go.sizeOf 44).run Tryz.prog w = .ok 2 w := fun w => by simp [Go.sizeOf, typeInfo, hi0, hs2]
  have vE : ∀ w, (zeroValue 44).run Tryz.prog w = .ok z w := fun w => by simp [zeroValue, typeInfo, hi0, hz0]
  have mixed : Tryz.prog.follows Departure.mixedOrders = true := by kernel_rfl
  have hdl : (cs.drop ((i + 1) * 2)).length = (q - i) * 2 := by rw [List.length_drop, hcl]; omega
  obtain ⟨A, hA, hsrc⟩ : ∃ A : Addr, (if c = i + 1 then (some ⟨b, off, none⟩ : Option Addr) else some ⟨b, off + (i + 1) * 2, none⟩) = some A ∧ ∀ t u, (cs.drop ((i + 1) * 2))[t]? = some u → w.drew.cell? (A.add t) = some u := by
    by_cases h : c = i + 1
    · refine ⟨⟨b, off, none⟩, by simp [h], fun t u hu => ?_⟩
      have := (List.getElem?_eq_some_iff.1 hu).1
      omega
    · refine ⟨⟨b, off + (i + 1) * 2, none⟩, by simp [h], fun t u hu => ?_⟩
      rw [Addr.add_lit, Nat.add_assoc]
      rw [List.getElem?_drop] at hu
      exact hcs _ u hu
  have happ : ∀ ty, (Builtin.append_ #[32, 32] ty #[.slice (some ⟨b, off, none⟩) i c, .slice (some A) (q - i) (c - (i + 1))]).run Tryz.prog w.drew = .ok (.slice (some ⟨b, off, none⟩) q c) (w.drew.setCells b (off + i * 2) (cs.drop ((i + 1) * 2))) := fun ty => by
    have := run_append_in (P := Tryz.prog) (w := w.drew) (ty := ty) Tryz.underlying32 hi0 (.inr ⟨_, Tryz.underlying32⟩) (y := .slice (some A) (q - i) (c - (i + 1))) (m := q - i) (news := cs.drop ((i + 1) * 2)) rfl
      (by rw [hs2]; exact run_firstCells_some w.drew 2 (q - i) A (q - i) (c - (i + 1)) _ hdl hsrc) (fun v hv => h1c v (List.mem_of_mem_drop hv)) (b := b) (off := off) (n := i) (cap := c) (by omega) (by rw [hs2, hdl]; intro j hj; rw [Nat.add_assoc]; exact hsp _ (by omega)) (by rw [hs2, hdl]; intro j hj; rw [Nat.add_assoc]; exact hfz _ (by omega))
    rw [hs2, show i + (q - i) = q by omega] at this; exact this
  obtain ⟨W1, hW1⟩ : ∃ W1, W1 = w.drew.setCells b (off + i * 2) (cs.drop ((i + 1) * 2)) := ⟨_, rfl⟩
  have hsp1 : ∀ k, k < (q + 1) * 2 → (W1.cell? ⟨b, off + k, none⟩).isSome = true := fun k hk => by
    rw [hW1]
    exact isSome_setC b _ _ _ (fun j hj => by rw [Nat.add_assoc]; exact hsp _ (by omega)) _ (hsp k hk)
  have hcl1 : ∀ ty, (Builtin.clear_ #[32] ty #[.slice (some ⟨b, off + q * 2, none⟩) 1 (c - q)]).run Tryz.prog W1 = .ok (.tuple #[]) (W1.setCells b (off + q * 2) [.string ⟨#[]⟩, .slice none 0 0]) := fun ty =>
    run_clear_k W1 _ _ ty z Tryz.underlying32 vE b (off + q * 2) 1 (c - q) (by omega) _ hzc (by intro v hv; simp only [List.mem_cons, List.not_mem_nil, or_false] at hv; rcases hv with rfl | rfl <;> rfl)
      (fun j hj => by rw [Nat.add_assoc]; exact hsp1 _ (by simp only [List.length_cons, List.length_nil] at hj; omega)) (fun j hj => by rw [hW1, World.frozen?_setCells, Nat.add_assoc]; exact hfz _ (by simp only [List.length_cons, List.length_nil] at hj; omega))
  rw [← hW1] at happ ⊢
  clear hW1
  have hq1 : (i : Int) ≤ (i : Int) + 1 := by omega
  have hq2 : (i : Int) + 1 ≤ (q : Int) + 1 := by omega
  have hq3 : ¬ ((i : Int) = (i : Int) + 1) := by omega
  have hq4 : ((i : Int) + 1).toNat = i + 1 := by omega
  have hq5 : (0 : Int) ≤ (i : Int) + 1 := by omega
  have hq6 : (i : Int) ≤ (q : Int) + 1 := by omega
  have hq7 : ¬ (c = q) := by omega
  have hq8 : (q : Int) ≤ (q : Int) + 1 := by omega
  have hq9 : (i : Int) ≤ (c : Int) := by omega
  have hq10 : (q : Int) + 1 ≤ (c : Int) := by omega
  have hq11 : ¬ (c = i) := by omega
  go_enter Tryz.func115, Tryz.ntmps115
  go_wp2_with fail
  go_region_law_o (refine ins_appS rfl _ _ 32 32 rfl _ _ (by simp [Act.eval, Act.put]) (by simp [Act.eval, Act.put]) (happ _) ?_)
  go_wp2
  go_ret
  exact ⟨rfl, rfl⟩

def xDelete : List TV → Option (List TV × List TV)
  | [.own 2 es, .pv (.int .i64 i), .pv (.int .i64 j)] => if 0 ≤ i ∧ i.toNat < es.length ∧ es.length ≤ 4000000 ∧ j = i + 1 then some ([.own 2 (es.take i.toNat ++ es.drop (i.toNat + 1))], []) else none
  | _ => none

theorem zeroEdgeV : zeroV Tryz.prog 44 = some [.string ⟨#[]⟩, .slice none 0 0] := by kernel_rfl

set_option maxHeartbeats 1000000 in
theorem c_delete (ms : List Mode) (hms : ms.headD .borrow ≠ .mut) (ag rs fs : List TV) (h : xDelete ag = some (rs, fs)) : Contract Tryz.prog ms 115 ag rs fs := by
  unfold xDelete at h
  split at h
  · rename_i es i j
    split at h
    · rename_i hc
      obtain ⟨hi0, hie, hbig, rfl⟩ := hc
      simp only [Option.some.injEq, Prod.mk.injEq] at h; obtain ⟨rfl, rfl⟩ := h
      obtain ⟨i0, z, hin, hzz, hzl, hl⟩ := zeroV_eq zeroEdgeV
      have hs2 : i0.size = 2 := by have := sizeEdge; simpa [sizeT, hin] using this
      have hzc : (Builtin.zeroCells z.cells 1).toList = [.string ⟨#[]⟩, .slice none 0 0] := by
        have : z.cells = #[.string ⟨#[]⟩, .slice none 0 0] := by apply Array.ext'; simpa using hzl
        rw [this]; simp [Builtin.zeroCells]; rfl
      obtain ⟨k, rfl⟩ : ∃ k : Nat, i = k := ⟨i.toNat, by omega⟩
      rw [Int.toNat_natCast] at hie ⊢
      refine contract_moved (xs := [.int .i64 k, .int .i64 ((k : Int) + 1)]) hms ?_
      intro w M0 lc args hO hx hold hM0
      unfold Invokes
      rw [enters Tryz.func115 (by kernel_rfl) rfl]
      simp only [RepA, Rep] at hx
      obtain ⟨c1, r1, rfl, rfl, c2, r2, rfl, rfl, rfl⟩ := hx
      have hO2 := hO
      simp only [ObjR] at hO2
      obtain ⟨q1, q2, q3, q4, q5, q6, q7, q8, q9⟩ := hO2
      obtain ⟨cs, k1, k2, k3, k4⟩ := old_cells hO
      cases hb : lc.base with
      | none => have := q7 hb; omega
      | some p =>
        obtain ⟨b, o⟩ := p
        obtain ⟨q, hq⟩ : ∃ q, es.length = q + 1 := ⟨es.length - 1, by omega⟩
        have hhdr : lc.hdr = .slice (some ⟨b, o, none⟩) (q + 1 : Nat) lc.cap := by unfold Loc.hdr; rw [hb, q3, hq]
        rw [hhdr]
        have hF : ∀ j, j < lc.cap * 2 → lc.F b (o + j) := fun j hj => .inl ⟨o, hb, by omega, by omega⟩
        obtain ⟨spare, s1, s2⟩ := row_all hO k1 hb (k4 b o hb)
        rw [List.length_append] at s1
        have hc2 : (q + 1) * 2 ≤ lc.cap * 2 := Nat.mul_le_mul_right _ (by omega)
        have hex : ∀ j, j < lc.cap * 2 → ∃ c, at_ w b (o + j) = some c := fun j hj => ((q9 b o hb).1 j (by omega)).1
        have hck : (cs.take (k * 2)).length = (es.take k).length * 2 := by rw [List.length_take, List.length_take]; omega
        have hR : ∀ rest, RowS w (fun b j => M0 b j ∨ lc.F b j) 2 (es.take k ++ es.drop (k + 1)) (cs.take (k * 2) ++ cs.drop ((k + 1) * 2) ++ rest) := fun rest => RowS.append (k3.take k) (k3.drop (k + 1)) hck rest
        have hlen' : (es.take k ++ es.drop (k + 1)).length = q := by simp; omega
        have hdk : (cs.drop ((k + 1) * 2)).length = (q - k) * 2 := by rw [List.length_drop]; omega
        have htk : (cs.take (k * 2)).length = k * 2 := by rw [List.length_take]; omega
        refine (del_one i0 z hin hzz hs2 hzc b o q lc.cap k cs w (by omega) (by omega) (by omega) (by omega) (k4 b o hb) (fun j hj => Option.isSome_iff_exists.2 (hex j (by omega))) (fun j hj => ((q9 b o hb).1 j (by omega)).2) k2).mono ?_
        rintro e w' ⟨rfl, rfl⟩
        refine ⟨_, rfl, ?_⟩
        rw [← hlen']
        have hm1 : ∀ j, j < (cs.drop ((k + 1) * 2)).length → lc.F b (o + k * 2 + j) := fun j hj => by
          have := hF (k * 2 + j) (by omega)
          rwa [← Nat.add_assoc] at this
        have hm2 : ∀ j, j < ([.string ⟨#[]⟩, .slice none 0 0] : List Value).length → lc.F b (o + q * 2 + j) := fun j hj => by
          have hj : j < 2 := hj
          have := hF (q * 2 + j) (by omega)
          rwa [← Nat.add_assoc] at this
        have hfr1 : Fr lc.F w (w.drew.setCells b (o + k * 2) (cs.drop ((k + 1) * 2))) := (Fr.drew w lc.F).trans (Fr.setCells b _ _ w.drew hm1) (fun _ _ h => h) (fun _ _ h => .inl h)
        have hR1 : ∀ j, j < lc.cap * 2 → at_ (w.drew.setCells b (o + k * 2) (cs.drop ((k + 1) * 2))) b (o + j) = ((cs ++ spare).take (k * 2) ++ cs.drop ((k + 1) * 2) ++ (cs ++ spare).drop (k * 2 + (cs.drop ((k + 1) * 2)).length))[j]? := fun j hj =>
          at_setCells_get (w := w.drew) (by rw [List.length_append]; omega) (s2 j hj) (fun q hq => by have := hex (k * 2 + q) (by omega); rwa [← Nat.add_assoc] at this)
        have hpt : (cs ++ spare).take (k * 2) = cs.take (k * 2) := List.take_append_of_le_length (by omega)
        rw [hpt] at hR1
        generalize hRest : (cs ++ spare).drop (k * 2 + (cs.drop ((k + 1) * 2)).length) = rest at hR1
        have hrl : rest.length = lc.cap * 2 - q * 2 := by rw [← hRest, List.length_drop, List.length_append]; omega
        have hzl2 : ([.string ⟨#[]⟩, .slice none 0 0] : List Value).length = 2 := rfl
        generalize ([.string ⟨#[]⟩, .slice none 0 0] : List Value) = zs at hm2 hzl2 ⊢
        have hfrz : ∀ x y, frz_ ((w.drew.setCells b (o + k * 2) (cs.drop ((k + 1) * 2))).setCells b (o + q * 2) zs) x y = frz_ w x y := fun x y => by rw [frz_setCells, frz_setCells]; rfl
        refine moved_in (Rf := cs.take (k * 2) ++ cs.drop ((k + 1) * 2) ++ (zs ++ rest.drop 2)) hO hb ?_ (by omega) (fun x y u hu hm => ?_) (fun j hj => ?_) ?_ (hfr1.trans (Fr.setCells b zs _ _ (by rw [hlen']; exact hm2)) (fun _ _ h => h) (fun _ _ h => .inl h)) (hR _)
        · simp only [List.length_append, List.length_drop] at *; omega
        · have h1 := (keep_setCells (w := w.drew) (M := fun b j => M0 b j ∨ lc.F b j) (fun j hj => .inr (hm1 j hj)) x y u hu hm).1
          exact (keep_setCells (M := fun b j => M0 b j ∨ lc.F b j) (fun j hj => .inr (by rw [hlen']; exact hm2 j hj)) x y u h1 hm).1
        · have h2 := at_setCells_get (w := w.drew.setCells b (o + k * 2) (cs.drop ((k + 1) * 2))) (b := b) (o := o) (p := q * 2) (j := j) (vs := zs) (by simp only [List.length_append]; omega) (hR1 j hj) (fun q' hq' => by
            have h3 := hR1 (q * 2 + q') (by omega)
            rw [← Nat.add_assoc] at h3
            exact ⟨_, h3.trans (List.getElem?_eq_getElem (by simp only [List.length_append]; omega))⟩)
          rw [hlen', h2]
          congr 1
          rw [List.take_left' (by rw [List.length_append]; omega), ← List.drop_drop, List.drop_left' (by rw [List.length_append]; omega), hzl2, List.append_assoc _ zs]
        · rw [hlen']; exact hfrz
    · exact absurd h (by simp)
  · exact absurd h (by simp)

end Go.Proofs.YtbnjbianobdleaaGreat.Vm
