/-
  LinesTrim, in the machine.
-/
import Derived.Test.YtpcjlhhhmjgffaaDoorSayTrim
namespace Go.Proofs.YtpcjlhhhmjgffaaDoor.Vm
open Go Go.RowKit
set_option linter.unusedVariables false
set_option linter.unusedSimpArgs false
set_option maxRecDepth 100000

noncomputable def S_law : Specs := specL [(5, g_text), (6, g_trim), (7, g_trim)]

theorem law_w (a : List (List PV)) (raw : List UInt8) (Q : List TV × List TV → Prop) : (wFun C S_law 3 [.pv (.sl a), .pv (.str raw)] Q) (H.n (1 : Nat) (H.b H.auto H.auto)) = ((decide ((↑(List.length raw) : Int) > (200 : Int)) = true → Q ([TV.pv (PV.bool true)], [])) ∧ (decide ((↑(List.length raw) : Int) > (200 : Int)) = false → (∃ (ns : List Int), a = List.map (fun (n : Int) ↦ [PV.int IntKind.i64 n]) ns) ∧ LoopAt C (3 : FuncId) (CP.dn (CP.dn (CP.dn (CP.dn (CP.dn (CP.dn (CP.dn CP.top (1 : Nat)) (1 : Nat)) (1 : Nat)) (1 : Nat)) (0 : Nat)) (1 : Nat)) (0 : Nat)) (St.mk [((5 : Nat), AV.own (10 : Nat)), ((6 : Nat), AV.pv (PV.int IntKind.i64 (0 : Int)))] [((10 : Nat), Obj.buf (1 : Nat) [[PV.str (textF a)], [PV.str raw], [PV.str []], [PV.str [(32 : UInt8), (9 : UInt8), (32 : UInt8)]]])]) (exK (blockK (0 : Nat) (seqK (wAt C S_law (3 : FuncId) (99995 : Nat) (CP.dn (CP.dn (CP.dn (CP.dn (CP.dn CP.top (1 : Nat)) (1 : Nat)) (1 : Nat)) (1 : Nat)) (1 : Nat))) (retK C (3 : FuncId) [TV.pv (PV.sl a), TV.pv (PV.str raw)] Q)))))) := by kernel_rfl

def law_c0 : CP := (CP.dn (CP.dn (CP.dn (CP.dn (CP.dn (CP.dn (CP.dn CP.top (1 : Nat)) (1 : Nat)) (1 : Nat)) (1 : Nat)) (0 : Nat)) (1 : Nat)) (0 : Nat))

def law_h0 (t6 : Int) (o10 : List UInt8) (o10b : List UInt8) (o10c : List UInt8) (o10d : List UInt8) : St := (St.mk [((5 : Nat), AV.own (10 : Nat)), ((6 : Nat), AV.pv (PV.int IntKind.i64 t6))] [((10 : Nat), Obj.buf (1 : Nat) [[PV.str o10], [PV.str o10b], [PV.str o10c], [PV.str o10d]])])

theorem law_l0 (a : List (List PV)) (raw : List UInt8) (t6 : Int) (o10 : List UInt8) (o10b : List UInt8) (o10c : List UInt8) (o10d : List UInt8)  (J0 : St → Prop) (Q : List TV × List TV → Prop) : (wAt C S_law 3 1000 (law_c0.dn 0) (law_h0 t6 o10 o10b o10c o10d) (loopK C 3 law_c0 J0 (exK (blockK (0 : Nat) (seqK (wAt C S_law (3 : FuncId) (99995 : Nat) (CP.dn (CP.dn (CP.dn (CP.dn (CP.dn CP.top (1 : Nat)) (1 : Nat)) (1 : Nat)) (1 : Nat)) (1 : Nat))) (retK C (3 : FuncId) [TV.pv (PV.sl a), TV.pv (PV.str raw)] Q)))))) (H.b (H.s (H.s (H.s (H.s (H.b H.auto (H.n (3 : Nat) (H.b H.auto (H.n (3 : Nat) (H.b H.auto (H.n (2 : Nat) (H.s (H.n (2 : Nat) (H.s (H.n (3 : Nat) (H.s (H.n (1 : Nat) (H.s (H.n (2 : Nat) (H.b H.auto (H.b (H.n (2 : Nat) (H.s (H.n (2 : Nat) (H.b H.auto (H.n (2 : Nat) (H.s (H.n (4 : Nat) (H.b H.auto (H.n (4 : Nat) (H.s (H.s (H.n (4 : Nat) (H.b H.auto (H.n (4 : Nat) (H.s (H.s (H.n (4 : Nat) (H.b H.auto H.auto)))))))))))))))))) H.auto)))))))))))))))))))) H.auto) = ((decide (t6 < (4 : Int)) = true → ((0 : Int) ≤ t6 ∧ t6 < (↑(4 : Nat) : Int)) ∧ ∃ (c : List PV), [[PV.str o10], [PV.str o10b], [PV.str o10c], [PV.str o10d]][Int.toNat t6]? = some c ∧ (1 : Nat) ≤ List.length c ∧ ∃ (s : List UInt8), List.take (1 : Nat) c = [PV.str s] ∧ List.length s ≤ (1000 : Nat) ∧ ((0 : Int) ≤ t6 ∧ t6 < (↑(4 : Nat) : Int)) ∧ ∃ (c : List PV), [[PV.str o10], [PV.str o10b], [PV.str o10c], [PV.str o10d]][Int.toNat t6]? = some c ∧ (1 : Nat) ≤ List.length c ∧ ∃ (s_1 : List UInt8), List.take (1 : Nat) c = [PV.str s_1] ∧ List.length s_1 ≤ (1000 : Nat) ∧ ((!frF s == frF s_1) = true → ∃ (h : H), Q ([TV.pv (PV.bool false)], [])) ∧ ((!frF s == frF s_1) = false → ((!miF s == miF s_1) = true → ∃ (h : H), Q ([TV.pv (PV.bool false)], [])) ∧ ((!miF s == miF s_1) = false → ((!baF s == baF s_1) = true → ∃ (h : H), Q ([TV.pv (PV.bool false)], [])) ∧ ((!baF s == baF s_1) = false → List.length (frF s) + List.length (miF s) ≤ maxInt ∧ List.length (frF s ++ miF s) + List.length (baF s) ≤ maxInt ∧ ((0 : Int) ≤ t6 ∧ t6 < (↑(4 : Nat) : Int)) ∧ ∃ (c : List PV), [[PV.str o10], [PV.str o10b], [PV.str o10c], [PV.str o10d]][Int.toNat t6]? = some c ∧ (1 : Nat) ≤ List.length c ∧ ∃ (s_2 : List UInt8), List.take (1 : Nat) c = [PV.str s_2] ∧ ((!frF s ++ miF s ++ baF s == s_2) = true → ∃ (h : H), Q ([TV.pv (PV.bool false)], [])) ∧ ((!frF s ++ miF s ++ baF s == s_2) = false → (decide ((↑(List.length (miF s)) : Int) > (0 : Int)) = true → ∃ (c : UInt8), (miF s)[(0 : Nat)]? = some c ∧ (((↑(UInt8.toNat c) : Int) == (32 : Int)) = true → ∃ (h : H), Q ([TV.pv (PV.bool false)], [])) ∧ (((↑(UInt8.toNat c) : Int) == (32 : Int)) = false → ∃ (c : UInt8), (miF s)[(0 : Nat)]? = some c ∧ (((↑(UInt8.toNat c) : Int) == (9 : Int)) = true → ∃ (h : H), Q ([TV.pv (PV.bool false)], [])) ∧ (((↑(UInt8.toNat c) : Int) == (9 : Int)) = false → (0 : Int) ≤ IntKind.wrap IntKind.i64 ((↑(List.length (miF s)) : Int) - (1 : Int)) ∧ ∃ (c : UInt8), (miF s)[Int.toNat (IntKind.wrap IntKind.i64 ((↑(List.length (miF s)) : Int) - (1 : Int)))]? = some c ∧ (((↑(UInt8.toNat c) : Int) == (32 : Int)) = true → ∃ (h : H), Q ([TV.pv (PV.bool false)], [])) ∧ (((↑(UInt8.toNat c) : Int) == (32 : Int)) = false → (0 : Int) ≤ IntKind.wrap IntKind.i64 ((↑(List.length (miF s)) : Int) - (1 : Int)) ∧ ∃ (c : UInt8), (miF s)[Int.toNat (IntKind.wrap IntKind.i64 ((↑(List.length (miF s)) : Int) - (1 : Int)))]? = some c ∧ (((↑(UInt8.toNat c) : Int) == (9 : Int)) = true → ∃ (h : H), Q ([TV.pv (PV.bool false)], [])) ∧ (((↑(UInt8.toNat c) : Int) == (9 : Int)) = false → J0 (St.mk [((5 : Nat), AV.own (10 : Nat)), ((6 : Nat), AV.pv (PV.int IntKind.i64 (IntKind.wrap IntKind.i64 (t6 + (1 : Int)))))] [((10 : Nat), Obj.buf (1 : Nat) [[PV.str o10], [PV.str o10b], [PV.str o10c], [PV.str o10d]])])))))) ∧ (decide ((↑(List.length (miF s)) : Int) > (0 : Int)) = false → J0 (St.mk [((5 : Nat), AV.own (10 : Nat)), ((6 : Nat), AV.pv (PV.int IntKind.i64 (IntKind.wrap IntKind.i64 (t6 + (1 : Int)))))] [((10 : Nat), Obj.buf (1 : Nat) [[PV.str o10], [PV.str o10b], [PV.str o10c], [PV.str o10d]])]))))))) ∧ (decide (t6 < (4 : Int)) = false → ∃ (h : H), Q ([TV.pv (PV.bool true)], []))) := by kernel_rfl

theorem law_specs : SpecOK C S_law := specL_ok (specs_cons text_ok (specs_cons (trim_ok lt_ev) (specs_cons (trim_ok ft_ev) specs_nil)))

theorem four_str (x1 x2 x3 x4 : List UInt8) {i : Nat} (h : i < 4) : ∃ b ∈ [x1, x2, x3, x4], [[PV.str x1], [PV.str x2], [PV.str x3], [PV.str x4]][Int.toNat (i : Int)]? = some [PV.str b] := by
  have hl : i < [x1, x2, x3, x4].length := h
  refine ⟨[x1, x2, x3, x4][i], List.getElem_mem hl, ?_⟩
  have : [[PV.str x1], [PV.str x2], [PV.str x3], [PV.str x4]] = [x1, x2, x3, x4].map fun b => [PV.str b] := rfl
  rw [this, Int.toNat_natCast, List.getElem?_map, List.getElem?_eq_getElem hl]; rfl

theorem blC_no {c : UInt8} (h : blC c = false) : ((c.toNat : Int) == 32) = false ∧ ((c.toNat : Int) == 9) = false := by
  have hb := blI_c c
  rw [h, blI, Bool.or_eq_false_iff] at hb
  exact hb

theorem law_ev (ns : List Int) (raw : List UInt8) : Ev C 3 [.pv (.sl (ns.map fun n => [.int .i64 n])), .pv (.str raw)] good := by
  have hm := maxInt_val
  refine ev_w law_specs (law_w _ raw _) ⟨fun _ => rfl, fun h1 => ⟨⟨ns, rfl⟩, ?_⟩⟩
  simp only [gt_iff_lt, decide_eq_false_iff_not] at h1
  have hT := (textF_spec ns).2
  generalize textF (ns.map fun n => [.int .i64 n]) = tx at *
  refine loop_rule law_specs (by kernel_rfl) 1000 (fun n st => ∃ i : Nat, st = law_h0 i tx raw [] [32, 9, 32] ∧ i ≤ 4 ∧ n = 4 - i) ?_ (n := 4) ⟨0, rfl, by omega, rfl⟩
  rintro n st ⟨i, rfl, hi, rfl⟩
  refine ex_w (law_l0 _ _ _ _ _ _ _ _ _) ⟨fun g => ?_, fun g => ⟨.auto, rfl⟩⟩
  simp only [decide_eq_true_eq] at g
  have hi' : i < 4 := by omega
  obtain ⟨s, hmem, hg⟩ := four_str tx raw [] [32, 9, 32] hi'
  have hs : s.length ≤ 1000 := by
    simp only [List.mem_cons, List.not_mem_nil, or_false] at hmem
    rcases hmem with rfl | rfl | rfl | rfl
    · exact hT
    · omega
    · simp
    · simp
  have hsum := trim_sum s
  have hlen := congrArg List.length hsum
  simp only [List.length_append] at hlen
  have w1 := w64s (i := i) (by omega)
  have hin : (0 : Int) ≤ i ∧ (i : Int) < ((4 : Nat) : Int) := ⟨by omega, by omega⟩
  have nxt : ∃ m, m < 4 - i ∧ ∃ j : Nat, law_h0 (IntKind.wrap .i64 ((i : Int) + 1)) tx raw [] [32, 9, 32] = law_h0 j tx raw [] [32, 9, 32] ∧ j ≤ 4 ∧ m = 4 - j := ⟨4 - (i + 1), by omega, i + 1, by rw [w1], by omega, rfl⟩
  obtain ⟨k, m, q1, q2, e1, e2, e3, f1, f2⟩ := trim_ex s
  have ml : (miF s).length = m - k := by rw [e2, List.length_take, List.length_drop]; omega
  refine ⟨hin, _, hg, by simp, s, rfl, hs, hin, _, hg, by simp, s, rfl, hs, fun h => absurd h (by simp), fun _ => ⟨fun h => absurd h (by simp), fun _ => ⟨fun h => absurd h (by simp), fun _ => ⟨by omega, by rw [List.length_append]; omega, hin, _, hg, by simp, s, rfl, fun h => by rw [hsum] at h; exact absurd h (by simp), fun _ => ⟨fun h => ?_, fun _ => nxt⟩⟩⟩⟩⟩
  simp only [gt_iff_lt, decide_eq_true_eq] at h
  have hpos : 0 < m - k := by omega
  have hk1 : k < s.length := by omega
  have hm1 : m - 1 < s.length := by omega
  have g0 : (miF s)[0]? = some s[k] := by
    rw [e2, List.getElem?_take_of_lt hpos, List.getElem?_drop, Nat.add_zero, List.getElem?_eq_getElem hk1]
  have w2 : IntKind.wrap .i64 (((miF s).length : Int) - 1) = ((m - k - 1 : Nat) : Int) := by rw [ml, w64 (by omega)]; omega
  have gl : (miF s)[Int.toNat ((m - k - 1 : Nat) : Int)]? = some s[m - 1] := by
    rw [Int.toNat_natCast, e2, List.getElem?_take_of_lt (by omega), List.getElem?_drop, show k + (m - k - 1) = m - 1 by omega, List.getElem?_eq_getElem hm1]
  have n0 := blC_no (f1 s[k] (by omega) (List.getElem?_eq_getElem hk1))
  have nl := blC_no (f2 s[m - 1] (by omega) (List.getElem?_eq_getElem hm1))
  rw [w2]
  refine ⟨s[k], g0, fun h => ?_, fun _ => ⟨s[k], g0, fun h => ?_, fun _ => ⟨by omega, s[m - 1], gl, fun h => ?_, fun _ => ⟨by omega, s[m - 1], gl, fun h => ?_, fun _ => nxt⟩⟩⟩⟩
  · rw [n0.1] at h; exact absurd h (by decide)
  · rw [n0.2] at h; exact absurd h (by decide)
  · rw [nl.1] at h; exact absurd h (by decide)
  · rw [nl.2] at h; exact absurd h (by decide)

theorem LinesTrim_calls {q : Prop} (ns : List Int) (_hn : q) (raw : List UInt8) (hr' : raw.length ≤ 140737488351232) {w : World} {args : List Value} (hr : RepA w noCells [.sl (ns.map fun n => [.int .i64 n]), .str raw] args) : Calls Tryd.prog 3 args.toArray w fun e w' => e = .returned (.bool true) ∧ Below w.heap.size w w' := by
  obtain ⟨k, h⟩ := (law_ev ns raw).get
  exact law_calls (C := C) progOKp Tryd.func3 (by kernel_rfl) (sound h) hr

end Go.Proofs.YtpcjlhhhmjgffaaDoor.Vm
