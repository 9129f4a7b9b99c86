/-
  Paths by numbers; what is got, put, dropped, by rows; in the machine.
-/
import Derived.Test.YtmjkdghcfihfiaaSayTreePut
namespace Go.Proofs.Ytmjkdghcfihfiaa.Vm
open Go Go.RowKit
set_option linter.unusedVariables false
set_option linter.unusedSimpArgs false
set_option maxRecDepth 100000

/-! ### Paths by numbers -/
def pathF (a ns : List (List PV)) (p : List (List UInt8)) : Prop := p.length ≤ 6 ∧ Ev C 27 [.pv (.sl a), .pv (.sl ns)] ([.own 1 (p.map strRow)], [])
noncomputable def pathR (a ns : List (List PV)) : List (List PV) := @dite _ (∃ p, pathF a ns p) (Classical.propDecidable _) (fun h => h.choose.map strRow) (fun _ => [])

def rawO (ns : List (List PV)) : Prop := ∃ l : List Int, ns = l.map fun n => [.int .i64 n]

theorem wt_w (a n : Int) (Q : List TV × List TV → Prop) : (wFun C noSpec 13 [.pv (.int .i64 a), .pv (.int .i64 n)] Q) (H.s (H.b H.auto H.auto)) = (¬n = (0 : Int) ∧ (decide (Int.tmod a n < (0 : Int)) = true → Q ([TV.pv (PV.int IntKind.i64 (IntKind.wrap IntKind.i64 (Int.tmod a n + n)))], [])) ∧ (decide (Int.tmod a n < (0 : Int)) = false → Q ([TV.pv (PV.int IntKind.i64 (Int.tmod a n))], []))) := by kernel_rfl

theorem within_ev (a n : Int) (hn : ¬ n = 0) : Ev C 13 [.pv (.int .i64 a), .pv (.int .i64 n)] ([.pv (.int .i64 (wi a n))], []) := by
  refine ev_w noSpec_ok (wt_w a n _) ⟨hn, fun h => ?_, fun h => ?_⟩
  · simp only [decide_eq_true_eq] at h; simp [wi, h]
  · simp only [decide_eq_false_iff_not] at h; simp [wi, h]

noncomputable def S_pa : Specs := specL [(33, g_kid), (13, g_within)]

theorem pa_w (a ns : List (List PV)) (Q : List TV × List TV → Prop) : (wFun C S_pa 27 [.pv (.sl a), .pv (.sl ns)] Q) (H.auto) = (LoopAt C (27 : FuncId) (CP.dn (CP.dn (CP.dn (CP.dn (CP.dn CP.top (1 : Nat)) (1 : Nat)) (0 : Nat)) (1 : Nat)) (0 : Nat)) (St.mk [((0 : Nat), AV.pv (PV.sl a)), ((1 : Nat), AV.pv (PV.sl ns)), ((5 : Nat), AV.own (10 : Nat)), ((6 : Nat), AV.pv (PV.int IntKind.i64 (0 : Int)))] [((10 : Nat), Obj.buf (1 : Nat) [])]) (exK (blockK (0 : Nat) (seqK (wAt C S_pa (27 : FuncId) (99997 : Nat) (CP.dn (CP.dn (CP.dn CP.top (1 : Nat)) (1 : Nat)) (1 : Nat))) (retK C (27 : FuncId) [TV.pv (PV.sl a), TV.pv (PV.sl ns)] Q))))) := by kernel_rfl

def pa_c0 : CP := (CP.dn (CP.dn (CP.dn (CP.dn (CP.dn CP.top (1 : Nat)) (1 : Nat)) (0 : Nat)) (1 : Nat)) (0 : Nat))

def pa_h0 (t0 : List (List PV)) (t1 : List (List PV)) (t6 : Int) (o10 : List (List PV)) : St := (St.mk [((0 : Nat), AV.pv (PV.sl t0)), ((1 : Nat), AV.pv (PV.sl t1)), ((5 : Nat), AV.own (10 : Nat)), ((6 : Nat), AV.pv (PV.int IntKind.i64 t6))] [((10 : Nat), Obj.buf (1 : Nat) o10)])

theorem pa_l0 (a ns : List (List PV)) (t0 : List (List PV)) (t1 : List (List PV)) (t6 : Int) (o10 : List (List PV))  (J0 : St → Prop) (Q : List TV × List TV → Prop) : (wAt C S_pa 27 1000 (pa_c0.dn 0) (pa_h0 t0 t1 t6 o10) (loopK C 27 pa_c0 J0 (exK (blockK (0 : Nat) (seqK (wAt C S_pa (27 : FuncId) (99997 : Nat) (CP.dn (CP.dn (CP.dn CP.top (1 : Nat)) (1 : Nat)) (1 : Nat))) (retK C (27 : FuncId) [TV.pv (PV.sl a), TV.pv (PV.sl ns)] Q)))))) (H.b (H.n (2 : Nat) (H.b (H.s (H.s (H.b (H.s (H.s (H.n (1 : Nat) (H.s (H.s (H.s (H.n (1 : Nat) (H.s (H.s H.auto))))))))) (H.s (H.s (H.s (H.n (1 : Nat) (H.s (H.s H.auto))))))))) H.auto)) H.auto) = ((decide (t6 < (↑(List.length t1) : Int)) = true → (decide (t6 < (6 : Int)) = true → (0 : Int) ≤ t6 ∧ ∃ (n : Int), t1[Int.toNat t6]? = some [PV.int IntKind.i64 n] ∧ ¬IntKind.wrap IntKind.i64 ((↑(List.length t0) : Int) + (1 : Int)) = (0 : Int) ∧ ((wi n (IntKind.wrap IntKind.i64 ((↑(List.length t0) : Int) + (1 : Int))) == (↑(List.length t0) : Int)) = true → (0 : Int) ≤ t6 ∧ ∃ (n : Int), t1[Int.toNat t6]? = some [PV.int IntKind.i64 n] ∧ ¬(3 : Int) = (0 : Int) ∧ ((0 : Int) ≤ wi (IntKind.wrap IntKind.i64 (Int.tdiv n (7 : Int))) (3 : Int) ∧ wi (IntKind.wrap IntKind.i64 (Int.tdiv n (7 : Int))) (3 : Int) < (3 : Int)) ∧ ∃ (c : List PV), [[PV.str []], [PV.str [(97 : UInt8)]], [PV.str [(122 : UInt8), (122 : UInt8)]]][Int.toNat (wi (IntKind.wrap IntKind.i64 (Int.tdiv n (7 : Int))) (3 : Int))]? = some c ∧ (1 : Nat) ≤ List.length c ∧ ∃ (s : List UInt8), List.take (1 : Nat) c = [PV.str s] ∧ ((List.length o10 + (1 : Nat)) * (16 : Nat) ≤ room ∧ List.length o10 + (1 : Nat) ≤ maxInt) ∧ ((0 : Int) ≤ t6 ∧ t6 < (↑(List.length (o10 ++ [[PV.str s]])) : Int)) ∧ ∃ (c : List PV), (o10 ++ [[PV.str s]])[Int.toNat t6]? = some c ∧ (1 : Nat) ≤ List.length c ∧ ∃ (s_1 : List UInt8), List.take (1 : Nat) c = [PV.str s_1] ∧ (∃ (t : Tr), t0 = Tr.rows t ∧ List.length (Tr.list t) ≤ (4000000 : Nat)) ∧ J0 (St.mk [((0 : Nat), AV.pv (PV.sl (kidR t0 s_1))), ((1 : Nat), AV.pv (PV.sl t1)), ((5 : Nat), AV.own (10 : Nat)), ((6 : Nat), AV.pv (PV.int IntKind.i64 (IntKind.wrap IntKind.i64 (t6 + (1 : Int)))))] [((10 : Nat), Obj.buf (1 : Nat) (o10 ++ [[PV.str s]]))])) ∧ ((wi n (IntKind.wrap IntKind.i64 ((↑(List.length t0) : Int) + (1 : Int))) == (↑(List.length t0) : Int)) = false → (0 : Int) ≤ wi n (IntKind.wrap IntKind.i64 ((↑(List.length t0) : Int) + (1 : Int))) ∧ ∃ (s : List UInt8), ∃ (es : List (List PV)), t0[Int.toNat (wi n (IntKind.wrap IntKind.i64 ((↑(List.length t0) : Int) + (1 : Int))))]? = some [PV.str s, PV.sl es] ∧ ((List.length o10 + (1 : Nat)) * (16 : Nat) ≤ room ∧ List.length o10 + (1 : Nat) ≤ maxInt) ∧ (0 : Int) ≤ wi n (IntKind.wrap IntKind.i64 ((↑(List.length t0) : Int) + (1 : Int))) ∧ ∃ (s_1 : List UInt8), ∃ (es : List (List PV)), t0[Int.toNat (wi n (IntKind.wrap IntKind.i64 ((↑(List.length t0) : Int) + (1 : Int))))]? = some [PV.str s_1, PV.sl es] ∧ J0 (St.mk [((0 : Nat), AV.pv (PV.sl es)), ((1 : Nat), AV.pv (PV.sl t1)), ((5 : Nat), AV.own (10 : Nat)), ((6 : Nat), AV.pv (PV.int IntKind.i64 (IntKind.wrap IntKind.i64 (t6 + (1 : Int)))))] [((10 : Nat), Obj.buf (1 : Nat) (o10 ++ [[PV.str s]]))]))) ∧ (decide (t6 < (6 : Int)) = false → ∃ (h : H), Q ([TV.own (1 : Nat) o10], []))) ∧ (decide (t6 < (↑(List.length t1) : Int)) = false → ∃ (h : H), Q ([TV.own (1 : Nat) o10], []))) := by kernel_rfl

noncomputable def g_path : List TV → Option Alts
  | [.pv (.sl a), .pv (.sl ns)] => one (atO a ∧ rawO ns) ([.own 1 (pathR a ns)], [])
  | _ => none
noncomputable def g_tget : List TV → Option Alts
  | [.pv (.sl a), .pv (.sl p)] => some [((atO a ∧ pathO p 1000) ∧ getB a p = false, [.pv (.sl []), .pv (.bool false)], []), ((atO a ∧ pathO p 1000) ∧ getB a p = true, [.own 2 (getR a p), .pv (.bool true)], [])]
  | _ => none

theorem pa_S : SpecOK C S_pa := specL_ok (specs_cons kid_ok (specs_cons (g_within_ok within_ev) specs_nil))

theorem three_get {k : Int} (h : 0 ≤ k ∧ k < 3) : ∃ s : List UInt8, [[PV.str []], [PV.str [(97 : UInt8)]], [PV.str [(122 : UInt8), (122 : UInt8)]]][Int.toNat k]? = some [PV.str s] := by
  have : k = 0 ∨ k = 1 ∨ k = 2 := by omega
  rcases this with rfl | rfl | rfl
  · exact ⟨_, rfl⟩
  · exact ⟨_, rfl⟩
  · exact ⟨_, rfl⟩

theorem int_row {l : List Int} {i : Nat} (h : i < l.length) : (l.map fun n => [PV.int .i64 n])[Int.toNat (i : Int)]? = some [.int .i64 l[i]] := by
  rw [Int.toNat_natCast, List.getElem?_map, List.getElem?_eq_getElem h]; rfl

theorem pa_ex (t : Tr) (l : List Int) (ht : t.nodes ≤ 2000000) : ∃ p, pathF t.rows (l.map fun n => [.int .i64 n]) p := by
  have hr := room_val
  have hm := maxInt_val
  have hll : (l.map fun n => [PV.int .i64 n]).length = l.length := List.length_map _
  obtain ⟨r, h1, p, h2, rfl⟩ := ev_wx (Q := fun r => ∃ p : List (List UInt8), p.length ≤ 6 ∧ r = ([.own 1 (p.map strRow)], [])) pa_S (pa_w t.rows (l.map fun n => [.int .i64 n]) _) (by
    refine loop_rule pa_S (by kernel_rfl) 1000 (fun m st => ∃ (i : Nat) (u : Tr) (p : List (List UInt8)), st = pa_h0 u.rows (l.map fun n => [.int .i64 n]) i (p.map strRow) ∧ p.length = i ∧ i ≤ 6 ∧ u.nodes ≤ 2000000 ∧ m = 6 - i) ?_ (n := 6) ⟨0, t, [], rfl, rfl, by omega, ht, rfl⟩
    rintro m st ⟨i, u, p, rfl, hp, hi, hu, rfl⟩
    have hul := rows_len u
    have hun := nodes_list u
    have hpl : (p.map strRow).length = i := by rw [List.length_map, hp]
    refine ex_w (pa_l0 _ _ _ _ _ _ _ _) ?_
    rw [hll, hul, hpl, w64s (i := u.list.length) (by omega)]
    refine ⟨fun h => ⟨fun h6 => ?_, fun h6 => ⟨.auto, p, by omega, rfl⟩⟩, fun h => ⟨.auto, p, by omega, rfl⟩⟩
    simp only [decide_eq_true_eq] at h h6
    have hi' : i < l.length := by omega
    have hg := int_row (l := l) hi'
    have hw0 : 0 ≤ wi l[i] ((u.list.length + 1 : Nat) : Int) ∧ wi l[i] ((u.list.length + 1 : Nat) : Int) < ((u.list.length + 1 : Nat) : Int) := wi_range (by omega) (by omega)
    refine ⟨by omega, l[i], hg, by omega, fun hb => ?_, fun hb => ?_⟩
    · have hw : 0 ≤ wi (IntKind.wrap .i64 (Int.tdiv l[i] 7)) 3 ∧ wi (IntKind.wrap .i64 (Int.tdiv l[i] 7)) 3 < 3 := wi_range (n := 3) (by omega) (by omega)
      obtain ⟨s, hs⟩ := three_get hw
      refine ⟨by omega, l[i], hg, by decide, hw, _, hs, by simp, s, rfl, ⟨by omega, by omega⟩, ⟨by omega, by rw [List.length_append, hpl]; simp; omega⟩, [.str s], ?_, by simp, s, rfl, ⟨u, rfl, by omega⟩, 6 - (i + 1), by omega, i + 1, kidT u s, p ++ [s], ?_, by simp [hp], by omega, ?_, rfl⟩
      · rw [Int.toNat_natCast, List.getElem?_append_right (by omega), hpl, Nat.sub_self]; rfl
      · rw [w64s (by omega), kidR_rows, List.map_append]; rfl
      · have := kid_nodes u s; omega
    · have hb : ¬ wi l[i] ((u.list.length + 1 : Nat) : Int) = (u.list.length : Int) := by simpa using hb
      generalize wi l[i] ((u.list.length + 1 : Nat) : Int) = z at *
      obtain ⟨k, rfl⟩ := Int.eq_ofNat_of_zero_le hw0.1
      have hk : k < u.list.length := by omega
      have hrow := row_get u hk
      refine ⟨by omega, _, _, hrow, ⟨by omega, by omega⟩, by omega, _, _, hrow, 6 - (i + 1), by omega, i + 1, u.list[k].2, p ++ [u.list[k].1], ?_, by simp [hp], by omega, ?_, rfl⟩
      · rw [w64s (by omega), List.map_append]; rfl
      · have := nodes_lt (List.getElem_mem hk); omega)
  exact ⟨p, h2, h1⟩

theorem pathR_spec {t : Tr} (l : List Int) (ht : t.nodes ≤ 2000000) : ∃ p, pathR t.rows (l.map fun n => [.int .i64 n]) = p.map strRow ∧ pathF t.rows (l.map fun n => [.int .i64 n]) p := by
  have h := pa_ex t l ht
  refine ⟨h.choose, ?_, h.choose_spec⟩
  unfold pathR
  rw [dif_pos h]

theorem path_ok : ∀ ag al, g_path ag = some al → ∀ a ∈ al, a.1 → Ev C 27 ag a.2 := by
  intro ag al hl x hx hp
  unfold g_path at hl
  split at hl
  · have e := one_mem hl hx; subst e
    obtain ⟨⟨t, rfl, t1, t2⟩, l, rfl⟩ := hp
    obtain ⟨p, e, _, h⟩ := pathR_spec l t1
    simp only [e]
    exact h
  · exact absurd hl (by simp)

theorem tget_ok : ∀ ag al, g_tget ag = some al → ∀ a ∈ al, a.1 → Ev C 31 ag a.2 := by
  intro ag al hl x hx hp
  unfold g_tget at hl
  split at hl
  · simp only [Option.some.injEq] at hl; subst hl
    simp only [List.mem_cons, List.not_mem_nil, or_false] at hx
    rcases hx with rfl | rfl
    · obtain ⟨⟨⟨t, rfl, t1, t2⟩, q, rfl, q1, q2⟩, hb⟩ := hp
      have h := tget_ev t q t1 t2 q2
      unfold getB at hb
      rw [unrow_rows, unstr_map] at hb
      unfold getV at h
      rw [if_neg (by rw [hb]; simp)] at h
      exact h
    · obtain ⟨⟨⟨t, rfl, t1, t2⟩, q, rfl, q1, q2⟩, hb⟩ := hp
      have h := tget_ev t q t1 t2 q2
      unfold getB at hb
      rw [unrow_rows, unstr_map] at hb
      unfold getV at h
      rw [if_pos hb] at h
      unfold getR
      simp only [unrow_rows, unstr_map]
      exact h
  · exact absurd hl (by simp)

theorem getB_rows (t : Tr) (q : List (List UInt8)) : getB t.rows (q.map strRow) = getB1 t q := by unfold getB; rw [unrow_rows, unstr_map]
theorem getR_rows (t : Tr) (q : List (List UInt8)) : getR t.rows (q.map strRow) = (getT t q).rows := by unfold getR; rw [unrow_rows, unstr_map]
theorem putR_rows (t x : Tr) (q : List (List UInt8)) : putR t.rows (q.map strRow) x.rows = (putT t q x).rows := by unfold putR; rw [unrow_rows, unrow_rows, unstr_map]
theorem dropR_rows (t : Tr) (q : List (List UInt8)) : dropR t.rows (q.map strRow) = (dropT t q).rows := by unfold dropR; rw [unrow_rows, unstr_map]
theorem drop_nodes6 {t : Tr} {p : List (List UInt8)} (hp : p.length ≤ 6) (ht : t.nodes ≤ 10000) : (dropT t p).nodes ≤ 70007 := by
  have h1 := drop_nodes p t
  have h2 : (p.length + 1) * (t.nodes + 1) ≤ 7 * 10001 := Nat.mul_le_mul (by omega) (by omega)
  omega
theorem put_nodes6 {t x : Tr} {p : List (List UInt8)} (hp : p.length ≤ 6) (ht : t.nodes < 200) (hx : x.nodes < 200) : (putT t p x).nodes ≤ 10000 := by
  have h1 := put_nodes p t x
  have h2 : (p.length + 1) * (t.nodes + x.nodes + 1) ≤ 7 * 400 := Nat.mul_le_mul (by omega) (by omega)
  omega

end Go.Proofs.Ytmjkdghcfihfiaa.Vm
