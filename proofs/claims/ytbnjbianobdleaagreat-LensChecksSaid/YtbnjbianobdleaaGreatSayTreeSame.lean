/-
  Trees held against each other, in the machine.
-/
import Derived.Test.YtbnjbianobdleaaGreatSayTreeText
namespace Go.Proofs.YtbnjbianobdleaaGreat.Vm
open Go Go.RowKit
set_option linter.unusedVariables false
set_option linter.unusedSimpArgs false
set_option maxRecDepth 100000

noncomputable def sameF (a b : List (List PV)) : Bool := @decide (a = b) (Classical.propDecidable _)

noncomputable def g_rsame (N : Nat) : List TV → Option Alts
  | [.pv (.sl a), .pv (.sl b)] => one (∃ t u : Tr, a = t.rows ∧ b = u.rows ∧ t.nodes < N ∧ t.nodes ≤ 4000000) ([.pv (.bool (sameF a b))], [])
  | _ => none

noncomputable def S_rsame (N : Nat) : Specs := specL [(20, g_rsame N)]

theorem rs_w (N : Nat) (a b : List (List PV)) (Q : List TV × List TV → Prop) : (wFun C (S_rsame N) 20 [.pv (.sl a), .pv (.sl b)] Q) (H.b H.auto H.auto) = ((((↑(List.length a) : Int) != (↑(List.length b) : Int)) = true → Q ([TV.pv (PV.bool false)], [])) ∧ (((↑(List.length a) : Int) != (↑(List.length b) : Int)) = false → LoopAt C (20 : FuncId) (CP.dn (CP.dn (CP.dn (CP.dn (CP.dn CP.top (1 : Nat)) (1 : Nat)) (0 : Nat)) (1 : Nat)) (0 : Nat)) (St.mk [((0 : Nat), AV.pv (PV.sl a)), ((1 : Nat), AV.pv (PV.sl b)), ((5 : Nat), AV.pv (PV.int IntKind.i64 (0 : Int)))] []) (exK (blockK (0 : Nat) (seqK (wAt C (S_rsame N) (20 : FuncId) (99997 : Nat) (CP.dn (CP.dn (CP.dn CP.top (1 : Nat)) (1 : Nat)) (1 : Nat))) (retK C (20 : FuncId) [TV.pv (PV.sl a), TV.pv (PV.sl b)] Q)))))) := by kernel_rfl

def rs_c0 : CP := (CP.dn (CP.dn (CP.dn (CP.dn (CP.dn CP.top (1 : Nat)) (1 : Nat)) (0 : Nat)) (1 : Nat)) (0 : Nat))

def rs_h0 (t0 : List (List PV)) (t1 : List (List PV)) (t5 : Int) : St := (St.mk [((0 : Nat), AV.pv (PV.sl t0)), ((1 : Nat), AV.pv (PV.sl t1)), ((5 : Nat), AV.pv (PV.int IntKind.i64 t5))] [])

theorem rs_l0 (N : Nat) (a b : List (List PV)) (t0 : List (List PV)) (t1 : List (List PV)) (t5 : Int)  (J0 : St → Prop) (Q : List TV × List TV → Prop) : (wAt C (S_rsame N) 20 1000 (rs_c0.dn 0) (rs_h0 t0 t1 t5) (loopK C 20 rs_c0 J0 (exK (blockK (0 : Nat) (seqK (wAt C (S_rsame N) (20 : FuncId) (99997 : Nat) (CP.dn (CP.dn (CP.dn CP.top (1 : Nat)) (1 : Nat)) (1 : Nat))) (retK C (20 : FuncId) [TV.pv (PV.sl a), TV.pv (PV.sl b)] Q)))))) (H.b (H.s (H.s (H.s (H.s (H.b H.auto (H.n (2 : Nat) (H.s (H.s (H.n (5 : Nat) (H.s (H.s (H.n (5 : Nat) (H.b H.auto H.auto))))))))))))) H.auto) = ((decide (t5 < (↑(List.length t0) : Int)) = true → (0 : Int) ≤ t5 ∧ ∃ (s : List UInt8), ∃ (es : List (List PV)), t0[Int.toNat t5]? = some [PV.str s, PV.sl es] ∧ (0 : Int) ≤ t5 ∧ ∃ (s_1 : List UInt8), ∃ (es : List (List PV)), t1[Int.toNat t5]? = some [PV.str s_1, PV.sl es] ∧ ((!s == s_1) = true → ∃ (h : H), Q ([TV.pv (PV.bool false)], [])) ∧ ((!s == s_1) = false → (0 : Int) ≤ t5 ∧ ∃ (s : List UInt8), ∃ (es : List (List PV)), t0[Int.toNat t5]? = some [PV.str s, PV.sl es] ∧ (0 : Int) ≤ t5 ∧ ∃ (s : List UInt8), ∃ (es_1 : List (List PV)), t1[Int.toNat t5]? = some [PV.str s, PV.sl es_1] ∧ (∃ (t : Tr), ∃ (u : Tr), es = Tr.rows t ∧ es_1 = Tr.rows u ∧ Tr.nodes t < N ∧ Tr.nodes t ≤ (4000000 : Nat)) ∧ ((!sameF es es_1) = true → ∃ (h : H), Q ([TV.pv (PV.bool false)], [])) ∧ ((!sameF es es_1) = false → J0 (St.mk [((0 : Nat), AV.pv (PV.sl t0)), ((1 : Nat), AV.pv (PV.sl t1)), ((5 : Nat), AV.pv (PV.int IntKind.i64 (IntKind.wrap IntKind.i64 (t5 + (1 : Int)))))] [])))) ∧ (decide (t5 < (↑(List.length t0) : Int)) = false → ∃ (h : H), Q ([TV.pv (PV.bool true)], []))) := by kernel_rfl

noncomputable def S_psame1 (N : Nat) : Specs := specL [(87, g_rsame N)]

theorem sf_w (N : Nat) (n m : List UInt8) (a b : List (List PV)) (Q : List TV × List TV → Prop) : (wFun C (S_psame1 N) 107 [.pv (.agg [.str n, .sl a]), .pv (.agg [.str m, .sl b])] Q) (H.b H.auto H.auto) = (((n == m) = true → (∃ (t : Tr), ∃ (u : Tr), a = Tr.rows t ∧ b = Tr.rows u ∧ Tr.nodes t < N ∧ Tr.nodes t ≤ (4000000 : Nat)) ∧ Q ([TV.pv (PV.bool (sameF a b))], [])) ∧ ((n == m) = false → Q ([TV.pv (PV.bool false)], []))) := by kernel_rfl

noncomputable def g_sf (N : Nat) : List TV → Option Alts
  | [.pv (.agg [.str n, .sl a]), .pv (.agg [.str m, .sl b])] => one (∃ t u : Tr, a = t.rows ∧ b = u.rows ∧ t.nodes < N ∧ t.nodes ≤ 4000000) ([.pv (.bool (n == m && sameF a b))], [])
  | _ => none

noncomputable def S_eqf (N : Nat) : Specs := specL [(107, g_sf N)]

theorem eqf_w (N : Nat) (a b : List (List PV)) (Q : List TV × List TV → Prop) : (wFun C (S_eqf N) 106 [.pv (.sl a), .pv (.sl b), .pv (.fn 107 [])] Q) (H.b H.auto H.auto) = ((((↑(List.length a) : Int) != (↑(List.length b) : Int)) = true → Q ([TV.pv (PV.bool false)], [])) ∧ (((↑(List.length a) : Int) != (↑(List.length b) : Int)) = false → LoopAt C (106 : FuncId) (CP.dn (CP.dn (CP.dn (CP.dn (CP.dn CP.top (1 : Nat)) (1 : Nat)) (0 : Nat)) (1 : Nat)) (0 : Nat)) (St.mk [((1 : Nat), AV.pv (PV.sl b)), ((2 : Nat), AV.pv (PV.fn (107 : FuncId) [])), ((15 : Nat), AV.pv (PV.sl a)), ((16 : Nat), AV.pv (PV.int IntKind.i64 (↑(List.length a) : Int))), ((17 : Nat), AV.pv (PV.int IntKind.i64 (0 : Int)))] []) (exK (blockK (0 : Nat) (seqK (wAt C (S_eqf N) (106 : FuncId) (99997 : Nat) (CP.dn (CP.dn (CP.dn CP.top (1 : Nat)) (1 : Nat)) (1 : Nat))) (retK C (106 : FuncId) [TV.pv (PV.sl a), TV.pv (PV.sl b), TV.pv (PV.fn (107 : FuncId) [])] Q)))))) := by kernel_rfl

def eqf_c0 : CP := (CP.dn (CP.dn (CP.dn (CP.dn (CP.dn CP.top (1 : Nat)) (1 : Nat)) (0 : Nat)) (1 : Nat)) (0 : Nat))

def eqf_h0 (t1 : List (List PV)) (t15 : List (List PV)) (t16 : Int) (t17 : Int) : St := (St.mk [((1 : Nat), AV.pv (PV.sl t1)), ((2 : Nat), AV.pv (PV.fn (107 : FuncId) [])), ((15 : Nat), AV.pv (PV.sl t15)), ((16 : Nat), AV.pv (PV.int IntKind.i64 t16)), ((17 : Nat), AV.pv (PV.int IntKind.i64 t17))] [])

theorem eqf_l0 (N : Nat) (a b : List (List PV)) (t1 : List (List PV)) (t15 : List (List PV)) (t16 : Int) (t17 : Int)  (J0 : St → Prop) (Q : List TV × List TV → Prop) : (wAt C (S_eqf N) 106 1000 (eqf_c0.dn 0) (eqf_h0 t1 t15 t16 t17) (loopK C 106 eqf_c0 J0 (exK (blockK (0 : Nat) (seqK (wAt C (S_eqf N) (106 : FuncId) (99997 : Nat) (CP.dn (CP.dn (CP.dn CP.top (1 : Nat)) (1 : Nat)) (1 : Nat))) (retK C (106 : FuncId) [TV.pv (PV.sl a), TV.pv (PV.sl b), TV.pv (PV.fn (107 : FuncId) [])] Q)))))) (H.b (H.s (H.s (H.s (H.s (H.b H.auto H.auto))))) H.auto) = ((decide (t17 < t16) = true → (0 : Int) ≤ t17 ∧ ∃ (s : List UInt8), ∃ (es : List (List PV)), t15[Int.toNat t17]? = some [PV.str s, PV.sl es] ∧ (0 : Int) ≤ t17 ∧ ∃ (s_1 : List UInt8), ∃ (es_1 : List (List PV)), t1[Int.toNat t17]? = some [PV.str s_1, PV.sl es_1] ∧ (∃ (t : Tr), ∃ (u : Tr), es = Tr.rows t ∧ es_1 = Tr.rows u ∧ Tr.nodes t < N ∧ Tr.nodes t ≤ (4000000 : Nat)) ∧ ((!(s == s_1 && sameF es es_1)) = true → ∃ (h : H), Q ([TV.pv (PV.bool false)], [])) ∧ ((!(s == s_1 && sameF es es_1)) = false → J0 (St.mk [((1 : Nat), AV.pv (PV.sl t1)), ((2 : Nat), AV.pv (PV.fn (107 : FuncId) [])), ((15 : Nat), AV.pv (PV.sl t15)), ((16 : Nat), AV.pv (PV.int IntKind.i64 t16)), ((17 : Nat), AV.pv (PV.int IntKind.i64 (IntKind.wrap IntKind.i64 (t17 + (1 : Int)))))] []))) ∧ (decide (t17 < t16) = false → ∃ (h : H), Q ([TV.pv (PV.bool true)], []))) := by kernel_rfl

noncomputable def g_eqf (N : Nat) : List TV → Option Alts
  | [.pv (.sl a), .pv (.sl b), .pv (.fn f [])] => one (f = 107 ∧ ∃ t u : Tr, a = t.rows ∧ b = u.rows ∧ t.nodes ≤ N ∧ t.nodes ≤ 4000000) ([.pv (.bool (sameF a b))], [])
  | _ => none

noncomputable def S_psame (N : Nat) : Specs := specL [(106, g_eqf N)]

theorem ps_w (N : Nat) (a b : List (List PV)) (Q : List TV × List TV → Prop) : (wFun C (S_psame N) 87 [.pv (.sl a), .pv (.sl b)] Q) (H.auto) = (((107 : Nat) = (107 : FuncId) ∧ ∃ (t : Tr), ∃ (u : Tr), a = Tr.rows t ∧ b = Tr.rows u ∧ Tr.nodes t ≤ N ∧ Tr.nodes t ≤ (4000000 : Nat)) ∧ Q ([TV.pv (PV.bool (sameF a b))], [])) := by kernel_rfl

theorem list_le_nodes : ∀ t : Tr, t.list.length ≤ t.nodes
  | .nil => by simp [Tr.list]
  | .cons n k r => by
    have := list_le_nodes r
    simp only [Tr.list, Tr.nodes, List.length_cons]; omega
theorem list_inj {t u : Tr} (h : t.list = u.list) : t = u := by rw [← of_list t, ← of_list u, h]
theorem sameF_eq {a b : List (List PV)} (h : a = b) : sameF a b = true := by simp [sameF, h]
theorem sameF_ne {a b : List (List PV)} (h : ¬ a = b) : sameF a b = false := by simp [sameF, h]
theorem sameF_iff {t u : Tr} : sameF t.rows u.rows = true ↔ t = u := by
  constructor
  · intro h
    have : t.rows = u.rows := by simpa [sameF] using h
    exact rows_inj this
  · rintro rfl; exact sameF_eq rfl
theorem same_len {t u : Tr} (h : ((↑t.rows.length : Int) != (↑u.rows.length : Int)) = true) : sameF t.rows u.rows = false := by
  refine sameF_ne fun e => ?_
  rw [e] at h
  simp at h
theorem same_at {t u : Tr} {i : Nat} (h1 : i < t.list.length) (h2 : i < u.list.length) (h : ¬ t.list[i] = u.list[i]) : sameF t.rows u.rows = false := by
  refine sameF_ne fun e => h ?_
  have := rows_inj e
  subst this; rfl
theorem take_step {α : Type} {l m : List α} {i : Nat} (h1 : i < l.length) (h2 : i < m.length) (h : l.take i = m.take i) (he : l[i] = m[i]) : l.take (i + 1) = m.take (i + 1) := by
  rw [List.take_succ_eq_append_getElem h1, List.take_succ_eq_append_getElem h2, h, he]

theorem rs_ev : ∀ (N : Nat) (t u : Tr), t.nodes < N → t.nodes ≤ 4000000 → Ev C 20 [.pv (.sl t.rows), .pv (.sl u.rows)] ([.pv (.bool (sameF t.rows u.rows))], [])
  | 0, t, u, h, _ => by omega
  | N + 1, t, u, h, hb => by
    have hS : SpecOK C (S_rsame N) := specL_ok (specs_cons (by
      intro ag al hl x hx hp
      unfold g_rsame at hl
      split at hl
      · have e := one_mem hl hx; subst e
        obtain ⟨t, u, rfl, rfl, h1, h2⟩ := hp
        exact rs_ev N t u h1 h2
      · exact absurd hl (by simp)) specs_nil)
    have hlt := rows_len t
    have hlu := rows_len u
    have hn := list_le_nodes t
    refine ev_w hS (rs_w N t.rows u.rows _) ⟨fun g => by rw [same_len g], fun g => ?_⟩
    have hlen : t.list.length = u.list.length := by simp at g; omega
    refine loop_rule hS (by kernel_rfl) 1000 (fun k st => ∃ i : Nat, st = rs_h0 t.rows u.rows i ∧ i ≤ t.list.length ∧ t.list.take i = u.list.take i ∧ k = t.list.length - i) ?_ (n := t.list.length) ⟨0, rfl, by omega, by simp, rfl⟩
    rintro k st ⟨i, rfl, hi, he, rfl⟩
    refine ex_w (rs_l0 _ _ _ _ _ _ _ _) ⟨fun g2 => ?_, fun g2 => ?_⟩
    · simp only [decide_eq_true_eq] at g2
      have hi1 : i < t.list.length := by omega
      have hi2 : i < u.list.length := by omega
      have w1 := w64s (i := i) (by omega)
      have hk := nodes_lt (List.getElem_mem hi1)
      refine ⟨by omega, _, _, row_get t hi1, by omega, _, _, row_get u hi2, fun g3 => ⟨.auto, ?_⟩, fun g3 => ⟨by omega, _, _, row_get t hi1, by omega, _, _, row_get u hi2, ⟨_, _, rfl, rfl, by omega, by omega⟩, fun g4 => ⟨.auto, ?_⟩, fun g4 => ?_⟩⟩
      · rw [same_at hi1 hi2 (fun e => by rw [e] at g3; simp at g3)]
      · rw [same_at hi1 hi2 (fun e => by rw [e, sameF_eq rfl] at g4; simp at g4)]
      · rw [w1]
        have e1 : t.list[i].1 = u.list[i].1 := by simpa using g3
        have e2 : t.list[i].2 = u.list[i].2 := sameF_iff.1 (by simpa using g4)
        exact ⟨t.list.length - (i + 1), by omega, i + 1, rfl, by omega, take_step hi1 hi2 he (Prod.ext e1 e2), rfl⟩
    · simp only [decide_eq_false_iff_not] at g2
      have : t.list = u.list := by
        rw [List.take_of_length_le (by omega), List.take_of_length_le (by omega)] at he; exact he
      exact ⟨.auto, by rw [sameF_iff.2 (list_inj this)]⟩

theorem rsame_ok {N : Nat} : ∀ ag al, g_rsame N ag = some al → ∀ a ∈ al, a.1 → Ev C 20 ag a.2 := by
  intro ag al hl x hx hp
  unfold g_rsame at hl
  split at hl
  · have e := one_mem hl hx; subst e
    obtain ⟨t, u, rfl, rfl, h1, h2⟩ := hp
    exact rs_ev N t u h1 h2
  · exact absurd hl (by simp)

theorem eqf_ev {N : Nat} (hS : SpecOK C (S_eqf N)) (t u : Tr) (h : t.nodes ≤ N) (hb : t.nodes ≤ 4000000) : Ev C 106 [.pv (.sl t.rows), .pv (.sl u.rows), .pv (.fn 107 [])] ([.pv (.bool (sameF t.rows u.rows))], []) := by
  have hlt := rows_len t
  have hlu := rows_len u
  have hn := list_le_nodes t
  refine ev_w hS (eqf_w N t.rows u.rows _) ⟨fun g => by rw [same_len g], fun g => ?_⟩
  have hlen : t.list.length = u.list.length := by simp at g; omega
  refine loop_rule hS (by kernel_rfl) 1000 (fun k st => ∃ i : Nat, st = eqf_h0 u.rows t.rows t.list.length i ∧ i ≤ t.list.length ∧ t.list.take i = u.list.take i ∧ k = t.list.length - i) ?_ (n := t.list.length) ⟨0, by rw [hlt]; rfl, by omega, by simp, rfl⟩
  rintro k st ⟨i, rfl, hi, he, rfl⟩
  refine ex_w (eqf_l0 _ _ _ _ _ _ _ _ _) ⟨fun g2 => ?_, fun g2 => ?_⟩
  · simp only [decide_eq_true_eq] at g2
    have hi1 : i < t.list.length := by omega
    have hi2 : i < u.list.length := by omega
    have w1 := w64s (i := i) (by omega)
    have hk := nodes_lt (List.getElem_mem hi1)
    refine ⟨by omega, _, _, row_get t hi1, by omega, _, _, row_get u hi2, ⟨_, _, rfl, rfl, by omega, by omega⟩, fun g3 => ⟨.auto, ?_⟩, fun g3 => ?_⟩
    · rw [same_at hi1 hi2 (fun e => by rw [e, sameF_eq rfl] at g3; simp at g3)]
    · rw [w1]
      have e3 : (t.list[i].1 == u.list[i].1) = true ∧ sameF t.list[i].2.rows u.list[i].2.rows = true := by simpa using g3
      have e1 : t.list[i].1 = u.list[i].1 := by simpa using e3.1
      exact ⟨t.list.length - (i + 1), by omega, i + 1, rfl, by omega, take_step hi1 hi2 he (Prod.ext e1 (sameF_iff.1 e3.2)), rfl⟩
  · simp only [decide_eq_false_iff_not] at g2
    have : t.list = u.list := by
      rw [List.take_of_length_le (by omega), List.take_of_length_le (by omega)] at he; exact he
    exact ⟨.auto, by rw [sameF_iff.2 (list_inj this)]⟩

theorem ps_ev : ∀ (N : Nat) (t u : Tr), t.nodes < N → t.nodes ≤ 4000000 → Ev C 87 [.pv (.sl t.rows), .pv (.sl u.rows)] ([.pv (.bool (sameF t.rows u.rows))], [])
  | 0, t, u, h, _ => by omega
  | N + 1, t, u, h, hb => by
    have hS1 : SpecOK C (S_psame1 N) := specL_ok (specs_cons (by
      intro ag al hl x hx hp
      unfold g_rsame at hl
      split at hl
      · have e := one_mem hl hx; subst e
        obtain ⟨t, u, rfl, rfl, h1, h2⟩ := hp
        exact ps_ev N t u h1 h2
      · exact absurd hl (by simp)) specs_nil)
    have hS2 : SpecOK C (S_eqf N) := specL_ok (specs_cons (by
      intro ag al hl x hx hp
      unfold g_sf at hl
      split at hl
      · rename_i n a m b
        have e := one_mem hl hx; subst e
        obtain ⟨t, u, rfl, rfl, h1, h2⟩ := hp
        refine ev_w hS1 (sf_w N n m t.rows u.rows _) ⟨fun g => ⟨⟨t, u, rfl, rfl, h1, h2⟩, by rw [g]; rfl⟩, fun g => by rw [g]; rfl⟩
      · exact absurd hl (by simp)) specs_nil)
    have hS : SpecOK C (S_psame N) := specL_ok (specs_cons (by
      intro ag al hl x hx hp
      unfold g_eqf at hl
      split at hl
      · rename_i a b f
        have e := one_mem hl hx; subst e
        obtain ⟨rfl, t, u, rfl, rfl, h1, h2⟩ := hp
        exact eqf_ev hS2 t u h1 h2
      · exact absurd hl (by simp)) specs_nil)
    exact ev_w hS (ps_w N t.rows u.rows _) ⟨⟨rfl, t, u, rfl, rfl, by omega, hb⟩, rfl⟩

theorem psame_ok {N : Nat} : ∀ ag al, g_rsame N ag = some al → ∀ a ∈ al, a.1 → Ev C 87 ag a.2 := by
  intro ag al hl x hx hp
  unfold g_rsame at hl
  split at hl
  · have e := one_mem hl hx; subst e
    obtain ⟨t, u, rfl, rfl, h1, h2⟩ := hp
    exact ps_ev N t u h1 h2
  · exact absurd hl (by simp)
