/-
  Lenses made of raw ones: what is known of them.
-/
import Derived.Test.YtbnjbianobdleaaGreatSayLensMk
namespace Go.Proofs.YtbnjbianobdleaaGreat.Vm
open Go Go.RowKit
set_option linter.unusedVariables false
set_option linter.unusedSimpArgs false
set_option maxRecDepth 100000

theorem Ls.list_of : ∀ l : List (LD × Ls), (Ls.of l).list = l
  | [] => rfl
  | (p, k) :: l => by simp [Ls.of, Ls.list, Ls.list_of l]
theorem Ls.of_rows (l : List (LD × Ls)) : (Ls.of l).rows = l.map fun e => e.1.row e.2.rows := by rw [Ls.rows_list, Ls.list_of]
theorem Ls.of_len (l : List (LD × Ls)) : (Ls.of l).len = l.length := by rw [← Ls.len_list, Ls.list_of]
theorem Ls.one_deep (p : LD) (k : Ls) : (Ls.cons p k .nil).deep = k.deep + 1 := by simp [Ls.deep]
theorem Ls.of_deep {B : Nat} : ∀ {l : List (LD × Ls)}, (∀ e ∈ l, (Ls.cons e.1 e.2 .nil).deep ≤ B) → (Ls.of l).deep ≤ B
  | [], _ => by simp [Ls.of, Ls.deep]
  | (p, k) :: l, h => by
    have h1 := h (p, k) (by simp)
    rw [Ls.one_deep] at h1
    have h2 := Ls.of_deep (l := l) fun e he => h e (by simp [he])
    simp only [Ls.of, Ls.deep]
    exact Nat.max_le.2 ⟨h1, h2⟩
theorem Ls.of_ok : ∀ {l : List (LD × Ls)}, (∀ e ∈ l, (Ls.cons e.1 e.2 .nil).ok) → (Ls.of l).ok
  | [], _ => trivial
  | (p, k) :: l, h => ⟨(h (p, k) (by simp)).1, (h (p, k) (by simp)).2.1, Ls.of_ok fun e he => h e (by simp [he])⟩
theorem Rs.mem_few : ∀ {l : Rs} {e : RD × Rs}, l.few → e ∈ l.list → (Rs.cons e.1 e.2 .nil).few
  | .nil, e, _, h => by simp [Rs.list] at h
  | .cons p k r, e, ho, h => by
    simp only [Rs.list, List.mem_cons] at h
    rcases h with rfl | h
    · exact ⟨ho.1, ho.2.1, trivial⟩
    · exact Rs.mem_few ho.2.2 h
theorem Rs.len_nodes : ∀ l : Rs, l.len ≤ l.nodes
  | .nil => by simp [Rs.len]
  | .cons p k r => by have := Rs.len_nodes r; simp only [Rs.len, Rs.nodes]; omega

/-! ### Names, kids, edges as they stand -/
theorem w11_ev (a n : Int) (hn : ¬ n = 0) : Ev C 13 [.pv (.int .i64 a), .pv (.int .i64 n)] ([.pv (.int .i64 (wi a n))], []) := by
  refine ev_w noSpec_ok (w11_w a n _) ⟨hn, fun h => ?_, fun h => ?_⟩
  · simp only [decide_eq_true_eq] at h; simp [wi, h]
  · simp only [decide_eq_false_iff_not] at h; simp [wi, h]
theorem nam_ok : ∀ ag al, g_nam ag = some al → ∀ a ∈ al, a.1 → Ev C 31 ag a.2 := by
  intro ag al hl x hx hp
  unfold g_nam at hl
  split at hl
  · rename_i n
    have e := one_mem hl hx; subst e
    have h5 : 0 ≤ wi n 5 ∧ wi n 5 < 5 := wi_range (n := 5) (by omega) (by omega)
    exact ev_w (specL_ok (specs_cons (g_within_ok w11_ev) specs_nil)) (nam_w _ _) ⟨by decide, h5, _, five_get h5, by simp, _, rfl, rfl⟩
  · exact absurd hl (by simp)
theorem pln_ev : ∀ (N : Nat) (t : Tr), t.nodes < N → t.nodes ≤ 4000000 → Ev C 34 [.pv (.sl t.rows)] ([.own 2 t.rows], [])
  | 0, t, h, _ => by omega
  | N + 1, t, h, hb => by
    have hr := room_val
    have hm := maxInt_val
    have hS : SpecOK C (S_pln N) := specL_ok (specs_cons (by
      intro ag al hl x hx hp
      unfold g_pln at hl
      split at hl
      · have e := one_mem hl hx; subst e
        obtain ⟨t, rfl, h3, h4⟩ := hp
        exact pln_ev N t h3 h4
      · exact absurd hl (by simp)) specs_nil)
    have hlt := rows_len t
    have hnl := list_le_nodes t
    refine ev_w hS (pln_w N t.rows _) ?_
    refine loop_rule hS (by kernel_rfl) 1000 (fun k st => ∃ i : Nat, st = pln_h0 t.rows i (t.rows.take i) ∧ i ≤ t.list.length ∧ k = t.list.length - i) ?_ (n := t.list.length) ⟨0, rfl, by omega, rfl⟩
    rintro k st ⟨i, rfl, hi, rfl⟩
    refine ex_w (pln_l0 _ _ _ _ _ _ _) ⟨fun g => ?_, fun g => ?_⟩
    · simp only [decide_eq_true_eq] at g
      have hi' : i < t.list.length := by omega
      have w1 := w64s (i := i) (by omega)
      have hk := nodes_lt (List.getElem_mem hi')
      have hlen : (t.rows.take i).length ≤ t.list.length := by rw [List.length_take]; omega
      have hts : t.rows.take (i + 1) = t.rows.take i ++ [[.str t.list[i].1, .sl t.list[i].2.rows]] := by
        rw [rows_list, ← List.map_take, ← List.map_take, List.take_succ_eq_append_getElem hi', List.map_append]; rfl
      rw [w1]
      refine ⟨by omega, _, _, row_get t hi', by omega, _, _, row_get t hi', ⟨t.list[i].2, rfl, by omega, by omega⟩, ⟨by omega, by omega⟩, t.list.length - (i + 1), by omega, i + 1, ?_, by omega, rfl⟩
      rw [hts]; rfl
    · simp only [decide_eq_false_iff_not] at g
      refine ⟨.auto, ?_⟩
      rw [List.take_of_length_le (by omega)]
theorem pln_ok {N : Nat} : ∀ ag al, g_pln N ag = some al → ∀ a ∈ al, a.1 → Ev C 34 ag a.2 := by
  intro ag al hl x hx hp
  unfold g_pln at hl
  split at hl
  · have e := one_mem hl hx; subst e
    obtain ⟨t, rfl, h3, h4⟩ := hp
    exact pln_ev N t h3 h4
  · exact absurd hl (by simp)

theorem kofP_in {r : Rs} {i : Nat} (h : i < r.list.length) : kofP r.rows (i : Int) = r.list[i] := by
  have hx : ∃ x : RD × Rs, 0 ≤ (i : Int) ∧ r.rows[(i : Int).toNat]? = some (x.1.row x.2.rows) := ⟨r.list[i], by omega, Rs.row_get r h⟩
  have hc := hx.choose_spec
  have he : kofP r.rows (i : Int) = hx.choose := by unfold kofP; rw [dif_pos hx]
  rw [he]
  generalize hx.choose = y at hc ⊢
  have h2 := hc.2
  rw [Rs.row_get r h] at h2
  simp only [Option.some.injEq] at h2
  obtain ⟨e1, e2⟩ := RD.row_inj h2
  exact Prod.ext e1.symm (Rs.rows_inj e2).symm
theorem kofP_out {r : Rs} {i : Nat} (h : r.list.length ≤ i) : kofP r.rows (i : Int) = (⟨0, 0, 0, false, [], false, [], .nil⟩, .nil) := by
  have hx : ¬ ∃ x : RD × Rs, 0 ≤ (i : Int) ∧ r.rows[(i : Int).toNat]? = some (x.1.row x.2.rows) := by
    rintro ⟨x, _, hx⟩
    rw [Int.toNat_natCast, List.getElem?_eq_none (by rw [Rs.rows_len, ← Rs.len_list]; exact h)] at hx
    simp at hx
  unfold kofP
  rw [dif_neg hx]
theorem kof_ok : ∀ ag al, g_kof ag = some al → ∀ a ∈ al, a.1 → Ev C 32 ag a.2 := by
  intro ag al hl x hx hp
  unfold g_kof at hl
  split at hl
  · rename_i l i
    have e := one_mem hl hx; subst e
    obtain ⟨h0, r, rfl, hr⟩ := hp
    obtain ⟨j, rfl⟩ := Int.eq_ofNat_of_zero_le h0
    have hrl := Rs.rows_len r
    have hll := Rs.len_list r
    refine ev_w noSpec_ok (kof_w _ _ _) ⟨fun g => ?_, fun g => ?_⟩
    · simp only [decide_eq_true_eq] at g
      have hj : j < r.list.length := by omega
      rw [kofP_in hj]
      exact ⟨by omega, _, _, _, _, _, _, _, _, _, Rs.row_get r hj, rfl⟩
    · simp only [decide_eq_false_iff_not] at g
      rw [kofP_out (by omega)]
      rfl
  · exact absurd hl (by simp)
/-- What is known of a raw lens that is not too much. -/
def Rs.G (l : Rs) : Prop := l.nodes < 1000 ∧ l.few ∧ l.lim
theorem kof_G {d : RD} {r : Rs} (i : Nat) (h : (Rs.cons d r .nil).G) : (Rs.cons (kofP r.rows (i : Int)).1 (kofP r.rows (i : Int)).2 .nil).G := by
  obtain ⟨h1, h2, h3⟩ := h
  rcases Nat.lt_or_ge i r.list.length with hi | hi
  · rw [kofP_in hi]
    have hm := List.getElem_mem hi
    have hn := Rs.mem_nodes hm
    have : (Rs.cons d r .nil).nodes = r.nodes + 1 := by simp [Rs.nodes]
    exact ⟨by omega, Rs.mem_few h2.2.1 hm, Rs.mem_lim h3.2.1 hm⟩
  · rw [kofP_out hi]
    exact ⟨by simp [Rs.nodes], ⟨⟨by simp [Tr.nodes], by simp, by simp⟩, trivial, trivial⟩, ⟨⟨by simp, by simp, by simp [Tr.list], trivial, by simp [Rs.len]⟩, trivial, trivial⟩⟩

/-! ### Few -/
noncomputable def fewL (row : List PV) : Bool := decide (cntR row 60 < 60) && few1 row
noncomputable def g_fewL : List TV → Option Alts
  | [.pv (.agg [.int .i64 o, .int .i64 a, .int .i64 b, .bool n, .sl nl, .bool m, .sl ml, .sl t, .sl k])] => one (∃ N, rawO N [.int .i64 o, .int .i64 a, .int .i64 b, .bool n, .sl nl, .bool m, .sl ml, .sl t, .sl k]) ([.pv (.bool (fewL [.int .i64 o, .int .i64 a, .int .i64 b, .bool n, .sl nl, .bool m, .sl ml, .sl t, .sl k]))], [])
  | _ => none
theorem cntA_ok : ∀ ag al, g_cntA ag = some al → ∀ a ∈ al, a.1 → Ev C 29 ag a.2 := by
  intro ag al hl x hx hp
  unfold g_cntA at hl
  split at hl
  · have e := one_mem hl hx; subst e
    obtain ⟨⟨N, d, k, er, h1, h2⟩, h3⟩ := hp
    rw [er]
    exact (cntR_spec (cnt_ex N d k _ h1 h2 h3)).1
  · exact absurd hl (by simp)
theorem fw1_ok {N : Nat} : ∀ ag al, g_fw1 N ag = some al → ∀ a ∈ al, a.1 → Ev C 30 ag a.2 := by
  intro ag al hl x hx hp
  unfold g_fw1 at hl
  split at hl
  · have e := one_mem hl hx; subst e
    obtain ⟨⟨d, k, er, h1, h2⟩, h3⟩ := hp
    rw [er]
    exact (few1_spec (few1_ex N d k h1 h2 h3)).1
  · exact absurd hl (by simp)
theorem cnt_nodes {d : RD} {k : Rs} (h : (Rs.cons d k .nil).lim) (hc : cntR (d.row k.rows) 60 < 60) : (Rs.cons d k .nil).nodes < 60 := by
  have := (cntR_spec (cnt_ex _ d k 60 (Nat.lt_succ_self _) h (by decide))).2 d k rfl
  have h2 := this.2.2 hc
  omega
theorem fewL_ok : ∀ ag al, g_fewL ag = some al → ∀ a ∈ al, a.1 → Ev C 8 ag a.2 := by
  intro ag al hl x hx hp
  unfold g_fewL at hl
  split at hl
  · have e := one_mem hl hx; subst e
    refine ev_w (specL_ok (specs_cons cntA_ok (specs_cons fw1_ok specs_nil))) (few_w _ _ _ _ _ _ _ _ _ _) ⟨⟨hp, by decide⟩, fun g => ⟨⟨?_, by decide⟩, ?_⟩, fun g => ?_⟩
    · obtain ⟨N, d, k, er, h1, h2⟩ := hp
      rw [er] at g ⊢
      simp only [decide_eq_true_eq] at g
      exact ⟨d, k, rfl, by have := cnt_nodes h2 g; omega, h2⟩
    · unfold fewL; rw [g, Bool.true_and]
    · unfold fewL; rw [g, Bool.false_and]
  · exact absurd hl (by simp)
theorem fewL_G {d : RD} {k : Rs} (h : (Rs.cons d k .nil).lim) (hf : fewL (d.row k.rows) = true) : (Rs.cons d k .nil).G ∧ (Rs.cons d k .nil).nodes < 60 := by
  unfold fewL at hf
  rw [Bool.and_eq_true, decide_eq_true_eq] at hf
  have h1 := cnt_nodes h hf.1
  exact ⟨⟨by omega, (few1_spec (few1_ex 100 d k (by omega) h (by decide))).2 hf.2 d k rfl, h⟩, h1⟩

/-! ### A raw lens as it stands -/
theorem plP_spec {row : List PV} (h : ∃ x, plQ row x) : plQ row (plP row) := by
  unfold plP
  rw [dif_pos h]
  exact h.choose_spec
noncomputable def plK (k : Rs) (i : Nat) : List (LD × Ls) := (k.list.take i).map fun e => plP (e.1.row e.2.rows)
theorem plK_succ {k : Rs} {i : Nat} (h : i < k.list.length) : plK k (i + 1) = plK k i ++ [plP (k.list[i].1.row k.list[i].2.rows)] := by
  unfold plK
  rw [List.take_succ_eq_append_getElem h, List.map_append]; rfl
theorem plK_len (k : Rs) (i : Nat) : (plK k i).length ≤ i := by
  unfold plK
  rw [List.length_map, List.length_take]; omega
def rowL (e : LD × Ls) : List PV := e.1.row e.2.rows

theorem pl_ex : ∀ (N : Nat) (d : RD) (k : Rs), (Rs.cons d k .nil).nodes < N → (Rs.cons d k .nil).few → N ≤ 1000 → ∃ x, plQ (d.row k.rows) x
  | 0, d, k, h, _, _ => by omega
  | N + 1, d, k, h, hf, hN => by
    have hr := room_val
    have hm := maxInt_val
    have hS : SpecOK C (S_pl N) := specL_ok (specs_cons nam_ok (specs_cons pln_ok (specs_cons (by
      intro ag al hl x hx hp
      unfold g_pl at hl
      split at hl
      · have e := one_mem hl hx; subst e
        obtain ⟨⟨d', k', er, h1, h2⟩, h3⟩ := hp
        rw [er]
        exact (plP_spec (pl_ex N d' k' h1 h2 h3)).1
      · exact absurd hl (by simp)) specs_nil)))
    have hln := Rs.len_list k
    have hrl := Rs.rows_len k
    have hlen := Rs.len_nodes k
    have hnod : (Rs.cons d k .nil).nodes = k.nodes + 1 := by simp [Rs.nodes]
    obtain ⟨⟨f1, f2, f3⟩, f4, _⟩ := hf
    have kid : ∀ i (hi : i < k.list.length), plQ (k.list[i].1.row k.list[i].2.rows) (plP (k.list[i].1.row k.list[i].2.rows)) := fun i hi => by
      have hmem := List.getElem_mem hi
      have := Rs.mem_nodes hmem
      exact plP_spec (pl_ex N _ _ (by omega) (Rs.mem_few f4 hmem) (by omega))
    have kids : ∀ i, ∀ e ∈ plK k i, (Ls.cons e.1 e.2 .nil).deep ≤ k.nodes ∧ (Ls.cons e.1 e.2 .nil).ok := fun i e he => by
      unfold plK at he
      obtain ⟨y, hy, rfl⟩ := List.mem_map.1 he
      have hy := List.mem_of_mem_take hy
      obtain ⟨j, hj, rfl⟩ := List.mem_iff_getElem.1 hy
      obtain ⟨h1, h2⟩ := (kid j hj).2 _ _ rfl
      have := Rs.mem_nodes (List.getElem_mem hj)
      exact ⟨by omega, h2⟩
    have fin : ∀ i, ∃ x : LD × Ls, (([TV.pv (.agg [.int .i64 d.o, .str (nm5 (wi d.a 5)), .str (nm5 (wi d.b 5)), .bool d.n, .sl (d.nl.map strRow), .bool d.m, .sl (d.ml.map strRow), .sl d.t.rows, .sl [], .sl ((plK k i).map rowL)])], []) : List TV × List TV) = ([.pv (.agg (x.1.row x.2.rows))], []) ∧ (Ls.cons x.1 x.2 .nil).deep ≤ (Rs.cons d k .nil).nodes ∧ (Ls.cons x.1 x.2 .nil).ok := fun i => by
      refine ⟨(⟨d.o, nm5 (wi d.a 5), nm5 (wi d.b 5), d.n, d.nl, d.m, d.ml, d.t, .nil⟩, Ls.of (plK k i)), ?_, ?_, ⟨⟨by simp only; omega, by simp [Tr.nodes], by simp only; omega, by simp only; omega, ?_⟩, Ls.of_ok fun e he => (kids i e he).2, trivial⟩⟩
      · rw [Ls.of_rows]; rfl
      · rw [Ls.one_deep, hnod]
        exact Nat.succ_le_succ (Ls.of_deep fun e he => (kids i e he).1)
      · rw [Ls.of_len]
        have : (plK k i).length ≤ k.list.length := by unfold plK; rw [List.length_map, List.length_take]; omega
        omega
    obtain ⟨r, h1, x, rfl, h2, h3⟩ := ev_wx (Q := fun r => ∃ x : LD × Ls, r = ([.pv (.agg (x.1.row x.2.rows))], []) ∧ (Ls.cons x.1 x.2 .nil).deep ≤ (Rs.cons d k .nil).nodes ∧ (Ls.cons x.1 x.2 .nil).ok) hS (pl_w N d.o d.a d.b d.n (d.nl.map strRow) d.m (d.ml.map strRow) d.t.rows k.rows _) (by
      refine ⟨trivial, trivial, ⟨d.t, rfl, by omega, by omega⟩, ?_⟩
      refine loop_rule hS (by kernel_rfl) 1000 (fun q st => ∃ i : Nat, ((i = 0 ∧ st = pl_h0 i d.o d.a d.b d.n (d.nl.map strRow) d.m (d.ml.map strRow) d.t.rows k.rows 0 [] [] d.o (nm5 (wi d.a 5)) (nm5 (wi d.b 5)) d.n (d.nl.map strRow) d.m (d.ml.map strRow) d.t.rows [] [] [] [] []) ∨ (1 ≤ i ∧ st = pl_hB i d.o d.a d.b d.n (d.nl.map strRow) d.m (d.ml.map strRow) d.t.rows k.rows 0 [] [] d.o (nm5 (wi d.a 5)) (nm5 (wi d.b 5)) d.n (d.nl.map strRow) d.m (d.ml.map strRow) d.t.rows [] [] [] [] [] ((plK k i).map rowL))) ∧ i ≤ k.len ∧ q = k.len - i) ?_ (n := k.len) ⟨0, .inl ⟨rfl, rfl⟩, by omega, rfl⟩
      rintro q st ⟨i, hst, hi, rfl⟩
      have row9 : ∀ e : RD × Rs, [PV.int IntKind.i64 e.1.o, PV.int IntKind.i64 e.1.a, PV.int IntKind.i64 e.1.b, PV.bool e.1.n, PV.sl (e.1.nl.map strRow), PV.bool e.1.m, PV.sl (e.1.ml.map strRow), PV.sl e.1.t.rows, PV.sl e.2.rows] = e.1.row e.2.rows := fun _ => rfl
      have kF : ∀ hi : i < k.list.length, rawF N (k.list[i].1.row k.list[i].2.rows) ∧ N ≤ 1000 := fun hi => by
        have hmem := List.getElem_mem hi
        have := Rs.mem_nodes hmem
        exact ⟨⟨_, _, rfl, by omega, Rs.mem_few f4 hmem⟩, by omega⟩
      have hpk := plK_len k i
      rcases hst with ⟨h0, rfl⟩ | ⟨h1, rfl⟩
      · subst h0
        refine ex_w (pl_l0 _ _ _ _ _ _ _ _ _ _ _ _ _ _ _ _ _ _ _ _ _ _ _ _ _ _ _ _ _ _ _ _ _ _ _ _ _ _) ?_
        rw [hrl]
        refine ⟨fun g => ?_, fun g => ⟨.auto, fin 0⟩⟩
        simp only [decide_eq_true_eq] at g
        have hi' : 0 < k.list.length := by omega
        refine ⟨by omega, _, _, _, _, _, _, _, _, _, Rs.row_get k hi', ?_⟩
        rw [row9]
        refine ⟨kF hi', k.len - 1, by omega, 1, .inr ⟨by omega, ?_⟩, by omega, rfl⟩
        rw [plK_succ hi', w64s (by omega)]
        rfl
      · refine ex_w (pl_lB _ _ _ _ _ _ _ _ _ _ _ _ _ _ _ _ _ _ _ _ _ _ _ _ _ _ _ _ _ _ _ _ _ _ _ _ _ _ _) ?_
        rw [hrl]
        refine ⟨fun g => ?_, fun g => ⟨.auto, fin i⟩⟩
        simp only [decide_eq_true_eq] at g
        have hi' : i < k.list.length := by omega
        refine ⟨by omega, _, _, _, _, _, _, _, _, _, Rs.row_get k hi', ?_⟩
        rw [row9]
        refine ⟨kF hi', ⟨by rw [List.length_map]; omega, by rw [List.length_map]; omega⟩, k.len - (i + 1), by omega, i + 1, .inr ⟨by omega, ?_⟩, by omega, rfl⟩
        rw [plK_succ hi', w64s (by omega), List.map_append]
        rfl)
    exact ⟨x, h1, fun d' k' e => by
      obtain ⟨rfl, hk⟩ := RD.row_inj e
      rw [← Rs.rows_inj hk]
      exact ⟨h2, h3⟩⟩

/-! ### A lens that may be -/
theorem mkP_spec {row : List PV} {dp : Int} (h : ∃ x, mkQ row dp x) : mkQ row dp (mkP row dp) := by
  unfold mkP
  rw [dif_pos h]
  exact h.choose_spec
theorem mk_leaf {dp : Int} (p : LD) (xs : List (LD × Ls)) (h1 : p.t.nodes < 4000000 ∧ p.u.nodes < 4000000 ∧ p.nl.length ≤ 4000000 ∧ p.ml.length ≤ 4000000) (hx : ∀ e ∈ xs, ((Ls.cons e.1 e.2 .nil).deep : Int) ≤ dp ∧ (Ls.cons e.1 e.2 .nil).ok) (hl : xs.length ≤ 10) : ∃ x : LD × Ls, (([TV.pv (.agg (p.row (xs.map rowL)))], []) : List TV × List TV) = ([.pv (.agg (x.1.row x.2.rows))], []) ∧ ((Ls.cons x.1 x.2 .nil).deep : Int) ≤ 1 + (if 0 ≤ dp then dp else 0) ∧ (Ls.cons x.1 x.2 .nil).ok ∧ x.2.len ≤ 10 := by
  refine ⟨(p, Ls.of xs), by rw [Ls.of_rows]; rfl, ?_, ⟨⟨h1.1, h1.2.1, h1.2.2.1, h1.2.2.2, by rw [Ls.of_len]; omega⟩, Ls.of_ok fun e he => (hx e he).2, trivial⟩, by rw [Ls.of_len]; exact hl⟩
  rw [Ls.one_deep]
  show (((Ls.of xs).deep + 1 : Nat) : Int) ≤ _
  cases xs with
  | nil => simp only [Ls.of, Ls.deep]; split <;> omega
  | cons y ys =>
    have h0 := (hx y (by simp)).1
    rw [Ls.one_deep] at h0
    have := Ls.of_deep (B := dp.toNat) (l := y :: ys) fun e he => by have := (hx e he).1; omega
    rw [if_pos (by omega)]
    omega

noncomputable def mkK (k : Rs) (dp : Int) (i : Nat) : List (LD × Ls) := ((k.list.take i).drop 1).map fun e => mkP (e.1.row e.2.rows) dp
theorem mkK_succ {k : Rs} {dp : Int} {i : Nat} (h : i < k.list.length) (h1 : 1 ≤ i) : mkK k dp (i + 1) = mkK k dp i ++ [mkP (k.list[i].1.row k.list[i].2.rows) dp] := by
  unfold mkK
  rw [List.take_succ_eq_append_getElem h, List.drop_append_of_le_length (by rw [List.length_take]; omega), List.map_append]; rfl

theorem mk_ex : ∀ (M : Nat) (dp : Int) (d : RD) (k : Rs), dp + 10 < M → -10 ≤ dp → dp ≤ 100 → (Rs.cons d k .nil).G → ∃ x, mkQ (d.row k.rows) dp x
  | 0, dp, d, k, h, h0, _, _ => by omega
  | M + 1, dp, d, k, h, h0, hd, hG => by
    have hr := room_val
    have hm := maxInt_val
    have sp : ∀ (d' : RD) (k' : Rs), (Rs.cons d' k' .nil).G → 0 < dp → mkQ (d'.row k'.rows) (dp - 1) (mkP (d'.row k'.rows) (dp - 1)) := fun d' k' hg hp => mkP_spec (mk_ex M (dp - 1) d' k' (by omega) (by omega) (by omega) hg)
    have hS : SpecOK C (S_mk dp) := specL_ok (specs_cons (g_within_ok w11_ev) (specs_cons nam_ok (specs_cons m3_ok (specs_cons smallA_ok (specs_cons kof_ok (specs_cons (by
      intro ag al hl x hx hp
      unfold g_mk at hl
      split at hl
      · have e := one_mem hl hx; subst e
        obtain ⟨⟨d', k', er, h1⟩, h2, h3⟩ := hp
        rw [er]
        exact (mkP_spec (mk_ex M _ d' k' (by omega) h2 (by omega) h1)).1
      · exact absurd hl (by simp)) specs_nil))))))
    have hln := Rs.len_list k
    have hrl := Rs.rows_len k
    have hlen := Rs.len_nodes k
    have hnod : (Rs.cons d k .nil).nodes = k.nodes + 1 := by simp [Rs.nodes]
    have hG' := hG
    obtain ⟨g1, ⟨⟨f1, f2, f3⟩, f4, _⟩, ⟨⟨l1, l2, l3, l4, l5⟩, l6, _⟩⟩ := hG'
    have w9 : 0 ≤ wi d.o 9 ∧ wi d.o 9 < 9 := wi_range (n := 9) (by omega) (by omega)
    have w1 : IntKind.wrap .i64 (1 + wi d.o 9) = 1 + wi d.o 9 := w64 (by omega)
    have w2 : IntKind.wrap .i64 (dp - 1) = dp - 1 := w64 (by omega)
    have small : ∀ a b : Nat, (smallF a b (unrow d.t.rows)).nodes < 4000000 := fun a b => by
      rw [unrow_rows]
      have := small_nodes a b d.t
      omega
    have mk6 : ∀ q : List (List UInt8), (((unstr (q.map strRow)).take 6).map nmOf).length ≤ 4000000 := fun q => by
      rw [List.length_map, List.length_take]; omega
    have nil0 : (Tr.nil).nodes < 4000000 := by simp [Tr.nodes]
    have K0 := kof_G 0 hG
    have K1 := kof_G 1 hG
    have row9 : ∀ e : RD × Rs, [PV.int IntKind.i64 e.1.o, PV.int IntKind.i64 e.1.a, PV.int IntKind.i64 e.1.b, PV.bool e.1.n, PV.sl (e.1.nl.map strRow), PV.bool e.1.m, PV.sl (e.1.ml.map strRow), PV.sl e.1.t.rows, PV.sl e.2.rows] = e.1.row e.2.rows := fun _ => rfl
    have kd : ∀ (d' : RD) (k' : Rs), (Rs.cons d' k' .nil).G → 0 < dp → ((Ls.cons (mkP (d'.row k'.rows) (dp - 1)).1 (mkP (d'.row k'.rows) (dp - 1)).2 .nil).deep : Int) ≤ dp ∧ (Ls.cons (mkP (d'.row k'.rows) (dp - 1)).1 (mkP (d'.row k'.rows) (dp - 1)).2 .nil).ok := fun d' k' hg hp => by
      obtain ⟨_, q1, q2, _⟩ := sp d' k' hg hp
      rw [if_pos (by omega)] at q1
      exact ⟨by omega, q2⟩
    have hK : ∃ r : Rs, k.rows = r.rows ∧ r.len ≤ 4000000 := ⟨k, rfl, by omega⟩
    have hT1 : ∃ l : Tr, d.t.rows = l.rows ∧ l.list.length ≤ 140737488351232 ∧ l.lim 140737488351232 ∧ ((0 : Int) ≤ 3 ∧ (3 : Int) ≤ 4000) ∧ (0 : Int) ≤ 2 ∧ (2 : Int) ≤ 4000 := ⟨d.t, rfl, l3, l4, ⟨by decide, by decide⟩, by decide, by decide⟩
    have hT2 : ∃ l : Tr, d.t.rows = l.rows ∧ l.list.length ≤ 140737488351232 ∧ l.lim 140737488351232 ∧ ((0 : Int) ≤ 2 ∧ (2 : Int) ≤ 4000) ∧ (0 : Int) ≤ 3 ∧ (3 : Int) ≤ 4000 := ⟨d.t, rfl, l3, l4, ⟨by decide, by decide⟩, by decide, by decide⟩
    -- what stands in a lens without kids
    have leaf : ∀ (o : Int) (a b : List UInt8), ∃ x : LD × Ls, (([TV.pv (.agg [.int .i64 o, .str a, .str b, .bool d.n, .sl (mk3R (d.nl.map strRow)), .bool d.m, .sl (mk3R (d.ml.map strRow)), .sl [], .sl [], .sl []])], []) : List TV × List TV) = ([.pv (.agg (x.1.row x.2.rows))], []) ∧ ((Ls.cons x.1 x.2 .nil).deep : Int) ≤ 1 + (if 0 ≤ dp then dp else 0) ∧ (Ls.cons x.1 x.2 .nil).ok ∧ x.2.len ≤ 10 := fun o a b =>
      mk_leaf (dp := dp) ⟨o, a, b, d.n, _, d.m, _, .nil, .nil⟩ [] ⟨nil0, nil0, mk6 d.nl, mk6 d.ml⟩ (by simp) (by simp)
    have leafT : ∀ (o : Int) (a b : List UInt8), ∃ x : LD × Ls, (([TV.pv (.agg [.int .i64 o, .str a, .str b, .bool d.n, .sl (mk3R (d.nl.map strRow)), .bool d.m, .sl (mk3R (d.ml.map strRow)), .sl (smallF 3 2 (unrow d.t.rows)).rows, .sl (smallF 2 3 (unrow d.t.rows)).rows, .sl []])], []) : List TV × List TV) = ([.pv (.agg (x.1.row x.2.rows))], []) ∧ ((Ls.cons x.1 x.2 .nil).deep : Int) ≤ 1 + (if 0 ≤ dp then dp else 0) ∧ (Ls.cons x.1 x.2 .nil).ok ∧ x.2.len ≤ 10 := fun o a b =>
      mk_leaf (dp := dp) ⟨o, a, b, d.n, _, d.m, _, smallF 3 2 (unrow d.t.rows), smallF 2 3 (unrow d.t.rows)⟩ [] ⟨small 3 2, small 2 3, mk6 d.nl, mk6 d.ml⟩ (by simp) (by simp)
    -- .. and in one with kids
    have node : ∀ (o : Int) (a b : List UInt8) (m : Bool) (ml : List (List UInt8)) (xs : List (LD × Ls)), (∀ e ∈ xs, ((Ls.cons e.1 e.2 .nil).deep : Int) ≤ dp ∧ (Ls.cons e.1 e.2 .nil).ok) → xs.length ≤ 10 → ∃ x : LD × Ls, (([TV.pv (.agg [.int .i64 o, .str a, .str b, .bool d.n, .sl (mk3R (d.nl.map strRow)), .bool m, .sl (mk3R (ml.map strRow)), .sl [], .sl [], .sl (xs.map rowL)])], []) : List TV × List TV) = ([.pv (.agg (x.1.row x.2.rows))], []) ∧ ((Ls.cons x.1 x.2 .nil).deep : Int) ≤ 1 + (if 0 ≤ dp then dp else 0) ∧ (Ls.cons x.1 x.2 .nil).ok ∧ x.2.len ≤ 10 := fun o a b m ml xs h1 h2 =>
      mk_leaf (dp := dp) ⟨o, a, b, d.n, _, m, _, .nil, .nil⟩ xs ⟨nil0, nil0, mk6 d.nl, mk6 ml⟩ h1 h2
    obtain ⟨r, h1, x, rfl, h2, h3, h4⟩ := ev_wx (Q := fun r => ∃ x : LD × Ls, r = ([.pv (.agg (x.1.row x.2.rows))], []) ∧ ((Ls.cons x.1 x.2 .nil).deep : Int) ≤ 1 + (if 0 ≤ dp then dp else 0) ∧ (Ls.cons x.1 x.2 .nil).ok ∧ x.2.len ≤ 10) hS (mk_w dp d.o d.a d.b d.n (d.nl.map strRow) d.m (d.ml.map strRow) d.t.rows k.rows dp _) (by
      rw [w1, w2, row9, row9]
      refine ⟨by decide, trivial, trivial, ⟨d.nl, rfl, by omega⟩, ⟨d.ml, rfl, by omega⟩, fun g => ⟨fun g2 => ?_, fun g2 => ?_⟩, fun g => ?_⟩
      · exact ⟨⟨by decide, hK⟩, leaf _ _ _⟩
      · simp only [decide_eq_true_eq, decide_eq_false_iff_not] at g g2
        refine ⟨⟨by decide, hK⟩, fun _ => ⟨hT1, hT2, leafT _ _ _⟩, fun _ => ⟨fun _ => ⟨fun _ => leaf _ _ _, fun _ => leaf _ _ _⟩, fun _ => ⟨fun h => ?_, fun _ => ⟨fun h => ?_, fun _ => ⟨fun h => ?_, fun _ => leaf _ _ _⟩⟩⟩⟩⟩
        · simp only [beq_iff_eq] at h; omega
        · simp only [beq_iff_eq] at h; omega
        · simp only [beq_iff_eq] at h; omega
      · simp only [decide_eq_false_iff_not] at g
        have hp : 0 < dp := by omega
        have k0 := kd _ _ K0 hp
        have k1 := kd _ _ K1 hp
        have c0 : rawG ((kofP k.rows 0).1.row (kofP k.rows 0).2.rows) ∧ -10 ≤ dp - 1 ∧ dp - 1 < dp := ⟨⟨_, _, rfl, K0⟩, by omega, by omega⟩
        have c1 : rawG ((kofP k.rows 1).1.row (kofP k.rows 1).2.rows) ∧ -10 ≤ dp - 1 ∧ dp - 1 < dp := ⟨⟨_, _, rfl, K1⟩, by omega, by omega⟩
        have one1 : ∀ e ∈ [mkP ((kofP k.rows 0).1.row (kofP k.rows 0).2.rows) (dp - 1)], ((Ls.cons e.1 e.2 .nil).deep : Int) ≤ dp ∧ (Ls.cons e.1 e.2 .nil).ok := fun e he => by
          simp only [List.mem_singleton] at he
          subst he; exact k0
        have two2 : ∀ e ∈ [mkP ((kofP k.rows 0).1.row (kofP k.rows 0).2.rows) (dp - 1), mkP ((kofP k.rows 1).1.row (kofP k.rows 1).2.rows) (dp - 1)], ((Ls.cons e.1 e.2 .nil).deep : Int) ≤ dp ∧ (Ls.cons e.1 e.2 .nil).ok := fun e he => by
          simp only [List.mem_cons, List.not_mem_nil, or_false] at he
          rcases he with rfl | rfl
          · exact k0
          · exact k1
        refine ⟨⟨by decide, hK⟩, fun _ => ⟨hT1, hT2, leafT _ _ _⟩, fun _ => ⟨fun _ => ⟨fun _ => leaf _ _ _, fun _ => leaf _ _ _⟩, fun _ => ⟨fun _ => ⟨c0, node _ _ _ _ d.ml _ one1 (by simp)⟩, fun _ => ⟨fun _ => ⟨by decide, fun _ => ⟨c0, ⟨by decide, hK⟩, c1, node _ _ _ _ d.nl _ two2 (by simp)⟩, fun _ => ⟨c0, ⟨by decide, hK⟩, c1, node _ _ _ _ d.ml _ two2 (by simp)⟩⟩, fun _ => ⟨fun _ => ⟨c0, ?_⟩, fun _ => leaf _ _ _⟩⟩⟩⟩⟩
        have kids : ∀ i, ∀ e ∈ mkP ((kofP k.rows 0).1.row (kofP k.rows 0).2.rows) (dp - 1) :: mkK k (dp - 1) i, ((Ls.cons e.1 e.2 .nil).deep : Int) ≤ dp ∧ (Ls.cons e.1 e.2 .nil).ok := fun i e he => by
          simp only [List.mem_cons] at he
          rcases he with rfl | he
          · exact k0
          · unfold mkK at he
            obtain ⟨y, hy, rfl⟩ := List.mem_map.1 he
            have hy := List.mem_of_mem_take (List.mem_of_mem_drop hy)
            obtain ⟨j, hj, rfl⟩ := List.mem_iff_getElem.1 hy
            have := kof_G j hG
            rw [kofP_in hj] at this
            exact kd _ _ this hp
        have kl : ∀ i, i ≤ 3 → (mkP ((kofP k.rows 0).1.row (kofP k.rows 0).2.rows) (dp - 1) :: mkK k (dp - 1) i).length ≤ 10 := fun i hi => by
          unfold mkK
          rw [List.length_cons, List.length_map, List.length_drop, List.length_take]; omega
        refine loop_rule hS (by kernel_rfl) 1000 (fun q st => ∃ i : Nat, st = mk_hB dp i d.o d.a d.b d.n (d.nl.map strRow) d.m (d.ml.map strRow) d.t.rows k.rows 0 [] [] (1 + wi d.o 9) (nm5 (wi d.a 5)) (nm5 (wi d.b 5)) d.n (mk3R (d.nl.map strRow)) d.m (mk3R (d.ml.map strRow)) [] [] [] [] [] ((mkP ((kofP k.rows 0).1.row (kofP k.rows 0).2.rows) (dp - 1) :: mkK k (dp - 1) i).map rowL) ∧ 1 ≤ i ∧ i ≤ 3 ∧ q = 3 - i) ?_ (n := 2) ⟨1, ?_, by omega, by omega, rfl⟩
        · rintro q st ⟨i, rfl, hi1, hi3, rfl⟩
          refine ex_w (mk_lB _ _ _ _ _ _ _ _ _ _ _ _ _ _ _ _ _ _ _ _ _ _ _ _ _ _ _ _ _ _ _ _ _ _ _ _ _ _ _ _) ?_
          rw [hrl, w2]
          refine ⟨fun g => ⟨fun g2 => ?_, fun g2 => ⟨.auto, node _ _ _ _ d.ml _ (kids i) (kl i hi3)⟩⟩, fun g => ⟨.auto, node _ _ _ _ d.ml _ (kids i) (kl i hi3)⟩⟩
          simp only [decide_eq_true_eq] at g g2
          have hi' : i < k.list.length := by omega
          have hmem := List.getElem_mem hi'
          have hgi := kof_G i hG
          rw [kofP_in hi'] at hgi
          have hkl := kl i hi3
          refine ⟨by omega, _, _, _, _, _, _, _, _, _, Rs.row_get k hi', ?_⟩
          rw [row9]
          refine ⟨⟨⟨_, _, rfl, hgi⟩, by omega, by omega⟩, ⟨by rw [List.length_map]; omega, by rw [List.length_map]; omega⟩, 3 - (i + 1), by omega, i + 1, ?_, by omega, by omega, rfl⟩
          rw [mkK_succ hi' hi1, w64s (by omega), ← List.cons_append, List.map_append]
          rfl
        · have : mkK k (dp - 1) 1 = [] := by
            unfold mkK
            rw [List.drop_of_length_le (by rw [List.length_take]; omega)]; rfl
          rw [this]
          rfl)
    exact ⟨x, h1, h2, h3, h4⟩

end Go.Proofs.YtbnjbianobdleaaGreat.Vm
