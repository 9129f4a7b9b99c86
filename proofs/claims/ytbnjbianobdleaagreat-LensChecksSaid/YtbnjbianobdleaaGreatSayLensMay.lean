/-
  lens.may, and the document's walk: what they answer of a lens.
-/
import Derived.Test.YtbnjbianobdleaaGreatSayLensCheck
namespace Go.Proofs.YtbnjbianobdleaaGreat.Vm
open Go Go.RowKit
set_option linter.unusedVariables false
set_option linter.unusedSimpArgs false
set_option maxRecDepth 100000

/-! ### Parts -/
theorem strs_inj {a b : List (List UInt8)} (h : a.map strRow = b.map strRow) : a = b := by rw [← unstr_map a, h, unstr_map]
theorem LD.row_inj {p q : LD} {k l : List (List PV)} (h : p.row k = q.row l) : p = q ∧ k = l := by
  obtain ⟨o, a, b, n, nl, m, ml, t, u⟩ := p
  obtain ⟨o', a', b', n', nl', m', ml', t', u'⟩ := q
  simp only [LD.row, List.cons.injEq, PV.int.injEq, PV.str.injEq, PV.bool.injEq, PV.sl.injEq, and_true, true_and] at h
  obtain ⟨h1, h2, h3, h4, h5, h6, h7, h8, h9, h10⟩ := h
  have h5 := strs_inj h5
  have h7 := strs_inj h7
  have h8 := rows_inj h8
  have h9 := rows_inj h9
  subst h1 h2 h3 h4 h5 h6 h7 h8 h9
  exact ⟨rfl, h10⟩
theorem Ls.rows_inj : ∀ {l m : Ls}, l.rows = m.rows → l = m
  | .nil, .nil, _ => rfl
  | .nil, .cons _ _ _, h => by simp [Ls.rows] at h
  | .cons _ _ _, .nil, h => by simp [Ls.rows] at h
  | .cons p k r, .cons p' k' r', h => by
    simp only [Ls.rows, List.cons.injEq] at h
    obtain ⟨h1, h2⟩ := h
    obtain ⟨h3, h4⟩ := LD.row_inj h1
    rw [h3, Ls.rows_inj h4, Ls.rows_inj h2]
theorem unls_rows (l : Ls) : unls l.rows = l := by
  unfold unls
  have h : ∃ u : Ls, l.rows = u.rows := ⟨l, rfl⟩
  rw [dif_pos h]
  exact (Ls.rows_inj h.choose_spec).symm
def Ls.list : Ls → List (LD × Ls)
  | .nil => []
  | .cons p k r => (p, k) :: r.list
def Ls.of : List (LD × Ls) → Ls
  | [] => .nil
  | (p, k) :: r => .cons p k (Ls.of r)
theorem Ls.of_list : ∀ l : Ls, Ls.of l.list = l
  | .nil => rfl
  | .cons p k r => by simp [Ls.list, Ls.of, Ls.of_list r]
theorem Ls.rows_list : ∀ l : Ls, l.rows = l.list.map fun e => e.1.row e.2.rows
  | .nil => rfl
  | .cons p k r => by simp [Ls.rows, Ls.list, Ls.rows_list r]
theorem Ls.len_list : ∀ l : Ls, l.list.length = l.len
  | .nil => rfl
  | .cons p k r => by simp [Ls.list, Ls.len, Ls.len_list r]
theorem Ls.rows_len (l : Ls) : l.rows.length = l.len := by rw [Ls.rows_list, List.length_map, Ls.len_list]
theorem Ls.row_get (l : Ls) {i : Nat} (h : i < l.list.length) : l.rows[Int.toNat (i : Int)]? = some (l.list[i].1.row l.list[i].2.rows) := by
  rw [Int.toNat_natCast, Ls.rows_list, List.getElem?_map, List.getElem?_eq_getElem h]; rfl
theorem Ls.mem_deep : ∀ {l : Ls} {e : LD × Ls}, e ∈ l.list → e.2.deep + 1 ≤ l.deep
  | .nil, e, h => by simp [Ls.list] at h
  | .cons p k r, e, h => by
    simp only [Ls.list, List.mem_cons] at h
    simp only [Ls.deep]
    rcases h with rfl | h
    · exact Nat.le_max_left _ _
    · exact Nat.le_trans (Ls.mem_deep h) (Nat.le_max_right _ _)
theorem Ls.mem_ok : ∀ {l : Ls} {e : LD × Ls}, l.ok → e ∈ l.list → (Ls.cons e.1 e.2 .nil).ok
  | .nil, e, _, h => by simp [Ls.list] at h
  | .cons p k r, e, ho, h => by
    simp only [Ls.list, List.mem_cons] at h
    rcases h with rfl | h
    · exact ⟨ho.1, ho.2.1, trivial⟩
    · exact Ls.mem_ok ho.2.2 h

/-! ### The count, the error -/
theorem mayE_row (p : LD) (k : Ls) (c d : Int) : mayE (p.row k.rows) c d = (walkF (.cons p k .nil) c d).2 := by
  unfold mayE
  rw [show [p.row k.rows] = (Ls.cons p k .nil).rows from rfl, unls_rows]
theorem mayN_row (p : LD) (k : Ls) (c d : Int) : mayN (p.row k.rows) c d = (walkF (.cons p k .nil) c d).1 := by
  unfold mayN
  rw [show [p.row k.rows] = (Ls.cons p k .nil).rows from rfl, unls_rows]
theorem may_err {p : LD} {k : Ls} {c d e : Int} (h : errL p k.len (c + 1) d = e) (he : e ≠ 0) : walkF (.cons p k .nil) c d = (c + 1, e) := by
  rw [walkF, h, if_pos he]
theorem may_go {p : LD} {k : Ls} {c d : Int} (h : errL p k.len (c + 1) d = 0) : walkF (.cons p k .nil) c d = walkF k (c + 1) (d + 1) := by
  rw [walkF, h, if_neg (by simp)]
  split
  · rfl
  · rename_i h2
    have h2 : (walkF k (c + 1) (d + 1)).2 = 0 := by simpa using h2
    rw [walkF]
    exact Prod.ext rfl h2.symm
theorem walk_cons (p : LD) (k r : Ls) (c d : Int) : walkF (.cons p k r) c d = if (walkF (.cons p k .nil) c d).2 ≠ 0 then walkF (.cons p k .nil) c d else walkF r (walkF (.cons p k .nil) c d).1 d := by
  by_cases h : errL p k.len (c + 1) d = 0
  · rw [may_go h, walkF, h, if_neg (by simp)]
  · rw [may_err rfl h, walkF, if_pos h, if_pos h]
theorem errL_zero {p : LD} {n : Nat} {c d : Int} (h : errL p n c d = 0) : c ≤ 40 ∧ d ≤ 12 := by
  unfold errL at h
  split at h
  · simp at h
  · rename_i h1
    split at h
    · simp at h
    · rename_i h2; omega
theorem walk_count : ∀ (l : Ls) (c d : Int), (walkF l c d).2 = 0 → c ≤ 40 → c ≤ (walkF l c d).1 ∧ (walkF l c d).1 ≤ 40
  | .nil, c, d, _, h => by simp [walkF, h]
  | .cons p k r, c, d, h, hc => by
    rw [walkF] at h ⊢
    split at h
    · rename_i h1; exact absurd h h1
    · rename_i h1
      have h1 : errL p k.len (c + 1) d = 0 := by simpa using h1
      rw [if_neg (by simpa using h1)]
      split at h
      · rename_i h2; exact absurd h h2
      · rename_i h2
        have h2 : (walkF k (c + 1) (d + 1)).2 = 0 := by simpa using h2
        rw [if_neg (by simpa using h2)]
        have i1 := walk_count k (c + 1) (d + 1) h2 (errL_zero h1).1
        have i2 := walk_count r _ d h i1.2
        omega
theorem walk_drop {l : Ls} {i : Nat} (h : i < l.list.length) (c d : Int) : walkF (Ls.of (l.list.drop i)) c d = if (walkF (.cons l.list[i].1 l.list[i].2 .nil) c d).2 ≠ 0 then walkF (.cons l.list[i].1 l.list[i].2 .nil) c d else walkF (Ls.of (l.list.drop (i + 1))) (walkF (.cons l.list[i].1 l.list[i].2 .nil) c d).1 d := by
  rw [List.drop_eq_getElem_cons h]
  exact walk_cons _ _ _ _ _

theorem may_loop (N : Nat) (o : Int) (a b : List UInt8) (n : Bool) (nl : List (List PV)) (m : Bool) (ml t u kr : List (List PV)) (c d : Int) (hS : SpecOK C (S_may N)) (k : Ls) (hk : k.deep ≤ N) (hok : k.ok) (hkl : k.len ≤ 4000000) (c' e : Int) (hc : 0 ≤ c' ∧ c' ≤ 40) (hd : 0 ≤ e ∧ e ≤ 12) (RES : List TV × List TV) (hR : RES = ([.pv (.int .i64 (walkF k c' (e + 1)).2)], [.ptr [.pv (.int .i64 (walkF k c' (e + 1)).1)]])) : LoopAt C 33 may_c0 (may_h0 e k.rows k.len 0 c') (exK (blockK (1 : Nat) (seqK (wAt C (S_may N) (33 : FuncId) (99993 : Nat) (CP.dn (CP.dn (CP.dn (CP.dn (CP.dn (CP.dn (CP.dn CP.top (1 : Nat)) (1 : Nat)) (1 : Nat)) (1 : Nat)) (1 : Nat)) (1 : Nat)) (1 : Nat))) (retK C (33 : FuncId) [TV.pv (PV.agg [PV.int IntKind.i64 o, PV.str a, PV.str b, PV.bool n, PV.sl nl, PV.bool m, PV.sl ml, PV.sl t, PV.sl u, PV.sl kr]), TV.ptr [TV.pv (PV.int IntKind.i64 c)], TV.pv (PV.int IntKind.i64 d)] (fun r => r = RES))))) := by
  have w2 : IntKind.wrap .i64 (e + 1) = e + 1 := w64 (by omega)
  have hln := Ls.len_list k
  refine loop_rule hS (by kernel_rfl) 1000 (fun q st => ∃ (i : Nat) (x : Int), st = may_h0 e k.rows k.len i x ∧ i ≤ k.len ∧ (0 ≤ x ∧ x ≤ 40) ∧ walkF k c' (e + 1) = walkF (Ls.of (k.list.drop i)) x (e + 1) ∧ q = k.len - i) ?_ (n := k.len) ⟨0, c', rfl, by omega, hc, by rw [List.drop_zero, Ls.of_list], rfl⟩
  rintro q st ⟨i, x, rfl, hi, hx, he, rfl⟩
  refine ex_w (may_l0 _ _ _ _ _ _ _ _ _ _ _ _ _ _ _ _ _ _ _ _) ⟨fun g => ?_, fun g => ?_⟩
  · simp only [decide_eq_true_eq] at g
    have hi' : i < k.list.length := by omega
    have hm := List.getElem_mem hi'
    have hdp := Ls.mem_deep hm
    rw [walk_drop hi'] at he
    refine ⟨by omega, _, _, _, _, _, _, _, _, _, _, Ls.row_get k hi', ?_⟩
    have eE := mayE_row k.list[i].1 k.list[i].2 x (e + 1)
    have eN := mayN_row k.list[i].1 k.list[i].2 x (e + 1)
    unfold LD.row at eE eN
    rw [w2, eE, eN]
    refine ⟨⟨⟨_, _, rfl, by omega, Ls.mem_ok hok hm⟩, hx, by omega, by omega⟩, fun h => ⟨.auto, ?_⟩, fun h => ?_⟩
    · have h := bne_iff_ne.1 h
      rw [if_pos h] at he
      rw [hR, he]
    · have h : (walkF (.cons k.list[i].1 k.list[i].2 .nil) x (e + 1)).2 = 0 := by simpa using h
      rw [if_neg (by simpa using h)] at he
      have hcnt := walk_count _ _ _ h hx.2
      exact ⟨k.len - (i + 1), by omega, i + 1, _, by rw [w64s (by omega)]; rfl, by omega, ⟨by omega, hcnt.2⟩, he, rfl⟩
  · simp only [decide_eq_false_iff_not] at g
    have : i = k.list.length := by omega
    subst this
    rw [List.drop_length] at he
    exact ⟨.auto, by rw [hR, he]; rfl⟩

theorem lwk_loop (N : Nat) (o : Int) (a b : List UInt8) (n : Bool) (nl : List (List PV)) (m : Bool) (ml t u kr : List (List PV)) (c d : Int) (hS : SpecOK C (S_lwk N)) (p : LD) (k : Ls) (hk : k.deep ≤ N) (hok : k.ok) (hkl : k.len ≤ 4000000) (c' er e : Int) (hc : 0 ≤ c' ∧ (er = 0 → c' ≤ 40)) (hd : 0 ≤ e ∧ (er = 0 → e ≤ 12) ∧ e ≤ 13) (RES : List TV × List TV) (hR : RES = if er ≠ 0 then ([], [.ptr [.pv (.int .i64 c'), .pv (.int .i64 er)]]) else ([], [.ptr [.pv (.int .i64 (walkF k c' (e + 1)).1), .pv (.int .i64 (walkF k c' (e + 1)).2)]])) : LoopAt C 35 lwk_c0 (lwk_h0 e 0 c' er p.o p.a p.b p.n (p.nl.map strRow) p.m (p.ml.map strRow) p.t.rows p.u.rows k.rows) (exK (blockK (1 : Nat) (retK C (35 : FuncId) [TV.ptr [TV.pv (PV.int IntKind.i64 c), TV.pv (PV.int IntKind.i64 (0 : Int))], TV.pv (PV.agg [PV.int IntKind.i64 o, PV.str a, PV.str b, PV.bool n, PV.sl nl, PV.bool m, PV.sl ml, PV.sl t, PV.sl u, PV.sl kr]), TV.pv (PV.int IntKind.i64 d)] (fun r => r = RES)))) := by
  have w2 : IntKind.wrap .i64 (e + 1) = e + 1 := w64 (by omega)
  have hln := Ls.len_list k
  have hrl := Ls.rows_len k
  refine loop_rule hS (by kernel_rfl) 1000 (fun q st => ∃ (i : Nat) (x y : Int), st = lwk_h0 e i x y p.o p.a p.b p.n (p.nl.map strRow) p.m (p.ml.map strRow) p.t.rows p.u.rows k.rows ∧ i ≤ k.len ∧ (y = 0 → 0 ≤ x ∧ x ≤ 40 ∧ e ≤ 12) ∧ RES = (if y ≠ 0 then ([], [.ptr [.pv (.int .i64 x), .pv (.int .i64 y)]]) else ([], [.ptr [.pv (.int .i64 (walkF (Ls.of (k.list.drop i)) x (e + 1)).1), .pv (.int .i64 (walkF (Ls.of (k.list.drop i)) x (e + 1)).2)]])) ∧ q = k.len - i) ?_ (n := k.len) ⟨0, c', er, rfl, by omega, fun h => ⟨hc.1, hc.2 h, hd.2.1 h⟩, by rw [List.drop_zero, Ls.of_list]; exact hR, rfl⟩
  rintro q st ⟨i, x, y, rfl, hi, hx, he, rfl⟩
  refine ex_w (lwk_l0 _ _ _ _ _ _ _ _ _ _ _ _ _ _ _ _ _ _ _ _ _ _ _ _ _ _ _ _ _) ?_
  rw [hrl]
  refine ⟨fun g => ⟨fun gy => ?_, fun gy => ⟨.auto, ?_⟩⟩, fun g => ⟨.auto, ?_⟩⟩
  · simp only [decide_eq_true_eq] at g
    have gy : y = 0 := by simpa using gy
    obtain ⟨x1, x2, x3⟩ := hx gy
    have hi' : i < k.list.length := by omega
    have hm := List.getElem_mem hi'
    have hdp := Ls.mem_deep hm
    rw [if_neg (by simpa using gy), walk_drop hi'] at he
    refine ⟨by omega, _, _, _, _, _, _, _, _, _, _, Ls.row_get k hi', ?_⟩
    have eE := mayE_row k.list[i].1 k.list[i].2 x (e + 1)
    have eN := mayN_row k.list[i].1 k.list[i].2 x (e + 1)
    unfold LD.row at eE eN
    rw [w2, eE, eN]
    refine ⟨⟨⟨_, _, rfl, by omega, Ls.mem_ok hok hm⟩, ⟨gy, x1, x2⟩, by omega, by omega⟩, k.len - (i + 1), by omega, i + 1, _, _, by rw [w64s (by omega)]; rfl, by omega, fun h => ?_, ?_, rfl⟩
    · have hcnt := walk_count _ _ _ h x2
      exact ⟨by omega, hcnt.2, x3⟩
    · rw [he]
      by_cases h : (walkF (.cons k.list[i].1 k.list[i].2 .nil) x (e + 1)).2 = 0
      · rw [if_neg (by simpa using h), if_neg (by simpa using h)]
      · rw [if_pos h, if_pos h]
  · have gy : y ≠ 0 := by simpa using gy
    rw [he, if_pos gy]
  · simp only [decide_eq_false_iff_not] at g
    have : i = k.list.length := by omega
    subst this
    rw [he]
    by_cases h : y = 0
    · subst h
      rw [if_neg (by simp), List.drop_length]; rfl
    · rw [if_pos h]

/-! ### What may be, a part at a time -/
theorem errL_4 {p : LD} {n : Nat} {c d : Int} (h : 40 < c) : errL p n c d = 4 := by unfold errL; rw [if_pos h]
theorem errL_11 {p : LD} {n : Nat} {c d : Int} (h : ¬ 40 < c) (h2 : 12 < d) : errL p n c d = 11 := by unfold errL; rw [if_neg h, if_pos h2]
theorem errL_3 {p : LD} {n : Nat} {c d : Int} (h : ¬ 40 < c) (h2 : ¬ 12 < d) (h3 : ¬ (1 ≤ p.o ∧ p.o ≤ 9)) : errL p n c d = 3 := by unfold errL; rw [if_neg h, if_neg h2, if_pos h3]
theorem errL_1 {p : LD} {n : Nat} {c d : Int} (h : ¬ 40 < c) (h2 : ¬ 12 < d) (h3 : 1 ≤ p.o ∧ p.o ≤ 9) (h4 : kidB p.o n = false) : errL p n c d = 1 := by unfold errL; rw [if_neg h, if_neg h2, if_neg (not_not_intro h3), if_pos h4]
theorem errL_5 {p : LD} {n : Nat} {c d : Int} (h : ¬ 40 < c) (h2 : ¬ 12 < d) (h3 : 1 ≤ p.o ∧ p.o ≤ 9) (h4 : kidB p.o n = true) (h5 : 80 < p.a.length ∨ 80 < p.b.length) : errL p n c d = 5 := by unfold errL; rw [if_neg h, if_neg h2, if_neg (not_not_intro h3), if_neg (by rw [h4]; simp), if_pos h5]
theorem errL_1' {p : LD} {n : Nat} {c d : Int} (h : ¬ 40 < c) (h2 : ¬ 12 < d) (h3 : 1 ≤ p.o ∧ p.o ≤ 9) (h4 : kidB p.o n = true) (h5 : ¬ (80 < p.a.length ∨ 80 < p.b.length)) (h6 : p.o = 3 ∧ p.a = p.b) : errL p n c d = 1 := by unfold errL; rw [if_neg h, if_neg h2, if_neg (not_not_intro h3), if_neg (by rw [h4]; simp), if_neg h5, if_pos h6]
theorem errL_go {p : LD} {n : Nat} {c d : Int} (h : ¬ 40 < c) (h2 : ¬ 12 < d) (h3 : 1 ≤ p.o ∧ p.o ≤ 9) (h4 : kidB p.o n = true) (h5 : ¬ (80 < p.a.length ∨ 80 < p.b.length)) (h6 : ¬ (p.o = 3 ∧ p.a = p.b)) : errL p n c d = if setF p.o (p.nl.map strRow) (p.ml.map strRow) ≠ 0 then setF p.o (p.nl.map strRow) (p.ml.map strRow) else treF p.o p.t.rows p.u.rows := by unfold errL; rw [if_neg h, if_neg h2, if_neg (not_not_intro h3), if_neg (by rw [h4]; simp), if_neg h5, if_neg h6]

theorem may_ok : ∀ N, ∀ ag al, g_may N ag = some al → ∀ a ∈ al, a.1 → Ev C 33 ag a.2
  | 0, ag, al, hl, x, hx, hp => by
    unfold g_may at hl
    split at hl
    · have e := one_mem hl hx; subst e
      obtain ⟨⟨p, k, _, h, _⟩, _⟩ := hp
      exact absurd h (by omega)
    · exact absurd hl (by simp)
  | N + 1, ag, al, hl, x, hx, hp => by
    have hS : SpecOK C (S_may N) := specL_ok (specs_cons sts_ok (specs_cons tre_ok (specs_cons kds_ok (specs_cons shas_ok (specs_cons (may_ok N) specs_nil)))))
    unfold g_may at hl
    split at hl
    · rename_i o a b n nl m ml t u kr c d
      have e := one_mem hl hx; subst e
      obtain ⟨⟨p, k, er, hk, hok⟩, hc, hd⟩ := hp
      simp only [LD.row, List.cons.injEq, PV.int.injEq, PV.str.injEq, PV.bool.injEq, PV.sl.injEq, and_true, true_and] at er
      obtain ⟨rfl, rfl, rfl, rfl, rfl, rfl, rfl, rfl, rfl, rfl⟩ := er
      obtain ⟨⟨o1, o2, o3, o4, o5⟩, ok2, _⟩ := hok
      have w1 : IntKind.wrap .i64 (c + 1) = c + 1 := w64 (by omega)
      have eE := mayE_row p k c d
      have eN := mayN_row p k c d
      have hrl := Ls.rows_len k
      have hO : strO (p.nl.map strRow) ∧ strO (p.ml.map strRow) := ⟨⟨_, rfl, o3⟩, _, rfl, o4⟩
      have hT : treO p.t.rows ∧ treO p.u.rows := ⟨⟨_, rfl, o1⟩, _, rfl, o2⟩
      unfold LD.row at eE eN
      rw [eE, eN]
      refine ev_w hS (may_w _ _ _ _ _ _ _ _ _ _ _ _ _ _) ?_
      rw [w1, hrl]
      have kb : decide (kidLo p.o ≤ (k.len : Int) ∧ (k.len : Int) ≤ kidHi p.o) = kidB p.o k.len := rfl
      rw [kb]
      have bad : ∀ {e : Int}, errL p k.len (c + 1) d = e → e ≠ 0 → (([TV.pv (PV.int IntKind.i64 e)], [TV.ptr [TV.pv (PV.int IntKind.i64 (c + 1))]]) : List TV × List TV) = ([TV.pv (PV.int IntKind.i64 (walkF (Ls.cons p k .nil) c d).2)], [TV.ptr [TV.pv (PV.int IntKind.i64 (walkF (Ls.cons p k .nil) c d).1)]]) := fun h1 h2 => by rw [may_err h1 h2]
      refine ⟨fun g1 => ?_, fun g1 => ⟨fun g2 => ?_, fun g2 => ⟨trivial, fun g3 => ?_, fun g3 => ⟨trivial, trivial, fun g4 => ?_, fun g4 => ⟨fun g5 => ?_, fun g5 => ⟨fun g6 => ?_, fun g6 => ⟨fun g7 => ⟨fun g8 => ?_, fun g8 => ⟨hO, fun g9 => ?_, fun g9 => ⟨hT, fun g10 => ?_, fun g10 => ?_⟩⟩⟩, fun g7 => ⟨hO, fun g9 => ?_, fun g9 => ⟨hT, fun g10 => ?_, fun g10 => ?_⟩⟩⟩⟩⟩⟩⟩⟩⟩
      all_goals simp only [decide_eq_true_eq, decide_eq_false_iff_not, Bool.not_eq_true', Bool.not_eq_false', beq_iff_eq, beq_eq_false_iff_ne, bne_iff_ne, ne_eq, gt_iff_lt, bne_eq_false_iff_eq] at *
      · exact bad (errL_4 g1) (by decide)
      · exact bad (errL_11 g1 g2) (by decide)
      · exact bad (errL_3 g1 g2 g3) (by decide)
      · exact bad (errL_1 g1 g2 g3 g4) (by decide)
      · exact bad (errL_5 g1 g2 g3 g4 (.inl (by omega))) (by decide)
      · exact bad (errL_5 g1 g2 g3 g4 (.inr (by omega))) (by decide)
      · exact bad (errL_1' g1 g2 g3 g4 (by omega) ⟨g7, g8⟩) (by decide)
      · exact bad ((errL_go g1 g2 g3 g4 (by omega) (fun h => g8 h.2)).trans (if_pos g9)) g9
      · exact bad ((errL_go g1 g2 g3 g4 (by omega) (fun h => g8 h.2)).trans (if_neg (not_not_intro g9))) g10
      · have hz := ((errL_go g1 g2 g3 g4 (by omega) (fun h => g8 h.2)).trans (if_neg (not_not_intro g9))).trans g10
        exact may_loop N _ _ _ _ _ _ _ _ _ _ _ _ hS k (by omega) ok2 o5 (c + 1) d ⟨by omega, by omega⟩ ⟨by omega, by omega⟩ _ (by rw [may_go hz])
      · exact bad ((errL_go g1 g2 g3 g4 (by omega) (fun h => g7 h.1)).trans (if_pos g9)) g9
      · exact bad ((errL_go g1 g2 g3 g4 (by omega) (fun h => g7 h.1)).trans (if_neg (not_not_intro g9))) g10
      · have hz := ((errL_go g1 g2 g3 g4 (by omega) (fun h => g7 h.1)).trans (if_neg (not_not_intro g9))).trans g10
        exact may_loop N _ _ _ _ _ _ _ _ _ _ _ _ hS k (by omega) ok2 o5 (c + 1) d ⟨by omega, by omega⟩ ⟨by omega, by omega⟩ _ (by rw [may_go hz])
    · exact absurd hl (by simp)

theorem lwk_ok : ∀ N, ∀ ag al, g_lwk N ag = some al → ∀ a ∈ al, a.1 → Ev C 35 ag a.2
  | 0, ag, al, hl, x, hx, hp => by
    unfold g_lwk at hl
    split at hl
    · have e := one_mem hl hx; subst e
      obtain ⟨⟨p, k, _, h, _⟩, _⟩ := hp
      exact absurd h (by omega)
    · exact absurd hl (by simp)
  | N + 1, ag, al, hl, x, hx, hp => by
    have hS : SpecOK C (S_lwk N) := specL_ok (specs_cons rsts_ok (specs_cons rkds_ok (specs_cons (lwk_ok N) specs_nil)))
    unfold g_lwk at hl
    split at hl
    · rename_i c e0 o a b n nl m ml t u kr d
      have e := one_mem hl hx; subst e
      obtain ⟨⟨p, k, er, hk, hok⟩, ⟨rfl, hc⟩, hd⟩ := hp
      simp only [LD.row, List.cons.injEq, PV.int.injEq, PV.str.injEq, PV.bool.injEq, PV.sl.injEq, and_true, true_and] at er
      obtain ⟨rfl, rfl, rfl, rfl, rfl, rfl, rfl, rfl, rfl, rfl⟩ := er
      obtain ⟨⟨o1, o2, o3, o4, o5⟩, ok2, _⟩ := hok
      have w1 : IntKind.wrap .i64 (c + 1) = c + 1 := w64 (by omega)
      have eE := mayE_row p k c d
      have eN := mayN_row p k c d
      have hrl := Ls.rows_len k
      have hO : strO (p.nl.map strRow) ∧ strO (p.ml.map strRow) := ⟨⟨_, rfl, o3⟩, _, rfl, o4⟩
      have hT : treO p.t.rows ∧ treO p.u.rows := ⟨⟨_, rfl, o1⟩, _, rfl, o2⟩
      unfold LD.row at eE eN
      rw [eE, eN]
      refine ev_w hS (lwk_w _ _ _ _ _ _ _ _ _ _ _ _ _ _) ?_
      rw [w1, hrl]
      have hR : ∀ er : Int, errL p k.len (c + 1) d = er → (([], [TV.ptr [TV.pv (PV.int IntKind.i64 (walkF (Ls.cons p k .nil) c d).1), TV.pv (PV.int IntKind.i64 (walkF (Ls.cons p k .nil) c d).2)]]) : List TV × List TV) = if er ≠ 0 then ([], [TV.ptr [TV.pv (PV.int IntKind.i64 (c + 1)), TV.pv (PV.int IntKind.i64 er)]]) else ([], [TV.ptr [TV.pv (PV.int IntKind.i64 (walkF k (c + 1) (d + 1)).1), TV.pv (PV.int IntKind.i64 (walkF k (c + 1) (d + 1)).2)]]) := fun er h => by
        by_cases he : er = 0
        · subst he; rw [if_neg (by simp), may_go h]
        · rw [if_pos he, may_err h he]
      refine ⟨fun g1 => ?_, fun g1 => ⟨fun g2 => ?_, fun g2 => ⟨fun g3 => ?_, fun g3 => ⟨fun g3' => ?_, fun g3' => ⟨trivial, fun g4 => ?_, fun g4 => ⟨fun g5 => ?_, fun g5 => ⟨fun g6 => ?_, fun g6 => ⟨fun g7 => ⟨fun g8 => ?_, fun g8 => ⟨⟨hO, hT⟩, ?_⟩⟩, fun g7 => ⟨⟨hO, hT⟩, ?_⟩⟩⟩⟩⟩⟩⟩⟩⟩
      all_goals simp only [decide_eq_true_eq, decide_eq_false_iff_not, Bool.not_eq_true', Bool.not_eq_false', beq_iff_eq, beq_eq_false_iff_ne, bne_iff_ne, ne_eq, gt_iff_lt, bne_eq_false_iff_eq] at g1
      all_goals try simp only [decide_eq_true_eq, decide_eq_false_iff_not, gt_iff_lt] at g2
      all_goals try simp only [decide_eq_true_eq, decide_eq_false_iff_not, gt_iff_lt] at g3
      all_goals try simp only [decide_eq_true_eq, decide_eq_false_iff_not, gt_iff_lt] at g3'
      all_goals try simp only [Bool.not_eq_true', Bool.not_eq_false'] at g4
      all_goals try simp only [decide_eq_true_eq, decide_eq_false_iff_not, gt_iff_lt] at g5
      all_goals try simp only [decide_eq_true_eq, decide_eq_false_iff_not, gt_iff_lt] at g6
      all_goals try simp only [beq_iff_eq, beq_eq_false_iff_ne, ne_eq] at g7
      all_goals try simp only [beq_iff_eq, beq_eq_false_iff_ne, ne_eq] at g8
      · have E : errL p k.len (c + 1) d = _ := errL_4 g1
        exact lwk_loop N _ _ _ _ _ _ _ _ _ _ _ _ hS p k (by omega) ok2 o5 (c + 1) _ d ⟨by omega, fun h => (errL_zero (E.trans h)).1⟩ ⟨by omega, fun h => (errL_zero (E.trans h)).2, by omega⟩ _ (hR _ E)
      · have E : errL p k.len (c + 1) d = _ := errL_11 g1 g2
        exact lwk_loop N _ _ _ _ _ _ _ _ _ _ _ _ hS p k (by omega) ok2 o5 (c + 1) _ d ⟨by omega, fun h => (errL_zero (E.trans h)).1⟩ ⟨by omega, fun h => (errL_zero (E.trans h)).2, by omega⟩ _ (hR _ E)
      · have E : errL p k.len (c + 1) d = _ := errL_3 g1 g2 (by omega)
        exact lwk_loop N _ _ _ _ _ _ _ _ _ _ _ _ hS p k (by omega) ok2 o5 (c + 1) _ d ⟨by omega, fun h => (errL_zero (E.trans h)).1⟩ ⟨by omega, fun h => (errL_zero (E.trans h)).2, by omega⟩ _ (hR _ E)
      · have E : errL p k.len (c + 1) d = _ := errL_3 g1 g2 (by omega)
        exact lwk_loop N _ _ _ _ _ _ _ _ _ _ _ _ hS p k (by omega) ok2 o5 (c + 1) _ d ⟨by omega, fun h => (errL_zero (E.trans h)).1⟩ ⟨by omega, fun h => (errL_zero (E.trans h)).2, by omega⟩ _ (hR _ E)
      · have E : errL p k.len (c + 1) d = _ := errL_1 g1 g2 ⟨by omega, by omega⟩ g4
        exact lwk_loop N _ _ _ _ _ _ _ _ _ _ _ _ hS p k (by omega) ok2 o5 (c + 1) _ d ⟨by omega, fun h => (errL_zero (E.trans h)).1⟩ ⟨by omega, fun h => (errL_zero (E.trans h)).2, by omega⟩ _ (hR _ E)
      · have E : errL p k.len (c + 1) d = _ := errL_5 g1 g2 ⟨by omega, by omega⟩ g4 (.inl (by omega))
        exact lwk_loop N _ _ _ _ _ _ _ _ _ _ _ _ hS p k (by omega) ok2 o5 (c + 1) _ d ⟨by omega, fun h => (errL_zero (E.trans h)).1⟩ ⟨by omega, fun h => (errL_zero (E.trans h)).2, by omega⟩ _ (hR _ E)
      · have E : errL p k.len (c + 1) d = _ := errL_5 g1 g2 ⟨by omega, by omega⟩ g4 (.inr (by omega))
        exact lwk_loop N _ _ _ _ _ _ _ _ _ _ _ _ hS p k (by omega) ok2 o5 (c + 1) _ d ⟨by omega, fun h => (errL_zero (E.trans h)).1⟩ ⟨by omega, fun h => (errL_zero (E.trans h)).2, by omega⟩ _ (hR _ E)
      · have E : errL p k.len (c + 1) d = _ := errL_1' g1 g2 ⟨by omega, by omega⟩ g4 (by omega) ⟨g7, g8⟩
        exact lwk_loop N _ _ _ _ _ _ _ _ _ _ _ _ hS p k (by omega) ok2 o5 (c + 1) _ d ⟨by omega, fun h => (errL_zero (E.trans h)).1⟩ ⟨by omega, fun h => (errL_zero (E.trans h)).2, by omega⟩ _ (hR _ E)
      · have E : errL p k.len (c + 1) d = _ := (errL_go g1 g2 ⟨by omega, by omega⟩ g4 (by omega) (fun h => g8 h.2)).trans (ite_not _ _ _)
        exact lwk_loop N _ _ _ _ _ _ _ _ _ _ _ _ hS p k (by omega) ok2 o5 (c + 1) _ d ⟨by omega, fun h => (errL_zero (E.trans h)).1⟩ ⟨by omega, fun h => (errL_zero (E.trans h)).2, by omega⟩ _ (hR _ E)
      · have E : errL p k.len (c + 1) d = _ := (errL_go g1 g2 ⟨by omega, by omega⟩ g4 (by omega) (fun h => g7 h.1)).trans (ite_not _ _ _)
        exact lwk_loop N _ _ _ _ _ _ _ _ _ _ _ _ hS p k (by omega) ok2 o5 (c + 1) _ d ⟨by omega, fun h => (errL_zero (E.trans h)).1⟩ ⟨by omega, fun h => (errL_zero (E.trans h)).2, by omega⟩ _ (hR _ E)
    · exact absurd hl (by simp)

end Go.Proofs.YtbnjbianobdleaaGreat.Vm
