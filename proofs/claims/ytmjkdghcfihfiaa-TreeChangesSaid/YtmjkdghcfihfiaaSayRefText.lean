/-
  The document's text of a tree, in the machine.
-/
import Derived.Test.YtmjkdghcfihfiaaSayTreeText
namespace Go.Proofs.Ytmjkdghcfihfiaa.Vm
open Go Go.RowKit
set_option linter.unusedVariables false
set_option linter.unusedSimpArgs false
set_option maxRecDepth 100000

noncomputable def S_ftt (N : Nat) : Specs := specL [(58, g_quo), (25, g_txt N)]

theorem ftt_w (N : Nat) (a : List (List PV)) (Q : List TV × List TV → Prop) : (wFun C (S_ftt N) 25 [.pv (.sl a)] Q) (H.auto) = (LoopAt C (25 : FuncId) (CP.dn (CP.dn (CP.dn (CP.dn (CP.dn CP.top (1 : Nat)) (1 : Nat)) (0 : Nat)) (1 : Nat)) (0 : Nat)) (St.mk [((0 : Nat), AV.pv (PV.sl a)), ((3 : Nat), AV.pv (PV.str [(123 : UInt8)])), ((4 : Nat), AV.pv (PV.int IntKind.i64 (0 : Int)))] []) (exK (blockK (0 : Nat) (seqK (wAt C (S_ftt N) (25 : FuncId) (99997 : Nat) (CP.dn (CP.dn (CP.dn CP.top (1 : Nat)) (1 : Nat)) (1 : Nat))) (retK C (25 : FuncId) [TV.pv (PV.sl a)] Q))))) := by kernel_rfl

def ftt_c0 : CP := (CP.dn (CP.dn (CP.dn (CP.dn (CP.dn CP.top (1 : Nat)) (1 : Nat)) (0 : Nat)) (1 : Nat)) (0 : Nat))

def ftt_h0 (t0 : List (List PV)) (t3 : List UInt8) (t4 : Int) : St := (St.mk [((0 : Nat), AV.pv (PV.sl t0)), ((3 : Nat), AV.pv (PV.str t3)), ((4 : Nat), AV.pv (PV.int IntKind.i64 t4))] [])

theorem ftt_l0 (N : Nat) (a : List (List PV)) (t0 : List (List PV)) (t3 : List UInt8) (t4 : Int)  (J0 : St → Prop) (Q : List TV × List TV → Prop) : (wAt C (S_ftt N) 25 1000 (ftt_c0.dn 0) (ftt_h0 t0 t3 t4) (loopK C 25 ftt_c0 J0 (exK (blockK (0 : Nat) (seqK (wAt C (S_ftt N) (25 : FuncId) (99997 : Nat) (CP.dn (CP.dn (CP.dn CP.top (1 : Nat)) (1 : Nat)) (1 : Nat))) (retK C (25 : FuncId) [TV.pv (PV.sl a)] Q)))))) (H.b (H.b (H.s (H.s (H.s (H.s (H.s (H.s (H.s (H.s H.auto)))))))) (H.s (H.s (H.s (H.s (H.s (H.s (H.s H.auto)))))))) H.auto) = ((decide (t4 < (↑(List.length t0) : Int)) = true → (decide (t4 > (0 : Int)) = true → List.length t3 + (2 : Nat) ≤ maxInt ∧ (0 : Int) ≤ t4 ∧ ∃ (s : List UInt8), ∃ (es : List (List PV)), t0[Int.toNat t4]? = some [PV.str s, PV.sl es] ∧ (4 : Nat) * List.length s + (2 : Nat) ≤ room ∧ List.length (t3 ++ [(44 : UInt8), (32 : UInt8)]) + List.length (quoF s) ≤ maxInt ∧ List.length (t3 ++ [(44 : UInt8), (32 : UInt8)] ++ quoF s) + (2 : Nat) ≤ maxInt ∧ (0 : Int) ≤ t4 ∧ ∃ (s_1 : List UInt8), ∃ (es : List (List PV)), t0[Int.toNat t4]? = some [PV.str s_1, PV.sl es] ∧ (∃ (t : Tr), es = Tr.rows t ∧ Tr.nodes t < N ∧ List.length (textT t) ≤ (4000000 : Nat)) ∧ List.length (t3 ++ [(44 : UInt8), (32 : UInt8)] ++ quoF s ++ [(58 : UInt8), (32 : UInt8)]) + List.length (textT (unrow es)) ≤ maxInt ∧ J0 (St.mk [((0 : Nat), AV.pv (PV.sl t0)), ((3 : Nat), AV.pv (PV.str (t3 ++ [(44 : UInt8), (32 : UInt8)] ++ quoF s ++ [(58 : UInt8), (32 : UInt8)] ++ textT (unrow es)))), ((4 : Nat), AV.pv (PV.int IntKind.i64 (IntKind.wrap IntKind.i64 (t4 + (1 : Int)))))] [])) ∧ (decide (t4 > (0 : Int)) = false → (0 : Int) ≤ t4 ∧ ∃ (s : List UInt8), ∃ (es : List (List PV)), t0[Int.toNat t4]? = some [PV.str s, PV.sl es] ∧ (4 : Nat) * List.length s + (2 : Nat) ≤ room ∧ List.length t3 + List.length (quoF s) ≤ maxInt ∧ List.length (t3 ++ quoF s) + (2 : Nat) ≤ maxInt ∧ (0 : Int) ≤ t4 ∧ ∃ (s_1 : List UInt8), ∃ (es : List (List PV)), t0[Int.toNat t4]? = some [PV.str s_1, PV.sl es] ∧ (∃ (t : Tr), es = Tr.rows t ∧ Tr.nodes t < N ∧ List.length (textT t) ≤ (4000000 : Nat)) ∧ List.length (t3 ++ quoF s ++ [(58 : UInt8), (32 : UInt8)]) + List.length (textT (unrow es)) ≤ maxInt ∧ J0 (St.mk [((0 : Nat), AV.pv (PV.sl t0)), ((3 : Nat), AV.pv (PV.str (t3 ++ quoF s ++ [(58 : UInt8), (32 : UInt8)] ++ textT (unrow es)))), ((4 : Nat), AV.pv (PV.int IntKind.i64 (IntKind.wrap IntKind.i64 (t4 + (1 : Int)))))] []))) ∧ (decide (t4 < (↑(List.length t0) : Int)) = false → exK (blockK (0 : Nat) (seqK (wAt C (S_ftt N) (25 : FuncId) (99997 : Nat) (CP.dn (CP.dn (CP.dn CP.top (1 : Nat)) (1 : Nat)) (1 : Nat))) (retK C (25 : FuncId) [TV.pv (PV.sl a)] Q))) (Ex.exit (0 : Nat)) (St.mk [((8 : Nat), AV.pv (PV.bool false)), ((7 : Nat), AV.pv (PV.int IntKind.i64 (↑(List.length t0) : Int))), ((6 : Nat), AV.pv (PV.sl t0)), ((5 : Nat), AV.pv (PV.int IntKind.i64 t4)), ((0 : Nat), AV.pv (PV.sl t0)), ((3 : Nat), AV.pv (PV.str t3)), ((4 : Nat), AV.pv (PV.int IntKind.i64 t4))] []))) := by kernel_rfl

def ftt_s1 (t7 : Int) (t6 : List (List PV)) (t5 : Int) (t0 : List (List PV)) (t3 : List UInt8) (t4 : Int) : St := (St.mk [((8 : Nat), AV.pv (PV.bool false)), ((7 : Nat), AV.pv (PV.int IntKind.i64 t7)), ((6 : Nat), AV.pv (PV.sl t6)), ((5 : Nat), AV.pv (PV.int IntKind.i64 t5)), ((0 : Nat), AV.pv (PV.sl t0)), ((3 : Nat), AV.pv (PV.str t3)), ((4 : Nat), AV.pv (PV.int IntKind.i64 t4))] [])

theorem ftt_x1 (N : Nat) (a : List (List PV)) (t7 : Int) (t6 : List (List PV)) (t5 : Int) (t0 : List (List PV)) (t3 : List UInt8) (t4 : Int)  (Q : List TV × List TV → Prop) : (fun h => blockK (0 : Nat) (seqK (wAt C (S_ftt N) (25 : FuncId) (99997 : Nat) (CP.dn (CP.dn (CP.dn CP.top (1 : Nat)) (1 : Nat)) (1 : Nat))) (retK C (25 : FuncId) [TV.pv (PV.sl a)] Q)) h (Ex.exit (0 : Nat)) (ftt_s1 t7 t6 t5 t0 t3 t4)) (H.s H.auto) = (List.length t3 + (1 : Nat) ≤ maxInt ∧ Q ([TV.pv (PV.str (t3 ++ [(125 : UInt8)]))], [])) := by kernel_rfl

theorem join_take_le (l : List (List UInt8)) (sep : List UInt8) (i : Nat) : (Lib.join (l.take i) sep).length ≤ (Lib.join l sep).length := by
  cases l with
  | nil => simp
  | cons y r =>
    cases i with
    | zero => simp [Lib.join_nil]
    | succ i =>
      rw [List.take_succ_cons, Lib.join_cons, Lib.join_cons]
      have : Lib.joinTail sep r = Lib.joinTail sep (r.take i) ++ Lib.joinTail sep (r.drop i) := by
        simp only [Lib.joinTail]
        rw [← List.flatten_append, ← List.map_append, List.take_append_drop]
      rw [this]; simp only [List.length_append]; omega

theorem join_snoc (l : List (List UInt8)) (x sep : List UInt8) : Lib.join (l ++ [x]) sep = if l = [] then x else Lib.join l sep ++ sep ++ x := by
  cases l with
  | nil => simp [Lib.join_one]
  | cons y r =>
    rw [if_neg (by simp), List.cons_append, Lib.join_cons, Lib.join_cons]
    simp [Lib.joinTail]

theorem ftt_ev : ∀ (N : Nat) (t : Tr), t.nodes < N → (textT t).length ≤ 4000000 → Ev C 25 [.pv (.sl t.rows)] ([.pv (.str (textT t))], [])
  | 0, t, h, _ => by omega
  | N + 1, t, h, hb => by
    have hr := room_val
    have hm := maxInt_val
    have hS : SpecOK C (S_ftt N) := specL_ok (specs_cons rq_ok (specs_cons (txt_ok (ftt_ev N)) specs_nil))
    have hc := cnt_le t
    have hl := rows_len t
    have hj : (textT t).length = 1 + (Lib.join t.items [44, 32]).length + 1 := by simp only [textT, List.length_append, List.length_cons, List.length_nil]
    refine ev_w hS (ftt_w N t.rows _) ?_
    refine loop_rule hS (by kernel_rfl) 1000 (fun n st => ∃ i : Nat, st = ftt_h0 t.rows (123 :: Lib.join (t.items.take i) [44, 32]) i ∧ i ≤ t.list.length ∧ n = t.list.length - i) ?_ (n := t.list.length) ⟨0, rfl, by omega, by omega⟩
    rintro n st ⟨i, rfl, hi, rfl⟩
    have hil : t.items.length = t.list.length := by rw [items_list, List.length_map]
    have hjt := join_take_le t.items [44, 32] i
    refine ex_w (ftt_l0 _ _ _ _ _ _ _) ⟨fun h1 => ?_, fun h1 => ?_⟩
    · simp only [decide_eq_true_eq] at h1
      have hi' : i < t.list.length := by omega
      have w1 := w64s (i := i) (by omega)
      have hmem : t.list[i] ∈ t.list := List.getElem_mem hi'
      have b1 := item_le hmem
      have b2 := nodes_lt hmem
      have b3 := quoF_len t.list[i].1
      have hit : i < t.items.length := by omega
      have hgi : t.items[i] = quoF t.list[i].1 ++ [58, 32] ++ textT t.list[i].2 := by simp [items_list]
      have hs := join_snoc (t.items.take i) t.items[i] [44, 32]
      rw [← List.take_succ_eq_append_getElem hit] at hs
      rw [w1]
      refine ⟨fun h2 => ⟨by simp only [List.length_cons]; omega, by omega, _, _, row_get t hi', by omega, by simp only [List.length_append, List.length_cons, List.length_nil]; omega, by simp only [List.length_append, List.length_cons, List.length_nil]; omega, by omega, _, _, row_get t hi', ⟨_, rfl, by omega, by omega⟩, ?_⟩, fun h2 => ⟨by omega, _, _, row_get t hi', by omega, by simp only [List.length_append, List.length_cons, List.length_nil]; omega, by simp only [List.length_append, List.length_cons, List.length_nil]; omega, by omega, _, _, row_get t hi', ⟨_, rfl, by omega, by omega⟩, ?_⟩⟩
      · simp only [gt_iff_lt, decide_eq_true_eq] at h2
        rw [unrow_rows]
        refine ⟨by simp only [List.length_append, List.length_cons, List.length_nil]; omega, t.list.length - (i + 1), by omega, i + 1, ?_, by omega, rfl⟩
        rw [hs, if_neg (by intro h; have := congrArg List.length h; rw [List.length_take, List.length_nil] at this; omega), hgi]
        simp only [List.cons_append, List.append_assoc]; rfl
      · simp only [gt_iff_lt, decide_eq_false_iff_not] at h2
        have h0 : i = 0 := by omega
        subst h0
        rw [unrow_rows]
        refine ⟨by simp only [List.length_append, List.length_cons, List.length_nil, List.take_zero, Lib.join_nil]; omega, t.list.length - (0 + 1), by omega, 0 + 1, ?_, by omega, rfl⟩
        rw [hs, if_pos (by simp), hgi]
        simp only [List.cons_append, List.append_assoc, List.take_zero, Lib.join_nil]; rfl
    · simp only [decide_eq_false_iff_not] at h1
      have : i = t.list.length := by omega
      subst this
      have htk : t.items.take t.list.length = t.items := List.take_of_length_le (by omega)
      rw [htk]
      refine ex_w (ftt_x1 _ _ _ _ _ _ _ _ _) ⟨by simp only [List.length_cons]; omega, ?_⟩
      simp [textT]

end Go.Proofs.Ytmjkdghcfihfiaa.Vm
