/-
  Trees, and their texts, in the machine.
-/
import Derived.Test.YtmjkdghcfihfiaaSayQuoted
namespace Go.Proofs.Ytmjkdghcfihfiaa.Vm
open Go Go.RowKit
set_option linter.unusedVariables false
set_option linter.unusedSimpArgs false
set_option maxRecDepth 100000

/-- A tree: its first edge's name, what is below it, the edges behind it. -/
inductive Tr where
  | nil
  | cons (n : List UInt8) (k r : Tr)

def Tr.rows : Tr → List (List PV)
  | .nil => []
  | .cons n k r => [.str n, .sl k.rows] :: r.rows
def Tr.nodes : Tr → Nat
  | .nil => 0
  | .cons _ k r => k.nodes + r.nodes + 1
/-- What each edge is written as. -/
def Tr.items : Tr → List (List UInt8)
  | .nil => []
  | .cons n k r => (quoF n ++ [58, 32] ++ ([123] ++ Lib.join k.items [44, 32] ++ [125])) :: r.items
def textT (t : Tr) : List UInt8 := [123] ++ Lib.join t.items [44, 32] ++ [125]

theorem rows_inj : ∀ {t u : Tr}, t.rows = u.rows → t = u
  | .nil, .nil, _ => rfl
  | .nil, .cons _ _ _, h => by simp [Tr.rows] at h
  | .cons _ _ _, .nil, h => by simp [Tr.rows] at h
  | .cons n k r, .cons n' k' r', h => by
    simp only [Tr.rows, List.cons.injEq, PV.str.injEq, PV.sl.injEq, and_true] at h
    obtain ⟨⟨rfl, h1⟩, h2⟩ := h
    rw [rows_inj h1, rows_inj h2]

/-- The tree of these rows. -/
noncomputable def unrow (a : List (List PV)) : Tr := @dite _ (∃ t : Tr, a = t.rows) (Classical.propDecidable _) (fun h => h.choose) (fun _ => .nil)

theorem unrow_rows (t : Tr) : unrow t.rows = t := by
  unfold unrow
  have h : ∃ u : Tr, t.rows = u.rows := ⟨t, rfl⟩
  rw [dif_pos h]
  exact (rows_inj h.choose_spec).symm

def unstr (a : List (List PV)) : List (List UInt8) := a.map fun r => match r with | [.str s] => s | _ => []

theorem unstr_map (l : List (List UInt8)) : unstr (l.map strRow) = l := by
  unfold unstr
  rw [List.map_map]
  simp [Function.comp_def, strRow]

def g_joins : List TV → Option Alts
  | [.pv (.sl a), .pv (.str sep)] => one (∃ l, a = l.map strRow ∧ l.length ≤ room ∧ (Lib.join l sep).length ≤ room) ([.pv (.str (Lib.join (unstr a) sep))], [])
  | _ => none

noncomputable def g_txt (N : Nat) : List TV → Option Alts
  | [.pv (.sl a)] => one (∃ t : Tr, a = t.rows ∧ t.nodes < N ∧ (textT t).length ≤ 4000000) ([.pv (.str (textT (unrow a)))], [])
  | _ => none

noncomputable def S_pt (N : Nat) : Specs := specL [(42, g_quo), (43, g_joins), (14, g_txt N)]

theorem pt_w (N : Nat) (a : List (List PV)) (Q : List TV × List TV → Prop) : (wFun C (S_pt N) 14 [.pv (.sl a)] Q) (H.auto) = (LoopAt C (14 : FuncId) (CP.dn (CP.dn (CP.dn (CP.dn (CP.dn CP.top (1 : Nat)) (1 : Nat)) (0 : Nat)) (1 : Nat)) (0 : Nat)) (St.mk [((3 : Nat), AV.own (6 : Nat)), ((6 : Nat), AV.pv (PV.sl a)), ((7 : Nat), AV.pv (PV.int IntKind.i64 (↑(List.length a) : Int))), ((8 : Nat), AV.pv (PV.int IntKind.i64 (0 : Int)))] [((6 : Nat), Obj.buf (1 : Nat) [])]) (exK (blockK (0 : Nat) (seqK (wAt C (S_pt N) (14 : FuncId) (99997 : Nat) (CP.dn (CP.dn (CP.dn CP.top (1 : Nat)) (1 : Nat)) (1 : Nat))) (retK C (14 : FuncId) [TV.pv (PV.sl a)] Q))))) := by kernel_rfl

def pt_c0 : CP := (CP.dn (CP.dn (CP.dn (CP.dn (CP.dn CP.top (1 : Nat)) (1 : Nat)) (0 : Nat)) (1 : Nat)) (0 : Nat))

def pt_h0 (t6 : List (List PV)) (t7 : Int) (t8 : Int) (o6 : List (List PV)) : St := (St.mk [((3 : Nat), AV.own (6 : Nat)), ((6 : Nat), AV.pv (PV.sl t6)), ((7 : Nat), AV.pv (PV.int IntKind.i64 t7)), ((8 : Nat), AV.pv (PV.int IntKind.i64 t8))] [((6 : Nat), Obj.buf (1 : Nat) o6)])

theorem pt_l0 (N : Nat) (a : List (List PV)) (t6 : List (List PV)) (t7 : Int) (t8 : Int) (o6 : List (List PV))  (J0 : St → Prop) (Q : List TV × List TV → Prop) : (wAt C (S_pt N) 14 1000 (pt_c0.dn 0) (pt_h0 t6 t7 t8 o6) (loopK C 14 pt_c0 J0 (exK (blockK (0 : Nat) (seqK (wAt C (S_pt N) (14 : FuncId) (99997 : Nat) (CP.dn (CP.dn (CP.dn CP.top (1 : Nat)) (1 : Nat)) (1 : Nat))) (retK C (14 : FuncId) [TV.pv (PV.sl a)] Q)))))) (H.b (H.s (H.s (H.s (H.s (H.s H.auto))))) H.auto) = ((decide (t8 < t7) = true → (0 : Int) ≤ t8 ∧ ∃ (s : List UInt8), ∃ (es : List (List PV)), t6[Int.toNat t8]? = some [PV.str s, PV.sl es] ∧ (4 : Nat) * List.length s + (2 : Nat) ≤ room ∧ List.length (quoF s) + (2 : Nat) ≤ maxInt ∧ (∃ (t : Tr), es = Tr.rows t ∧ Tr.nodes t < N ∧ List.length (textT t) ≤ (4000000 : Nat)) ∧ List.length (quoF s ++ [(58 : UInt8), (32 : UInt8)]) + List.length (textT (unrow es)) ≤ maxInt ∧ ((List.length o6 + (1 : Nat)) * (16 : Nat) ≤ room ∧ List.length o6 + (1 : Nat) ≤ maxInt) ∧ J0 (St.mk [((3 : Nat), AV.own (6 : Nat)), ((6 : Nat), AV.pv (PV.sl t6)), ((7 : Nat), AV.pv (PV.int IntKind.i64 t7)), ((8 : Nat), AV.pv (PV.int IntKind.i64 (IntKind.wrap IntKind.i64 (t8 + (1 : Int)))))] [((6 : Nat), Obj.buf (1 : Nat) (o6 ++ [[PV.str (quoF s ++ [(58 : UInt8), (32 : UInt8)] ++ textT (unrow es))]]))])) ∧ (decide (t8 < t7) = false → exK (blockK (0 : Nat) (seqK (wAt C (S_pt N) (14 : FuncId) (99997 : Nat) (CP.dn (CP.dn (CP.dn CP.top (1 : Nat)) (1 : Nat)) (1 : Nat))) (retK C (14 : FuncId) [TV.pv (PV.sl a)] Q))) (Ex.exit (0 : Nat)) (St.mk [((9 : Nat), AV.pv (PV.bool false)), ((3 : Nat), AV.own (6 : Nat)), ((6 : Nat), AV.pv (PV.sl t6)), ((7 : Nat), AV.pv (PV.int IntKind.i64 t7)), ((8 : Nat), AV.pv (PV.int IntKind.i64 t8))] [((6 : Nat), Obj.buf (1 : Nat) o6)]))) := by kernel_rfl

def pt_s1 (t6 : List (List PV)) (t7 : Int) (t8 : Int) (o6 : List (List PV)) : St := (St.mk [((9 : Nat), AV.pv (PV.bool false)), ((3 : Nat), AV.own (6 : Nat)), ((6 : Nat), AV.pv (PV.sl t6)), ((7 : Nat), AV.pv (PV.int IntKind.i64 t7)), ((8 : Nat), AV.pv (PV.int IntKind.i64 t8))] [((6 : Nat), Obj.buf (1 : Nat) o6)])

theorem pt_x1 (N : Nat) (a : List (List PV)) (t6 : List (List PV)) (t7 : Int) (t8 : Int) (o6 : List (List PV))  (Q : List TV × List TV → Prop) : (fun h => blockK (0 : Nat) (seqK (wAt C (S_pt N) (14 : FuncId) (99997 : Nat) (CP.dn (CP.dn (CP.dn CP.top (1 : Nat)) (1 : Nat)) (1 : Nat))) (retK C (14 : FuncId) [TV.pv (PV.sl a)] Q)) h (Ex.exit (0 : Nat)) (pt_s1 t6 t7 t8 o6)) (H.n (1 : Nat) (H.s (H.s H.auto))) = ((∃ (l : List (List UInt8)), o6 = List.map strRow l ∧ List.length l ≤ room ∧ List.length (Lib.join l [(44 : UInt8), (32 : UInt8)]) ≤ room) ∧ (1 : Nat) + List.length (Lib.join (unstr o6) [(44 : UInt8), (32 : UInt8)]) ≤ maxInt ∧ List.length ([(123 : UInt8)] ++ Lib.join (unstr o6) [(44 : UInt8), (32 : UInt8)]) + (1 : Nat) ≤ maxInt ∧ Q ([TV.pv (PV.str ([(123 : UInt8)] ++ Lib.join (unstr o6) [(44 : UInt8), (32 : UInt8)] ++ [(125 : UInt8)]))], [])) := by kernel_rfl

/-! ### Edges, as a list -/
def Tr.list : Tr → List (List UInt8 × Tr)
  | .nil => []
  | .cons n k r => (n, k) :: r.list

def Tr.of : List (List UInt8 × Tr) → Tr
  | [] => .nil
  | (n, k) :: r => .cons n k (Tr.of r)

def rowE (e : List UInt8 × Tr) : List PV := [.str e.1, .sl e.2.rows]

theorem of_list : ∀ t : Tr, Tr.of t.list = t
  | .nil => rfl
  | .cons n k r => by simp [Tr.list, Tr.of, of_list r]
theorem list_of : ∀ l : List (List UInt8 × Tr), (Tr.of l).list = l
  | [] => rfl
  | (n, k) :: r => by simp [Tr.list, Tr.of, list_of r]
theorem rows_list : ∀ t : Tr, t.rows = t.list.map rowE
  | .nil => rfl
  | .cons n k r => by simp [Tr.rows, Tr.list, rowE, rows_list r]
theorem rows_len (t : Tr) : t.rows.length = t.list.length := by rw [rows_list, List.length_map]
theorem items_list : ∀ t : Tr, t.items = t.list.map fun e => quoF e.1 ++ [58, 32] ++ textT e.2
  | .nil => rfl
  | .cons n k r => by simp [Tr.items, Tr.list, textT, items_list r]
theorem nodes_lt : ∀ {t : Tr} {e : List UInt8 × Tr}, e ∈ t.list → e.2.nodes < t.nodes
  | .nil, e, h => by simp [Tr.list] at h
  | .cons n k r, e, h => by
    simp only [Tr.list, List.mem_cons] at h
    simp only [Tr.nodes]
    rcases h with rfl | h
    · simp only; omega
    · have := nodes_lt h; omega
theorem row_get (t : Tr) {i : Nat} (h : i < t.list.length) : t.rows[((i : Int)).toNat]? = some [.str t.list[i].1, .sl t.list[i].2.rows] := by
  rw [Int.toNat_natCast, rows_list, List.getElem?_map, List.getElem?_eq_getElem h]; rfl

theorem lens_mem : ∀ {l : List (List UInt8)} {x : List UInt8}, x ∈ l → x.length ≤ Lib.lens l
  | [], x, h => by simp at h
  | y :: l, x, h => by
    simp only [Lib.lens, List.map_cons, List.sum_cons]
    rcases List.mem_cons.1 h with rfl | h
    · omega
    · have := lens_mem h
      simp only [Lib.lens] at this; omega
theorem lens_join : ∀ (l : List (List UInt8)) (sep : List UInt8), Lib.lens l ≤ (Lib.join l sep).length
  | [], sep => by simp [Lib.lens]
  | x :: r, sep => by
    rw [Lib.join_cons, List.length_append, Lib.joinTail_length]
    simp only [Lib.lens, List.map_cons, List.sum_cons]; omega
theorem quoF_len (s : List UInt8) : s.length + 2 ≤ (quoF s).length := by
  have h : ∀ s : List UInt8, s.length ≤ (s.flatMap esc).length := by
    intro s
    induction s with
    | nil => simp
    | cons c s ih =>
      have : 1 ≤ (esc c).length := by unfold esc; split <;> (try split) <;> simp
      simp only [List.flatMap_cons, List.length_append, List.length_cons]; omega
  have := h s
  simp only [quoF, List.length_append, List.length_cons, List.length_nil]; omega
theorem quoF_le (s : List UInt8) : (quoF s).length ≤ 4 * s.length + 2 := by
  have := escs_le s
  simp only [quoF, List.length_append, List.length_cons, List.length_nil]; omega
theorem item_le {t : Tr} {e : List UInt8 × Tr} (h : e ∈ t.list) : (quoF e.1).length + 2 + (textT e.2).length + 2 ≤ (textT t).length := by
  have h1 : quoF e.1 ++ [58, 32] ++ textT e.2 ∈ t.items := by rw [items_list]; exact List.mem_map.2 ⟨e, h, rfl⟩
  have h2 := lens_mem h1
  have h3 := lens_join t.items [44, 32]
  simp only [List.length_append, List.length_cons, List.length_nil] at h2
  simp only [textT, List.length_append, List.length_cons, List.length_nil] at *
  omega
theorem cnt_le (t : Tr) : t.list.length ≤ (textT t).length := by
  have h : ∀ l : List (List UInt8), (∀ x ∈ l, 1 ≤ x.length) → l.length ≤ Lib.lens l := by
    intro l
    induction l with
    | nil => intro _; simp
    | cons x l ih =>
      intro hx
      have h1 := hx x (by simp)
      have h2 := ih fun y hy => hx y (by simp [hy])
      simp only [Lib.lens, List.map_cons, List.sum_cons, List.length_cons] at *; omega
  have h1 := h t.items (fun x hx => by
    rw [items_list] at hx
    obtain ⟨e, _, rfl⟩ := List.mem_map.1 hx
    have := quoF_len e.1
    simp only [List.length_append, List.length_cons]; omega)
  have h2 := lens_join t.items [44, 32]
  rw [items_list, List.length_map, ← items_list] at h1
  simp only [textT, List.length_append, List.length_cons, List.length_nil]; omega

theorem joins_ok : ∀ ag al, g_joins ag = some al → ∀ a ∈ al, a.1 → Ev C 43 ag a.2 := by
  intro ag al hl x hx hp
  unfold g_joins at hl
  split at hl
  · have e := one_mem hl hx; subst e
    obtain ⟨l, rfl, h1, h2⟩ := hp
    refine ev_ext (g := xJoin) (by kernel_rfl) ?_
    simp only [xJoin, strsOf_map, unstr_map]
    rw [if_pos ⟨h1, h2⟩]
  · exact absurd hl (by simp)

theorem txt_ok {f : FuncId} {N : Nat} (h : ∀ t : Tr, t.nodes < N → (textT t).length ≤ 4000000 → Ev C f [.pv (.sl t.rows)] ([.pv (.str (textT t))], [])) : ∀ ag al, g_txt N ag = some al → ∀ a ∈ al, a.1 → Ev C f ag a.2 := by
  intro ag al hl x hx hp
  unfold g_txt at hl
  split at hl
  · have e := one_mem hl hx; subst e
    obtain ⟨t, rfl, h1, h2⟩ := hp
    rw [unrow_rows]
    exact h t h1 h2
  · exact absurd hl (by simp)

theorem pt_ev : ∀ (N : Nat) (t : Tr), t.nodes < N → (textT t).length ≤ 4000000 → Ev C 14 [.pv (.sl t.rows)] ([.pv (.str (textT t))], [])
  | 0, t, h, _ => by omega
  | N + 1, t, h, hb => by
    have hr := room_val
    have hm := maxInt_val
    have hS : SpecOK C (S_pt N) := specL_ok (specs_cons pq_ok (specs_cons joins_ok (specs_cons (txt_ok (pt_ev N)) specs_nil)))
    have hc := cnt_le t
    have hl := rows_len t
    refine ev_w hS (pt_w N t.rows _) ?_
    refine loop_rule hS (by kernel_rfl) 1000 (fun n st => ∃ i : Nat, st = pt_h0 t.rows t.list.length i ((t.items.take i).map strRow) ∧ i ≤ t.list.length ∧ n = t.list.length - i) ?_ (n := t.list.length) ⟨0, by rw [hl]; rfl, by omega, by omega⟩
    rintro n st ⟨i, rfl, hi, rfl⟩
    refine ex_w (pt_l0 _ _ _ _ _ _ _ _) ⟨fun h1 => ?_, fun h1 => ?_⟩
    · simp only [decide_eq_true_eq] at h1
      have hi' : i < t.list.length := by omega
      have w1 := w64s (i := i) (by omega)
      have hmem : t.list[i] ∈ t.list := List.getElem_mem hi'
      have b1 := item_le hmem
      have b2 := nodes_lt hmem
      have b3 := quoF_len t.list[i].1
      have hit : i < t.items.length := by rw [items_list, List.length_map]; exact hi'
      have hgi : t.items[i] = quoF t.list[i].1 ++ [58, 32] ++ textT t.list[i].2 := by simp [items_list]
      rw [w1]
      refine ⟨by omega, _, _, row_get t hi', by omega, by omega, ⟨_, rfl, by omega, by omega⟩, ?_⟩
      rw [unrow_rows]
      refine ⟨by simp only [List.length_append, List.length_cons, List.length_nil]; omega, ⟨by simp only [List.length_map, List.length_take]; omega, by simp only [List.length_map, List.length_take]; omega⟩, t.list.length - (i + 1), by omega, i + 1, ?_, by omega, rfl⟩
      rw [List.take_succ_eq_append_getElem hit, hgi, List.map_append]; rfl
    · simp only [decide_eq_false_iff_not] at h1
      have : i = t.list.length := by omega
      subst this
      have hil : t.items.length = t.list.length := by rw [items_list, List.length_map]
      have htk : t.items.take t.list.length = t.items := List.take_of_length_le (by omega)
      have hj : (textT t).length = 1 + (Lib.join t.items [44, 32]).length + 1 := by simp only [textT, List.length_append, List.length_cons, List.length_nil]
      rw [htk]
      refine ex_w (pt_x1 _ _ _ _ _ _ _) ⟨⟨t.items, rfl, by omega, by omega⟩, ?_⟩
      rw [unstr_map]
      exact ⟨by omega, by simp only [List.length_append, List.length_cons, List.length_nil]; omega, rfl⟩
