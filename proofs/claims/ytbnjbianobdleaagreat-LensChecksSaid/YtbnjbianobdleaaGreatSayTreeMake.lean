/-
  Trees made of raw edges, in the machine.
-/
import Derived.Test.YtbnjbianobdleaaGreatSayTreeText
namespace Go.Proofs.YtbnjbianobdleaaGreat.Vm
open Go Go.RowKit
set_option linter.unusedVariables false
set_option linter.unusedSimpArgs false
set_option maxRecDepth 100000

abbrev Edge := List UInt8 × Tr

/-- Where a name's edge stands, or would; whether it does. -/
def atK (l : List Edge) (n : List UInt8) : Nat := (l.takeWhile fun e => Op.bytesLess e.1 n).length
def atB (l : List Edge) (n : List UInt8) : Bool := match l[atK l n]? with | some e => e.1 == n | none => false
/-- A tree, with x below a name. -/
def withE (l : List Edge) (n : List UInt8) (x : Tr) : List Edge := l.take (atK l n) ++ [(n, x)] ++ l.drop (if atB l n = true then atK l n + 1 else atK l n)

theorem at_w (a : List (List PV)) (n : List UInt8) (Q : List TV × List TV → Prop) : (wFun C noSpec 44 [.pv (.sl a), .pv (.str n)] Q) (H.auto) = (LoopAt C (44 : FuncId) (CP.dn (CP.dn (CP.dn (CP.dn CP.top (1 : Nat)) (1 : Nat)) (0 : Nat)) (0 : Nat)) (St.mk [((0 : Nat), AV.pv (PV.sl a)), ((1 : Nat), AV.pv (PV.str n)), ((6 : Nat), AV.pv (PV.int IntKind.i64 (0 : Int)))] []) (exK (blockK (0 : Nat) (seqK (wAt C noSpec (44 : FuncId) (99997 : Nat) (CP.dn (CP.dn (CP.dn CP.top (1 : Nat)) (1 : Nat)) (1 : Nat))) (retK C (44 : FuncId) [TV.pv (PV.sl a), TV.pv (PV.str n)] Q))))) := by kernel_rfl

def at_c0 : CP := (CP.dn (CP.dn (CP.dn (CP.dn CP.top (1 : Nat)) (1 : Nat)) (0 : Nat)) (0 : Nat))

def at_h0 (t0 : List (List PV)) (t1 : List UInt8) (t6 : Int) : St := (St.mk [((0 : Nat), AV.pv (PV.sl t0)), ((1 : Nat), AV.pv (PV.str t1)), ((6 : Nat), AV.pv (PV.int IntKind.i64 t6))] [])

theorem at_l0 (a : List (List PV)) (n : List UInt8) (t0 : List (List PV)) (t1 : List UInt8) (t6 : Int)  (J0 : St → Prop) (Q : List TV × List TV → Prop) : (wAt C noSpec 44 1000 (at_c0.dn 0) (at_h0 t0 t1 t6) (loopK C 44 at_c0 J0 (exK (blockK (0 : Nat) (seqK (wAt C noSpec (44 : FuncId) (99997 : Nat) (CP.dn (CP.dn (CP.dn CP.top (1 : Nat)) (1 : Nat)) (1 : Nat))) (retK C (44 : FuncId) [TV.pv (PV.sl a), TV.pv (PV.str n)] Q)))))) (H.b (H.n (2 : Nat) (H.s (H.s (H.n (5 : Nat) (H.b H.auto H.auto))))) H.auto) = ((decide (t6 < (↑(List.length t0) : Int)) = true → (0 : Int) ≤ t6 ∧ ∃ (s : List UInt8), ∃ (es : List (List PV)), t0[Int.toNat t6]? = some [PV.str s, PV.sl es] ∧ (Op.bytesLess s t1 = true → J0 (St.mk [((0 : Nat), AV.pv (PV.sl t0)), ((1 : Nat), AV.pv (PV.str t1)), ((6 : Nat), AV.pv (PV.int IntKind.i64 (IntKind.wrap IntKind.i64 (t6 + (1 : Int)))))] [])) ∧ (Op.bytesLess s t1 = false → exK (blockK (0 : Nat) (seqK (wAt C noSpec (44 : FuncId) (99997 : Nat) (CP.dn (CP.dn (CP.dn CP.top (1 : Nat)) (1 : Nat)) (1 : Nat))) (retK C (44 : FuncId) [TV.pv (PV.sl a), TV.pv (PV.str n)] Q))) (Ex.exit (0 : Nat)) (St.mk [((19 : Nat), AV.pv (PV.bool false)), ((18 : Nat), AV.pv (PV.bool (Op.bytesLess s t1))), ((17 : Nat), AV.pv (PV.str t1)), ((16 : Nat), AV.pv (PV.str s)), ((15 : Nat), AV.pv (PV.iptr [PV.str s, PV.sl es])), ((14 : Nat), AV.pv (PV.iptr [PV.str s, PV.sl es])), ((13 : Nat), AV.pv (PV.int IntKind.i64 t6)), ((12 : Nat), AV.pv (PV.sl t0)), ((11 : Nat), AV.pv (PV.bool true)), ((10 : Nat), AV.pv (PV.bool (decide (t6 < (↑(List.length t0) : Int))))), ((9 : Nat), AV.pv (PV.int IntKind.i64 (↑(List.length t0) : Int))), ((8 : Nat), AV.pv (PV.sl t0)), ((7 : Nat), AV.pv (PV.int IntKind.i64 t6)), ((0 : Nat), AV.pv (PV.sl t0)), ((1 : Nat), AV.pv (PV.str t1)), ((6 : Nat), AV.pv (PV.int IntKind.i64 t6))] []))) ∧ (decide (t6 < (↑(List.length t0) : Int)) = false → exK (blockK (0 : Nat) (seqK (wAt C noSpec (44 : FuncId) (99997 : Nat) (CP.dn (CP.dn (CP.dn CP.top (1 : Nat)) (1 : Nat)) (1 : Nat))) (retK C (44 : FuncId) [TV.pv (PV.sl a), TV.pv (PV.str n)] Q))) (Ex.exit (0 : Nat)) (St.mk [((19 : Nat), AV.pv (PV.bool false)), ((18 : Nat), AV.tup []), ((17 : Nat), AV.tup []), ((16 : Nat), AV.tup []), ((15 : Nat), AV.tup []), ((14 : Nat), AV.tup []), ((13 : Nat), AV.tup []), ((12 : Nat), AV.tup []), ((11 : Nat), AV.pv (PV.bool false)), ((10 : Nat), AV.pv (PV.bool (decide (t6 < (↑(List.length t0) : Int))))), ((9 : Nat), AV.pv (PV.int IntKind.i64 (↑(List.length t0) : Int))), ((8 : Nat), AV.pv (PV.sl t0)), ((7 : Nat), AV.pv (PV.int IntKind.i64 t6)), ((0 : Nat), AV.pv (PV.sl t0)), ((1 : Nat), AV.pv (PV.str t1)), ((6 : Nat), AV.pv (PV.int IntKind.i64 t6))] []))) := by kernel_rfl

def at_s1 (t18 : Bool) (t17 : List UInt8) (t16 : List UInt8) (t15 : List UInt8) (t15b : List (List PV)) (t14 : List UInt8) (t14b : List (List PV)) (t13 : Int) (t12 : List (List PV)) (t10 : Bool) (t9 : Int) (t8 : List (List PV)) (t7 : Int) (t0 : List (List PV)) (t1 : List UInt8) (t6 : Int) : St := (St.mk [((19 : Nat), AV.pv (PV.bool false)), ((18 : Nat), AV.pv (PV.bool t18)), ((17 : Nat), AV.pv (PV.str t17)), ((16 : Nat), AV.pv (PV.str t16)), ((15 : Nat), AV.pv (PV.iptr [PV.str t15, PV.sl t15b])), ((14 : Nat), AV.pv (PV.iptr [PV.str t14, PV.sl t14b])), ((13 : Nat), AV.pv (PV.int IntKind.i64 t13)), ((12 : Nat), AV.pv (PV.sl t12)), ((11 : Nat), AV.pv (PV.bool true)), ((10 : Nat), AV.pv (PV.bool t10)), ((9 : Nat), AV.pv (PV.int IntKind.i64 t9)), ((8 : Nat), AV.pv (PV.sl t8)), ((7 : Nat), AV.pv (PV.int IntKind.i64 t7)), ((0 : Nat), AV.pv (PV.sl t0)), ((1 : Nat), AV.pv (PV.str t1)), ((6 : Nat), AV.pv (PV.int IntKind.i64 t6))] [])

def at_s2 (t10 : Bool) (t9 : Int) (t8 : List (List PV)) (t7 : Int) (t0 : List (List PV)) (t1 : List UInt8) (t6 : Int) : St := (St.mk [((19 : Nat), AV.pv (PV.bool false)), ((18 : Nat), AV.tup []), ((17 : Nat), AV.tup []), ((16 : Nat), AV.tup []), ((15 : Nat), AV.tup []), ((14 : Nat), AV.tup []), ((13 : Nat), AV.tup []), ((12 : Nat), AV.tup []), ((11 : Nat), AV.pv (PV.bool false)), ((10 : Nat), AV.pv (PV.bool t10)), ((9 : Nat), AV.pv (PV.int IntKind.i64 t9)), ((8 : Nat), AV.pv (PV.sl t8)), ((7 : Nat), AV.pv (PV.int IntKind.i64 t7)), ((0 : Nat), AV.pv (PV.sl t0)), ((1 : Nat), AV.pv (PV.str t1)), ((6 : Nat), AV.pv (PV.int IntKind.i64 t6))] [])

theorem at_x1 (a : List (List PV)) (n : List UInt8) (t18 : Bool) (t17 : List UInt8) (t16 : List UInt8) (t15 : List UInt8) (t15b : List (List PV)) (t14 : List UInt8) (t14b : List (List PV)) (t13 : Int) (t12 : List (List PV)) (t10 : Bool) (t9 : Int) (t8 : List (List PV)) (t7 : Int) (t0 : List (List PV)) (t1 : List UInt8) (t6 : Int)  (Q : List TV × List TV → Prop) : (fun h => blockK (0 : Nat) (seqK (wAt C noSpec (44 : FuncId) (99997 : Nat) (CP.dn (CP.dn (CP.dn CP.top (1 : Nat)) (1 : Nat)) (1 : Nat))) (retK C (44 : FuncId) [TV.pv (PV.sl a), TV.pv (PV.str n)] Q)) h (Ex.exit (0 : Nat)) (at_s1 t18 t17 t16 t15 t15b t14 t14b t13 t12 t10 t9 t8 t7 t0 t1 t6)) (H.b (H.n (2 : Nat) (H.s (H.s H.auto))) H.auto) = ((decide (t6 < (↑(List.length t0) : Int)) = true → (0 : Int) ≤ t6 ∧ ∃ (s : List UInt8), ∃ (es : List (List PV)), t0[Int.toNat t6]? = some [PV.str s, PV.sl es] ∧ Q ([TV.pv (PV.int IntKind.i64 t6), TV.pv (PV.bool (s == t1))], [])) ∧ (decide (t6 < (↑(List.length t0) : Int)) = false → Q ([TV.pv (PV.int IntKind.i64 t6), TV.pv (PV.bool false)], []))) := by kernel_rfl

theorem at_x2 (a : List (List PV)) (n : List UInt8) (t10 : Bool) (t9 : Int) (t8 : List (List PV)) (t7 : Int) (t0 : List (List PV)) (t1 : List UInt8) (t6 : Int)  (Q : List TV × List TV → Prop) : (fun h => blockK (0 : Nat) (seqK (wAt C noSpec (44 : FuncId) (99997 : Nat) (CP.dn (CP.dn (CP.dn CP.top (1 : Nat)) (1 : Nat)) (1 : Nat))) (retK C (44 : FuncId) [TV.pv (PV.sl a), TV.pv (PV.str n)] Q)) h (Ex.exit (0 : Nat)) (at_s2 t10 t9 t8 t7 t0 t1 t6)) (H.b (H.n (2 : Nat) (H.s (H.s H.auto))) H.auto) = ((decide (t6 < (↑(List.length t0) : Int)) = true → (0 : Int) ≤ t6 ∧ ∃ (s : List UInt8), ∃ (es : List (List PV)), t0[Int.toNat t6]? = some [PV.str s, PV.sl es] ∧ Q ([TV.pv (PV.int IntKind.i64 t6), TV.pv (PV.bool (s == t1))], [])) ∧ (decide (t6 < (↑(List.length t0) : Int)) = false → Q ([TV.pv (PV.int IntKind.i64 t6), TV.pv (PV.bool false)], []))) := by kernel_rfl

noncomputable def g_at : List TV → Option Alts
  | [.pv (.sl a), .pv (.str n)] => one (∃ t : Tr, a = t.rows ∧ t.list.length ≤ 4000000) ([.pv (.int .i64 (atK (unrow a).list n)), .pv (.bool (atB (unrow a).list n))], [])
  | _ => none

noncomputable def S_with : Specs := specL [(44, g_at)]

theorem wit_w (a : List (List PV)) (n : List UInt8) (x : List (List PV)) (Q : List TV × List TV → Prop) : (wFun C S_with 38 [.pv (.sl a), .pv (.str n), .pv (.sl x)] Q) (H.s (H.s (H.s (H.s (H.s (H.n (1 : Nat) (H.b (H.s (H.s (H.s (H.s H.auto)))) (H.s (H.s (H.s (H.s H.auto))))))))))) = ((∃ (t : Tr), a = Tr.rows t ∧ List.length (Tr.list t) ≤ (4000000 : Nat)) ∧ rowOk (2 : Nat) a = true ∧ ((0 : Int) ≤ (0 : Int) ∧ (0 : Int) ≤ (↑(atK (Tr.list (unrow a)) n) : Int) ∧ (↑(atK (Tr.list (unrow a)) n) : Int) ≤ Int.ofNat (List.length a)) ∧ (((0 : Nat) + List.length (List.take (Int.toNat (↑(atK (Tr.list (unrow a)) n) : Int) - (0 : Nat)) a)) * (40 : Nat) ≤ room ∧ (0 : Nat) + List.length (List.take (Int.toNat (↑(atK (Tr.list (unrow a)) n) : Int) - (0 : Nat)) a) ≤ maxInt) ∧ rowOk (2 : Nat) (List.take (Int.toNat (↑(atK (Tr.list (unrow a)) n) : Int) - (0 : Nat)) a) = true ∧ ((List.length ([] ++ List.take (Int.toNat (↑(atK (Tr.list (unrow a)) n) : Int) - (0 : Nat)) a) + (1 : Nat)) * (40 : Nat) ≤ room ∧ List.length ([] ++ List.take (Int.toNat (↑(atK (Tr.list (unrow a)) n) : Int) - (0 : Nat)) a) + (1 : Nat) ≤ maxInt) ∧ (atB (Tr.list (unrow a)) n = true → rowOk (2 : Nat) a = true ∧ ((0 : Int) ≤ IntKind.wrap IntKind.i64 ((↑(atK (Tr.list (unrow a)) n) : Int) + (1 : Int)) ∧ IntKind.wrap IntKind.i64 ((↑(atK (Tr.list (unrow a)) n) : Int) + (1 : Int)) ≤ Int.ofNat (List.length a) ∧ Int.ofNat (List.length a) ≤ Int.ofNat (List.length a)) ∧ ((List.length ([] ++ List.take (Int.toNat (↑(atK (Tr.list (unrow a)) n) : Int) - (0 : Nat)) a ++ [[PV.str n, PV.sl x]]) + List.length (List.take (Int.toNat (Int.ofNat (List.length a)) - Int.toNat (IntKind.wrap IntKind.i64 ((↑(atK (Tr.list (unrow a)) n) : Int) + (1 : Int)))) (List.drop (Int.toNat (IntKind.wrap IntKind.i64 ((↑(atK (Tr.list (unrow a)) n) : Int) + (1 : Int)))) a))) * (40 : Nat) ≤ room ∧ List.length ([] ++ List.take (Int.toNat (↑(atK (Tr.list (unrow a)) n) : Int) - (0 : Nat)) a ++ [[PV.str n, PV.sl x]]) + List.length (List.take (Int.toNat (Int.ofNat (List.length a)) - Int.toNat (IntKind.wrap IntKind.i64 ((↑(atK (Tr.list (unrow a)) n) : Int) + (1 : Int)))) (List.drop (Int.toNat (IntKind.wrap IntKind.i64 ((↑(atK (Tr.list (unrow a)) n) : Int) + (1 : Int)))) a)) ≤ maxInt) ∧ rowOk (2 : Nat) (List.take (Int.toNat (Int.ofNat (List.length a)) - Int.toNat (IntKind.wrap IntKind.i64 ((↑(atK (Tr.list (unrow a)) n) : Int) + (1 : Int)))) (List.drop (Int.toNat (IntKind.wrap IntKind.i64 ((↑(atK (Tr.list (unrow a)) n) : Int) + (1 : Int)))) a)) = true ∧ Q ([TV.own (2 : Nat) ([] ++ List.take (Int.toNat (↑(atK (Tr.list (unrow a)) n) : Int) - (0 : Nat)) a ++ [[PV.str n, PV.sl x]] ++ List.take (Int.toNat (Int.ofNat (List.length a)) - Int.toNat (IntKind.wrap IntKind.i64 ((↑(atK (Tr.list (unrow a)) n) : Int) + (1 : Int)))) (List.drop (Int.toNat (IntKind.wrap IntKind.i64 ((↑(atK (Tr.list (unrow a)) n) : Int) + (1 : Int)))) a))], [])) ∧ (atB (Tr.list (unrow a)) n = false → rowOk (2 : Nat) a = true ∧ ((0 : Int) ≤ (↑(atK (Tr.list (unrow a)) n) : Int) ∧ (↑(atK (Tr.list (unrow a)) n) : Int) ≤ Int.ofNat (List.length a) ∧ Int.ofNat (List.length a) ≤ Int.ofNat (List.length a)) ∧ ((List.length ([] ++ List.take (Int.toNat (↑(atK (Tr.list (unrow a)) n) : Int) - (0 : Nat)) a ++ [[PV.str n, PV.sl x]]) + List.length (List.take (Int.toNat (Int.ofNat (List.length a)) - Int.toNat (↑(atK (Tr.list (unrow a)) n) : Int)) (List.drop (Int.toNat (↑(atK (Tr.list (unrow a)) n) : Int)) a))) * (40 : Nat) ≤ room ∧ List.length ([] ++ List.take (Int.toNat (↑(atK (Tr.list (unrow a)) n) : Int) - (0 : Nat)) a ++ [[PV.str n, PV.sl x]]) + List.length (List.take (Int.toNat (Int.ofNat (List.length a)) - Int.toNat (↑(atK (Tr.list (unrow a)) n) : Int)) (List.drop (Int.toNat (↑(atK (Tr.list (unrow a)) n) : Int)) a)) ≤ maxInt) ∧ rowOk (2 : Nat) (List.take (Int.toNat (Int.ofNat (List.length a)) - Int.toNat (↑(atK (Tr.list (unrow a)) n) : Int)) (List.drop (Int.toNat (↑(atK (Tr.list (unrow a)) n) : Int)) a)) = true ∧ Q ([TV.own (2 : Nat) ([] ++ List.take (Int.toNat (↑(atK (Tr.list (unrow a)) n) : Int) - (0 : Nat)) a ++ [[PV.str n, PV.sl x]] ++ List.take (Int.toNat (Int.ofNat (List.length a)) - Int.toNat (↑(atK (Tr.list (unrow a)) n) : Int)) (List.drop (Int.toNat (↑(atK (Tr.list (unrow a)) n) : Int)) a))], []))) := by kernel_rfl

noncomputable def g_with : List TV → Option Alts
  | [.pv (.sl a), .pv (.str n), .pv (.sl x)] => one (∃ t u : Tr, a = t.rows ∧ x = u.rows ∧ t.list.length ≤ 4000000) ([.own 2 (Tr.of (withE (unrow a).list n (unrow x))).rows], [])
  | _ => none

theorem tw_lt {α : Type} {p : α → Bool} : ∀ {l : List α} {i : Nat} (h : i < l.length), i ≤ (l.takeWhile p).length → p l[i] = true → i + 1 ≤ (l.takeWhile p).length
  | [], i, h, _, _ => by simp at h
  | a :: l, 0, h, _, hp => by
    have hp : p a = true := hp
    simp [List.takeWhile, hp]
  | a :: l, i + 1, h, hi, hp => by
    cases ha : p a with
    | false => simp [List.takeWhile, ha] at hi
    | true =>
      simp only [List.takeWhile, ha, List.length_cons] at hi ⊢
      have := tw_lt (p := p) (l := l) (i := i) (by simpa using h) (by omega) (by simpa using hp)
      omega
theorem tw_eq {α : Type} {p : α → Bool} : ∀ {l : List α} {i : Nat}, i ≤ (l.takeWhile p).length → (∀ h : i < l.length, p l[i] = false) → (l.takeWhile p).length = i
  | [], i, hi, _ => by simp at hi ⊢; omega
  | a :: l, 0, hi, hp => by
    have hp : p a = false := hp (by simp)
    simp [List.takeWhile, hp]
  | a :: l, i + 1, hi, hp => by
    cases ha : p a with
    | false => simp [List.takeWhile, ha] at hi
    | true =>
      simp only [List.takeWhile, ha, List.length_cons] at hi ⊢
      have := tw_eq (p := p) (l := l) (i := i) (by omega) (fun h => by have := hp (by simpa using h); simpa using this)
      omega
theorem tw_le {α : Type} (p : α → Bool) (l : List α) : (l.takeWhile p).length ≤ l.length := by
  induction l with
  | nil => simp
  | cons a l ih => simp only [List.takeWhile]; split <;> simp; exact ih
theorem atK_le (l : List Edge) (n : List UInt8) : atK l n ≤ l.length := tw_le _ _
theorem atB_lt {l : List Edge} {n : List UInt8} (h : atB l n = true) : atK l n < l.length := by
  unfold atB at h
  split at h
  · rename_i e he; exact (List.getElem?_eq_some_iff.1 he).1
  · exact absurd h (by simp)
theorem rowOk_edges (l : List Edge) : rowOk 2 (l.map rowE) = true := by simp [rowOk, rowE]

theorem at_ev (t : Tr) (n : List UInt8) (ht : t.list.length ≤ 4000000) : Ev C 44 [.pv (.sl t.rows), .pv (.str n)] ([.pv (.int .i64 (atK t.list n)), .pv (.bool (atB t.list n))], []) := by
  have hl := rows_len t
  refine ev_w noSpec_ok (at_w t.rows n _) ?_
  refine loop_rule noSpec_ok (by kernel_rfl) 1000 (fun m st => ∃ i : Nat, st = at_h0 t.rows n i ∧ i ≤ t.list.length ∧ i ≤ atK t.list n ∧ m = t.list.length - i) ?_ (n := t.list.length) ⟨0, rfl, by omega, by omega, by omega⟩
  rintro m st ⟨i, rfl, hi, hk, rfl⟩
  refine ex_w (at_l0 _ _ _ _ _ _ _) ⟨fun h => ?_, fun h => ?_⟩
  · simp only [decide_eq_true_eq] at h
    have hi' : i < t.list.length := by omega
    have w1 := w64s (i := i) (by omega)
    refine ⟨by omega, _, _, row_get t hi', fun h2 => ?_, fun h2 => ?_⟩
    · rw [w1]
      exact ⟨t.list.length - (i + 1), by omega, i + 1, rfl, by omega, tw_lt hi' hk h2, rfl⟩
    · have hK : atK t.list n = i := tw_eq hk fun _ => h2
      have hB : atB t.list n = (t.list[i].1 == n) := by
        unfold atB
        rw [hK, List.getElem?_eq_getElem hi']
      refine ex_w (at_x1 _ _ _ _ _ _ _ _ _ _ _ _ _ _ _ _ _ _ _) ⟨fun _ => ⟨by omega, _, _, row_get t hi', ?_⟩, fun h3 => ?_⟩
      · rw [hK, hB]
      · simp only [decide_eq_false_iff_not] at h3; omega
  · simp only [decide_eq_false_iff_not] at h
    have hK : atK t.list n = i := tw_eq hk fun h => by omega
    have hB : atB t.list n = false := by
      unfold atB
      rw [hK, List.getElem?_eq_none (by omega)]
    refine ex_w (at_x2 _ _ _ _ _ _ _ _ _ _) ⟨fun h3 => ?_, fun _ => ?_⟩
    · simp only [decide_eq_true_eq] at h3; omega
    · rw [hK, hB]

theorem at_ok : ∀ ag al, g_at ag = some al → ∀ a ∈ al, a.1 → Ev C 44 ag a.2 := by
  intro ag al hl x hx hp
  unfold g_at at hl
  split at hl
  · have e := one_mem hl hx; subst e
    obtain ⟨t, rfl, h⟩ := hp
    rw [unrow_rows]
    exact at_ev t _ h
  · exact absurd hl (by simp)

theorem rows_of (l : List Edge) : (Tr.of l).rows = l.map rowE := by rw [rows_list, list_of]

theorem with_ev (t : Tr) (n : List UInt8) (x : Tr) (ht : t.list.length ≤ 4000000) : Ev C 38 [.pv (.sl t.rows), .pv (.str n), .pv (.sl x.rows)] ([.own 2 (Tr.of (withE t.list n x)).rows], []) := by
  have hr := room_val
  have hm := maxInt_val
  refine ev_w (specL_ok (specs_cons at_ok specs_nil)) (wit_w t.rows n x.rows _) ⟨⟨t, rfl, ht⟩, ?_⟩
  rw [unrow_rows, rows_of, rows_list]
  have hk := atK_le t.list n
  unfold withE
  have hB : atB t.list n = true → atK t.list n < t.list.length := atB_lt
  generalize t.list = L at *
  generalize atK L n = K at *
  have hx : [[PV.str n, PV.sl x.rows]] = [(n, x)].map rowE := rfl
  rw [hx]
  simp only [Int.toNat_natCast, Int.ofNat_eq_natCast, Nat.sub_zero, List.nil_append, ← List.map_take, ← List.map_append, List.length_map, List.length_append, List.length_take, List.length_cons, List.length_nil]
  refine ⟨rowOk_edges _, ⟨by omega, by omega, by omega⟩, ⟨by omega, by omega⟩, rowOk_edges _, ⟨by omega, by omega⟩, fun h => ?_, fun h => ?_⟩
  · have := hB h
    have w1 := w64s (i := K) (by omega)
    rw [w1, h, if_pos rfl]
    simp only [Int.toNat_natCast, ← List.map_drop, ← List.map_take, ← List.map_append, List.length_map, List.length_take, List.length_drop]
    refine ⟨rowOk_edges _, ⟨by omega, by omega, by omega⟩, ⟨by omega, by omega⟩, rowOk_edges _, ?_⟩
    rw [List.take_of_length_le (l := L.drop (K + 1)) (by simp)]
  · rw [h, if_neg (by simp)]
    simp only [Int.toNat_natCast, ← List.map_drop, ← List.map_take, ← List.map_append, List.length_map, List.length_take, List.length_drop]
    refine ⟨rowOk_edges _, ⟨by omega, by omega, by omega⟩, ⟨by omega, by omega⟩, rowOk_edges _, ?_⟩
    rw [List.take_of_length_le (l := L.drop K) (by simp)]

theorem with_ok : ∀ ag al, g_with ag = some al → ∀ a ∈ al, a.1 → Ev C 38 ag a.2 := by
  intro ag al hl x hx hp
  unfold g_with at hl
  split at hl
  · have e := one_mem hl hx; subst e
    obtain ⟨t, u, rfl, rfl, h⟩ := hp
    rw [unrow_rows, unrow_rows]
    exact with_ev t _ u h
  · exact absurd hl (by simp)

/-! ### Make -/
/-- Names, and rows of edges, of so many at most. -/
def Tr.lim (B : Nat) : Tr → Prop
  | .nil => True
  | .cons n k r => n.length ≤ B ∧ k.list.length ≤ B ∧ k.lim B ∧ r.lim B

theorem lim_mem {B : Nat} : ∀ {t : Tr} {e : Edge}, t.lim B → e ∈ t.list → e.1.length ≤ B ∧ e.2.list.length ≤ B ∧ e.2.lim B
  | .nil, e, _, h => by simp [Tr.list] at h
  | .cons n k r, e, h, he => by
    simp only [Tr.lim] at h
    simp only [Tr.list, List.mem_cons] at he
    rcases he with rfl | he
    · exact ⟨h.1, h.2.1, h.2.2.1⟩
    · exact lim_mem h.2.2.2 he


theorem withE_len (l : List Edge) (n : List UInt8) (x : Tr) : (withE l n x).length ≤ l.length + 1 := by
  have := atK_le l n
  unfold withE
  simp only [List.length_append, List.length_take, List.length_drop, List.length_cons, List.length_nil]
  split <;> omega


/-! ### Few -/
noncomputable def g_count (N : Nat) (cf : List (List PV) → Int → Int) : List TV → Option Alts
  | [.pv (.sl a), .pv (.int .i64 m)] => one (∃ l : Tr, a = l.rows ∧ l.nodes < N ∧ l.list.length ≤ 140737488351232 ∧ l.lim 140737488351232 ∧ m ≤ 4000) ([.pv (.int .i64 (cf a m))], [])
  | _ => none

noncomputable def S_count (N : Nat) (cf : List (List PV) → Int → Int) : Specs := specL [(36, g_count N cf)]

theorem co_w (N : Nat) (cf : List (List PV) → Int → Int) (a : List (List PV)) (m : Int) (Q : List TV × List TV → Prop) : (wFun C (S_count N cf) 36 [.pv (.sl a), .pv (.int .i64 m)] Q) (H.auto) = (LoopAt C (36 : FuncId) (CP.dn (CP.dn (CP.dn (CP.dn (CP.dn CP.top (1 : Nat)) (1 : Nat)) (0 : Nat)) (1 : Nat)) (0 : Nat)) (St.mk [((0 : Nat), AV.pv (PV.sl a)), ((1 : Nat), AV.pv (PV.int IntKind.i64 m)), ((5 : Nat), AV.pv (PV.int IntKind.i64 (↑(List.length a) : Int))), ((6 : Nat), AV.pv (PV.int IntKind.i64 (0 : Int)))] []) (exK (blockK (0 : Nat) (seqK (wAt C (S_count N cf) (36 : FuncId) (99997 : Nat) (CP.dn (CP.dn (CP.dn CP.top (1 : Nat)) (1 : Nat)) (1 : Nat))) (retK C (36 : FuncId) [TV.pv (PV.sl a), TV.pv (PV.int IntKind.i64 m)] Q))))) := by kernel_rfl

def co_c0 : CP := (CP.dn (CP.dn (CP.dn (CP.dn (CP.dn CP.top (1 : Nat)) (1 : Nat)) (0 : Nat)) (1 : Nat)) (0 : Nat))

def co_h0 (t0 : List (List PV)) (t1 : Int) (t5 : Int) (t6 : Int) : St := (St.mk [((0 : Nat), AV.pv (PV.sl t0)), ((1 : Nat), AV.pv (PV.int IntKind.i64 t1)), ((5 : Nat), AV.pv (PV.int IntKind.i64 t5)), ((6 : Nat), AV.pv (PV.int IntKind.i64 t6))] [])

theorem co_l0 (N : Nat) (cf : List (List PV) → Int → Int) (a : List (List PV)) (m : Int) (t0 : List (List PV)) (t1 : Int) (t5 : Int) (t6 : Int)  (J0 : St → Prop) (Q : List TV × List TV → Prop) : (wAt C (S_count N cf) 36 1000 (co_c0.dn 0) (co_h0 t0 t1 t5 t6) (loopK C 36 co_c0 J0 (exK (blockK (0 : Nat) (seqK (wAt C (S_count N cf) (36 : FuncId) (99997 : Nat) (CP.dn (CP.dn (CP.dn CP.top (1 : Nat)) (1 : Nat)) (1 : Nat))) (retK C (36 : FuncId) [TV.pv (PV.sl a), TV.pv (PV.int IntKind.i64 m)] Q)))))) (H.b (H.n (3 : Nat) (H.b (H.s (H.s H.auto)) H.auto)) H.auto) = ((decide (t6 < (↑(List.length t0) : Int)) = true → (decide (t5 < t1) = true → (0 : Int) ≤ t6 ∧ ∃ (s : List UInt8), ∃ (es : List (List PV)), t0[Int.toNat t6]? = some [PV.str s, PV.sl es] ∧ (∃ (l : Tr), es = Tr.rows l ∧ Tr.nodes l < N ∧ List.length (Tr.list l) ≤ (140737488351232 : Nat) ∧ Tr.lim (140737488351232 : Nat) l ∧ IntKind.wrap IntKind.i64 (t1 - t5) ≤ (4000 : Int)) ∧ J0 (St.mk [((0 : Nat), AV.pv (PV.sl t0)), ((1 : Nat), AV.pv (PV.int IntKind.i64 t1)), ((5 : Nat), AV.pv (PV.int IntKind.i64 (IntKind.wrap IntKind.i64 (t5 + cf es (IntKind.wrap IntKind.i64 (t1 - t5)))))), ((6 : Nat), AV.pv (PV.int IntKind.i64 (IntKind.wrap IntKind.i64 (t6 + (1 : Int)))))] [])) ∧ (decide (t5 < t1) = false → ∃ (h : H), Q ([TV.pv (PV.int IntKind.i64 t5)], []))) ∧ (decide (t6 < (↑(List.length t0) : Int)) = false → ∃ (h : H), Q ([TV.pv (PV.int IntKind.i64 t5)], []))) := by kernel_rfl

def kidsN (l : List Edge) : Nat := (l.map fun e => e.2.nodes).sum
theorem nodes_list : ∀ t : Tr, t.nodes = t.list.length + kidsN t.list
  | .nil => rfl
  | .cons n k r => by
    have := nodes_list r
    simp only [Tr.nodes, Tr.list, kidsN, List.map_cons, List.sum_cons, List.length_cons] at this ⊢
    omega
theorem kidsN_succ {l : List Edge} {i : Nat} (h : i < l.length) : kidsN (l.take (i + 1)) = kidsN (l.take i) + l[i].2.nodes := by
  rw [List.take_succ_eq_append_getElem h]
  simp only [kidsN, List.map_append, List.sum_append, List.map_cons, List.map_nil, List.sum_cons, List.sum_nil, Nat.add_zero]

/-- What is known of a count. -/
def CountP (l : Tr) (m n : Int) : Prop := 0 ≤ n ∧ (n ≤ 140737488351232 ∨ n ≤ 140737488351232 + m) ∧ (n < m → n = l.nodes)

noncomputable def countF (a : List (List PV)) (m : Int) : Int := @dite _ (∃ n : Int, Ev C 36 [.pv (.sl a), .pv (.int .i64 m)] ([.pv (.int .i64 n)], []) ∧ ∀ l : Tr, a = l.rows → CountP l m n) (Classical.propDecidable _) (fun h => h.choose) (fun _ => 0)

theorem countF_ok {l : Tr} {m : Int} (h : ∃ n : Int, Ev C 36 [.pv (.sl l.rows), .pv (.int .i64 m)] ([.pv (.int .i64 n)], []) ∧ CountP l m n) : Ev C 36 [.pv (.sl l.rows), .pv (.int .i64 m)] ([.pv (.int .i64 (countF l.rows m))], []) ∧ CountP l m (countF l.rows m) := by
  have h' : ∃ n : Int, Ev C 36 [.pv (.sl l.rows), .pv (.int .i64 m)] ([.pv (.int .i64 n)], []) ∧ ∀ u : Tr, l.rows = u.rows → CountP u m n := by
    obtain ⟨n, h1, h2⟩ := h
    exact ⟨n, h1, fun u hu => rows_inj hu ▸ h2⟩
  have := h'.choose_spec
  unfold countF
  rw [dif_pos h']
  exact ⟨this.1, this.2 l rfl⟩

theorem count_ex : ∀ (N : Nat) (l : Tr) (m : Int), l.nodes < N → l.list.length ≤ 140737488351232 → l.lim 140737488351232 → m ≤ 4000 → ∃ n : Int, Ev C 36 [.pv (.sl l.rows), .pv (.int .i64 m)] ([.pv (.int .i64 n)], []) ∧ CountP l m n
  | 0, l, m, h, _, _, _ => by omega
  | N + 1, l, m, h, h1, h2, h3 => by
    have hS : SpecOK C (S_count N countF) := specL_ok (specs_cons (by
      intro ag al hl x hx hp
      unfold g_count at hl
      split at hl
      · have e := one_mem hl hx; subst e
        obtain ⟨u, rfl, k1, k2, k3, k4⟩ := hp
        exact (countF_ok (count_ex N u _ k1 k2 k3 k4)).1
      · exact absurd hl (by simp)) specs_nil)
    have hlen := rows_len l
    have hnl := nodes_list l
    have key : ∃ r, Ev C 36 [.pv (.sl l.rows), .pv (.int .i64 m)] r ∧ ∃ n : Int, r = ([.pv (.int .i64 n)], []) ∧ CountP l m n := by
      refine ev_wx hS (co_w N countF l.rows m _) ?_
      refine loop_rule hS (by kernel_rfl) 1000 (fun k st => ∃ (i : Nat) (n : Int), st = co_h0 l.rows m n i ∧ i ≤ l.list.length ∧ 0 ≤ n ∧ (n ≤ 140737488351232 ∨ n ≤ 140737488351232 + m) ∧ (n < m → n = l.list.length + kidsN (l.list.take i)) ∧ k = l.list.length - i) ?_ (n := l.list.length) ⟨0, l.list.length, by rw [hlen]; rfl, by omega, by omega, .inl (by omega), fun _ => by simp [kidsN], by omega⟩
      rintro k st ⟨i, n, rfl, hi, n0, nb, ne, rfl⟩
      refine ex_w (co_l0 _ _ _ _ _ _ _ _ _ _) ⟨fun g => ⟨fun g2 => ?_, fun g2 => ?_⟩, fun g => ?_⟩
      · simp only [decide_eq_true_eq] at g g2
        have hi' : i < l.list.length := by omega
        have w1 := w64s (i := i) (by omega)
        obtain ⟨m1, m2, m3⟩ := lim_mem h2 (List.getElem_mem hi')
        have hn := nodes_lt (List.getElem_mem hi')
        have w2 : IntKind.wrap .i64 (m - n) = m - n := w64 (by omega)
        obtain ⟨_, c1, c2, c3⟩ := countF_ok (count_ex N l.list[i].2 (m - n) (by omega) m2 m3 (by omega))
        refine ⟨by omega, _, _, row_get l hi', ?_⟩
        rw [w1, w2]
        have w3 : IntKind.wrap .i64 (n + countF l.list[i].2.rows (m - n)) = n + countF l.list[i].2.rows (m - n) := w64 (by omega)
        rw [w3]
        refine ⟨⟨_, rfl, by omega, m2, m3, by omega⟩, l.list.length - (i + 1), by omega, i + 1, _, rfl, by omega, by omega, by omega, fun g3 => ?_, rfl⟩
        have := c3 (by omega)
        have := ne (by omega)
        rw [kidsN_succ hi']
        omega
      · simp only [decide_eq_false_iff_not] at g2
        exact ⟨.auto, n, rfl, n0, nb, fun g3 => by omega⟩
      · simp only [decide_eq_false_iff_not] at g
        refine ⟨.auto, n, rfl, n0, nb, fun g3 => ?_⟩
        have := ne g3
        rw [List.take_of_length_le (by omega)] at this
        omega
    obtain ⟨r, k1, n, rfl, k2⟩ := key
    exact ⟨n, k1, k2⟩

noncomputable def g_countA : List TV → Option Alts
  | [.pv (.sl a), .pv (.int .i64 m)] => one (∃ l : Tr, a = l.rows ∧ l.list.length ≤ 140737488351232 ∧ l.lim 140737488351232 ∧ m ≤ 4000) ([.pv (.int .i64 (countF a m))], [])
  | _ => none

noncomputable def S_few : Specs := specL [(36, g_countA)]

theorem fw_w (a : List (List PV)) (Q : List TV × List TV → Prop) : (wFun C S_few 14 [.pv (.sl a)] Q) (H.auto) = ((∃ (l : Tr), a = Tr.rows l ∧ List.length (Tr.list l) ≤ (140737488351232 : Nat) ∧ Tr.lim (140737488351232 : Nat) l ∧ (200 : Int) ≤ (4000 : Int)) ∧ Q ([TV.pv (PV.bool (decide (countF a (200 : Int) < (200 : Int))))], [])) := by kernel_rfl

noncomputable def fewF (a : List (List PV)) : Bool := decide (countF a 200 < 200)

noncomputable def g_few : List TV → Option Alts
  | [.pv (.sl a)] => one (∃ l : Tr, a = l.rows ∧ l.list.length ≤ 140737488351232 ∧ l.lim 140737488351232) ([.pv (.bool (fewF a))], [])
  | _ => none

theorem few_ok : ∀ ag al, g_few ag = some al → ∀ a ∈ al, a.1 → Ev C 14 ag a.2 := by
  intro ag al hl x hx hp
  unfold g_few at hl
  split at hl
  · have e := one_mem hl hx; subst e
    obtain ⟨l, rfl, h1, h2⟩ := hp
    have hS : SpecOK C S_few := specL_ok (specs_cons (by
      intro ag al hl x hx hp
      unfold g_countA at hl
      split at hl
      · have e := one_mem hl hx; subst e
        obtain ⟨u, rfl, k1, k2, k3⟩ := hp
        exact (countF_ok (count_ex (u.nodes + 1) u _ (by omega) k1 k2 k3)).1
      · exact absurd hl (by simp)) specs_nil)
    exact ev_w hS (fw_w l.rows _) ⟨⟨l, rfl, h1, h2, by omega⟩, rfl⟩
  · exact absurd hl (by simp)
theorem few_nodes {l : Tr} (h1 : l.list.length ≤ 140737488351232) (h2 : l.lim 140737488351232) (h : fewF l.rows = true) : l.nodes < 200 := by
  have h : countF l.rows 200 < 200 := by simpa [fewF] using h
  have := (countF_ok (count_ex (l.nodes + 1) l 200 (by omega) h1 h2 (by omega))).2
  obtain ⟨c1, c2, c3⟩ := this
  have := c3 h
  omega
