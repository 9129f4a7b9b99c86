/-
  LinesSplit, in the machine.
-/
import Derived.Test.YtpcjlhhhmjgffaaSayLinesJoin
namespace Go.Proofs.Ytpcjlhhhmjgffaa.Vm
open Go Go.RowKit
set_option linter.unusedVariables false
set_option linter.unusedSimpArgs false

/-! ### cadenceref5.Split -/
theorem u8n (c k : UInt8) : ((c.toNat : Int) = (k.toNat : Int)) ↔ c = k := by
  constructor
  · intro h; exact UInt8.toNat_inj.1 (by omega)
  · rintro rfl; rfl

theorem rsplit_w (s : List UInt8) (Q : List TV × List TV → Prop) : (wFun C noSpec 18 [.pv (.str s)] Q) (H.auto) = (LoopAt C (18 : FuncId) (CP.dn (CP.dn (CP.dn (CP.dn (CP.dn (CP.dn CP.top (1 : Nat)) (1 : Nat)) (1 : Nat)) (0 : Nat)) (1 : Nat)) (0 : Nat)) (St.mk [((0 : Nat), AV.pv (PV.str s)), ((3 : Nat), AV.own (6 : Nat)), ((4 : Nat), AV.pv (PV.int IntKind.i64 (0 : Int))), ((5 : Nat), AV.pv (PV.int IntKind.i64 (0 : Int)))] [((6 : Nat), Obj.buf (2 : Nat) [])]) (exK (blockK (0 : Nat) (seqK (wAt C noSpec (18 : FuncId) (99996 : Nat) (CP.dn (CP.dn (CP.dn (CP.dn CP.top (1 : Nat)) (1 : Nat)) (1 : Nat)) (1 : Nat))) (retK C (18 : FuncId) [TV.pv (PV.str s)] Q))))) := by kernel_rfl

def rsplit_cp : CP := CP.dn (CP.dn (CP.dn (CP.dn (CP.dn (CP.dn CP.top 1) 1) 1) 0) 1) 0

def rsplit_h (s : List UInt8) (l : List (List PV)) (a i : Int) : St := St.mk [(0, AV.pv (PV.str s)), (3, AV.own 6), (4, AV.pv (PV.int IntKind.i64 a)), (5, AV.pv (PV.int IntKind.i64 i))] [(6, Obj.buf 2 l)]

def rsplit_e (s : List UInt8) (l : List (List PV)) (a i n : Int) : St := St.mk [(10, AV.pv (PV.bool false)), (9, AV.pv (PV.int IntKind.i64 n)), (8, AV.pv (PV.str s)), (7, AV.pv (PV.int IntKind.i64 i)), (0, AV.pv (PV.str s)), (3, AV.own 6), (4, AV.pv (PV.int IntKind.i64 a)), (5, AV.pv (PV.int IntKind.i64 i))] [(6, Obj.buf 2 l)]

theorem rsplit_l (s : List UInt8) (l : List (List PV)) (a i : Int) (J : St → Prop) (K : Ex → St → Prop) : (wAt C noSpec 18 1000 (rsplit_cp.dn 0) (rsplit_h s l a i) (loopK C 18 rsplit_cp J K)) (H.b (H.s (H.s (H.b H.auto (H.b (H.n (3 : Nat) (H.s (H.s (H.n (2 : Nat) (H.b (H.s (H.s (H.s H.auto))) (H.s (H.s (H.s H.auto)))))))) (H.n (6 : Nat) (H.s (H.s (H.s H.auto)))))))) H.auto) = ((decide (i < (↑(List.length s) : Int)) = true → (0 : Int) ≤ i ∧ ∃ (c : UInt8), s[Int.toNat i]? = some c ∧ (((↑(UInt8.toNat c) : Int) != (10 : Int)) = true → J (St.mk [((0 : Nat), AV.pv (PV.str s)), ((3 : Nat), AV.own (6 : Nat)), ((4 : Nat), AV.pv (PV.int IntKind.i64 a)), ((5 : Nat), AV.pv (PV.int IntKind.i64 (IntKind.wrap IntKind.i64 (i + (1 : Int)))))] [((6 : Nat), Obj.buf (2 : Nat) l)])) ∧ (((↑(UInt8.toNat c) : Int) != (10 : Int)) = false → (decide (i > a) = true → (0 : Int) ≤ IntKind.wrap IntKind.i64 (i - (1 : Int)) ∧ ∃ (c : UInt8), s[Int.toNat (IntKind.wrap IntKind.i64 (i - (1 : Int)))]? = some c ∧ (((↑(UInt8.toNat c) : Int) == (13 : Int)) = true → ((0 : Int) ≤ a ∧ a ≤ IntKind.wrap IntKind.i64 (i - (1 : Int)) ∧ IntKind.wrap IntKind.i64 (i - (1 : Int)) ≤ Int.ofNat (List.length s)) ∧ ((0 : Int) ≤ IntKind.wrap IntKind.i64 (i - (1 : Int)) ∧ IntKind.wrap IntKind.i64 (i - (1 : Int)) ≤ IntKind.wrap IntKind.i64 (i + (1 : Int)) ∧ IntKind.wrap IntKind.i64 (i + (1 : Int)) ≤ Int.ofNat (List.length s)) ∧ ((List.length l + (1 : Nat)) * (32 : Nat) ≤ room ∧ List.length l + (1 : Nat) ≤ maxInt) ∧ J (St.mk [((0 : Nat), AV.pv (PV.str s)), ((3 : Nat), AV.own (6 : Nat)), ((4 : Nat), AV.pv (PV.int IntKind.i64 (IntKind.wrap IntKind.i64 (i + (1 : Int))))), ((5 : Nat), AV.pv (PV.int IntKind.i64 (IntKind.wrap IntKind.i64 (i + (1 : Int)))))] [((6 : Nat), Obj.buf (2 : Nat) (l ++ [[PV.str (List.take (Int.toNat (IntKind.wrap IntKind.i64 (i - (1 : Int))) - Int.toNat a) (List.drop (Int.toNat a) s)), PV.str (List.take (Int.toNat (IntKind.wrap IntKind.i64 (i + (1 : Int))) - Int.toNat (IntKind.wrap IntKind.i64 (i - (1 : Int)))) (List.drop (Int.toNat (IntKind.wrap IntKind.i64 (i - (1 : Int)))) s))]]))])) ∧ (((↑(UInt8.toNat c) : Int) == (13 : Int)) = false → ((0 : Int) ≤ a ∧ a ≤ i ∧ i ≤ Int.ofNat (List.length s)) ∧ ((0 : Int) ≤ i ∧ i ≤ IntKind.wrap IntKind.i64 (i + (1 : Int)) ∧ IntKind.wrap IntKind.i64 (i + (1 : Int)) ≤ Int.ofNat (List.length s)) ∧ ((List.length l + (1 : Nat)) * (32 : Nat) ≤ room ∧ List.length l + (1 : Nat) ≤ maxInt) ∧ J (St.mk [((0 : Nat), AV.pv (PV.str s)), ((3 : Nat), AV.own (6 : Nat)), ((4 : Nat), AV.pv (PV.int IntKind.i64 (IntKind.wrap IntKind.i64 (i + (1 : Int))))), ((5 : Nat), AV.pv (PV.int IntKind.i64 (IntKind.wrap IntKind.i64 (i + (1 : Int)))))] [((6 : Nat), Obj.buf (2 : Nat) (l ++ [[PV.str (List.take (Int.toNat i - Int.toNat a) (List.drop (Int.toNat a) s)), PV.str (List.take (Int.toNat (IntKind.wrap IntKind.i64 (i + (1 : Int))) - Int.toNat i) (List.drop (Int.toNat i) s))]]))]))) ∧ (decide (i > a) = false → ((0 : Int) ≤ a ∧ a ≤ i ∧ i ≤ Int.ofNat (List.length s)) ∧ ((0 : Int) ≤ i ∧ i ≤ IntKind.wrap IntKind.i64 (i + (1 : Int)) ∧ IntKind.wrap IntKind.i64 (i + (1 : Int)) ≤ Int.ofNat (List.length s)) ∧ ((List.length l + (1 : Nat)) * (32 : Nat) ≤ room ∧ List.length l + (1 : Nat) ≤ maxInt) ∧ J (St.mk [((0 : Nat), AV.pv (PV.str s)), ((3 : Nat), AV.own (6 : Nat)), ((4 : Nat), AV.pv (PV.int IntKind.i64 (IntKind.wrap IntKind.i64 (i + (1 : Int))))), ((5 : Nat), AV.pv (PV.int IntKind.i64 (IntKind.wrap IntKind.i64 (i + (1 : Int)))))] [((6 : Nat), Obj.buf (2 : Nat) (l ++ [[PV.str (List.take (Int.toNat i - Int.toNat a) (List.drop (Int.toNat a) s)), PV.str (List.take (Int.toNat (IntKind.wrap IntKind.i64 (i + (1 : Int))) - Int.toNat i) (List.drop (Int.toNat i) s))]]))])))) ∧ (decide (i < (↑(List.length s) : Int)) = false → K (Ex.exit (0 : Nat)) (St.mk [((10 : Nat), AV.pv (PV.bool false)), ((9 : Nat), AV.pv (PV.int IntKind.i64 (↑(List.length s) : Int))), ((8 : Nat), AV.pv (PV.str s)), ((7 : Nat), AV.pv (PV.int IntKind.i64 i)), ((0 : Nat), AV.pv (PV.str s)), ((3 : Nat), AV.own (6 : Nat)), ((4 : Nat), AV.pv (PV.int IntKind.i64 a)), ((5 : Nat), AV.pv (PV.int IntKind.i64 i))] [((6 : Nat), Obj.buf (2 : Nat) l)]))) := by kernel_rfl

theorem rsplit_x (s : List UInt8) (l : List (List PV)) (a i n : Int) (Q : List TV × List TV → Prop) : (fun h => blockK 0 (seqK (wAt C noSpec 18 99996 (CP.dn (CP.dn (CP.dn (CP.dn CP.top 1) 1) 1) 1)) (retK C 18 [TV.pv (PV.str s)] Q)) h (Ex.exit 0) (rsplit_e s l a i n)) (H.b (H.s (H.s H.auto)) H.auto) = ((decide (a < (↑(List.length s) : Int)) = true → ((0 : Int) ≤ a ∧ a ≤ Int.ofNat (List.length s) ∧ Int.ofNat (List.length s) ≤ Int.ofNat (List.length s)) ∧ ((List.length l + (1 : Nat)) * (32 : Nat) ≤ room ∧ List.length l + (1 : Nat) ≤ maxInt) ∧ Q ([TV.own (2 : Nat) (l ++ [[PV.str (List.take (Int.toNat (Int.ofNat (List.length s)) - Int.toNat a) (List.drop (Int.toNat a) s)), PV.str []]])], [])) ∧ (decide (a < (↑(List.length s) : Int)) = false → Q ([TV.own (2 : Nat) l], []))) := by kernel_rfl

def rsplitI (s : List UInt8) (n : Nat) (st : St) : Prop := ∃ (x acc r : List UInt8) (A : List Ln), st = rsplit_h s (A.map row) x.length (x.length + acc.length : Nat) ∧ s = x ++ acc ++ r ∧ A ++ linesG acc r = linesF s ∧ A.length ≤ x.length ∧ n = r.length

theorem rsplit_ev (s : List UInt8) (hs : s.length ≤ 4000000) : Ev C 18 [.pv (.str s)] ([.own 2 ((linesF s).map row)], []) := by
  have hr := room_val
  have hm := maxInt_val
  refine ev_of noSpec_ok ((rsplit_w s _).mpr ?_)
  refine loop_rule noSpec_ok (by kernel_rfl) 1000 (rsplitI s) ?_ (n := s.length) ⟨[], [], s, [], rfl, rfl, rfl, by simp, rfl⟩
  rintro n st ⟨x, acc, r, A, rfl, hx, hA, hl, rfl⟩
  have hlen : s.length = x.length + acc.length + r.length := by rw [hx]; simp only [List.length_append]
  refine ⟨_, (rsplit_l s _ _ _ _ _).mpr ⟨fun h => ?_, fun h => ?_⟩⟩
  · simp only [decide_eq_true_eq] at h
    cases r with
    | nil => simp at hlen; omega
    | cons c r =>
      simp only [List.length_cons] at hlen
      have w1 : IntKind.wrap .i64 (((x.length + acc.length : Nat) : Int) + 1) = ((x.length + acc.length + 1 : Nat) : Int) := by rw [IntWalk.i64_in _ (by omega)]; omega
      have gi : s[(((x.length + acc.length : Nat) : Int)).toNat]? = some c := by
        rw [Int.toNat_natCast, hx, List.append_assoc, List.getElem?_append_right (by omega), List.getElem?_append_right (by omega)]
        simp
      refine ⟨by omega, c, gi, fun h2 => ?_, fun h2 => ?_⟩
      · have hc : ¬ c = 10 := by
          intro e; subst e; simp at h2
        refine ⟨r.length, by simp, x, acc ++ [c], r, A, by rw [w1]; simp [rsplit_h, Nat.add_assoc], by rw [hx]; simp, ?_, hl, rfl⟩
        rw [← hA]; simp [linesG, hc]
      · have hc : c = 10 := by
          refine (u8n c 10).1 ?_
          have : (c.toNat : Int) = 10 := by simpa using h2
          exact this
        subst hc
        have hA2 : (A ++ [strip acc]) ++ linesG [] r = linesF s := by rw [← hA]; simp [linesG]
        have dx : List.drop x.length s = acc ++ 10 :: r := by rw [hx, List.append_assoc, List.drop_left]
        have da : List.drop (x.length + acc.length) s = 10 :: r := by rw [← List.drop_drop, dx, List.drop_left]
        have fin : ∀ st, st = rsplit_h s ((A ++ [strip acc]).map row) ((x.length + acc.length + 1 : Nat) : Int) ((x.length + acc.length + 1 : Nat) : Int) → ∃ m, m < (10 :: r).length ∧ rsplitI s m st := by
          rintro st rfl
          refine ⟨r.length, by simp, x ++ acc ++ [10], [], r, A ++ [strip acc], by simp [rsplit_h, Nat.add_assoc], by rw [hx]; simp, hA2, by simp; omega, rfl⟩
        have nosuf : sufB acc [13] = false → (A ++ [strip acc]).map row = A.map row ++ [[PV.str acc, PV.str [10]]] := by
          intro h; simp [row, strip, h]
        rw [w1]
        simp only [Int.toNat_natCast, Int.ofNat_eq_natCast, List.length_map]
        have e1 : x.length + acc.length - x.length = acc.length := by omega
        have e2 : x.length + acc.length + 1 - (x.length + acc.length) = 1 := by omega
        refine ⟨fun h3 => ?_, fun h3 => ?_⟩
        · simp only [decide_eq_true_eq] at h3
          have hne : acc ≠ [] := by rintro rfl; simp at h3
          obtain ⟨q, d, rfl⟩ : ∃ q d, acc = q ++ [d] := ⟨acc.dropLast, acc.getLast hne, (List.dropLast_concat_getLast hne).symm⟩
          simp only [List.length_append, List.length_singleton] at *
          have w2 : IntKind.wrap .i64 (((x.length + (q.length + 1) : Nat) : Int) - 1) = ((x.length + q.length : Nat) : Int) := by rw [IntWalk.i64_in _ (by omega)]; omega
          have gd : s[x.length + q.length]? = some d := by
            rw [hx, List.append_assoc, List.getElem?_append_right (by omega), List.append_assoc, List.getElem?_append_right (by omega)]
            simp
          rw [w2]
          simp only [Int.toNat_natCast]
          have e3 : x.length + q.length - x.length = q.length := by omega
          have e4 : x.length + (q.length + 1) + 1 - (x.length + q.length) = 2 := by omega
          have dq : List.drop (x.length + q.length) s = d :: 10 :: r := by rw [← List.drop_drop, dx, List.append_assoc, List.drop_left]; simp
          refine ⟨by omega, d, gd, fun h4 => ?_, fun h4 => ?_⟩
          · have hd : d = 13 := by
              refine (u8n d 13).1 ?_
              have : (d.toNat : Int) = 13 := by simpa using h4
              exact this
            subst hd
            have hsuf : sufB (q ++ [13]) [13] = true := suf_one.2 ⟨q, rfl⟩
            refine ⟨⟨by omega, by omega, by omega⟩, ⟨by omega, by omega, by omega⟩, ⟨by omega, by omega⟩, fin _ ?_⟩
            simp [rsplit_h, row, strip, hsuf, dx, dq, e3, e4]
          · have hd : ¬ d = 13 := by rintro rfl; simp at h4
            have hsuf : sufB (q ++ [d]) [13] = false := by
              cases hb : sufB (q ++ [d]) [13] with
              | false => rfl
              | true =>
                obtain ⟨q', e⟩ := suf_one.1 hb
                have := congrArg List.getLast? e
                simp at this; exact absurd this hd
            refine ⟨⟨by omega, by omega, by omega⟩, ⟨by omega, by omega, by omega⟩, ⟨by omega, by omega⟩, fin _ ?_⟩
            have t5 : List.take (q.length + 1) (q ++ d :: 10 :: r) = q ++ [d] := by
              rw [show q ++ d :: 10 :: r = (q ++ [d]) ++ 10 :: r by simp]
              exact List.take_left' (by simp)
            rw [nosuf hsuf]
            simp [rsplit_h, dx, da, e1, e2, t5]
        · simp only [decide_eq_false_iff_not] at h3
          have hacc : acc = [] := by
            cases acc with
            | nil => rfl
            | cons a b => simp at h3; omega
          subst hacc
          refine ⟨⟨by omega, by omega, by omega⟩, ⟨by omega, by omega, by omega⟩, ⟨by omega, by omega⟩, fin _ ?_⟩
          rw [nosuf (by simp [sufB])]
          simp only [List.length_nil, Nat.add_zero] at *
          simp [rsplit_h, dx, e2]
  · simp only [decide_eq_false_iff_not] at h
    have hr0 : r = [] := by
      cases r with
      | nil => rfl
      | cons a b => simp at hlen; omega
    subst hr0
    simp only [List.append_nil, List.length_nil, Nat.add_zero] at *
    refine ⟨_, (rsplit_x s _ _ _ _ _).mpr ⟨fun h2 => ?_, fun h2 => ?_⟩⟩
    · simp only [decide_eq_true_eq] at h2
      have hne : ¬ acc = [] := by rintro rfl; simp at hlen; omega
      have dx : List.drop x.length s = acc := by rw [hx, List.drop_left]
      have e : A.map row ++ [[PV.str acc, PV.str []]] = (linesF s).map row := by rw [← hA]; simp [linesG, hne, row]
      have t1 : List.take (s.length - x.length) acc = acc := List.take_of_length_le (by omega)
      simp only [Int.ofNat_eq_natCast, Int.toNat_natCast, List.length_map, dx, t1]
      exact ⟨⟨by omega, by omega, by omega⟩, ⟨by omega, by omega⟩, by rw [e]⟩
    · simp only [decide_eq_false_iff_not] at h2
      have hacc : acc = [] := by
        cases acc with
        | nil => rfl
        | cons a b => simp at hlen; omega
      have e : A.map row = (linesF s).map row := by rw [← hA]; simp [linesG, hacc]
      rw [e]

theorem rsplit_ok : ∀ ag al, g_split ag = some al → ∀ a ∈ al, a.1 → Ev C 18 ag a.2 := by
  intro ag al hl x hx hp
  unfold g_split at hl
  split at hl
  · have e := one_mem hl hx; subst e
    exact rsplit_ev _ hp
  · exact absurd hl (by simp)

/-! ### End -/
def endR : List (List PV) → List UInt8
  | [.str _, .str e] :: _ => if e = [] then [10] else e
  | _ => [10]

theorem pend_w (a : List (List PV)) (Q : List TV × List TV → Prop) : (wFun C noSpec 19 [.pv (.sl a)] Q) (H.b H.auto (H.n (2 : Nat) (H.s (H.n (4 : Nat) (H.b H.auto (H.n (1 : Nat) (H.s H.auto))))))) = ((((↑(List.length a) : Int) == (0 : Int)) = true → Q ([TV.pv (PV.str [(10 : UInt8)])], [])) ∧ (((↑(List.length a) : Int) == (0 : Int)) = false → ∃ (s : List UInt8), ∃ (s_1 : List UInt8), a[(0 : Nat)]? = some [PV.str s, PV.str s_1] ∧ ((s_1 == []) = true → Q ([TV.pv (PV.str [(10 : UInt8)])], [])) ∧ ((s_1 == []) = false → ∃ (s : List UInt8), ∃ (s_2 : List UInt8), a[(0 : Nat)]? = some [PV.str s, PV.str s_2] ∧ Q ([TV.pv (PV.str s_2)], [])))) := by kernel_rfl

theorem rend_w (a : List (List PV)) (Q : List TV × List TV → Prop) : (wFun C noSpec 20 [.pv (.sl a)] Q) (H.b H.auto (H.n (2 : Nat) (H.s (H.n (4 : Nat) (H.b H.auto (H.n (1 : Nat) (H.s H.auto))))))) = ((((↑(List.length a) : Int) == (0 : Int)) = true → Q ([TV.pv (PV.str [(10 : UInt8)])], [])) ∧ (((↑(List.length a) : Int) == (0 : Int)) = false → ∃ (s : List UInt8), ∃ (s_1 : List UInt8), a[(0 : Nat)]? = some [PV.str s, PV.str s_1] ∧ ((s_1 == []) = true → Q ([TV.pv (PV.str [(10 : UInt8)])], [])) ∧ ((s_1 == []) = false → ∃ (s : List UInt8), ∃ (s_2 : List UInt8), a[(0 : Nat)]? = some [PV.str s, PV.str s_2] ∧ Q ([TV.pv (PV.str s_2)], [])))) := by kernel_rfl

theorem endR_of (A : List Ln) : (A = [] ∧ endR (A.map row) = [10]) ∨ ∃ x r, A = x :: r ∧ endR (A.map row) = if x.2 = [] then [10] else x.2 := by
  cases A with
  | nil => exact .inl ⟨rfl, rfl⟩
  | cons x r => exact .inr ⟨x, r, rfl, rfl⟩

theorem end_tail (A : List Ln) {Q : List TV × List TV → Prop} (hQ : Q ([.pv (.str (endR (A.map row)))], [])) :
    ((((↑(List.length (A.map row)) : Int) == (0 : Int)) = true → Q ([TV.pv (PV.str [(10 : UInt8)])], [])) ∧ (((↑(List.length (A.map row)) : Int) == (0 : Int)) = false → ∃ (s : List UInt8), ∃ (s_1 : List UInt8), (A.map row)[(0 : Nat)]? = some [PV.str s, PV.str s_1] ∧ ((s_1 == []) = true → Q ([TV.pv (PV.str [(10 : UInt8)])], [])) ∧ ((s_1 == []) = false → ∃ (s : List UInt8), ∃ (s_2 : List UInt8), (A.map row)[(0 : Nat)]? = some [PV.str s, PV.str s_2] ∧ Q ([TV.pv (PV.str s_2)], [])))) := by
  rcases endR_of A with ⟨rfl, e⟩ | ⟨x, r, rfl, e⟩
  · rw [e] at hQ
    exact ⟨fun _ => hQ, fun h => by simp at h⟩
  · rw [e] at hQ
    refine ⟨fun h => ?_, fun _ => ⟨x.1, x.2, rfl, fun h => ?_, fun h => ⟨x.1, x.2, rfl, ?_⟩⟩⟩
    · simp at h; omega
    · have hx : x.2 = [] := by simpa using h
      rw [if_pos hx] at hQ; exact hQ
    · have hx : ¬ x.2 = [] := by simpa using h
      rw [if_neg hx] at hQ; exact hQ

/-! ### LinesSplit -/
def g_end : List TV → Option Alts
  | [.pv (.sl a)] => one (∃ A : List Ln, a = A.map row) ([.pv (.str (endR a))], [])
  | _ => none

noncomputable def S_ls : Specs := specL [(14, g_text), (15, g_split), (18, g_split), (16, g_same), (17, g_join), (19, g_end), (20, g_end)]

theorem ls_w (a : List (List PV)) (raw : List UInt8) (Q : List TV × List TV → Prop) : (wFun C S_ls 4 [.pv (.sl a), .pv (.str raw)] Q) (H.n (1 : Nat) (H.b H.auto H.auto)) = ((decide ((↑(List.length raw) : Int) > (200 : Int)) = true → Q ([TV.pv (PV.bool true)], [])) ∧ (decide ((↑(List.length raw) : Int) > (200 : Int)) = false → (∃ (ns : List Int), a = List.map (fun (n : Int) ↦ [PV.int IntKind.i64 n]) ns) ∧ LoopAt C (4 : FuncId) (CP.dn (CP.dn (CP.dn (CP.dn (CP.dn (CP.dn (CP.dn CP.top (1 : Nat)) (1 : Nat)) (1 : Nat)) (1 : Nat)) (0 : Nat)) (1 : Nat)) (0 : Nat)) (St.mk [((5 : Nat), AV.own (10 : Nat)), ((6 : Nat), AV.pv (PV.int IntKind.i64 (0 : Int)))] [((10 : Nat), Obj.buf (1 : Nat) [[PV.str (textF a)], [PV.str raw]])]) (exK (blockK (0 : Nat) (seqK (wAt C S_ls (4 : FuncId) (99995 : Nat) (CP.dn (CP.dn (CP.dn (CP.dn (CP.dn CP.top (1 : Nat)) (1 : Nat)) (1 : Nat)) (1 : Nat)) (1 : Nat))) (retK C (4 : FuncId) [TV.pv (PV.sl a), TV.pv (PV.str raw)] Q)))))) := by kernel_rfl

def ls_cp : CP := CP.dn (CP.dn (CP.dn (CP.dn (CP.dn (CP.dn (CP.dn CP.top 1) 1) 1) 1) 0) 1) 0

def ls_h (t raw : List UInt8) (i : Int) : St := St.mk [(5, AV.own 10), (6, AV.pv (PV.int IntKind.i64 i))] [(10, Obj.buf 1 [[PV.str t], [PV.str raw]])]

theorem ls_l0 (a : List (List PV)) (t raw : List UInt8) (J : St → Prop) (Q : List TV × List TV → Prop) : (wAt C S_ls 4 1000 (ls_cp.dn 0) (ls_h t raw 0) (loopK C 4 ls_cp J (exK (blockK 0 (seqK (wAt C S_ls 4 99995 (CP.dn (CP.dn (CP.dn (CP.dn (CP.dn CP.top 1) 1) 1) 1) 1)) (retK C 4 [TV.pv (PV.sl a), TV.pv (PV.str raw)] Q)))))) (H.n (6 : Nat) (H.b H.auto (H.n (10 : Nat) (H.b H.auto (H.n (7 : Nat) (H.b H.auto H.auto)))))) = (List.length t ≤ (4000000 : Nat) ∧ List.length t ≤ (4000000 : Nat) ∧ ((∃ (A : List Ln), List.map row (linesF t) = List.map row A ∧ List.length A ≤ room) ∧ ∃ (B : List Ln), List.map row (linesF t) = List.map row B) ∧ ((!sameF (List.map row (linesF t)) (List.map row (linesF t))) = true → ∃ (h : H), Q ([TV.pv (PV.bool false)], [])) ∧ ((!sameF (List.map row (linesF t)) (List.map row (linesF t))) = false → ((∃ (A : List Ln), List.map row (linesF t) = List.map row A ∧ List.length A ≤ room) ∧ List.length (joinR (List.map row (linesF t))) ≤ room) ∧ ((!joinR (List.map row (linesF t)) == t) = true → ∃ (h : H), Q ([TV.pv (PV.bool false)], [])) ∧ ((!joinR (List.map row (linesF t)) == t) = false → (∃ (B : List Ln), List.map row (linesF t) = List.map row B) ∧ (∃ (B : List Ln), List.map row (linesF t) = List.map row B) ∧ ((!endR (List.map row (linesF t)) == endR (List.map row (linesF t))) = true → ∃ (h : H), Q ([TV.pv (PV.bool false)], [])) ∧ ((!endR (List.map row (linesF t)) == endR (List.map row (linesF t))) = false → J (St.mk [((5 : Nat), AV.own (10 : Nat)), ((6 : Nat), AV.pv (PV.int IntKind.i64 (1 : Int)))] [((10 : Nat), Obj.buf (1 : Nat) [[PV.str t], [PV.str raw]])]))))) := by kernel_rfl

theorem ls_l1 (a : List (List PV)) (t raw : List UInt8) (J : St → Prop) (Q : List TV × List TV → Prop) : (wAt C S_ls 4 1000 (ls_cp.dn 0) (ls_h t raw 1) (loopK C 4 ls_cp J (exK (blockK 0 (seqK (wAt C S_ls 4 99995 (CP.dn (CP.dn (CP.dn (CP.dn (CP.dn CP.top 1) 1) 1) 1) 1)) (retK C 4 [TV.pv (PV.sl a), TV.pv (PV.str raw)] Q)))))) (H.n (6 : Nat) (H.b H.auto (H.n (10 : Nat) (H.b H.auto (H.n (7 : Nat) (H.b H.auto H.auto)))))) = (List.length raw ≤ (4000000 : Nat) ∧ List.length raw ≤ (4000000 : Nat) ∧ ((∃ (A : List Ln), List.map row (linesF raw) = List.map row A ∧ List.length A ≤ room) ∧ ∃ (B : List Ln), List.map row (linesF raw) = List.map row B) ∧ ((!sameF (List.map row (linesF raw)) (List.map row (linesF raw))) = true → ∃ (h : H), Q ([TV.pv (PV.bool false)], [])) ∧ ((!sameF (List.map row (linesF raw)) (List.map row (linesF raw))) = false → ((∃ (A : List Ln), List.map row (linesF raw) = List.map row A ∧ List.length A ≤ room) ∧ List.length (joinR (List.map row (linesF raw))) ≤ room) ∧ ((!joinR (List.map row (linesF raw)) == raw) = true → ∃ (h : H), Q ([TV.pv (PV.bool false)], [])) ∧ ((!joinR (List.map row (linesF raw)) == raw) = false → (∃ (B : List Ln), List.map row (linesF raw) = List.map row B) ∧ (∃ (B : List Ln), List.map row (linesF raw) = List.map row B) ∧ ((!endR (List.map row (linesF raw)) == endR (List.map row (linesF raw))) = true → ∃ (h : H), Q ([TV.pv (PV.bool false)], [])) ∧ ((!endR (List.map row (linesF raw)) == endR (List.map row (linesF raw))) = false → J (St.mk [((5 : Nat), AV.own (10 : Nat)), ((6 : Nat), AV.pv (PV.int IntKind.i64 (2 : Int)))] [((10 : Nat), Obj.buf (1 : Nat) [[PV.str t], [PV.str raw]])]))))) := by kernel_rfl

theorem ls_l2 (a : List (List PV)) (t raw : List UInt8) (J : St → Prop) (Q : List TV × List TV → Prop) : (wAt C S_ls 4 1000 (ls_cp.dn 0) (ls_h t raw 2) (loopK C 4 ls_cp J (exK (blockK 0 (seqK (wAt C S_ls 4 99995 (CP.dn (CP.dn (CP.dn (CP.dn (CP.dn CP.top 1) 1) 1) 1) 1)) (retK C 4 [TV.pv (PV.sl a), TV.pv (PV.str raw)] Q)))))) (H.auto) = (∃ (h : H), Q ([TV.pv (PV.bool true)], [])) := by kernel_rfl

theorem pend_ok : ∀ ag al, g_end ag = some al → ∀ a ∈ al, a.1 → Ev C 19 ag a.2 := by
  intro ag al hl x hx hp
  unfold g_end at hl
  split at hl
  · have e := one_mem hl hx; subst e
    obtain ⟨A, rfl⟩ := hp
    exact ev_of noSpec_ok ((pend_w _ _).mpr (end_tail A (Q := fun r => r = ([.pv (.str (endR (A.map row)))], [])) rfl))
  · exact absurd hl (by simp)
theorem rend_ok : ∀ ag al, g_end ag = some al → ∀ a ∈ al, a.1 → Ev C 20 ag a.2 := by
  intro ag al hl x hx hp
  unfold g_end at hl
  split at hl
  · have e := one_mem hl hx; subst e
    obtain ⟨A, rfl⟩ := hp
    exact ev_of noSpec_ok ((rend_w _ _).mpr (end_tail A (Q := fun r => r = ([.pv (.str (endR (A.map row)))], [])) rfl))
  · exact absurd hl (by simp)
theorem ls_specs : SpecOK C S_ls := specL_ok (specs_cons text_ok (specs_cons split_ok (specs_cons rsplit_ok (specs_cons same_ok (specs_cons join_ok (specs_cons pend_ok (specs_cons rend_ok specs_nil)))))))

/-- One round of the law. -/
theorem ls_round (t : List UInt8) (ht : t.length ≤ 1000) {B G : Prop} (hG : G) :
    (List.length t ≤ (4000000 : Nat) ∧ List.length t ≤ (4000000 : Nat) ∧ ((∃ (A : List Ln), List.map row (linesF t) = List.map row A ∧ List.length A ≤ room) ∧ ∃ (B : List Ln), List.map row (linesF t) = List.map row B) ∧ ((!sameF (List.map row (linesF t)) (List.map row (linesF t))) = true → B) ∧ ((!sameF (List.map row (linesF t)) (List.map row (linesF t))) = false → ((∃ (A : List Ln), List.map row (linesF t) = List.map row A ∧ List.length A ≤ room) ∧ List.length (joinR (List.map row (linesF t))) ≤ room) ∧ ((!joinR (List.map row (linesF t)) == t) = true → B) ∧ ((!joinR (List.map row (linesF t)) == t) = false → (∃ (B : List Ln), List.map row (linesF t) = List.map row B) ∧ (∃ (B : List Ln), List.map row (linesF t) = List.map row B) ∧ ((!endR (List.map row (linesF t)) == endR (List.map row (linesF t))) = true → B) ∧ ((!endR (List.map row (linesF t)) == endR (List.map row (linesF t))) = false → G)))) := by
  have hr := room_val
  have l1 := lines_len t []
  have l2 : (linesF t).length ≤ t.length := by simpa [linesF] using l1
  have ej : joinR ((linesF t).map row) = t := by rw [joinR_rows]; exact (lines_join t []).trans (List.nil_append _)
  have es : sameF ((linesF t).map row) ((linesF t).map row) = true := sameF_true rfl
  rw [es, ej]
  refine ⟨by omega, by omega, ⟨⟨_, rfl, by omega⟩, _, rfl⟩, fun h => by simp at h, fun _ => ⟨⟨⟨_, rfl, by omega⟩, by omega⟩, fun h => by simp at h, fun _ => ⟨⟨_, rfl⟩, ⟨_, rfl⟩, fun h => by simp at h, fun _ => hG⟩⟩⟩

def lsI (t raw : List UInt8) (n : Nat) (st : St) : Prop := (n = 2 ∧ st = ls_h t raw 0) ∨ (n = 1 ∧ st = ls_h t raw 1) ∨ (n = 0 ∧ st = ls_h t raw 2)

set_option maxRecDepth 100000 in
theorem ls_ev (ns : List Int) (raw : List UInt8) : Ev C 4 [.pv (.sl (ns.map fun n => [.int .i64 n])), .pv (.str raw)] good := by
  have key := ls_w (ns.map fun n => [.int .i64 n]) raw (fun r => r = good)
  refine ev_of ls_specs (key.mpr ⟨fun _ => rfl, fun h => ⟨⟨ns, rfl⟩, ?_⟩⟩)
  clear key
  simp only [decide_eq_false_iff_not] at h
  have ht := textF_len (ns.map fun n => [.int .i64 n])
  refine loop_rule ls_specs (by kernel_rfl) 1000 (lsI (textF (ns.map fun n => [.int .i64 n])) raw) ?_ (n := 2) (.inl ⟨rfl, rfl⟩)
  rintro n st (⟨rfl, rfl⟩ | ⟨rfl, rfl⟩ | ⟨rfl, rfl⟩)
  · exact ⟨_, (ls_l0 _ _ _ _ _).mpr (ls_round _ ht ⟨1, by omega, .inr (.inl ⟨rfl, rfl⟩)⟩)⟩
  · exact ⟨_, (ls_l1 _ _ _ _ _).mpr (ls_round _ (by omega) ⟨0, by omega, .inr (.inr ⟨rfl, rfl⟩)⟩)⟩
  · exact ⟨_, (ls_l2 _ _ _ _ _).mpr ⟨.auto, rfl⟩⟩

theorem LinesSplit_calls {p q : Prop} (ns : List Int) (_hn : p) (raw : List UInt8) (_hm : q) {w : World} {args : List Value} (hr : RepA w noCells [.sl (ns.map fun n => [.int .i64 n]), .str raw] args) : Calls Try.prog 4 args.toArray w fun e w' => e = .returned (.bool true) ∧ Below w.heap.size w w' := by
  obtain ⟨k, h⟩ := (ls_ev ns raw).get
  exact law_calls (C := C) progOKp Try.func4 (by kernel_rfl) (sound h) hr

end Go.Proofs.Ytpcjlhhhmjgffaa.Vm
