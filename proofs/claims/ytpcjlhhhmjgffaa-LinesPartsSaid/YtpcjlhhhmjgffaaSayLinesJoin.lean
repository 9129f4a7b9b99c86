/-
  LinesJoin, in the machine.
-/
import Derived.Test.YtpcjlhhhmjgffaaVmCx
import Derived.Test.YtpcjlhhhmjgffaaVmLaw
import Derived.IntWalk
namespace Go.Proofs.Ytpcjlhhhmjgffaa.Vm
open Go Go.RowKit
set_option linter.unusedVariables false
set_option linter.unusedSimpArgs false

/-! ### Lines -/
def noSpec : Specs := fun _ => none

abbrev Ln := List UInt8 × List UInt8

def row (x : Ln) : List PV := [.str x.1, .str x.2]

def sufB (s t : List UInt8) : Bool := decide (t.length ≤ s.length) && (s.drop (s.length - t.length) == t)

def strip (a : List UInt8) : Ln := if sufB a [13] = true then (a.take (a.length - 1), [13, 10]) else (a, [10])

def linesG : List UInt8 → List UInt8 → List Ln
  | acc, [] => if acc = [] then [] else [(acc, [])]
  | acc, c :: r => if c = 10 then strip acc :: linesG [] r else linesG (acc ++ [c]) r

def linesF (s : List UInt8) : List Ln := linesG [] s

theorem linesG_app : ∀ (a acc b : List UInt8), linesG acc (a ++ [10] ++ b) = linesG acc (a ++ [10]) ++ linesG [] b
  | [], acc, b => by simp [linesG]
  | c :: a, acc, b => by
    by_cases h : c = 10
    · have := linesG_app a [] b
      simp only [List.cons_append, linesG, h, if_true, List.append_assoc] at this ⊢
      rw [this]
    · have := linesG_app a (acc ++ [c]) b
      simp only [List.cons_append, linesG, h, if_false, List.append_assoc] at this ⊢
      exact this

theorem suf_one {p : List UInt8} : sufB p [13] = true ↔ ∃ q, p = q ++ [13] := by
  constructor
  · intro h
    simp only [sufB, List.length_singleton, Bool.and_eq_true, decide_eq_true_eq, beq_iff_eq] at h
    exact ⟨p.take (p.length - 1), by rw [← h.2, List.take_append_drop]⟩
  · rintro ⟨q, rfl⟩
    simp [sufB]

theorem strip_join (p : List UInt8) : (strip p).1 ++ (strip p).2 = p ++ [10] := by
  unfold strip
  split
  · rename_i h
    obtain ⟨q, rfl⟩ := suf_one.1 h
    simp
  · rfl

theorem ib_spec : ∀ (s acc : List UInt8), (Lib.indexByte s 10 < 0 ∧ linesG acc s = if acc ++ s = [] then [] else [(acc ++ s, [])]) ∨
    ∃ p r : List UInt8, s = p ++ 10 :: r ∧ Lib.indexByte s 10 = p.length ∧ linesG acc s = strip (acc ++ p) :: linesG [] r
  | [], acc => .inl ⟨by simp [Lib.indexByte], by simp [linesG]⟩
  | b :: l, acc => by
    by_cases hb : b = 10
    · subst hb
      exact .inr ⟨[], l, rfl, by simp [Lib.indexByte], by simp [linesG]⟩
    · have hb' : (b == (10 : UInt8)) = false := by simpa using hb
      rcases ib_spec l (acc ++ [b]) with ⟨h1, h2⟩ | ⟨p, r, h1, h2, h3⟩
      · refine .inl ⟨?_, ?_⟩
        · have h0 : Lib.indexByte l 10 = -1 := by have := Lib.indexByte_ge l 10; omega
          simp [Lib.indexByte, hb', h0]
        · simp only [linesG, hb, if_false, h2]; simp
      · refine .inr ⟨b :: p, r, by simp [h1], ?_, ?_⟩
        · have h0 : ¬ Lib.indexByte l 10 = -1 := by rw [h2]; omega
          simp only [Lib.indexByte, hb', Bool.false_eq_true, if_false]
          rw [if_neg (by simpa using h0), h2]; simp
        · simp only [linesG, hb, if_false, h3]; simp

theorem lines_len : ∀ (s acc : List UInt8), (linesG acc s).length ≤ s.length + (if acc = [] then 0 else 1)
  | [], acc => by simp only [linesG]; split <;> simp
  | c :: r, acc => by
    simp only [linesG]
    split
    · have := lines_len r []
      simp at this ⊢; omega
    · have := lines_len r (acc ++ [c])
      simp at this ⊢; omega

theorem rowOk_rows (A : List Ln) : rowOk 2 (A.map row) = true := by simp [rowOk, row]

/-! ### strings.HasSuffix -/

theorem suf_w (s t : List UInt8) (Q : List TV × List TV → Prop) : (wFun C noSpec 48 [.pv (.str s), .pv (.str t)] Q) (H.b (H.n (6 : Nat) (H.s H.auto)) H.auto) = ((decide ((↑(List.length s) : Int) ≥ (↑(List.length t) : Int)) = true → ((0 : Int) ≤ IntKind.wrap IntKind.i64 ((↑(List.length s) : Int) - (↑(List.length t) : Int)) ∧ IntKind.wrap IntKind.i64 ((↑(List.length s) : Int) - (↑(List.length t) : Int)) ≤ Int.ofNat (List.length s) ∧ Int.ofNat (List.length s) ≤ Int.ofNat (List.length s)) ∧ Q ([TV.pv (PV.bool (List.take (Int.toNat (Int.ofNat (List.length s)) - Int.toNat (IntKind.wrap IntKind.i64 ((↑(List.length s) : Int) - (↑(List.length t) : Int)))) (List.drop (Int.toNat (IntKind.wrap IntKind.i64 ((↑(List.length s) : Int) - (↑(List.length t) : Int)))) s) == t))], [])) ∧ (decide ((↑(List.length s) : Int) ≥ (↑(List.length t) : Int)) = false → Q ([TV.pv (PV.bool false)], []))) := by kernel_rfl

def g_suf : List TV → Option Alts
  | [.pv (.str s), .pv (.str t)] => one (s.length ≤ room ∧ t.length ≤ room) ([.pv (.bool (sufB s t))], [])
  | _ => none

def S_suf : Specs := specL [(48, g_suf)]

theorem suf_w2 (s t : List UInt8) (Q : List TV × List TV → Prop) : (wFun C S_suf 37 [.pv (.str s), .pv (.str t)] Q) (H.auto) = ((List.length s ≤ room ∧ List.length t ≤ room) ∧ Q ([TV.pv (PV.bool (sufB s t))], [])) := by kernel_rfl

theorem noSpec_ok : SpecOK C noSpec := by intro f g h; simp [noSpec] at h
theorem room_val : room = 140737488355328 := rfl
theorem maxInt_val : maxInt = 9223372036854775807 := rfl

theorem suf_ev0 (s t : List UInt8) (hs : s.length ≤ room) (ht : t.length ≤ room) : Ev C 48 [.pv (.str s), .pv (.str t)] ([.pv (.bool (sufB s t))], []) := by
  have hr := room_val
  refine ev_of noSpec_ok ((suf_w s t _).mpr ⟨fun h => ?_, fun h => ?_⟩)
  · simp only [decide_eq_true_eq] at h
    have e : IntKind.wrap .i64 ((s.length : Int) - t.length) = ((s.length - t.length : Nat) : Int) := by rw [IntWalk.i64_in _ (by omega)]; omega
    rw [e]
    refine ⟨⟨by omega, by simp, by simp⟩, ?_⟩
    have h' : t.length ≤ s.length := by omega
    have e2 : List.take (s.length - (s.length - t.length)) (List.drop (s.length - t.length) s) = List.drop (s.length - t.length) s := List.take_of_length_le (by simp)
    simp [sufB, h', e2]
  · simp only [decide_eq_false_iff_not] at h
    have h' : ¬ t.length ≤ s.length := by omega
    simp [sufB, h']

theorem suf_ok0 : SpecsOK C [(48, g_suf)] := by
  refine specs_cons ?_ specs_nil
  intro ag al hl a ha hp
  unfold g_suf at hl
  split at hl
  · have e := one_mem hl ha; subst e
    exact suf_ev0 _ _ hp.1 hp.2
  · exact absurd hl (by simp)

theorem suf_ok : ∀ ag al, g_suf ag = some al → ∀ a ∈ al, a.1 → Ev C 37 ag a.2 := by
  intro ag al hl a ha hp
  unfold g_suf at hl
  split at hl
  · have e := one_mem hl ha; subst e
    exact ev_of (specL_ok suf_ok0) ((suf_w2 _ _ _).mpr ⟨hp, rfl⟩)
  · exact absurd hl (by simp)

/-! ### lines.Split -/
def g_clone : List TV → Option Alts
  | [.pv (.sl es)] => one (es.length * 32 ≤ room ∧ es.length ≤ maxInt ∧ rowOk 2 es = true) ([.own 2 es], [])
  | _ => none

def S_split : Specs := specL [(37, g_suf), (36, g_clone)]

def ps_h (s : List UInt8) (l : List (List PV)) : St := St.mk [(0, AV.pv (PV.str s)), (3, AV.own 6)] [(6, Obj.buf 2 l)]

theorem psplit_w (s : List UInt8) (Q : List TV × List TV → Prop) : (wFun C S_split 15 [.pv (.str s)] Q) (H.b (H.b H.auto H.auto) (H.s (H.s (H.b (H.s (H.s (H.n (2 : Nat) (H.s H.auto)))) (H.n (2 : Nat) (H.s H.auto)))))) = ((decide (Lib.indexByte s (10 : UInt8) < (0 : Int)) = true → ((!s == []) = true → ((32 : Nat) ≤ room ∧ (1 : Nat) ≤ maxInt ∧ true = true) ∧ Q ([TV.own (2 : Nat) [[PV.str s, PV.str []]]], [])) ∧ ((!s == []) = false → ((0 : Nat) ≤ room ∧ (0 : Nat) ≤ maxInt ∧ true = true) ∧ Q ([TV.own (2 : Nat) []], []))) ∧ (decide (Lib.indexByte s (10 : UInt8) < (0 : Int)) = false → ((0 : Int) ≤ (0 : Int) ∧ (0 : Int) ≤ Lib.indexByte s (10 : UInt8) ∧ Lib.indexByte s (10 : UInt8) ≤ Int.ofNat (List.length s)) ∧ ((0 : Int) ≤ Lib.indexByte s (10 : UInt8) ∧ Lib.indexByte s (10 : UInt8) ≤ IntKind.wrap IntKind.i64 (Lib.indexByte s (10 : UInt8) + (1 : Int)) ∧ IntKind.wrap IntKind.i64 (Lib.indexByte s (10 : UInt8) + (1 : Int)) ≤ Int.ofNat (List.length s)) ∧ (List.length (List.take (Int.toNat (Lib.indexByte s (10 : UInt8)) - (0 : Nat)) s) ≤ room ∧ (1 : Nat) ≤ room) ∧ (sufB (List.take (Int.toNat (Lib.indexByte s (10 : UInt8)) - (0 : Nat)) s) [(13 : UInt8)] = true → ((0 : Int) ≤ (0 : Int) ∧ (0 : Int) ≤ IntKind.wrap IntKind.i64 (Lib.indexByte s (10 : UInt8) - (1 : Int)) ∧ IntKind.wrap IntKind.i64 (Lib.indexByte s (10 : UInt8) - (1 : Int)) ≤ Int.ofNat (List.length s)) ∧ ((0 : Int) ≤ IntKind.wrap IntKind.i64 (Lib.indexByte s (10 : UInt8) - (1 : Int)) ∧ IntKind.wrap IntKind.i64 (Lib.indexByte s (10 : UInt8) - (1 : Int)) ≤ IntKind.wrap IntKind.i64 (Lib.indexByte s (10 : UInt8) + (1 : Int)) ∧ IntKind.wrap IntKind.i64 (Lib.indexByte s (10 : UInt8) + (1 : Int)) ≤ Int.ofNat (List.length s)) ∧ ((0 : Int) ≤ IntKind.wrap IntKind.i64 (Lib.indexByte s (10 : UInt8) + (1 : Int)) ∧ IntKind.wrap IntKind.i64 (Lib.indexByte s (10 : UInt8) + (1 : Int)) ≤ Int.ofNat (List.length s) ∧ Int.ofNat (List.length s) ≤ Int.ofNat (List.length s)) ∧ AgainAt C (15 : FuncId) (CP.dn CP.top (1 : Nat)) (0 : Nat) (St.mk [((0 : Nat), AV.pv (PV.str (List.take (Int.toNat (Int.ofNat (List.length s)) - Int.toNat (IntKind.wrap IntKind.i64 (Lib.indexByte s (10 : UInt8) + (1 : Int)))) (List.drop (Int.toNat (IntKind.wrap IntKind.i64 (Lib.indexByte s (10 : UInt8) + (1 : Int)))) s)))), ((3 : Nat), AV.own (6 : Nat))] [((6 : Nat), Obj.buf (2 : Nat) [[PV.str (List.take (Int.toNat (IntKind.wrap IntKind.i64 (Lib.indexByte s (10 : UInt8) - (1 : Int))) - (0 : Nat)) s), PV.str (List.take (Int.toNat (IntKind.wrap IntKind.i64 (Lib.indexByte s (10 : UInt8) + (1 : Int))) - Int.toNat (IntKind.wrap IntKind.i64 (Lib.indexByte s (10 : UInt8) - (1 : Int)))) (List.drop (Int.toNat (IntKind.wrap IntKind.i64 (Lib.indexByte s (10 : UInt8) - (1 : Int)))) s))]])]) (exK (retK C (15 : FuncId) [TV.pv (PV.str s)] Q))) ∧ (sufB (List.take (Int.toNat (Lib.indexByte s (10 : UInt8)) - (0 : Nat)) s) [(13 : UInt8)] = false → ((0 : Int) ≤ IntKind.wrap IntKind.i64 (Lib.indexByte s (10 : UInt8) + (1 : Int)) ∧ IntKind.wrap IntKind.i64 (Lib.indexByte s (10 : UInt8) + (1 : Int)) ≤ Int.ofNat (List.length s) ∧ Int.ofNat (List.length s) ≤ Int.ofNat (List.length s)) ∧ AgainAt C (15 : FuncId) (CP.dn CP.top (1 : Nat)) (0 : Nat) (St.mk [((0 : Nat), AV.pv (PV.str (List.take (Int.toNat (Int.ofNat (List.length s)) - Int.toNat (IntKind.wrap IntKind.i64 (Lib.indexByte s (10 : UInt8) + (1 : Int)))) (List.drop (Int.toNat (IntKind.wrap IntKind.i64 (Lib.indexByte s (10 : UInt8) + (1 : Int)))) s)))), ((3 : Nat), AV.own (6 : Nat))] [((6 : Nat), Obj.buf (2 : Nat) [[PV.str (List.take (Int.toNat (Lib.indexByte s (10 : UInt8)) - (0 : Nat)) s), PV.str (List.take (Int.toNat (IntKind.wrap IntKind.i64 (Lib.indexByte s (10 : UInt8) + (1 : Int))) - Int.toNat (Lib.indexByte s (10 : UInt8))) (List.drop (Int.toNat (Lib.indexByte s (10 : UInt8))) s))]])]) (exK (retK C (15 : FuncId) [TV.pv (PV.str s)] Q))))) := by kernel_rfl

theorem psplit_l (s0 s : List UInt8) (l : List (List PV)) (J : Nat → St → Prop) (Q : List TV × List TV → Prop) : (wAt C S_split 15 1000 (CP.lab (CP.dn CP.top 1) 0) (ps_h s l) (againK C 15 (CP.dn CP.top 1) J (exK (retK C 15 [.pv (.str s0)] Q)))) (H.b (H.b (H.s (H.n (1 : Nat) (H.b H.auto H.auto))) (H.b H.auto H.auto)) (H.s (H.s (H.b (H.s (H.s (H.s (H.n (1 : Nat) (H.s H.auto))))) (H.s (H.n (1 : Nat) (H.s H.auto))))))) = ((decide (Lib.indexByte s (10 : UInt8) < (0 : Int)) = true → ((!s == []) = true → ((List.length l + (1 : Nat)) * (32 : Nat) ≤ room ∧ List.length l + (1 : Nat) ≤ maxInt) ∧ (List.length (l ++ [[PV.str s, PV.str []]]) * (32 : Nat) ≤ room ∧ List.length (l ++ [[PV.str s, PV.str []]]) ≤ maxInt ∧ rowOk (2 : Nat) (l ++ [[PV.str s, PV.str []]]) = true) ∧ ((flatTVs [TV.own (2 : Nat) (l ++ [[PV.str s, PV.str []]])] && true) = true → ∃ (h : H), Q ([TV.own (2 : Nat) (l ++ [[PV.str s, PV.str []]])], [])) ∧ ((flatTVs [TV.own (2 : Nat) (l ++ [[PV.str s, PV.str []]])] && true) = false → ∃ (h : H), Q ([TV.own (2 : Nat) (l ++ [[PV.str s, PV.str []]])], []))) ∧ ((!s == []) = false → (List.length l * (32 : Nat) ≤ room ∧ List.length l ≤ maxInt ∧ rowOk (2 : Nat) l = true) ∧ ((flatTVs [TV.own (2 : Nat) l] && true) = true → ∃ (h : H), Q ([TV.own (2 : Nat) l], [])) ∧ ((flatTVs [TV.own (2 : Nat) l] && true) = false → ∃ (h : H), Q ([TV.own (2 : Nat) l], [])))) ∧ (decide (Lib.indexByte s (10 : UInt8) < (0 : Int)) = false → ((0 : Int) ≤ (0 : Int) ∧ (0 : Int) ≤ Lib.indexByte s (10 : UInt8) ∧ Lib.indexByte s (10 : UInt8) ≤ Int.ofNat (List.length s)) ∧ ((0 : Int) ≤ Lib.indexByte s (10 : UInt8) ∧ Lib.indexByte s (10 : UInt8) ≤ IntKind.wrap IntKind.i64 (Lib.indexByte s (10 : UInt8) + (1 : Int)) ∧ IntKind.wrap IntKind.i64 (Lib.indexByte s (10 : UInt8) + (1 : Int)) ≤ Int.ofNat (List.length s)) ∧ (List.length (List.take (Int.toNat (Lib.indexByte s (10 : UInt8)) - (0 : Nat)) s) ≤ room ∧ (1 : Nat) ≤ room) ∧ (sufB (List.take (Int.toNat (Lib.indexByte s (10 : UInt8)) - (0 : Nat)) s) [(13 : UInt8)] = true → ((0 : Int) ≤ (0 : Int) ∧ (0 : Int) ≤ IntKind.wrap IntKind.i64 (Lib.indexByte s (10 : UInt8) - (1 : Int)) ∧ IntKind.wrap IntKind.i64 (Lib.indexByte s (10 : UInt8) - (1 : Int)) ≤ Int.ofNat (List.length s)) ∧ ((0 : Int) ≤ IntKind.wrap IntKind.i64 (Lib.indexByte s (10 : UInt8) - (1 : Int)) ∧ IntKind.wrap IntKind.i64 (Lib.indexByte s (10 : UInt8) - (1 : Int)) ≤ IntKind.wrap IntKind.i64 (Lib.indexByte s (10 : UInt8) + (1 : Int)) ∧ IntKind.wrap IntKind.i64 (Lib.indexByte s (10 : UInt8) + (1 : Int)) ≤ Int.ofNat (List.length s)) ∧ ((List.length l + (1 : Nat)) * (32 : Nat) ≤ room ∧ List.length l + (1 : Nat) ≤ maxInt) ∧ ((0 : Int) ≤ IntKind.wrap IntKind.i64 (Lib.indexByte s (10 : UInt8) + (1 : Int)) ∧ IntKind.wrap IntKind.i64 (Lib.indexByte s (10 : UInt8) + (1 : Int)) ≤ Int.ofNat (List.length s) ∧ Int.ofNat (List.length s) ≤ Int.ofNat (List.length s)) ∧ J (0 : Nat) (St.mk [((0 : Nat), AV.pv (PV.str (List.take (Int.toNat (Int.ofNat (List.length s)) - Int.toNat (IntKind.wrap IntKind.i64 (Lib.indexByte s (10 : UInt8) + (1 : Int)))) (List.drop (Int.toNat (IntKind.wrap IntKind.i64 (Lib.indexByte s (10 : UInt8) + (1 : Int)))) s)))), ((3 : Nat), AV.own (6 : Nat))] [((6 : Nat), Obj.buf (2 : Nat) (l ++ [[PV.str (List.take (Int.toNat (IntKind.wrap IntKind.i64 (Lib.indexByte s (10 : UInt8) - (1 : Int))) - (0 : Nat)) s), PV.str (List.take (Int.toNat (IntKind.wrap IntKind.i64 (Lib.indexByte s (10 : UInt8) + (1 : Int))) - Int.toNat (IntKind.wrap IntKind.i64 (Lib.indexByte s (10 : UInt8) - (1 : Int)))) (List.drop (Int.toNat (IntKind.wrap IntKind.i64 (Lib.indexByte s (10 : UInt8) - (1 : Int)))) s))]]))])) ∧ (sufB (List.take (Int.toNat (Lib.indexByte s (10 : UInt8)) - (0 : Nat)) s) [(13 : UInt8)] = false → ((List.length l + (1 : Nat)) * (32 : Nat) ≤ room ∧ List.length l + (1 : Nat) ≤ maxInt) ∧ ((0 : Int) ≤ IntKind.wrap IntKind.i64 (Lib.indexByte s (10 : UInt8) + (1 : Int)) ∧ IntKind.wrap IntKind.i64 (Lib.indexByte s (10 : UInt8) + (1 : Int)) ≤ Int.ofNat (List.length s) ∧ Int.ofNat (List.length s) ≤ Int.ofNat (List.length s)) ∧ J (0 : Nat) (St.mk [((0 : Nat), AV.pv (PV.str (List.take (Int.toNat (Int.ofNat (List.length s)) - Int.toNat (IntKind.wrap IntKind.i64 (Lib.indexByte s (10 : UInt8) + (1 : Int)))) (List.drop (Int.toNat (IntKind.wrap IntKind.i64 (Lib.indexByte s (10 : UInt8) + (1 : Int)))) s)))), ((3 : Nat), AV.own (6 : Nat))] [((6 : Nat), Obj.buf (2 : Nat) (l ++ [[PV.str (List.take (Int.toNat (Lib.indexByte s (10 : UInt8)) - (0 : Nat)) s), PV.str (List.take (Int.toNat (IntKind.wrap IntKind.i64 (Lib.indexByte s (10 : UInt8) + (1 : Int))) - Int.toNat (Lib.indexByte s (10 : UInt8))) (List.drop (Int.toNat (Lib.indexByte s (10 : UInt8))) s))]]))])))) := by kernel_rfl

theorem clone_ok : ∀ ag al, g_clone ag = some al → ∀ a ∈ al, a.1 → Ev C 36 ag a.2 := by
  intro ag al hl a ha hp
  unfold g_clone at hl
  split at hl
  · have e := one_mem hl ha; subst e
    have e1 : bytesT Try.prog 33 = 32 := by kernel_rfl
    have e2 : sizeT Try.prog 33 = 2 := by kernel_rfl
    refine ev_ext (g := xClone Try.prog 33) (by kernel_rfl) ?_
    simp only [xClone, e1, e2]
    rw [if_pos hp]
  · exact absurd hl (by simp)

theorem split_specs : SpecOK C S_split := specL_ok (specs_cons suf_ok (specs_cons clone_ok specs_nil))

def splitI (s0 : List UInt8) (n l : Nat) (st : St) : Prop := l = 0 ∧ ∃ (s : List UInt8) (A : List Ln), st = ps_h s (A.map row) ∧ A ++ linesF s = linesF s0 ∧ s.length = n ∧ s.length ≤ room

theorem psplit_loop (s0 : List UInt8) (hs0 : (linesF s0).length ≤ 4000000) {n l : Nat} {st : St} (h : splitI s0 n l st) :
    AgainAt C 15 (CP.dn CP.top 1) l st (exK (retK C 15 [.pv (.str s0)] (fun r => r = ([.own 2 ((linesF s0).map row)], [])))) := by
  refine again_rule split_specs 1000 (splitI s0) ?_ h
  rintro n l st ⟨rfl, s, A, rfl, hA, hn, hb⟩
  have hr := room_val
  have hm := maxInt_val
  have hAl : A.length + (linesF s).length = (linesF s0).length := by rw [← hA]; simp
  refine ⟨_, (psplit_l s0 s _ _ _).mpr ⟨fun h => ?_, fun h => ?_⟩⟩
  · have hs : linesF s = if s = [] then [] else [(s, [])] := by
      rcases ib_spec s [] with ⟨_, h2⟩ | ⟨p, r, h1, h2, _⟩
      · simpa [linesF] using h2
      · simp only [h2, decide_eq_true_eq] at h; omega
    refine ⟨fun h2 => ?_, fun h2 => ?_⟩
    · have hne : ¬ s = [] := by simpa using h2
      rw [if_neg hne] at hs
      have hl : 0 < s.length := List.length_pos_iff.2 hne
      have e : A.map row ++ [[PV.str s, PV.str []]] = (linesF s0).map row := by rw [← hA, hs]; simp [row]
      rw [e]
      have hlen : (linesF s0).length = A.length + 1 := by rw [← hA, hs]; simp
      simp only [List.length_map]
      exact ⟨⟨by omega, by omega⟩, ⟨by omega, by omega, rowOk_rows _⟩, fun _ => ⟨.auto, trivial⟩, fun _ => ⟨.auto, trivial⟩⟩
    · have hne : s = [] := by simpa using h2
      rw [if_pos hne] at hs
      have e : A = linesF s0 := by rw [← hA, hs]; simp
      simp only [e, List.length_map]
      exact ⟨⟨by omega, by omega, rowOk_rows _⟩, fun _ => ⟨.auto, trivial⟩, fun _ => ⟨.auto, trivial⟩⟩
  · rcases ib_spec s [] with ⟨h1, _⟩ | ⟨p, r, rfl, h2, h3⟩
    · simp only [decide_eq_false_iff_not] at h; omega
    · clear h
      simp only [List.nil_append] at h3
      simp only [List.length_append, List.length_cons] at hb hn
      have w1 : IntKind.wrap .i64 ((p.length : Int) + 1) = ((p.length + 1 : Nat) : Int) := by rw [IntWalk.i64_in _ (by omega)]; omega
      have t1 : List.take (p.length - 0) (p ++ 10 :: r) = p := by simp
      have d1 : List.drop (p.length + 1) (p ++ 10 :: r) = r := by rw [List.drop_append]; simp
      have hA' : (A ++ [strip p]) ++ linesF r = linesF s0 := by rw [← hA]; simp [linesF, h3]
      have hAl' : A.length + 1 + (linesF r).length = (linesF s0).length := by rw [← hA']; simp; omega
      clear hAl
      simp only [h2, w1, Int.toNat_natCast, Int.ofNat_eq_natCast, t1, d1, List.length_append, List.length_cons, List.length_map, List.length_nil]
      refine ⟨by omega, by omega, by omega, fun h4 => ?_, fun h4 => ?_⟩
      · obtain ⟨q, rfl⟩ := suf_one.1 h4
        simp only [List.length_append, List.length_singleton] at *
        have w2 : IntKind.wrap .i64 (((q.length + 1 : Nat) : Int) - 1) = (q.length : Int) := by rw [IntWalk.i64_in _ (by omega)]; omega
        simp only [w2, Int.toNat_natCast]
        refine ⟨by omega, by omega, by omega, by omega, r.length, by omega, rfl, r, A ++ [strip (q ++ [13])], ?_, hA', rfl, by omega⟩
        have t2 : List.take (q.length + 1 + (r.length + 1) - (q.length + 1 + 1)) r = r := List.take_of_length_le (by omega)
        have t3 : q.length + 1 + 1 - q.length = 2 := by omega
        simp [ps_h, row, strip, h4, t2, t3]
      · refine ⟨by omega, by omega, r.length, by omega, rfl, r, A ++ [strip p], ?_, hA', rfl, by omega⟩
        have t2 : List.take (p.length + (r.length + 1) - (p.length + 1)) r = r := List.take_of_length_le (by omega)
        simp [ps_h, row, strip, h4, t2]

theorem psplit_ev (s : List UInt8) (hs1 : (linesF s).length ≤ 4000000) (hs : s.length ≤ room) : Ev C 15 [.pv (.str s)] ([.own 2 ((linesF s).map row)], []) := by
  have hr := room_val
  have hm := maxInt_val
  refine ev_of split_specs ((psplit_w s _).mpr ⟨fun h => ?_, fun h => ?_⟩)
  · have hs : linesF s = if s = [] then [] else [(s, [])] := by
      rcases ib_spec s [] with ⟨_, h2⟩ | ⟨p, r, h1, h2, _⟩
      · simpa [linesF] using h2
      · simp only [h2, decide_eq_true_eq] at h; omega
    refine ⟨fun h2 => ?_, fun h2 => ?_⟩
    · have hne : ¬ s = [] := by simpa using h2
      rw [if_neg hne] at hs
      simp [hs, row, room_val, maxInt_val, rowOk]
    · have hne : s = [] := by simpa using h2
      rw [if_pos hne] at hs
      simp [hs, row, room_val, maxInt_val, rowOk]
  · rcases ib_spec s [] with ⟨h1, _⟩ | ⟨p, r, rfl, h2, h3⟩
    · simp only [decide_eq_false_iff_not] at h; omega
    · clear h
      simp only [List.nil_append] at h3
      simp only [List.length_append, List.length_cons] at hs
      have w1 : IntKind.wrap .i64 ((p.length : Int) + 1) = ((p.length + 1 : Nat) : Int) := by rw [IntWalk.i64_in _ (by omega)]; omega
      have t1 : List.take (p.length - 0) (p ++ 10 :: r) = p := by simp
      have d1 : List.drop (p.length + 1) (p ++ 10 :: r) = r := by rw [List.drop_append]; simp
      simp only [h2, w1, Int.toNat_natCast, Int.ofNat_eq_natCast, t1, d1, List.length_append, List.length_cons, List.length_map, List.length_nil]
      have go : AgainAt C 15 (CP.dn CP.top 1) 0 (ps_h r ([strip p].map row)) (exK (retK C 15 [.pv (.str (p ++ 10 :: r))] (fun r' => r' = ([.own 2 ((linesF (p ++ 10 :: r)).map row)], [])))) :=
        psplit_loop _ hs1 ⟨rfl, r, [strip p], rfl, by simp [linesF, h3], rfl, by omega⟩
      refine ⟨by omega, by omega, by omega, fun h4 => ?_, fun h4 => ?_⟩
      · obtain ⟨q, rfl⟩ := suf_one.1 h4
        simp only [List.length_append, List.length_singleton] at *
        have w2 : IntKind.wrap .i64 (((q.length + 1 : Nat) : Int) - 1) = (q.length : Int) := by rw [IntWalk.i64_in _ (by omega)]; omega
        simp only [w2, Int.toNat_natCast]
        refine ⟨by omega, by omega, by omega, ?_⟩
        have t2 : List.take (q.length + 1 + (r.length + 1) - (q.length + 1 + 1)) r = r := List.take_of_length_le (by omega)
        have t3 : q.length + 1 + 1 - q.length = 2 := by omega
        simp only [ps_h, List.map_cons, List.map_nil, row, strip, h4, if_true] at go
        simpa [t2, t3] using go
      · refine ⟨by omega, ?_⟩
        have t2 : List.take (p.length + (r.length + 1) - (p.length + 1)) r = r := List.take_of_length_le (by omega)
        simp only [ps_h, List.map_cons, List.map_nil, row, strip, h4, Bool.false_eq_true, if_false] at go
        simpa [t2] using go

/-! ### cadenceref5.Same -/
theorem same_w (a b : List (List PV)) (Q : List TV × List TV → Prop) : (wFun C noSpec 16 [.pv (.sl a), .pv (.sl b)] Q) (H.b H.auto H.auto) = ((((↑(List.length a) : Int) != (↑(List.length b) : Int)) = true → Q ([TV.pv (PV.bool false)], [])) ∧ (((↑(List.length a) : Int) != (↑(List.length b) : Int)) = false → LoopAt C (16 : FuncId) (CP.dn (CP.dn (CP.dn (CP.dn (CP.dn CP.top (1 : Nat)) (1 : Nat)) (0 : Nat)) (1 : Nat)) (0 : Nat)) (St.mk [((0 : Nat), AV.pv (PV.sl a)), ((1 : Nat), AV.pv (PV.sl b)), ((5 : Nat), AV.pv (PV.int IntKind.i64 (0 : Int)))] []) (exK (blockK (0 : Nat) (seqK (wAt C noSpec (16 : FuncId) (99997 : Nat) (CP.dn (CP.dn (CP.dn CP.top (1 : Nat)) (1 : Nat)) (1 : Nat))) (retK C (16 : FuncId) [TV.pv (PV.sl a), TV.pv (PV.sl b)] Q)))))) := by kernel_rfl

def same_cp : CP := CP.dn (CP.dn (CP.dn (CP.dn (CP.dn CP.top 1) 1) 0) 1) 0

def same_h (a b : List (List PV)) (i : Int) : St := St.mk [(0, AV.pv (PV.sl a)), (1, AV.pv (PV.sl b)), (5, AV.pv (PV.int IntKind.i64 i))] []

theorem same_l (a b : List (List PV)) (i : Int) (J : St → Prop) (Q : List TV × List TV → Prop) : (wAt C noSpec 16 1000 (same_cp.dn 0) (same_h a b i) (loopK C 16 same_cp J (exK (blockK 0 (seqK (wAt C noSpec 16 99997 (CP.dn (CP.dn (CP.dn CP.top 1) 1) 1)) (retK C 16 [TV.pv (PV.sl a), TV.pv (PV.sl b)] Q)))))) (H.b (H.s (H.s (H.s (H.s (H.b H.auto H.auto))))) H.auto) = ((decide (i < (↑(List.length a) : Int)) = true → (0 : Int) ≤ i ∧ ∃ (s : List UInt8), ∃ (s_1 : List UInt8), a[Int.toNat i]? = some [PV.str s, PV.str s_1] ∧ (0 : Int) ≤ i ∧ ∃ (s_2 : List UInt8), ∃ (s_3 : List UInt8), b[Int.toNat i]? = some [PV.str s_2, PV.str s_3] ∧ ((!(s == s_2 && (s_1 == s_3 && true))) = true → ∃ (h : H), Q ([TV.pv (PV.bool false)], [])) ∧ ((!(s == s_2 && (s_1 == s_3 && true))) = false → J (St.mk [((0 : Nat), AV.pv (PV.sl a)), ((1 : Nat), AV.pv (PV.sl b)), ((5 : Nat), AV.pv (PV.int IntKind.i64 (IntKind.wrap IntKind.i64 (i + (1 : Int)))))] []))) ∧ (decide (i < (↑(List.length a) : Int)) = false → ∃ (h : H), Q ([TV.pv (PV.bool true)], []))) := by kernel_rfl

theorem row_at (A : List Ln) {i : Nat} (h : i < A.length) : (A.map row)[i]? = some [.str A[i].1, .str A[i].2] := by simp [row, h]
theorem row_inj {x y : Ln} (h : row x = row y) : x = y := by
  obtain ⟨a, b⟩ := x; obtain ⟨c, d⟩ := y
  simp only [row, List.cons.injEq, PV.str.injEq, and_true] at h
  rw [h.1, h.2]
theorem rows_inj : ∀ {A B : List Ln}, A.map row = B.map row → A = B
  | [], [], _ => rfl
  | [], _ :: _, h => by simp at h
  | _ :: _, [], h => by simp at h
  | x :: A, y :: B, h => by
    simp only [List.map_cons, List.cons.injEq] at h
    rw [row_inj h.1, rows_inj h.2]

noncomputable def sameF (a b : List (List PV)) : Bool := @decide (a = b) (Classical.propDecidable _)

theorem sameF_true {a b : List (List PV)} (h : a = b) : sameF a b = true := by simp [sameF, h]
theorem sameF_false {a b : List (List PV)} (h : ¬ a = b) : sameF a b = false := by simp [sameF, h]

theorem same_ev (A B : List Ln) (hA : A.length ≤ room) : Ev C 16 [.pv (.sl (A.map row)), .pv (.sl (B.map row))] ([.pv (.bool (sameF (A.map row) (B.map row)))], []) := by
  have hr := room_val
  refine ev_of noSpec_ok ((same_w _ _ _).mpr ⟨fun h => ?_, fun h => ?_⟩)
  · have hne : ¬ A.map row = B.map row := by
      intro e
      rw [e] at h; simp at h
    rw [sameF_false hne]
  · have hlen : A.length = B.length := by simp at h; omega
    refine loop_rule noSpec_ok (by kernel_rfl) 1000 (fun n st => ∃ i : Nat, st = same_h (A.map row) (B.map row) i ∧ i ≤ A.length ∧ n = A.length - i ∧ ∀ j, j < i → A[j]? = B[j]?) ?_ (n := A.length) (s := same_h (A.map row) (B.map row) 0) ⟨0, rfl, by omega, by omega, by intro j hj; omega⟩
    rintro n st ⟨i, rfl, hi, rfl, hj⟩
    refine ⟨_, (same_l _ _ _ _ _).mpr ⟨fun h => ?_, fun h => ?_⟩⟩
    · simp only [List.length_map, decide_eq_true_eq] at h
      have hi' : i < A.length := by omega
      have hi2 : i < B.length := by omega
      refine ⟨by omega, A[i].1, A[i].2, by rw [Int.toNat_natCast]; exact row_at A hi', by omega, B[i].1, B[i].2, by rw [Int.toNat_natCast]; exact row_at B hi2, fun h => ⟨.auto, ?_⟩, fun h => ?_⟩
      · have hne : ¬ A.map row = B.map row := by
          intro e
          have := rows_inj e
          subst this
          simp at h
        rw [sameF_false hne]
      · have w1 : IntKind.wrap .i64 ((i : Int) + 1) = ((i + 1 : Nat) : Int) := by rw [IntWalk.i64_in _ (by omega)]; omega
        have e : A[i] = B[i] := by
          have h1 : A[i].1 = B[i].1 ∧ A[i].2 = B[i].2 := by simpa using h
          exact Prod.ext h1.1 h1.2
        refine ⟨A.length - (i + 1), by omega, i + 1, by rw [w1]; rfl, by omega, rfl, fun j hj' => ?_⟩
        by_cases ej : j = i
        · subst ej; rw [List.getElem?_eq_getElem hi', List.getElem?_eq_getElem hi2, e]
        · exact hj j (by omega)
    · simp only [List.length_map, decide_eq_false_iff_not] at h
      have e : A = B := by
        refine List.ext_getElem? fun j => ?_
        rcases Nat.lt_or_ge j i with h1 | h1
        · exact hj j h1
        · rw [List.getElem?_eq_none (by omega), List.getElem?_eq_none (by omega)]
      exact ⟨.auto, by rw [sameF_true (by rw [e])]⟩

/-! ### lines.Join -/
def S_join : Specs := specL [(38, g_ws), (39, g_bs)]

theorem pjoin_w (a : List (List PV)) (Q : List TV × List TV → Prop) : (wFun C S_join 17 [.pv (.sl a)] Q) (H.auto) = (LoopAt C (17 : FuncId) (CP.dn (CP.dn (CP.dn (CP.dn (CP.dn CP.top (1 : Nat)) (1 : Nat)) (0 : Nat)) (1 : Nat)) (0 : Nat)) (St.mk [((3 : Nat), AV.addr (6 : Nat) (0 : Nat) (0 : Nat)), ((6 : Nat), AV.pv (PV.sl a)), ((7 : Nat), AV.pv (PV.int IntKind.i64 (↑(List.length a) : Int))), ((8 : Nat), AV.pv (PV.int IntKind.i64 (0 : Int)))] [((6 : Nat), Obj.bld [])]) (exK (blockK (0 : Nat) (seqK (wAt C S_join (17 : FuncId) (99997 : Nat) (CP.dn (CP.dn (CP.dn CP.top (1 : Nat)) (1 : Nat)) (1 : Nat))) (retK C (17 : FuncId) [TV.pv (PV.sl a)] Q))))) := by kernel_rfl

def pjoin_cp : CP := CP.dn (CP.dn (CP.dn (CP.dn (CP.dn CP.top 1) 1) 0) 1) 0

def pjoin_h (a : List (List PV)) (bs : List UInt8) (n i : Int) : St := St.mk [(3, AV.addr 6 0 0), (6, AV.pv (PV.sl a)), (7, AV.pv (PV.int IntKind.i64 n)), (8, AV.pv (PV.int IntKind.i64 i))] [(6, Obj.bld bs)]

theorem pjoin_l (a : List (List PV)) (bs : List UInt8) (n i : Int) (J : St → Prop) (K : Ex → St → Prop) : (wAt C S_join 17 1000 (pjoin_cp.dn 0) (pjoin_h a bs n i) (loopK C 17 pjoin_cp J K)) (H.b (H.s (H.s (H.s H.auto))) H.auto) = ((decide (i < n) = true → (0 : Int) ≤ i ∧ ∃ (s : List UInt8), ∃ (s_1 : List UInt8), a[Int.toNat i]? = some [PV.str s, PV.str s_1] ∧ List.length s + List.length s_1 ≤ maxInt ∧ List.length bs + List.length (s ++ s_1) ≤ room ∧ J (St.mk [((3 : Nat), AV.addr (6 : Nat) (0 : Nat) (0 : Nat)), ((6 : Nat), AV.pv (PV.sl a)), ((7 : Nat), AV.pv (PV.int IntKind.i64 n)), ((8 : Nat), AV.pv (PV.int IntKind.i64 (IntKind.wrap IntKind.i64 (i + (1 : Int)))))] [((6 : Nat), Obj.bld (bs ++ (s ++ s_1)))])) ∧ (decide (i < n) = false → K (Ex.exit (0 : Nat)) (St.mk [((9 : Nat), AV.pv (PV.bool false)), ((3 : Nat), AV.addr (6 : Nat) (0 : Nat) (0 : Nat)), ((6 : Nat), AV.pv (PV.sl a)), ((7 : Nat), AV.pv (PV.int IntKind.i64 n)), ((8 : Nat), AV.pv (PV.int IntKind.i64 i))] [((6 : Nat), Obj.bld bs)]))) := by kernel_rfl

theorem pjoin_x (a : List (List PV)) (bs : List UInt8) (n i : Int) (Q : List TV × List TV → Prop) : (fun h => blockK 0 (seqK (wAt C S_join 17 99997 (CP.dn (CP.dn (CP.dn CP.top 1) 1) 1)) (retK C 17 [TV.pv (PV.sl a)] Q)) h (Ex.exit 0) (St.mk [(9, AV.pv (PV.bool false)), (3, AV.addr 6 0 0), (6, AV.pv (PV.sl a)), (7, AV.pv (PV.int IntKind.i64 n)), (8, AV.pv (PV.int IntKind.i64 i))] [(6, Obj.bld bs)])) (H.auto) = (List.length bs ≤ room ∧ Q ([TV.pv (PV.str bs)], [])) := by kernel_rfl

def joinR (a : List (List PV)) : List UInt8 := a.flatMap fun r => match r with | [.str x, .str y] => x ++ y | _ => []

theorem joinR_rows (A : List Ln) : joinR (A.map row) = A.flatMap fun x => x.1 ++ x.2 := by
  simp only [joinR, List.flatMap_map]; rfl
theorem joinR_app (A B : List Ln) : joinR ((A ++ B).map row) = joinR (A.map row) ++ joinR (B.map row) := by simp [joinR]
theorem joinR_succ (A : List Ln) {i : Nat} (h : i < A.length) : joinR ((A.take (i + 1)).map row) = joinR ((A.take i).map row) ++ (A[i].1 ++ A[i].2) := by
  rw [List.take_succ_eq_append_getElem h, joinR_app]
  simp [joinR, row]
theorem joinR_le (A : List Ln) (k : Nat) : (joinR ((A.take k).map row)).length ≤ (joinR (A.map row)).length := by
  have := joinR_app (A.take k) (A.drop k)
  rw [List.take_append_drop] at this
  rw [this]; simp

theorem join_specs : SpecOK C S_join := specL_ok (specs_cons (ws_ok (by kernel_rfl)) (specs_cons (bs_ok (by kernel_rfl)) specs_nil))

theorem pjoin_ev (A : List Ln) (hA : A.length ≤ room) (hj : (joinR (A.map row)).length ≤ room) : Ev C 17 [.pv (.sl (A.map row))] ([.pv (.str (joinR (A.map row)))], []) := by
  have hr := room_val
  have hm := maxInt_val
  refine ev_of join_specs ((pjoin_w _ _).mpr ?_)
  refine loop_rule join_specs (by kernel_rfl) 1000 (fun n st => ∃ i : Nat, st = pjoin_h (A.map row) (joinR ((A.take i).map row)) A.length i ∧ i ≤ A.length ∧ n = A.length - i) ?_ (n := A.length) ⟨0, by simp [pjoin_h, joinR], by omega, by omega⟩
  rintro n st ⟨i, rfl, hi, rfl⟩
  refine ⟨_, (pjoin_l _ _ _ _ _ _).mpr ⟨fun h => ?_, fun h => ?_⟩⟩
  · simp only [decide_eq_true_eq] at h
    have hi' : i < A.length := by omega
    have w1 : IntKind.wrap .i64 ((i : Int) + 1) = ((i + 1 : Nat) : Int) := by rw [IntWalk.i64_in _ (by omega)]; omega
    have e := joinR_succ A hi'
    have l1 := joinR_le A (i + 1)
    rw [e] at l1
    simp only [List.length_append] at l1
    refine ⟨by omega, A[i].1, A[i].2, by rw [Int.toNat_natCast]; exact row_at A hi', by omega, by simp only [List.length_append]; omega, A.length - (i + 1), by omega, i + 1, by rw [w1, e]; rfl, by omega, rfl⟩
  · simp only [decide_eq_false_iff_not] at h
    have : i = A.length := by omega
    subst this
    rw [List.take_length]
    exact ⟨_, (pjoin_x _ _ _ _ _).mpr ⟨hj, rfl⟩⟩

/-! ### cadencelaw5.within, Text -/
def wi (a n : Int) : Int := if Int.tmod a n < 0 then IntKind.wrap .i64 (Int.tmod a n + n) else Int.tmod a n

theorem within_w (a n : Int) (Q : List TV × List TV → Prop) : (wFun C noSpec 21 [.pv (.int .i64 a), .pv (.int .i64 n)] Q) (H.s (H.b H.auto H.auto)) = (¬n = (0 : Int) ∧ (decide (Int.tmod a n < (0 : Int)) = true → Q ([TV.pv (PV.int IntKind.i64 (IntKind.wrap IntKind.i64 (Int.tmod a n + n)))], [])) ∧ (decide (Int.tmod a n < (0 : Int)) = false → Q ([TV.pv (PV.int IntKind.i64 (Int.tmod a n))], []))) := by kernel_rfl

def finAlts (v : Int) (n : Nat) : Alts := (List.range n).map fun (i : Nat) => (v = (i : Int), [.pv (.int .i64 (i : Int))], [])

def g_within : List TV → Option Alts
  | [.pv (.int .i64 a), .pv (.int .i64 m)] => if m = 0 then none else some (finAlts (wi a m) m.toNat)
  | _ => none

def S_text : Specs := specL [(21, g_within)]

theorem text_w (a : List (List PV)) (Q : List TV × List TV → Prop) : (wFun C S_text 14 [.pv (.sl a)] Q) (H.auto) = (LoopAt C (14 : FuncId) (CP.dn (CP.dn (CP.dn (CP.dn (CP.dn CP.top (1 : Nat)) (1 : Nat)) (0 : Nat)) (1 : Nat)) (0 : Nat)) (St.mk [((0 : Nat), AV.pv (PV.sl a)), ((3 : Nat), AV.pv (PV.str [])), ((4 : Nat), AV.pv (PV.int IntKind.i64 (0 : Int)))] []) (exK (blockK (0 : Nat) (seqK (wAt C S_text (14 : FuncId) (99997 : Nat) (CP.dn (CP.dn (CP.dn CP.top (1 : Nat)) (1 : Nat)) (1 : Nat))) (retK C (14 : FuncId) [TV.pv (PV.sl a)] Q))))) := by kernel_rfl

def text_cp : CP := CP.dn (CP.dn (CP.dn (CP.dn (CP.dn CP.top 1) 1) 0) 1) 0

def text_h (a : List (List PV)) (t : List UInt8) (i : Int) : St := St.mk [(0, AV.pv (PV.sl a)), (3, AV.pv (PV.str t)), (4, AV.pv (PV.int IntKind.i64 i))] []

theorem text_l (a : List (List PV)) (t : List UInt8) (i : Int) (J : St → Prop) (Q : List TV × List TV → Prop) : (wAt C S_text 14 1000 (text_cp.dn 0) (text_h a t i) (loopK C 14 text_cp J (exK (blockK 0 (seqK (wAt C S_text 14 99997 (CP.dn (CP.dn (CP.dn CP.top 1) 1) 1)) (retK C 14 [TV.pv (PV.sl a)] Q)))))) (H.b (H.n (2 : Nat) (H.b (H.s (H.s (H.b (H.n (2 : Nat) (H.s H.auto)) (H.b (H.n (2 : Nat) (H.s H.auto)) (H.b (H.n (2 : Nat) (H.s H.auto)) (H.b (H.n (2 : Nat) (H.s H.auto)) (H.b (H.n (2 : Nat) (H.s H.auto)) (H.b (H.n (2 : Nat) (H.s H.auto)) (H.b (H.n (2 : Nat) (H.s H.auto)) (H.b (H.n (2 : Nat) (H.s H.auto)) (H.b (H.n (2 : Nat) (H.s H.auto)) (H.b (H.n (2 : Nat) (H.s H.auto)) H.auto)))))))))))) H.auto)) H.auto) = ((decide (i < (↑(List.length a) : Int)) = true → (decide (i < (60 : Int)) = true → (0 : Int) ≤ i ∧ ∃ (n : Int), a[Int.toNat i]? = some [PV.int IntKind.i64 n] ∧ orAll [(wi n (10 : Int) = (↑(0 : Nat) : Int), [TV.pv (PV.int IntKind.i64 (0 : Int))], []), (wi n (10 : Int) = (↑(1 : Nat) : Int), [TV.pv (PV.int IntKind.i64 (1 : Int))], []), (wi n (10 : Int) = (↑(2 : Nat) : Int), [TV.pv (PV.int IntKind.i64 (2 : Int))], []), (wi n (10 : Int) = (↑(3 : Nat) : Int), [TV.pv (PV.int IntKind.i64 (3 : Int))], []), (wi n (10 : Int) = (↑(4 : Nat) : Int), [TV.pv (PV.int IntKind.i64 (4 : Int))], []), (wi n (10 : Int) = (↑(5 : Nat) : Int), [TV.pv (PV.int IntKind.i64 (5 : Int))], []), (wi n (10 : Int) = (↑(6 : Nat) : Int), [TV.pv (PV.int IntKind.i64 (6 : Int))], []), (wi n (10 : Int) = (↑(7 : Nat) : Int), [TV.pv (PV.int IntKind.i64 (7 : Int))], []), (wi n (10 : Int) = (↑(8 : Nat) : Int), [TV.pv (PV.int IntKind.i64 (8 : Int))], []), (wi n (10 : Int) = (↑(9 : Nat) : Int), [TV.pv (PV.int IntKind.i64 (9 : Int))], [])] ∧ (wi n (10 : Int) = (0 : Int) → List.length t + (1 : Nat) ≤ maxInt ∧ J (St.mk [((0 : Nat), AV.pv (PV.sl a)), ((3 : Nat), AV.pv (PV.str (t ++ [(97 : UInt8)]))), ((4 : Nat), AV.pv (PV.int IntKind.i64 (IntKind.wrap IntKind.i64 (i + (1 : Int)))))] [])) ∧ (wi n (10 : Int) = (1 : Int) → List.length t + (3 : Nat) ≤ maxInt ∧ J (St.mk [((0 : Nat), AV.pv (PV.sl a)), ((3 : Nat), AV.pv (PV.str (t ++ [(98 : UInt8), (32 : UInt8), (99 : UInt8)]))), ((4 : Nat), AV.pv (PV.int IntKind.i64 (IntKind.wrap IntKind.i64 (i + (1 : Int)))))] [])) ∧ (wi n (10 : Int) = (2 : Int) → List.length t + (1 : Nat) ≤ maxInt ∧ J (St.mk [((0 : Nat), AV.pv (PV.sl a)), ((3 : Nat), AV.pv (PV.str (t ++ [(32 : UInt8)]))), ((4 : Nat), AV.pv (PV.int IntKind.i64 (IntKind.wrap IntKind.i64 (i + (1 : Int)))))] [])) ∧ (wi n (10 : Int) = (3 : Int) → List.length t + (1 : Nat) ≤ maxInt ∧ J (St.mk [((0 : Nat), AV.pv (PV.sl a)), ((3 : Nat), AV.pv (PV.str (t ++ [(9 : UInt8)]))), ((4 : Nat), AV.pv (PV.int IntKind.i64 (IntKind.wrap IntKind.i64 (i + (1 : Int)))))] [])) ∧ (wi n (10 : Int) = (4 : Int) → List.length t + (1 : Nat) ≤ maxInt ∧ J (St.mk [((0 : Nat), AV.pv (PV.sl a)), ((3 : Nat), AV.pv (PV.str (t ++ [(10 : UInt8)]))), ((4 : Nat), AV.pv (PV.int IntKind.i64 (IntKind.wrap IntKind.i64 (i + (1 : Int)))))] [])) ∧ (wi n (10 : Int) = (5 : Int) → List.length t + (2 : Nat) ≤ maxInt ∧ J (St.mk [((0 : Nat), AV.pv (PV.sl a)), ((3 : Nat), AV.pv (PV.str (t ++ [(13 : UInt8), (10 : UInt8)]))), ((4 : Nat), AV.pv (PV.int IntKind.i64 (IntKind.wrap IntKind.i64 (i + (1 : Int)))))] [])) ∧ (wi n (10 : Int) = (6 : Int) → List.length t + (1 : Nat) ≤ maxInt ∧ J (St.mk [((0 : Nat), AV.pv (PV.sl a)), ((3 : Nat), AV.pv (PV.str (t ++ [(13 : UInt8)]))), ((4 : Nat), AV.pv (PV.int IntKind.i64 (IntKind.wrap IntKind.i64 (i + (1 : Int)))))] [])) ∧ (wi n (10 : Int) = (7 : Int) → List.length t + (1 : Nat) ≤ maxInt ∧ J (St.mk [((0 : Nat), AV.pv (PV.sl a)), ((3 : Nat), AV.pv (PV.str (t ++ [(10 : UInt8)]))), ((4 : Nat), AV.pv (PV.int IntKind.i64 (IntKind.wrap IntKind.i64 (i + (1 : Int)))))] [])) ∧ (wi n (10 : Int) = (8 : Int) → List.length t + (1 : Nat) ≤ maxInt ∧ J (St.mk [((0 : Nat), AV.pv (PV.sl a)), ((3 : Nat), AV.pv (PV.str (t ++ [(61 : UInt8)]))), ((4 : Nat), AV.pv (PV.int IntKind.i64 (IntKind.wrap IntKind.i64 (i + (1 : Int)))))] [])) ∧ (wi n (10 : Int) = (9 : Int) → List.length t + (0 : Nat) ≤ maxInt ∧ J (St.mk [((0 : Nat), AV.pv (PV.sl a)), ((3 : Nat), AV.pv (PV.str (t ++ []))), ((4 : Nat), AV.pv (PV.int IntKind.i64 (IntKind.wrap IntKind.i64 (i + (1 : Int)))))] [])) ∧ True) ∧ (decide (i < (60 : Int)) = false → ∃ (h : H), Q ([TV.pv (PV.str t)], []))) ∧ (decide (i < (↑(List.length a) : Int)) = false → ∃ (h : H), Q ([TV.pv (PV.str t)], []))) := by kernel_rfl

noncomputable def textF (es : List (List PV)) : List UInt8 := @dite _ (∃ t, Ev C 14 [.pv (.sl es)] ([.pv (.str t)], []) ∧ t.length ≤ 1000) (Classical.propDecidable _) (fun h => h.choose) (fun _ => [])

noncomputable def g_text : List TV → Option Alts
  | [.pv (.sl es)] => one (∃ ns : List Int, es = ns.map fun n => [.int .i64 n]) ([.pv (.str (textF es))], [])
  | _ => none

theorem within_ev (a n : Int) (hn : ¬ n = 0) : Ev C 21 [.pv (.int .i64 a), .pv (.int .i64 n)] ([.pv (.int .i64 (wi a n))], []) := by
  refine ev_of noSpec_ok ((within_w a n _).mpr ⟨hn, fun h => ?_, fun h => ?_⟩)
  · simp only [decide_eq_true_eq] at h; simp [wi, h]
  · simp only [decide_eq_false_iff_not] at h; simp [wi, h]

theorem wi_range {a : Int} {n : Nat} (hn : 0 < n) (hm : n < 2 ^ 62) : 0 ≤ wi a n ∧ wi a n < n := by
  have h1 := Int.tmod_lt_of_pos a (show (0 : Int) < n by omega)
  have h2 : -(n : Int) < Int.tmod a n := by
    have := Int.lt_tmod_of_pos a (show (0 : Int) < n by omega)
    omega
  unfold wi
  split
  · have hb : (2 : Nat) ^ 62 = 4611686018427387904 := by decide
    rw [IntWalk.i64_in _ (by omega)]
    omega
  · omega

theorem orAll_of : ∀ {l : Alts}, (∃ a ∈ l, a.1) → orAll l
  | [], h => by simp at h
  | [a], h => by simpa [orAll] using h
  | a :: b :: r, h => by
    obtain ⟨c, h1, h2⟩ := h
    simp only [orAll]
    rcases List.mem_cons.1 h1 with rfl | h1
    · exact .inl h2
    · exact .inr (orAll_of ⟨c, h1, h2⟩)
theorem finAlts_or {v : Int} {n : Nat} (h : 0 ≤ v ∧ v < n) : orAll (finAlts v n) := by
  refine orAll_of ⟨_, List.mem_map.2 ⟨v.toNat, by simp; omega, rfl⟩, ?_⟩
  simp; omega
theorem within_ok : ∀ ag al, g_within ag = some al → ∀ a ∈ al, a.1 → Ev C 21 ag a.2 := by
  intro ag al hl x hx hp
  unfold g_within at hl
  split at hl
  · rename_i a m
    split at hl
    · exact absurd hl (by simp)
    · rename_i hm
      simp only [Option.some.injEq] at hl; subst hl
      obtain ⟨i, hi, rfl⟩ := List.mem_map.1 hx
      simp only at hp
      have := within_ev a m hm
      rw [hp] at this; exact this
  · exact absurd hl (by simp)
theorem text_specs : SpecOK C S_text := specL_ok (specs_cons within_ok specs_nil)

theorem text_ev (ns : List Int) : ∃ t, Ev C 14 [.pv (.sl (ns.map fun n => [.int .i64 n]))] ([.pv (.str t)], []) ∧ t.length ≤ 1000 := by
  have hm := maxInt_val
  have key : ∃ r, Ev C 14 [.pv (.sl (ns.map fun n => [.int .i64 n]))] r ∧ ∃ t : List UInt8, r = ([.pv (.str t)], []) ∧ t.length ≤ 1000 := by
    refine fun_rule text_specs ((text_w _ _).mpr ?_)
    refine loop_rule text_specs (by kernel_rfl) 1000 (fun n st => ∃ (i : Nat) (t : List UInt8), st = text_h (ns.map fun n => [.int .i64 n]) t i ∧ i ≤ 60 ∧ t.length ≤ 3 * i ∧ n = 60 - i) ?_ (n := 60) ⟨0, [], rfl, by omega, by simp, by omega⟩
    rintro n st ⟨i, t, rfl, hi, ht, rfl⟩
    refine ⟨_, (text_l _ _ _ _ _).mpr ⟨fun h => ⟨fun h2 => ?_, fun h2 => ⟨.auto, t, rfl, by omega⟩⟩, fun h2 => ⟨.auto, t, rfl, by omega⟩⟩⟩
    simp only [List.length_map, decide_eq_true_eq] at h h2
    have hi' : i < ns.length := by omega
    have w1 : IntKind.wrap .i64 ((i : Int) + 1) = ((i + 1 : Nat) : Int) := by rw [IntWalk.i64_in _ (by omega)]; omega
    have hw := wi_range (a := ns[i]) (n := 10) (by omega) (by omega)
    refine ⟨by omega, ns[i], by simp [hi'], finAlts_or (n := 10) hw, ?_⟩
    rw [w1]
    refine ⟨fun _ => ?_, fun _ => ?_, fun _ => ?_, fun _ => ?_, fun _ => ?_, fun _ => ?_, fun _ => ?_, fun _ => ?_, fun _ => ?_, fun _ => ?_, trivial⟩ <;>
      exact ⟨by omega, 60 - (i + 1), by omega, i + 1, _, rfl, by omega, by simp; omega, rfl⟩
  obtain ⟨r, h1, t, rfl, h2⟩ := key
  exact ⟨t, h1, h2⟩

theorem text_ok : ∀ ag al, g_text ag = some al → ∀ a ∈ al, a.1 → Ev C 14 ag a.2 := by
  intro ag al hl x hx hp
  unfold g_text at hl
  split at hl
  · have e := one_mem hl hx; subst e
    obtain ⟨ns, rfl⟩ := hp
    unfold textF
    rw [dif_pos (text_ev ns)]
    exact (text_ev ns).choose_spec.1
  · exact absurd hl (by simp)

/-! ### LinesJoin -/

def g_split : List TV → Option Alts
  | [.pv (.str s)] => one (s.length ≤ 4000000) ([.own 2 ((linesF s).map row)], [])
  | _ => none

noncomputable def g_same : List TV → Option Alts
  | [.pv (.sl a), .pv (.sl b)] => one ((∃ A : List Ln, a = A.map row ∧ A.length ≤ room) ∧ ∃ B : List Ln, b = B.map row) ([.pv (.bool (sameF a b))], [])
  | _ => none

def g_join : List TV → Option Alts
  | [.pv (.sl a)] => one ((∃ A : List Ln, a = A.map row ∧ A.length ≤ room) ∧ (joinR a).length ≤ room) ([.pv (.str (joinR a))], [])
  | _ => none

noncomputable def S_lj : Specs := specL [(14, g_text), (15, g_split), (16, g_same), (17, g_join)]

theorem split_ok : ∀ ag al, g_split ag = some al → ∀ a ∈ al, a.1 → Ev C 15 ag a.2 := by
  intro ag al hl x hx hp
  unfold g_split at hl
  split at hl
  · have e := one_mem hl hx; subst e
    rename_i s
    have hr := room_val
    have l1 := lines_len s []
    exact psplit_ev s (Nat.le_trans (by simpa [linesF] using l1) hp) (Nat.le_trans hp (by omega))
  · exact absurd hl (by simp)
theorem same_ok : ∀ ag al, g_same ag = some al → ∀ a ∈ al, a.1 → Ev C 16 ag a.2 := by
  intro ag al hl x hx hp
  unfold g_same at hl
  split at hl
  · have e := one_mem hl hx; subst e
    obtain ⟨⟨A, rfl, hA⟩, B, rfl⟩ := hp
    exact same_ev A B hA
  · exact absurd hl (by simp)
theorem join_ok : ∀ ag al, g_join ag = some al → ∀ a ∈ al, a.1 → Ev C 17 ag a.2 := by
  intro ag al hl x hx hp
  unfold g_join at hl
  split at hl
  · have e := one_mem hl hx; subst e
    obtain ⟨⟨A, rfl, hA⟩, hj⟩ := hp
    exact pjoin_ev A hA hj
  · exact absurd hl (by simp)
theorem lj_specs : SpecOK C S_lj := specL_ok (specs_cons text_ok (specs_cons split_ok (specs_cons same_ok (specs_cons join_ok specs_nil))))

theorem textF_len (es : List (List PV)) : (textF es).length ≤ 1000 := by
  unfold textF
  split
  · rename_i h; exact h.choose_spec.2
  · simp

theorem lines_join : ∀ (s acc : List UInt8), ((linesG acc s).flatMap fun x => x.1 ++ x.2) = acc ++ s
  | [], acc => by
    simp only [linesG]
    split
    · rename_i h; simp [h]
    · simp
  | c :: r, acc => by
    simp only [linesG]
    split
    · rename_i h
      rw [List.flatMap_cons, strip_join, lines_join r [], h]; simp
    · rw [lines_join r (acc ++ [c])]; simp

theorem lj_w (a b : List (List PV)) (Q : List TV × List TV → Prop) : (wFun C S_lj 3 [.pv (.sl a), .pv (.sl b)] Q) (H.n (1 : Nat) (H.s (H.s (H.s (H.s (H.s (H.s (H.n (1 : Nat) (H.b (H.n (5 : Nat) (H.s (H.n (2 : Nat) (H.b H.auto H.auto)))) H.auto))))))))) = ((∃ (ns : List Int), a = List.map (fun (n : Int) ↦ [PV.int IntKind.i64 n]) ns) ∧ List.length (textF a) + (1 : Nat) ≤ maxInt ∧ (∃ (ns : List Int), b = List.map (fun (n : Int) ↦ [PV.int IntKind.i64 n]) ns) ∧ List.length (textF a ++ [(10 : UInt8)]) ≤ (4000000 : Nat) ∧ (((0 : Nat) + List.length (List.map row (linesF (textF a ++ [(10 : UInt8)])))) * (32 : Nat) ≤ room ∧ (0 : Nat) + List.length (List.map row (linesF (textF a ++ [(10 : UInt8)]))) ≤ maxInt) ∧ rowOk (2 : Nat) (List.map row (linesF (textF a ++ [(10 : UInt8)]))) = true ∧ List.length (textF b) ≤ (4000000 : Nat) ∧ ((List.length ([] ++ List.map row (linesF (textF a ++ [(10 : UInt8)]))) + List.length (List.map row (linesF (textF b)))) * (32 : Nat) ≤ room ∧ List.length ([] ++ List.map row (linesF (textF a ++ [(10 : UInt8)]))) + List.length (List.map row (linesF (textF b))) ≤ maxInt) ∧ rowOk (2 : Nat) (List.map row (linesF (textF b))) = true ∧ List.length (textF a ++ [(10 : UInt8)]) + List.length (textF b) ≤ maxInt ∧ List.length (textF a ++ [(10 : UInt8)] ++ textF b) ≤ (4000000 : Nat) ∧ ((∃ (A : List Ln), List.map row (linesF (textF a ++ [(10 : UInt8)] ++ textF b)) = List.map row A ∧ List.length A ≤ room) ∧ ∃ (B : List Ln), [] ++ List.map row (linesF (textF a ++ [(10 : UInt8)])) ++ List.map row (linesF (textF b)) = List.map row B) ∧ (sameF (List.map row (linesF (textF a ++ [(10 : UInt8)] ++ textF b))) ([] ++ List.map row (linesF (textF a ++ [(10 : UInt8)])) ++ List.map row (linesF (textF b))) = true → ((∃ (A : List Ln), [] ++ List.map row (linesF (textF a ++ [(10 : UInt8)])) ++ List.map row (linesF (textF b)) = List.map row A ∧ List.length A ≤ room) ∧ List.length (joinR ([] ++ List.map row (linesF (textF a ++ [(10 : UInt8)])) ++ List.map row (linesF (textF b)))) ≤ room) ∧ List.length (textF a ++ [(10 : UInt8)]) + List.length (textF b) ≤ maxInt ∧ ((joinR ([] ++ List.map row (linesF (textF a ++ [(10 : UInt8)])) ++ List.map row (linesF (textF b))) == textF a ++ [(10 : UInt8)] ++ textF b) = true → ((∃ (A : List Ln), [] = List.map row A ∧ List.length A ≤ room) ∧ (0 : Nat) ≤ room) ∧ Q ([TV.pv (PV.bool true)], [])) ∧ ((joinR ([] ++ List.map row (linesF (textF a ++ [(10 : UInt8)])) ++ List.map row (linesF (textF b))) == textF a ++ [(10 : UInt8)] ++ textF b) = false → Q ([TV.pv (PV.bool false)], []))) ∧ (sameF (List.map row (linesF (textF a ++ [(10 : UInt8)] ++ textF b))) ([] ++ List.map row (linesF (textF a ++ [(10 : UInt8)])) ++ List.map row (linesF (textF b))) = false → Q ([TV.pv (PV.bool false)], []))) := by kernel_rfl

set_option maxRecDepth 100000 in
theorem lj_ev (ns ms : List Int) : Ev C 3 [.pv (.sl (ns.map fun n => [.int .i64 n])), .pv (.sl (ms.map fun n => [.int .i64 n]))] good := by
  have hr := room_val
  have hm := maxInt_val
  have key := lj_w (ns.map fun n => [.int .i64 n]) (ms.map fun n => [.int .i64 n]) (fun r => r = good)
  refine ev_of lj_specs (key.mpr ?_)
  clear key
  have ha := textF_len (ns.map fun n => [.int .i64 n])
  have hb := textF_len (ms.map fun n => [.int .i64 n])
  generalize textF (ns.map fun n => [.int .i64 n]) = a at *
  generalize textF (ms.map fun n => [.int .i64 n]) = b at *
  have e : linesF (a ++ [10] ++ b) = linesF (a ++ [10]) ++ linesF b := linesG_app a [] b
  have l1 := lines_len (a ++ [10]) []
  have l2 := lines_len b []
  have l3 : (linesF (a ++ [10])).length ≤ a.length + 1 := by simpa [linesF] using l1
  have l4 : (linesF b).length ≤ b.length := by simpa [linesF] using l2
  have ej : joinR (linesF (a ++ [10] ++ b) |>.map row) = a ++ [10] ++ b := by rw [joinR_rows]; exact (lines_join (a ++ [10] ++ b) []).trans (List.nil_append _)
  have er : [] ++ (linesF (a ++ [10])).map row ++ (linesF b).map row = (linesF (a ++ [10] ++ b)).map row := by rw [e]; simp
  rw [er, ej]
  simp only [List.length_append, List.length_map, List.length_singleton, List.length_nil] at *
  have l5 : (linesF (a ++ [10] ++ b)).length ≤ 4000 := by rw [e, List.length_append]; omega
  refine ⟨⟨ns, rfl⟩, by omega, ⟨ms, rfl⟩, by omega, ⟨by omega, by omega⟩, rowOk_rows _, by omega, ⟨by omega, by omega⟩, rowOk_rows _, by omega, by omega, ⟨⟨_, rfl, by omega⟩, _, rfl⟩, fun _ => ⟨⟨⟨_, rfl, by omega⟩, by omega⟩, by omega, fun _ => ⟨⟨⟨[], rfl, by simp⟩, by omega⟩, rfl⟩, fun h => ?_⟩, fun h => ?_⟩
  · simp at h
  · rw [sameF_true rfl] at h; simp at h

theorem LinesJoin_calls {p q : Prop} (ns : List Int) (_hn : p) (ms : List Int) (_hm : q) {w : World} {args : List Value} (hr : RepA w noCells [.sl (ns.map fun n => [.int .i64 n]), .sl (ms.map fun n => [.int .i64 n])] args) : Calls Try.prog 3 args.toArray w fun e w' => e = .returned (.bool true) ∧ Below w.heap.size w w' := by
  obtain ⟨k, h⟩ := (lj_ev ns ms).get
  exact law_calls (C := C) progOKp Try.func3 (by kernel_rfl) (sound h) hr

end Go.Proofs.Ytpcjlhhhmjgffaa.Vm
