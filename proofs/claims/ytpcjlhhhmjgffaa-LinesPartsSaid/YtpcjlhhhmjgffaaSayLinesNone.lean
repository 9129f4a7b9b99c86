/-
  LinesNone, in the machine.
-/
import Derived.Test.YtpcjlhhhmjgffaaSayLinesSplit
namespace Go.Proofs.Ytpcjlhhhmjgffaa.Vm
open Go Go.RowKit
set_option linter.unusedVariables false
set_option linter.unusedSimpArgs false

def g_grow : List TV → Option Alts
  | [.pv .nilSlc, .pv (.int .i64 n)] => one (0 ≤ n ∧ n * 32 ≤ (room : Int)) ([.own 2 []], [])
  | _ => none

def S_cat : Specs := specL [(59, g_grow)]

theorem cat_w (a b c : List (List PV)) (Q : List TV × List TV → Prop) : (wFun C S_cat 50 [.pv (.sl [[.sl a], [.sl b], [.sl c]])] Q) (H.auto) = (LoopAt C (50 : FuncId) (CP.dn (CP.dn (CP.dn (CP.dn (CP.dn CP.top (1 : Nat)) (1 : Nat)) (0 : Nat)) (1 : Nat)) (0 : Nat)) (St.mk [((0 : Nat), AV.pv (PV.sl [[PV.sl a], [PV.sl b], [PV.sl c]])), ((3 : Nat), AV.pv (PV.int IntKind.i64 (0 : Int))), ((9 : Nat), AV.pv (PV.sl [[PV.sl a], [PV.sl b], [PV.sl c]])), ((10 : Nat), AV.pv (PV.int IntKind.i64 (3 : Int))), ((11 : Nat), AV.pv (PV.int IntKind.i64 (0 : Int)))] []) (exK (blockK (0 : Nat) (seqK (wAt C S_cat (50 : FuncId) (99997 : Nat) (CP.dn (CP.dn (CP.dn CP.top (1 : Nat)) (1 : Nat)) (1 : Nat))) (retK C (50 : FuncId) [TV.pv (PV.sl [[PV.sl a], [PV.sl b], [PV.sl c]])] Q))))) := by kernel_rfl

def cat_cp : CP := CP.dn (CP.dn (CP.dn (CP.dn (CP.dn CP.top 1) 1) 0) 1) 0

def cat_h (a b c : List (List PV)) (n i : Int) : St := St.mk [(0, AV.pv (PV.sl [[PV.sl a], [PV.sl b], [PV.sl c]])), (3, AV.pv (PV.int IntKind.i64 n)), (9, AV.pv (PV.sl [[PV.sl a], [PV.sl b], [PV.sl c]])), (10, AV.pv (PV.int IntKind.i64 3)), (11, AV.pv (PV.int IntKind.i64 i))] []

theorem cat_l0 (a b c : List (List PV)) (n : Int) (J : St → Prop) (K : Ex → St → Prop) : (wAt C S_cat 50 1000 (cat_cp.dn 0) (cat_h a b c n 0) (loopK C 50 cat_cp J K)) (H.n (3 : Nat) (H.b H.auto H.auto)) = ((decide (IntKind.wrap IntKind.i64 (n + (↑(List.length a) : Int)) < (0 : Int)) = true → False) ∧ (decide (IntKind.wrap IntKind.i64 (n + (↑(List.length a) : Int)) < (0 : Int)) = false → J (St.mk [((0 : Nat), AV.pv (PV.sl [[PV.sl a], [PV.sl b], [PV.sl c]])), ((3 : Nat), AV.pv (PV.int IntKind.i64 (IntKind.wrap IntKind.i64 (n + (↑(List.length a) : Int))))), ((9 : Nat), AV.pv (PV.sl [[PV.sl a], [PV.sl b], [PV.sl c]])), ((10 : Nat), AV.pv (PV.int IntKind.i64 (3 : Int))), ((11 : Nat), AV.pv (PV.int IntKind.i64 (1 : Int)))] []))) := by kernel_rfl

theorem cat_l1 (a b c : List (List PV)) (n : Int) (J : St → Prop) (K : Ex → St → Prop) : (wAt C S_cat 50 1000 (cat_cp.dn 0) (cat_h a b c n 1) (loopK C 50 cat_cp J K)) (H.n (3 : Nat) (H.b H.auto H.auto)) = ((decide (IntKind.wrap IntKind.i64 (n + (↑(List.length b) : Int)) < (0 : Int)) = true → False) ∧ (decide (IntKind.wrap IntKind.i64 (n + (↑(List.length b) : Int)) < (0 : Int)) = false → J (St.mk [((0 : Nat), AV.pv (PV.sl [[PV.sl a], [PV.sl b], [PV.sl c]])), ((3 : Nat), AV.pv (PV.int IntKind.i64 (IntKind.wrap IntKind.i64 (n + (↑(List.length b) : Int))))), ((9 : Nat), AV.pv (PV.sl [[PV.sl a], [PV.sl b], [PV.sl c]])), ((10 : Nat), AV.pv (PV.int IntKind.i64 (3 : Int))), ((11 : Nat), AV.pv (PV.int IntKind.i64 (2 : Int)))] []))) := by kernel_rfl

theorem cat_l2 (a b c : List (List PV)) (n : Int) (J : St → Prop) (K : Ex → St → Prop) : (wAt C S_cat 50 1000 (cat_cp.dn 0) (cat_h a b c n 2) (loopK C 50 cat_cp J K)) (H.n (3 : Nat) (H.b H.auto H.auto)) = ((decide (IntKind.wrap IntKind.i64 (n + (↑(List.length c) : Int)) < (0 : Int)) = true → False) ∧ (decide (IntKind.wrap IntKind.i64 (n + (↑(List.length c) : Int)) < (0 : Int)) = false → J (St.mk [((0 : Nat), AV.pv (PV.sl [[PV.sl a], [PV.sl b], [PV.sl c]])), ((3 : Nat), AV.pv (PV.int IntKind.i64 (IntKind.wrap IntKind.i64 (n + (↑(List.length c) : Int))))), ((9 : Nat), AV.pv (PV.sl [[PV.sl a], [PV.sl b], [PV.sl c]])), ((10 : Nat), AV.pv (PV.int IntKind.i64 (3 : Int))), ((11 : Nat), AV.pv (PV.int IntKind.i64 (3 : Int)))] []))) := by kernel_rfl

theorem cat_l3 (a b c : List (List PV)) (n : Int) (J : St → Prop) (K : Ex → St → Prop) : (wAt C S_cat 50 1000 (cat_cp.dn 0) (cat_h a b c n 3) (loopK C 50 cat_cp J K)) (H.auto) = (K (Ex.exit (0 : Nat)) (St.mk [((12 : Nat), AV.pv (PV.bool false)), ((0 : Nat), AV.pv (PV.sl [[PV.sl a], [PV.sl b], [PV.sl c]])), ((3 : Nat), AV.pv (PV.int IntKind.i64 n)), ((9 : Nat), AV.pv (PV.sl [[PV.sl a], [PV.sl b], [PV.sl c]])), ((10 : Nat), AV.pv (PV.int IntKind.i64 (3 : Int))), ((11 : Nat), AV.pv (PV.int IntKind.i64 (3 : Int)))] [])) := by kernel_rfl

def cat_e (a b c : List (List PV)) (n : Int) : St := St.mk [(12, AV.pv (PV.bool false)), (0, AV.pv (PV.sl [[PV.sl a], [PV.sl b], [PV.sl c]])), (3, AV.pv (PV.int IntKind.i64 n)), (9, AV.pv (PV.sl [[PV.sl a], [PV.sl b], [PV.sl c]])), (10, AV.pv (PV.int IntKind.i64 3)), (11, AV.pv (PV.int IntKind.i64 3))] []

theorem cat_x (a b c : List (List PV)) (n : Int) (Q : List TV × List TV → Prop) : (fun h => blockK 0 (seqK (wAt C S_cat 50 99997 (CP.dn (CP.dn (CP.dn CP.top 1) 1) 1)) (retK C 50 [TV.pv (PV.sl [[PV.sl a], [PV.sl b], [PV.sl c]])] Q)) h (Ex.exit 0) (cat_e a b c n)) (H.auto) = (((0 : Int) ≤ n ∧ n * (32 : Int) ≤ (140737488355328 : Int)) ∧ LoopAt C (50 : FuncId) (CP.dn (CP.dn (CP.dn (CP.dn (CP.dn (CP.dn (CP.dn CP.top (1 : Nat)) (1 : Nat)) (1 : Nat)) (1 : Nat)) (0 : Nat)) (1 : Nat)) (0 : Nat)) (St.mk [((6 : Nat), AV.own (12 : Nat)), ((25 : Nat), AV.pv (PV.sl [[PV.sl a], [PV.sl b], [PV.sl c]])), ((26 : Nat), AV.pv (PV.int IntKind.i64 (3 : Int))), ((27 : Nat), AV.pv (PV.int IntKind.i64 (0 : Int)))] [((12 : Nat), Obj.buf (2 : Nat) [])]) (exK (blockK (2 : Nat) (seqK (wAt C S_cat (50 : FuncId) (99995 : Nat) (CP.dn (CP.dn (CP.dn (CP.dn (CP.dn CP.top (1 : Nat)) (1 : Nat)) (1 : Nat)) (1 : Nat)) (1 : Nat))) (retK C (50 : FuncId) [TV.pv (PV.sl [[PV.sl a], [PV.sl b], [PV.sl c]])] Q))))) := by kernel_rfl

def cat2_cp : CP := CP.dn (CP.dn (CP.dn (CP.dn (CP.dn (CP.dn (CP.dn CP.top 1) 1) 1) 1) 0) 1) 0

def cat2_h (a b c l : List (List PV)) (i : Int) : St := St.mk [(6, AV.own 12), (25, AV.pv (PV.sl [[PV.sl a], [PV.sl b], [PV.sl c]])), (26, AV.pv (PV.int IntKind.i64 3)), (27, AV.pv (PV.int IntKind.i64 i))] [(12, Obj.buf 2 l)]

theorem cat2_l0 (a b c l : List (List PV)) (J : St → Prop) (Q : List TV × List TV → Prop) : (wAt C S_cat 50 1000 (cat2_cp.dn 0) (cat2_h a b c l 0) (loopK C 50 cat2_cp J (exK (blockK 2 (seqK (wAt C S_cat 50 99995 (CP.dn (CP.dn (CP.dn (CP.dn (CP.dn CP.top 1) 1) 1) 1) 1)) (retK C 50 [TV.pv (PV.sl [[PV.sl a], [PV.sl b], [PV.sl c]])] Q)))))) (H.n (3 : Nat) (H.s (H.s H.auto))) = (((List.length l + List.length a) * (32 : Nat) ≤ room ∧ List.length l + List.length a ≤ maxInt) ∧ rowOk (2 : Nat) a = true ∧ J (St.mk [((6 : Nat), AV.own (12 : Nat)), ((25 : Nat), AV.pv (PV.sl [[PV.sl a], [PV.sl b], [PV.sl c]])), ((26 : Nat), AV.pv (PV.int IntKind.i64 (3 : Int))), ((27 : Nat), AV.pv (PV.int IntKind.i64 (1 : Int)))] [((12 : Nat), Obj.buf (2 : Nat) (l ++ a))])) := by kernel_rfl

theorem cat2_l1 (a b c l : List (List PV)) (J : St → Prop) (Q : List TV × List TV → Prop) : (wAt C S_cat 50 1000 (cat2_cp.dn 0) (cat2_h a b c l 1) (loopK C 50 cat2_cp J (exK (blockK 2 (seqK (wAt C S_cat 50 99995 (CP.dn (CP.dn (CP.dn (CP.dn (CP.dn CP.top 1) 1) 1) 1) 1)) (retK C 50 [TV.pv (PV.sl [[PV.sl a], [PV.sl b], [PV.sl c]])] Q)))))) (H.n (3 : Nat) (H.s (H.s H.auto))) = (((List.length l + List.length b) * (32 : Nat) ≤ room ∧ List.length l + List.length b ≤ maxInt) ∧ rowOk (2 : Nat) b = true ∧ J (St.mk [((6 : Nat), AV.own (12 : Nat)), ((25 : Nat), AV.pv (PV.sl [[PV.sl a], [PV.sl b], [PV.sl c]])), ((26 : Nat), AV.pv (PV.int IntKind.i64 (3 : Int))), ((27 : Nat), AV.pv (PV.int IntKind.i64 (2 : Int)))] [((12 : Nat), Obj.buf (2 : Nat) (l ++ b))])) := by kernel_rfl

theorem cat2_l2 (a b c l : List (List PV)) (J : St → Prop) (Q : List TV × List TV → Prop) : (wAt C S_cat 50 1000 (cat2_cp.dn 0) (cat2_h a b c l 2) (loopK C 50 cat2_cp J (exK (blockK 2 (seqK (wAt C S_cat 50 99995 (CP.dn (CP.dn (CP.dn (CP.dn (CP.dn CP.top 1) 1) 1) 1) 1)) (retK C 50 [TV.pv (PV.sl [[PV.sl a], [PV.sl b], [PV.sl c]])] Q)))))) (H.n (3 : Nat) (H.s (H.s H.auto))) = (((List.length l + List.length c) * (32 : Nat) ≤ room ∧ List.length l + List.length c ≤ maxInt) ∧ rowOk (2 : Nat) c = true ∧ J (St.mk [((6 : Nat), AV.own (12 : Nat)), ((25 : Nat), AV.pv (PV.sl [[PV.sl a], [PV.sl b], [PV.sl c]])), ((26 : Nat), AV.pv (PV.int IntKind.i64 (3 : Int))), ((27 : Nat), AV.pv (PV.int IntKind.i64 (3 : Int)))] [((12 : Nat), Obj.buf (2 : Nat) (l ++ c))])) := by kernel_rfl

theorem cat2_l3 (a b c l : List (List PV)) (J : St → Prop) (Q : List TV × List TV → Prop) : (wAt C S_cat 50 1000 (cat2_cp.dn 0) (cat2_h a b c l 3) (loopK C 50 cat2_cp J (exK (blockK 2 (seqK (wAt C S_cat 50 99995 (CP.dn (CP.dn (CP.dn (CP.dn (CP.dn CP.top 1) 1) 1) 1) 1)) (retK C 50 [TV.pv (PV.sl [[PV.sl a], [PV.sl b], [PV.sl c]])] Q)))))) (H.auto) = (∃ (h : H), Q ([TV.own (2 : Nat) l], [])) := by kernel_rfl

theorem grow_ok : ∀ ag al, g_grow ag = some al → ∀ a ∈ al, a.1 → Ev C 59 ag a.2 := by
  intro ag al hl a ha hp
  unfold g_grow at hl
  split at hl
  · rename_i n
    have e := one_mem hl ha; subst e
    have e1 : bytesT Try.prog 33 = 32 := by kernel_rfl
    have e2 : sizeT Try.prog 33 = 2 := by kernel_rfl
    have hr := room_val
    simp only at hp
    refine ev_ext (g := xGrow Try.prog 33) (by kernel_rfl) ?_
    simp only [xGrow, e1, e2]
    rw [if_pos ⟨by omega, by omega, by omega, by omega⟩]
  · exact absurd hl (by simp)
theorem cat_specs : SpecOK C S_cat := specL_ok (specs_cons grow_ok specs_nil)

def catI (a b c : List (List PV)) (k : Nat) (st : St) : Prop :=
  (k = 3 ∧ st = cat_h a b c 0 0) ∨ (k = 2 ∧ st = cat_h a b c (a.length : Nat) 1) ∨ (k = 1 ∧ st = cat_h a b c (a.length + b.length : Nat) 2) ∨ (k = 0 ∧ st = cat_h a b c (a.length + b.length + c.length : Nat) 3)
def cat2I (a b c : List (List PV)) (k : Nat) (st : St) : Prop :=
  (k = 3 ∧ st = cat2_h a b c [] 0) ∨ (k = 2 ∧ st = cat2_h a b c ([] ++ a) 1) ∨ (k = 1 ∧ st = cat2_h a b c ([] ++ a ++ b) 2) ∨ (k = 0 ∧ st = cat2_h a b c ([] ++ a ++ b ++ c) 3)

set_option maxRecDepth 100000 in
theorem cat_ev (A B D : List Ln) (h : A.length + B.length + D.length ≤ 4000000) : Ev C 50 [.pv (.sl [[.sl (A.map row)], [.sl (B.map row)], [.sl (D.map row)]])] ([.own 2 ([] ++ A.map row ++ B.map row ++ D.map row)], []) := by
  have hr := room_val
  have hm := maxInt_val
  have w0 : ∀ x : Nat, x ≤ 4000000 → IntKind.wrap .i64 (x : Int) = x := fun x hx => IntWalk.i64_in _ (by omega)
  refine ev_of cat_specs ((cat_w _ _ _ _).mpr ?_)
  refine loop_rule cat_specs (by kernel_rfl) 1000 (catI (A.map row) (B.map row) (D.map row)) ?_ (n := 3) (.inl ⟨rfl, rfl⟩)
  rintro k st (⟨rfl, rfl⟩ | ⟨rfl, rfl⟩ | ⟨rfl, rfl⟩ | ⟨rfl, rfl⟩)
  · refine ⟨_, (cat_l0 _ _ _ _ _ _).mpr ?_⟩
    have e : IntKind.wrap .i64 ((0 : Int) + (↑(List.length (A.map row)) : Int)) = ((A.map row).length : Nat) := by
      rw [Int.zero_add]; exact w0 _ (by simp; omega)
    rw [e]
    exact ⟨fun h => by simp only [decide_eq_true_eq] at h; omega, fun _ => ⟨2, by omega, .inr (.inl ⟨rfl, rfl⟩)⟩⟩
  · refine ⟨_, (cat_l1 _ _ _ _ _ _).mpr ?_⟩
    have e : IntKind.wrap .i64 (((A.map row).length : Int) + (↑(List.length (B.map row)) : Int)) = ((A.map row).length + (B.map row).length : Nat) := by
      have := w0 ((A.map row).length + (B.map row).length) (by simp; omega)
      rw [← this]; congr 1
    rw [e]
    exact ⟨fun h => by simp only [decide_eq_true_eq] at h; omega, fun _ => ⟨1, by omega, .inr (.inr (.inl ⟨rfl, rfl⟩))⟩⟩
  · refine ⟨_, (cat_l2 _ _ _ _ _ _).mpr ?_⟩
    have e : IntKind.wrap .i64 ((((A.map row).length + (B.map row).length : Nat) : Int) + (↑(List.length (D.map row)) : Int)) = ((A.map row).length + (B.map row).length + (D.map row).length : Nat) := by
      have := w0 ((A.map row).length + (B.map row).length + (D.map row).length) (by simp; omega)
      rw [← this]; congr 1
    rw [e]
    exact ⟨fun h => by simp only [decide_eq_true_eq] at h; omega, fun _ => ⟨0, by omega, .inr (.inr (.inr ⟨rfl, rfl⟩))⟩⟩
  · refine ⟨_, (cat_l3 _ _ _ _ _ _).mpr ⟨_, (cat_x _ _ _ _ _).mpr ⟨⟨by omega, by simp; omega⟩, ?_⟩⟩⟩
    refine loop_rule cat_specs (by kernel_rfl) 1000 (cat2I (A.map row) (B.map row) (D.map row)) ?_ (n := 3) (.inl ⟨rfl, rfl⟩)
    rintro k st (⟨rfl, rfl⟩ | ⟨rfl, rfl⟩ | ⟨rfl, rfl⟩ | ⟨rfl, rfl⟩)
    · exact ⟨_, (cat2_l0 _ _ _ _ _ _).mpr ⟨⟨by simp; omega, by simp; omega⟩, rowOk_rows _, 2, by omega, .inr (.inl ⟨rfl, rfl⟩)⟩⟩
    · exact ⟨_, (cat2_l1 _ _ _ _ _ _).mpr ⟨⟨by simp; omega, by simp; omega⟩, rowOk_rows _, 1, by omega, .inr (.inr (.inl ⟨rfl, rfl⟩))⟩⟩
    · exact ⟨_, (cat2_l2 _ _ _ _ _ _).mpr ⟨⟨by simp; omega, by simp; omega⟩, rowOk_rows _, 0, by omega, .inr (.inr (.inr ⟨rfl, rfl⟩))⟩⟩
    · exact ⟨_, (cat2_l3 _ _ _ _ _ _).mpr ⟨.auto, rfl⟩⟩

def g_cat : List TV → Option Alts
  | [.pv (.sl [[.sl a], [.sl b], [.sl c]])] => one (∃ A B D : List Ln, a = A.map row ∧ b = B.map row ∧ c = D.map row ∧ A.length + B.length + D.length ≤ 4000000) ([.own 2 ([] ++ a ++ b ++ c)], [])
  | _ => none

theorem cat_ok : ∀ ag al, g_cat ag = some al → ∀ a ∈ al, a.1 → Ev C 50 ag a.2 := by
  intro ag al hl x hx hp
  unfold g_cat at hl
  split at hl
  · have e := one_mem hl hx; subst e
    obtain ⟨A, B, D, rfl, rfl, rfl, h⟩ := hp
    exact cat_ev A B D h
  · exact absurd hl (by simp)

def S_ins : Specs := specL [(50, g_cat)]

theorem ins_w (a : List (List PV)) (k : Int) (b : List (List PV)) (Q : List TV × List TV → Prop) : (wFun C S_ins 40 [.pv (.sl a), .pv (.int .i64 k), .pv (.sl b)] Q) (H.s (H.s (H.s (H.s (H.s H.auto))))) = (rowOk (2 : Nat) a = true ∧ ((0 : Int) ≤ (0 : Int) ∧ ((0 : Int) ≤ if (↑(List.length a) : Int) < if true = true then if (0 : Int) > k then (0 : Int) else k else if (0 : Int) < k then (0 : Int) else k then (↑(List.length a) : Int) else if (0 : Int) > k then (0 : Int) else k) ∧ (if (↑(List.length a) : Int) < if true = true then if (0 : Int) > k then (0 : Int) else k else if (0 : Int) < k then (0 : Int) else k then (↑(List.length a) : Int) else if (0 : Int) > k then (0 : Int) else k) ≤ Int.ofNat (List.length a)) ∧ rowOk (2 : Nat) a = true ∧ (((0 : Int) ≤ if (↑(List.length a) : Int) < if true = true then if (0 : Int) > k then (0 : Int) else k else if (0 : Int) < k then (0 : Int) else k then (↑(List.length a) : Int) else if (0 : Int) > k then (0 : Int) else k) ∧ (if (↑(List.length a) : Int) < if true = true then if (0 : Int) > k then (0 : Int) else k else if (0 : Int) < k then (0 : Int) else k then (↑(List.length a) : Int) else if (0 : Int) > k then (0 : Int) else k) ≤ Int.ofNat (List.length a) ∧ Int.ofNat (List.length a) ≤ Int.ofNat (List.length a)) ∧ (∃ (A : List Ln), ∃ (B : List Ln), ∃ (D : List Ln), List.take (Int.toNat (if (↑(List.length a) : Int) < if true = true then if (0 : Int) > k then (0 : Int) else k else if (0 : Int) < k then (0 : Int) else k then (↑(List.length a) : Int) else if (0 : Int) > k then (0 : Int) else k) - (0 : Nat)) a = List.map row A ∧ b = List.map row B ∧ List.take (Int.toNat (Int.ofNat (List.length a)) - Int.toNat (if (↑(List.length a) : Int) < if true = true then if (0 : Int) > k then (0 : Int) else k else if (0 : Int) < k then (0 : Int) else k then (↑(List.length a) : Int) else if (0 : Int) > k then (0 : Int) else k)) (List.drop (Int.toNat (if (↑(List.length a) : Int) < if true = true then if (0 : Int) > k then (0 : Int) else k else if (0 : Int) < k then (0 : Int) else k then (↑(List.length a) : Int) else if (0 : Int) > k then (0 : Int) else k)) a) = List.map row D ∧ List.length A + List.length B + List.length D ≤ (4000000 : Nat)) ∧ (flatTVs [TV.own (2 : Nat) ([] ++ List.take (Int.toNat (if (↑(List.length a) : Int) < if true = true then if (0 : Int) > k then (0 : Int) else k else if (0 : Int) < k then (0 : Int) else k then (↑(List.length a) : Int) else if (0 : Int) > k then (0 : Int) else k) - (0 : Nat)) a ++ b ++ List.take (Int.toNat (Int.ofNat (List.length a)) - Int.toNat (if (↑(List.length a) : Int) < if true = true then if (0 : Int) > k then (0 : Int) else k else if (0 : Int) < k then (0 : Int) else k then (↑(List.length a) : Int) else if (0 : Int) > k then (0 : Int) else k)) (List.drop (Int.toNat (if (↑(List.length a) : Int) < if true = true then if (0 : Int) > k then (0 : Int) else k else if (0 : Int) < k then (0 : Int) else k then (↑(List.length a) : Int) else if (0 : Int) > k then (0 : Int) else k)) a))] && true) = true ∧ Q ([TV.own (2 : Nat) ([] ++ List.take (Int.toNat (if (↑(List.length a) : Int) < if true = true then if (0 : Int) > k then (0 : Int) else k else if (0 : Int) < k then (0 : Int) else k then (↑(List.length a) : Int) else if (0 : Int) > k then (0 : Int) else k) - (0 : Nat)) a ++ b ++ List.take (Int.toNat (Int.ofNat (List.length a)) - Int.toNat (if (↑(List.length a) : Int) < if true = true then if (0 : Int) > k then (0 : Int) else k else if (0 : Int) < k then (0 : Int) else k then (↑(List.length a) : Int) else if (0 : Int) > k then (0 : Int) else k)) (List.drop (Int.toNat (if (↑(List.length a) : Int) < if true = true then if (0 : Int) > k then (0 : Int) else k else if (0 : Int) < k then (0 : Int) else k then (↑(List.length a) : Int) else if (0 : Int) > k then (0 : Int) else k)) a))], [])) := by kernel_rfl

/-- A place, made to lie in a row. -/
def cl (k : Int) (n : Nat) : Nat := if (n : Int) < (if 0 > k then 0 else k) then n else (if 0 > k then 0 else k).toNat

theorem cl_le (k : Int) (n : Nat) : cl k n ≤ n := by unfold cl; split <;> (try split) <;> omega

theorem flat_rows (A : List Ln) : (flatTVs [TV.own 2 (A.map row)] && true) = true := by simp [flatTVs, flatTV, row, flatPVs, flatPV]

set_option maxRecDepth 100000 in
theorem ins_ev (A B : List Ln) (k : Int) (h : A.length + B.length ≤ 4000000) : Ev C 40 [.pv (.sl (A.map row)), .pv (.int .i64 k), .pv (.sl (B.map row))] ([.own 2 ((A.take (cl k A.length) ++ B ++ A.drop (cl k A.length)).map row)], []) := by
  have hr := room_val
  refine ev_of (specL_ok (specs_cons cat_ok specs_nil)) ((ins_w _ _ _ _).mpr ?_)
  have e : (if (↑(List.length (A.map row)) : Int) < if true = true then if (0 : Int) > k then (0 : Int) else k else if (0 : Int) < k then (0 : Int) else k then (↑(List.length (A.map row)) : Int) else if (0 : Int) > k then (0 : Int) else k) = ((cl k A.length : Nat) : Int) := by
    unfold cl
    simp only [List.length_map, if_true]
    split
    · rfl
    · split <;> omega
  have hcl := cl_le k A.length
  have t : List.take (A.length - cl k A.length) (List.drop (cl k A.length) (A.map row)) = (A.drop (cl k A.length)).map row := by
    rw [List.take_of_length_le (by simp), List.map_drop]
  have t2 : [] ++ (A.take (cl k A.length)).map row ++ B.map row ++ (A.drop (cl k A.length)).map row = (A.take (cl k A.length) ++ B ++ A.drop (cl k A.length)).map row := by simp
  rw [e]
  simp only [Int.toNat_natCast, Int.ofNat_eq_natCast, List.length_map, Nat.sub_zero, t, ← List.map_take, t2]
  refine ⟨rowOk_rows _, ⟨by omega, by omega, by omega⟩, rowOk_rows _, ⟨by omega, by omega, by omega⟩, ⟨_, _, _, rfl, rfl, rfl, by simp; omega⟩, flat_rows _, trivial⟩

def insR (a : List (List PV)) (k : Int) (b : List (List PV)) : List (List PV) := a.take (cl k a.length) ++ b ++ a.drop (cl k a.length)

def g_ins : List TV → Option Alts
  | [.pv (.sl a), .pv (.int .i64 k), .pv (.sl b)] => one (∃ A B : List Ln, a = A.map row ∧ b = B.map row ∧ A.length + B.length ≤ 4000000) ([.own 2 (insR a k b)], [])
  | _ => none

theorem ins_ok : ∀ ag al, g_ins ag = some al → ∀ a ∈ al, a.1 → Ev C 40 ag a.2 := by
  intro ag al hl x hx hp
  unfold g_ins at hl
  split at hl
  · rename_i a k b
    have e := one_mem hl hx; subst e
    obtain ⟨A, B, rfl, rfl, h⟩ := hp
    have e2 : insR (A.map row) k (B.map row) = (A.take (cl k A.length) ++ B ++ A.drop (cl k A.length)).map row := by simp [insR, List.map_take, List.map_drop]
    rw [e2]
    exact ins_ev A B k h
  · exact absurd hl (by simp)

def S_put : Specs := specL [(40, g_ins), (19, g_end), (36, g_clone)]

theorem put_w (a : List (List PV)) (k : Int) (ts : List (List PV)) (Q : List TV × List TV → Prop) : (wFun C S_put 22 [.pv (.sl a), .pv (.int .i64 k), .pv (.sl ts)] Q) (H.auto) = ((∃ (A : List Ln), a = List.map row A) ∧ LoopAt C (22 : FuncId) (CP.dn (CP.dn (CP.dn (CP.dn (CP.dn (CP.dn CP.top (1 : Nat)) (1 : Nat)) (1 : Nat)) (0 : Nat)) (1 : Nat)) (0 : Nat)) (St.mk [((0 : Nat), AV.pv (PV.sl a)), ((1 : Nat), AV.pv (PV.int IntKind.i64 k)), ((7 : Nat), AV.pv (PV.str (endR a))), ((8 : Nat), AV.own (16 : Nat)), ((15 : Nat), AV.pv (PV.sl ts)), ((16 : Nat), AV.pv (PV.int IntKind.i64 (↑(List.length ts) : Int))), ((17 : Nat), AV.pv (PV.int IntKind.i64 (0 : Int)))] [((16 : Nat), Obj.buf (2 : Nat) [])]) (exK (blockK (0 : Nat) (seqK (wAt C S_put (22 : FuncId) (99996 : Nat) (CP.dn (CP.dn (CP.dn (CP.dn CP.top (1 : Nat)) (1 : Nat)) (1 : Nat)) (1 : Nat))) (retK C (22 : FuncId) [TV.pv (PV.sl a), TV.pv (PV.int IntKind.i64 k), TV.pv (PV.sl ts)] Q))))) := by kernel_rfl

def put_cp : CP := CP.dn (CP.dn (CP.dn (CP.dn (CP.dn (CP.dn CP.top 1) 1) 1) 0) 1) 0

def put_h (a : List (List PV)) (k : Int) (e : List UInt8) (l ts : List (List PV)) (n i : Int) : St := St.mk [(0, AV.pv (PV.sl a)), (1, AV.pv (PV.int IntKind.i64 k)), (7, AV.pv (PV.str e)), (8, AV.own 16), (15, AV.pv (PV.sl ts)), (16, AV.pv (PV.int IntKind.i64 n)), (17, AV.pv (PV.int IntKind.i64 i))] [(16, Obj.buf 2 l)]

theorem put_l (a : List (List PV)) (k : Int) (e : List UInt8) (l ts : List (List PV)) (n i : Int) (J : St → Prop) (K : Ex → St → Prop) : (wAt C S_put 22 1000 (put_cp.dn 0) (put_h a k e l ts n i) (loopK C 22 put_cp J K)) (H.b (H.s (H.s (H.s H.auto))) H.auto) = ((decide (i < n) = true → (0 : Int) ≤ i ∧ ∃ (s : List UInt8), ts[Int.toNat i]? = some [PV.str s] ∧ ((List.length l + (1 : Nat)) * (32 : Nat) ≤ room ∧ List.length l + (1 : Nat) ≤ maxInt) ∧ J (St.mk [((0 : Nat), AV.pv (PV.sl a)), ((1 : Nat), AV.pv (PV.int IntKind.i64 k)), ((7 : Nat), AV.pv (PV.str e)), ((8 : Nat), AV.own (16 : Nat)), ((15 : Nat), AV.pv (PV.sl ts)), ((16 : Nat), AV.pv (PV.int IntKind.i64 n)), ((17 : Nat), AV.pv (PV.int IntKind.i64 (IntKind.wrap IntKind.i64 (i + (1 : Int)))))] [((16 : Nat), Obj.buf (2 : Nat) (l ++ [[PV.str s, PV.str e]]))])) ∧ (decide (i < n) = false → K (Ex.exit (0 : Nat)) (St.mk [((18 : Nat), AV.pv (PV.bool false)), ((0 : Nat), AV.pv (PV.sl a)), ((1 : Nat), AV.pv (PV.int IntKind.i64 k)), ((7 : Nat), AV.pv (PV.str e)), ((8 : Nat), AV.own (16 : Nat)), ((15 : Nat), AV.pv (PV.sl ts)), ((16 : Nat), AV.pv (PV.int IntKind.i64 n)), ((17 : Nat), AV.pv (PV.int IntKind.i64 i))] [((16 : Nat), Obj.buf (2 : Nat) l)]))) := by kernel_rfl

def put_e (a : List (List PV)) (k : Int) (e : List UInt8) (l ts : List (List PV)) (n i : Int) : St := St.mk [(18, AV.pv (PV.bool false)), (0, AV.pv (PV.sl a)), (1, AV.pv (PV.int IntKind.i64 k)), (7, AV.pv (PV.str e)), (8, AV.own 16), (15, AV.pv (PV.sl ts)), (16, AV.pv (PV.int IntKind.i64 n)), (17, AV.pv (PV.int IntKind.i64 i))] [(16, Obj.buf 2 l)]

theorem put_x (a : List (List PV)) (k : Int) (e : List UInt8) (l ts : List (List PV)) (n i : Int) (Q : List TV × List TV → Prop) : (fun h => blockK 0 (seqK (wAt C S_put 22 99996 (CP.dn (CP.dn (CP.dn (CP.dn CP.top 1) 1) 1) 1)) (retK C 22 [TV.pv (PV.sl a), TV.pv (PV.int IntKind.i64 k), TV.pv (PV.sl ts)] Q)) h (Ex.exit 0) (put_e a k e l ts n i)) (H.s (H.s H.auto)) = ((∃ (A : List Ln), ∃ (B : List Ln), a = List.map row A ∧ l = List.map row B ∧ List.length A + List.length B ≤ (4000000 : Nat)) ∧ (flatTVs [TV.own (2 : Nat) (insR a k l)] && true) = true ∧ (List.length (insR a k l) * (32 : Nat) ≤ room ∧ List.length (insR a k l) ≤ maxInt ∧ rowOk (2 : Nat) (insR a k l) = true) ∧ (flatTVs [TV.own (2 : Nat) (insR a k l)] && true) = true ∧ LoopAt C (22 : FuncId) (CP.dn (CP.dn (CP.dn (CP.dn (CP.dn (CP.dn (CP.dn (CP.dn CP.top (1 : Nat)) (1 : Nat)) (1 : Nat)) (1 : Nat)) (1 : Nat)) (0 : Nat)) (1 : Nat)) (0 : Nat)) (St.mk [((7 : Nat), AV.pv (PV.str e)), ((11 : Nat), AV.own (22 : Nat)), ((36 : Nat), AV.pv (PV.int IntKind.i64 (if (0 : Int) > IntKind.wrap IntKind.i64 ((↑(List.length (insR a k l)) : Int) - (1 : Int)) then (0 : Int) else IntKind.wrap IntKind.i64 ((↑(List.length (insR a k l)) : Int) - (1 : Int))))), ((37 : Nat), AV.pv (PV.int IntKind.i64 (0 : Int)))] [((22 : Nat), Obj.buf (2 : Nat) (insR a k l))]) (exK (blockK (2 : Nat) (seqK (wAt C S_put (22 : FuncId) (99994 : Nat) (CP.dn (CP.dn (CP.dn (CP.dn (CP.dn (CP.dn CP.top (1 : Nat)) (1 : Nat)) (1 : Nat)) (1 : Nat)) (1 : Nat)) (1 : Nat))) (retK C (22 : FuncId) [TV.pv (PV.sl a), TV.pv (PV.int IntKind.i64 k), TV.pv (PV.sl ts)] Q))))) := by kernel_rfl

def put2_cp : CP := CP.dn (CP.dn (CP.dn (CP.dn (CP.dn (CP.dn (CP.dn (CP.dn CP.top 1) 1) 1) 1) 1) 0) 1) 0

def put2_h (e : List UInt8) (l : List (List PV)) (n i : Int) : St := St.mk [(7, AV.pv (PV.str e)), (11, AV.own 22), (36, AV.pv (PV.int IntKind.i64 n)), (37, AV.pv (PV.int IntKind.i64 i))] [(22, Obj.buf 2 l)]

theorem put2_l (a ts : List (List PV)) (k : Int) (e : List UInt8) (l : List (List PV)) (n i : Int) (J : St → Prop) (Q : List TV × List TV → Prop) : (wAt C S_put 22 1000 (put2_cp.dn 0) (put2_h e l n i) (loopK C 22 put2_cp J (exK (blockK 2 (seqK (wAt C S_put 22 99994 (CP.dn (CP.dn (CP.dn (CP.dn (CP.dn (CP.dn CP.top 1) 1) 1) 1) 1) 1)) (retK C 22 [TV.pv (PV.sl a), TV.pv (PV.int IntKind.i64 k), TV.pv (PV.sl ts)] Q)))))) (H.b (H.s (H.s (H.b (H.s (H.s (H.s (H.s H.auto)))) H.auto))) H.auto) = ((decide (i < n) = true → ((0 : Int) ≤ i ∧ i < (↑(List.length l) : Int)) ∧ ∃ (c : List PV), l[Int.toNat i]? = some c ∧ (2 : Nat) ≤ List.length c ∧ ∃ (s : List UInt8), List.take (1 : Nat) (List.drop (1 : Nat) c) = [PV.str s] ∧ ((s == []) = true → ((0 : Int) ≤ i ∧ i < (↑(List.length l) : Int)) ∧ ∃ (c : List PV), l[Int.toNat i]? = some c ∧ (2 : Nat) ≤ List.length c ∧ List.length (List.set l (Int.toNat i) (setFrom (1 : Nat) [PV.str e] c)) = List.length l ∧ J (St.mk [((7 : Nat), AV.pv (PV.str e)), ((11 : Nat), AV.own (22 : Nat)), ((36 : Nat), AV.pv (PV.int IntKind.i64 n)), ((37 : Nat), AV.pv (PV.int IntKind.i64 (IntKind.wrap IntKind.i64 (i + (1 : Int)))))] [((22 : Nat), Obj.buf (2 : Nat) (List.set l (Int.toNat i) (setFrom (1 : Nat) [PV.str e] c)))])) ∧ ((s == []) = false → J (St.mk [((7 : Nat), AV.pv (PV.str e)), ((11 : Nat), AV.own (22 : Nat)), ((36 : Nat), AV.pv (PV.int IntKind.i64 n)), ((37 : Nat), AV.pv (PV.int IntKind.i64 (IntKind.wrap IntKind.i64 (i + (1 : Int)))))] [((22 : Nat), Obj.buf (2 : Nat) l)]))) ∧ (decide (i < n) = false → ∃ (h : H), Q ([TV.own (2 : Nat) l], []))) := by kernel_rfl

def fixL (e : List UInt8) (x : Ln) : Ln := if x.2 = [] then (x.1, e) else x

def fixTo (e : List UInt8) (L : List Ln) (i : Nat) : List Ln := (L.take i).map (fixL e) ++ L.drop i

theorem fixTo_len (e : List UInt8) (L : List Ln) (i : Nat) : (fixTo e L i).length = L.length := by simp [fixTo]; omega
theorem fixTo_at (e : List UInt8) (L : List Ln) {i : Nat} (h : i < L.length) : (fixTo e L i)[i]? = some L[i] := by
  unfold fixTo
  rw [List.getElem?_append_right (by simp; omega)]
  simp only [List.length_map, List.length_take]
  rw [Nat.min_eq_left (by omega), Nat.sub_self, List.getElem?_drop, Nat.add_zero, List.getElem?_eq_getElem h]
theorem fixTo_set (e : List UInt8) (L : List Ln) {i : Nat} (h : i < L.length) : (fixTo e L i).set i (fixL e L[i]) = fixTo e L (i + 1) := by
  unfold fixTo
  have hl : ((L.take i).map (fixL e)).length = i := by simp; omega
  rw [List.set_append_right _ _ (by omega), hl, Nat.sub_self, List.drop_eq_getElem_cons h, List.set_cons_zero, List.take_succ_eq_append_getElem h, List.map_append, List.append_assoc]
  rfl
theorem fixTo_same (e : List UInt8) (L : List Ln) {i : Nat} (h : i < L.length) (hx : ¬ L[i].2 = []) : fixTo e L i = fixTo e L (i + 1) := by
  rw [← fixTo_set e L h]
  have e1 : fixL e L[i] = L[i] := by simp [fixL, hx]
  rw [e1]
  refine List.ext_getElem? fun j => ?_
  rw [List.getElem?_set]
  split
  · rename_i ej; subst ej
    rw [fixTo_len, if_pos h, fixTo_at e L h]
  · rfl

/-- lines.Insert, of rows. -/
def putF (A : List Ln) (k : Int) (ts : List (List UInt8)) : List Ln :=
  fixTo (endR (A.map row)) (A.take (cl k A.length) ++ ts.map (fun t => (t, endR (A.map row))) ++ A.drop (cl k A.length)) ((A.length + ts.length) - 1)

theorem put_specs : SpecOK C S_put := specL_ok (specs_cons ins_ok (specs_cons pend_ok (specs_cons clone_ok specs_nil)))

theorem put2_loop (a ts : List (List PV)) (k : Int) (e : List UInt8) (L : List Ln) (hL : L.length ≤ 4000000) {Q : List TV × List TV → Prop} (hQ : Q ([.own 2 ((fixTo e L (L.length - 1)).map row)], [])) :
    LoopAt C 22 put2_cp (put2_h e (L.map row) ((L.length - 1 : Nat) : Int) 0) (exK (blockK 2 (seqK (wAt C S_put 22 99994 (CP.dn (CP.dn (CP.dn (CP.dn (CP.dn (CP.dn CP.top 1) 1) 1) 1) 1) 1)) (retK C 22 [TV.pv (PV.sl a), TV.pv (PV.int IntKind.i64 k), TV.pv (PV.sl ts)] Q)))) := by
  refine loop_rule put_specs (by kernel_rfl) 1000 (fun n st => ∃ i : Nat, st = put2_h e ((fixTo e L i).map row) ((L.length - 1 : Nat) : Int) i ∧ i ≤ L.length - 1 ∧ n = L.length - 1 - i) ?_ (n := L.length - 1) ⟨0, by simp [fixTo], by omega, by omega⟩
  rintro n st ⟨i, rfl, hi, rfl⟩
  refine ⟨_, (put2_l _ _ _ _ _ _ _ _ _).mpr ⟨fun h => ?_, fun h => ?_⟩⟩
  · simp only [decide_eq_true_eq] at h
    have hi' : i < L.length := by omega
    have w1 : IntKind.wrap .i64 ((i : Int) + 1) = ((i + 1 : Nat) : Int) := by rw [IntWalk.i64_in _ (by omega)]; omega
    have hg : ((fixTo e L i).map row)[((i : Int)).toNat]? = some (row L[i]) := by rw [Int.toNat_natCast, List.getElem?_map, fixTo_at e L hi']; rfl
    have hlen : ((fixTo e L i).map row).length = L.length := by rw [List.length_map, fixTo_len]
    refine ⟨⟨by omega, by omega⟩, row L[i], hg, by simp [row], L[i].2, rfl, fun h2 => ?_, fun h2 => ?_⟩
    · have hx : L[i].2 = [] := by simpa using h2
      refine ⟨⟨by omega, by omega⟩, row L[i], hg, by simp [row], by simp, L.length - 1 - (i + 1), by omega, i + 1, ?_, by omega, rfl⟩
      have e1 : setFrom 1 [PV.str e] (row L[i]) = row (fixL e L[i]) := by simp [row, fixL, hx, setFrom]
      rw [e1, w1, Int.toNat_natCast, ← List.map_set, fixTo_set e L hi']; rfl
    · have hx : ¬ L[i].2 = [] := by simpa using h2
      refine ⟨L.length - 1 - (i + 1), by omega, i + 1, ?_, by omega, rfl⟩
      rw [w1, fixTo_same e L hi' hx]; rfl
  · simp only [decide_eq_false_iff_not] at h
    have : i = L.length - 1 := by omega
    subst this
    exact ⟨.auto, hQ⟩

theorem insR_rows (A B : List Ln) (k : Int) : insR (A.map row) k (B.map row) = (A.take (cl k A.length) ++ B ++ A.drop (cl k A.length)).map row := by simp [insR, List.map_take, List.map_drop]

set_option maxRecDepth 100000 in
theorem put_ev (A : List Ln) (k : Int) (ts : List (List UInt8)) (h : A.length + ts.length ≤ 4000000) : Ev C 22 [.pv (.sl (A.map row)), .pv (.int .i64 k), .pv (.sl (ts.map fun t => [.str t]))] ([.own 2 ((putF A k ts).map row)], []) := by
  have hr := room_val
  have hm := maxInt_val
  refine ev_of put_specs ((put_w _ _ _ _).mpr ⟨⟨A, rfl⟩, ?_⟩)
  refine loop_rule put_specs (by kernel_rfl) 1000 (fun n st => ∃ i : Nat, st = put_h (A.map row) k (endR (A.map row)) (((ts.take i).map fun t => (t, endR (A.map row))).map row) (ts.map fun t => [.str t]) ts.length i ∧ i ≤ ts.length ∧ n = ts.length - i) ?_ (n := ts.length) ⟨0, by simp [put_h], by omega, by omega⟩
  rintro n st ⟨i, rfl, hi, rfl⟩
  refine ⟨_, (put_l _ _ _ _ _ _ _ _ _).mpr ⟨fun h2 => ?_, fun h2 => ?_⟩⟩
  · simp only [decide_eq_true_eq] at h2
    have hi' : i < ts.length := by omega
    have w1 : IntKind.wrap .i64 ((i : Int) + 1) = ((i + 1 : Nat) : Int) := by rw [IntWalk.i64_in _ (by omega)]; omega
    refine ⟨by omega, ts[i], by simp [hi'], ⟨by simp; omega, by simp; omega⟩, ts.length - (i + 1), by omega, i + 1, ?_, by omega, rfl⟩
    have e3 : ((ts.take (i + 1)).map fun t => (t, endR (A.map row))).map row = ((ts.take i).map fun t => (t, endR (A.map row))).map row ++ [[PV.str ts[i], PV.str (endR (A.map row))]] := by
      rw [List.take_succ_eq_append_getElem hi', List.map_append, List.map_append]; rfl
    rw [w1, e3]; rfl
  · simp only [decide_eq_false_iff_not] at h2
    have : i = ts.length := by omega
    subst this
    rw [List.take_length]
    have hcl := cl_le k A.length
    let B : List Ln := ts.map fun t => (t, endR (A.map row))
    let L : List Ln := A.take (cl k A.length) ++ B ++ A.drop (cl k A.length)
    have hL : L.length = A.length + ts.length := by simp [L, B]; omega
    have eL : insR (A.map row) k (B.map row) = L.map row := insR_rows A B k
    refine ⟨_, (put_x _ _ _ _ _ _ _ _).mpr ?_⟩
    rw [show (ts.map fun t => (t, endR (A.map row))).map row = B.map row from rfl, eL, flat_rows]
    have w2 : (if (0 : Int) > IntKind.wrap .i64 ((↑(List.length (L.map row)) : Int) - (1 : Int)) then (0 : Int) else IntKind.wrap .i64 ((↑(List.length (L.map row)) : Int) - (1 : Int))) = ((L.length - 1 : Nat) : Int) := by
      rw [IntWalk.i64_in _ (by simp; omega), List.length_map]
      split <;> omega
    rw [w2]
    have go := put2_loop (A.map row) (ts.map fun t => [.str t]) k (endR (A.map row)) L (by omega) (Q := fun r => r = ([.own 2 ((putF A k ts).map row)], [])) (by
      rw [show putF A k ts = fixTo (endR (A.map row)) L (L.length - 1) by rw [hL]; rfl])
    refine ⟨⟨A, B, rfl, rfl, by simp [B]; omega⟩, rfl, ⟨by simp; omega, by simp; omega, rowOk_rows _⟩, rfl, go⟩

def putR (a : List (List PV)) (k : Int) (ts : List (List PV)) : List (List PV) :=
  let L := a.take (cl k a.length) ++ ts.map (fun t => t ++ [.str (endR a)]) ++ a.drop (cl k a.length)
  (L.take (L.length - 1)).map (fun x => match x with | [.str t, .str e] => if e = [] then [.str t, .str (endR a)] else [.str t, .str e] | x => x) ++ L.drop (L.length - 1)

theorem putR_rows (A : List Ln) (k : Int) (ts : List (List UInt8)) : putR (A.map row) k (ts.map fun t => [.str t]) = (putF A k ts).map row := by
  have hcl := cl_le k A.length
  let B : List Ln := ts.map fun t => (t, endR (A.map row))
  let L : List Ln := A.take (cl k A.length) ++ B ++ A.drop (cl k A.length)
  have hL : L.length = A.length + ts.length := by simp [L, B]; omega
  have e : (A.map row).take (cl k (A.map row).length) ++ (ts.map fun t => [PV.str t]).map (fun t => t ++ [.str (endR (A.map row))]) ++ (A.map row).drop (cl k (A.map row).length) = L.map row := by
    have e1 : (ts.map fun t => [PV.str t]).map (fun t => t ++ [.str (endR (A.map row))]) = B.map row := by simp only [B, List.map_map]; rfl
    rw [e1, List.length_map]
    simp only [L, List.map_append, List.map_take, List.map_drop]
  unfold putR
  have e2 : putF A k ts = fixTo (endR (A.map row)) L (A.length + ts.length - 1) := rfl
  clear_value L
  rw [e]
  simp only []
  rw [List.length_map, hL, e2]
  unfold fixTo
  rw [List.map_append, ← List.map_take, ← List.map_drop, List.map_map, List.map_map]
  congr 1
  refine List.map_congr_left fun x _ => ?_
  simp only [Function.comp, row, fixL]
  split <;> rfl

def g_put : List TV → Option Alts
  | [.pv (.sl a), .pv (.int .i64 k), .pv (.sl ts)] => one (∃ (A : List Ln) (tl : List (List UInt8)), a = A.map row ∧ ts = tl.map (fun t => [.str t]) ∧ A.length + tl.length ≤ 4000000) ([.own 2 (putR a k ts)], [])
  | _ => none

theorem putL_ok : ∀ ag al, g_put ag = some al → ∀ a ∈ al, a.1 → Ev C 22 ag a.2 := by
  intro ag al hl x hx hp
  unfold g_put at hl
  split at hl
  · rename_i a k ts
    have e := one_mem hl hx; subst e
    obtain ⟨A, tl, rfl, rfl, h⟩ := hp
    rw [putR_rows]
    exact put_ev A k tl h
  · exact absurd hl (by simp)

def g_within1 : List TV → Option Alts
  | [.pv (.int .i64 a), .pv (.int .i64 m)] => one (¬ m = 0) ([.pv (.int .i64 (wi a m))], [])
  | _ => none

theorem within1_ok : ∀ ag al, g_within1 ag = some al → ∀ a ∈ al, a.1 → Ev C 21 ag a.2 := by
  intro ag al hl x hx hp
  unfold g_within1 at hl
  split at hl
  · have e := one_mem hl hx; subst e
    exact within_ev _ _ hp
  · exact absurd hl (by simp)

noncomputable def S_ln : Specs := specL [(14, g_text), (18, g_split), (16, g_same), (22, g_put), (21, g_within1)]

theorem ln_w (a : List (List PV)) (k : Int) (t : List UInt8) (Q : List TV × List TV → Prop) : (wFun C S_ln 6 [.pv (.sl a), .pv (.int .i64 k), .pv (.str t)] Q) (H.n (1 : Nat) (H.b H.auto (H.s (H.s (H.n (1 : Nat) (H.b (H.n (3 : Nat) (H.b (H.n (1 : Nat) (H.s (H.n (1 : Nat) (H.s (H.n (4 : Nat) (H.b (H.n (1 : Nat) (H.s (H.n (1 : Nat) (H.s H.auto)))) H.auto)))))) H.auto)) H.auto)))))) = ((decide ((↑(List.length t) : Int) > (100 : Int)) = true → Q ([TV.pv (PV.bool true)], [])) ∧ (decide ((↑(List.length t) : Int) > (100 : Int)) = false → (∃ (ns : List Int), a = List.map (fun (n : Int) ↦ [PV.int IntKind.i64 n]) ns) ∧ List.length (textF a) ≤ (4000000 : Nat) ∧ (∃ (A : List Ln), ∃ (tl : List (List UInt8)), [] = List.map row A ∧ [[PV.str t], [PV.str [(98 : UInt8)]]] = List.map (fun (t : List UInt8) ↦ [PV.str t]) tl ∧ List.length A + List.length tl ≤ (4000000 : Nat)) ∧ (flatTVs [TV.own (2 : Nat) (putR [] k [[PV.str t], [PV.str [(98 : UInt8)]]])] && true) = true ∧ ¬IntKind.wrap IntKind.i64 ((↑(List.length (List.map row (linesF (textF a)))) : Int) + (5 : Int)) = (0 : Int) ∧ (∃ (A : List Ln), ∃ (tl : List (List UInt8)), List.map row (linesF (textF a)) = List.map row A ∧ [] = List.map (fun (t : List UInt8) ↦ [PV.str t]) tl ∧ List.length A + List.length tl ≤ (4000000 : Nat)) ∧ (flatTVs [TV.own (2 : Nat) (putR (List.map row (linesF (textF a))) (IntKind.wrap IntKind.i64 (wi k (IntKind.wrap IntKind.i64 ((↑(List.length (List.map row (linesF (textF a)))) : Int) + (5 : Int))) - (2 : Int))) [])] && true) = true ∧ ((∃ (A : List Ln), putR (List.map row (linesF (textF a))) (IntKind.wrap IntKind.i64 (wi k (IntKind.wrap IntKind.i64 ((↑(List.length (List.map row (linesF (textF a)))) : Int) + (5 : Int))) - (2 : Int))) [] = List.map row A ∧ List.length A ≤ room) ∧ ∃ (B : List Ln), List.map row (linesF (textF a)) = List.map row B) ∧ (sameF (putR (List.map row (linesF (textF a))) (IntKind.wrap IntKind.i64 (wi k (IntKind.wrap IntKind.i64 ((↑(List.length (List.map row (linesF (textF a)))) : Int) + (5 : Int))) - (2 : Int))) []) (List.map row (linesF (textF a))) = true → (((↑(List.length (putR [] k [[PV.str t], [PV.str [(98 : UInt8)]]])) : Int) == (2 : Int)) = true → ((0 : Int) ≤ (0 : Int) ∧ (0 : Int) < (↑(List.length (putR [] k [[PV.str t], [PV.str [(98 : UInt8)]]])) : Int)) ∧ ∃ (c : List PV), (putR [] k [[PV.str t], [PV.str [(98 : UInt8)]]])[(0 : Nat)]? = some c ∧ (2 : Nat) ≤ List.length c ∧ ∃ (s : List UInt8), ∃ (s_1 : List UInt8), List.take (2 : Nat) c = [PV.str s, PV.str s_1] ∧ ((s == t && (s_1 == [(10 : UInt8)] && true)) = true → ((0 : Int) ≤ (1 : Int) ∧ (1 : Int) < (↑(List.length (putR [] k [[PV.str t], [PV.str [(98 : UInt8)]]])) : Int)) ∧ ∃ (c : List PV), (putR [] k [[PV.str t], [PV.str [(98 : UInt8)]]])[(1 : Nat)]? = some c ∧ (2 : Nat) ≤ List.length c ∧ ∃ (s : List UInt8), ∃ (s_2 : List UInt8), List.take (2 : Nat) c = [PV.str s, PV.str s_2] ∧ Q ([TV.pv (PV.bool (s == [(98 : UInt8)] && (s_2 == [(10 : UInt8)] && true)))], [])) ∧ ((s == t && (s_1 == [(10 : UInt8)] && true)) = false → Q ([TV.pv (PV.bool false)], []))) ∧ (((↑(List.length (putR [] k [[PV.str t], [PV.str [(98 : UInt8)]]])) : Int) == (2 : Int)) = false → Q ([TV.pv (PV.bool false)], []))) ∧ (sameF (putR (List.map row (linesF (textF a))) (IntKind.wrap IntKind.i64 (wi k (IntKind.wrap IntKind.i64 ((↑(List.length (List.map row (linesF (textF a)))) : Int) + (5 : Int))) - (2 : Int))) []) (List.map row (linesF (textF a))) = false → Q ([TV.pv (PV.bool false)], [])))) := by kernel_rfl

theorem fixTo_all (e : List UInt8) (L : List Ln) : ∀ i, i ≤ L.length → (∀ j (h : j < L.length), j < i → ¬ L[j].2 = []) → fixTo e L i = L
  | 0, _, _ => by simp [fixTo]
  | i + 1, hi, h => by
    rw [← fixTo_same e L (show i < L.length by omega) (h i (by omega) (by omega))]
    exact fixTo_all e L i (by omega) fun j hj hji => h j hj (by omega)

theorem strip_ne (p : List UInt8) : ¬ (strip p).2 = [] := by unfold strip; split <;> simp

theorem lines_ends : ∀ (s acc : List UInt8) (j : Nat) (h : j < (linesG acc s).length), j < (linesG acc s).length - 1 → ¬ (linesG acc s)[j].2 = []
  | [], acc, j, h, h2 => by
    have : (linesG acc []).length ≤ 1 := by simp only [linesG]; split <;> simp
    omega
  | c :: r, acc, j, h, h2 => by
    by_cases hc : c = 10
    · have e : linesG acc (c :: r) = strip acc :: linesG [] r := by simp [linesG, hc]
      simp only [e] at h h2 ⊢
      cases j with
      | zero => exact strip_ne acc
      | succ j =>
        simp only [List.length_cons] at h h2
        simp only [List.getElem_cons_succ]
        exact lines_ends r [] j (by omega) (by omega)
    · have e : linesG acc (c :: r) = linesG (acc ++ [c]) r := by simp [linesG, hc]
      simp only [e] at h h2 ⊢
      exact lines_ends r (acc ++ [c]) j h h2

theorem putF_none (s : List UInt8) (k : Int) : putF (linesF s) k [] = linesF s := by
  unfold putF
  simp only [List.map_nil, List.append_nil, List.length_nil, Nat.add_zero, List.take_append_drop]
  exact fixTo_all _ _ _ (by omega) fun j hj h2 => lines_ends s [] j hj h2

theorem putR_two (k : Int) (t u : List UInt8) : putR [] k [[.str t], [.str u]] = [[.str t, .str [10]], [.str u, .str [10]]] := by
  simp [putR, endR, cl]

set_option maxRecDepth 100000 in
theorem ln_ev (ns : List Int) (k : Int) (t : List UInt8) : Ev C 6 [.pv (.sl (ns.map fun n => [.int .i64 n])), .pv (.int .i64 k), .pv (.str t)] good := by
  have hr := room_val
  have key := ln_w (ns.map fun n => [.int .i64 n]) k t (fun r => r = good)
  refine ev_of (specL_ok (specs_cons text_ok (specs_cons rsplit_ok (specs_cons same_ok (specs_cons putL_ok (specs_cons within1_ok specs_nil)))))) (key.mpr ⟨fun _ => rfl, fun _ => ?_⟩)
  clear key
  have ht := textF_len (ns.map fun n => [.int .i64 n])
  generalize textF (ns.map fun n => [.int .i64 n]) = s at *
  have l1 := lines_len s []
  have l2 : (linesF s).length ≤ s.length := by simpa [linesF] using l1
  have ep : ∀ j : Int, putR ((linesF s).map row) j [] = (linesF s).map row := fun j => by
    have := putR_rows (linesF s) j []
    rw [putF_none] at this
    exact this
  rw [ep, putR_two, sameF_true rfl]
  have f2 := flat_rows [(t, [10]), ([98], [10])]
  refine ⟨⟨ns, rfl⟩, by omega, ⟨[], [t, [98]], rfl, rfl, by simp⟩, f2, ?_, ⟨_, [], rfl, rfl, by simp; omega⟩, flat_rows _, ⟨⟨_, rfl, by omega⟩, _, rfl⟩, fun _ => ⟨fun _ => ⟨⟨by omega, by simp⟩, _, rfl, by simp, t, [10], rfl, fun _ => ⟨⟨by omega, by simp⟩, _, rfl, by simp, [98], [10], rfl, rfl⟩, fun h => ?_⟩, fun h => ?_⟩, fun h => by simp at h⟩
  · rw [IntWalk.i64_in _ (by simp; omega)]; omega
  · simp at h
  · simp at h

theorem LinesNone_calls {p q r : Prop} (ns : List Int) (_h1 : p) (k : Int) (_h2 : q) (t : List UInt8) (_h3 : r) {w : World} {args : List Value} (hr : RepA w noCells [.sl (ns.map fun n => [.int .i64 n]), .int .i64 k, .str t] args) : Calls Try.prog 6 args.toArray w fun e w' => e = .returned (.bool true) ∧ Below w.heap.size w w' := by
  obtain ⟨j, h⟩ := (ln_ev ns k t).get
  exact law_calls (C := C) progOKp Try.func6 (by kernel_rfl) (sound h) hr

end Go.Proofs.Ytpcjlhhhmjgffaa.Vm
