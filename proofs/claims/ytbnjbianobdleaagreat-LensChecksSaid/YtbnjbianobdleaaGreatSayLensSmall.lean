/-
  Small trees, sets of a few names, in the machine.
-/
import Derived.Test.YtbnjbianobdleaaGreatSayNamesLaw
import Derived.Test.YtbnjbianobdleaaGreatSayTreePlain
namespace Go.Proofs.YtbnjbianobdleaaGreat.Vm
open Go Go.RowKit
set_option linter.unusedVariables false
set_option linter.unusedSimpArgs false
set_option maxRecDepth 100000

/-- One of five names, by a number. -/
def nm5 (k : Int) : List UInt8 := if k = 1 then [97] else if k = 2 then [98] else if k = 3 then [99] else if k = 4 then [100] else []
def nmOf (s : List UInt8) : List UInt8 := nm5 (wi (s.length : Int) 5)
/-- A tree of a few names, of raw edges: so many beside one another, so deep. -/
def smallF (w : Nat) : Nat → Tr → Tr
  | 0, _ => .nil
  | d + 1, l => Tr.of ((l.list.take w).foldl (fun acc e => withE acc (nmOf e.1) (smallF w d e.2)) [])

noncomputable def mk3R (l : List (List PV)) : List (List PV) := (((unstr l).take 6).map nmOf).map strRow

theorem w3_w (a n : Int) (Q : List TV × List TV → Prop) : (wFun C noSpec 37 [.pv (.int .i64 a), .pv (.int .i64 n)] Q) (H.s (H.b H.auto H.auto)) = (¬n = (0 : Int) ∧ (decide (Int.tmod a n < (0 : Int)) = true → Q ([TV.pv (PV.int IntKind.i64 (IntKind.wrap IntKind.i64 (Int.tmod a n + n)))], [])) ∧ (decide (Int.tmod a n < (0 : Int)) = false → Q ([TV.pv (PV.int IntKind.i64 (Int.tmod a n))], []))) := by kernel_rfl

theorem w4_w (a n : Int) (Q : List TV × List TV → Prop) : (wFun C noSpec 39 [.pv (.int .i64 a), .pv (.int .i64 n)] Q) (H.s (H.b H.auto H.auto)) = (¬n = (0 : Int) ∧ (decide (Int.tmod a n < (0 : Int)) = true → Q ([TV.pv (PV.int IntKind.i64 (IntKind.wrap IntKind.i64 (Int.tmod a n + n)))], [])) ∧ (decide (Int.tmod a n < (0 : Int)) = false → Q ([TV.pv (PV.int IntKind.i64 (Int.tmod a n))], []))) := by kernel_rfl

noncomputable def g_small (w N : Nat) : List TV → Option Alts
  | [.pv (.sl a), .pv (.int .i64 w'), .pv (.int .i64 d')] => one (∃ l : Tr, a = l.rows ∧ l.list.length ≤ 140737488351232 ∧ l.lim 140737488351232 ∧ w' = w ∧ 0 ≤ d' ∧ d' < N ∧ w ≤ 4000) ([.own 2 (smallF w d'.toNat (unrow a)).rows], [])
  | _ => none

noncomputable def S_small (w N : Nat) : Specs := specL [(38, g_with), (39, g_within), (16, g_small w N)]

theorem sm_w (w N : Nat) (a : List (List PV)) (w' d' : Int) (Q : List TV × List TV → Prop) : (wFun C (S_small w N) 16 [.pv (.sl a), .pv (.int .i64 w'), .pv (.int .i64 d')] Q) (H.auto) = (LoopAt C (16 : FuncId) (CP.dn (CP.dn (CP.dn (CP.dn (CP.dn CP.top (1 : Nat)) (1 : Nat)) (0 : Nat)) (1 : Nat)) (0 : Nat)) (St.mk [((0 : Nat), AV.pv (PV.sl a)), ((1 : Nat), AV.pv (PV.int IntKind.i64 w')), ((2 : Nat), AV.pv (PV.int IntKind.i64 d')), ((7 : Nat), AV.own (14 : Nat)), ((8 : Nat), AV.pv (PV.int IntKind.i64 (0 : Int)))] [((14 : Nat), Obj.buf (2 : Nat) [])]) (exK (blockK (0 : Nat) (seqK (wAt C (S_small w N) (16 : FuncId) (99997 : Nat) (CP.dn (CP.dn (CP.dn CP.top (1 : Nat)) (1 : Nat)) (1 : Nat))) (retK C (16 : FuncId) [TV.pv (PV.sl a), TV.pv (PV.int IntKind.i64 w'), TV.pv (PV.int IntKind.i64 d')] Q))))) := by kernel_rfl

def sm_c0 : CP := (CP.dn (CP.dn (CP.dn (CP.dn (CP.dn CP.top (1 : Nat)) (1 : Nat)) (0 : Nat)) (1 : Nat)) (0 : Nat))

def sm_h0 (t0 : List (List PV)) (t1 : Int) (t2 : Int) (t8 : Int) (o14 : List (List PV)) : St := (St.mk [((0 : Nat), AV.pv (PV.sl t0)), ((1 : Nat), AV.pv (PV.int IntKind.i64 t1)), ((2 : Nat), AV.pv (PV.int IntKind.i64 t2)), ((7 : Nat), AV.own (14 : Nat)), ((8 : Nat), AV.pv (PV.int IntKind.i64 t8))] [((14 : Nat), Obj.buf (2 : Nat) o14)])

theorem sm_l0 (w N : Nat) (a : List (List PV)) (w' d' : Int) (t0 : List (List PV)) (t1 : Int) (t2 : Int) (t8 : Int) (o14 : List (List PV))  (J0 : St → Prop) (Q : List TV × List TV → Prop) : (wAt C (S_small w N) 16 1000 (sm_c0.dn 0) (sm_h0 t0 t1 t2 t8 o14) (loopK C 16 sm_c0 J0 (exK (blockK (0 : Nat) (seqK (wAt C (S_small w N) (16 : FuncId) (99997 : Nat) (CP.dn (CP.dn (CP.dn CP.top (1 : Nat)) (1 : Nat)) (1 : Nat))) (retK C (16 : FuncId) [TV.pv (PV.sl a), TV.pv (PV.int IntKind.i64 w'), TV.pv (PV.int IntKind.i64 d')] Q)))))) (H.b (H.n (3 : Nat) (H.b (H.n (2 : Nat) (H.b (H.s (H.s (H.s (H.s (H.s (H.s H.auto)))))) H.auto)) H.auto)) H.auto) = ((decide (t8 < (↑(List.length t0) : Int)) = true → (decide (t8 < t1) = true → (decide (t2 > (0 : Int)) = true → (0 : Int) ≤ t8 ∧ ∃ (s : List UInt8), ∃ (es : List (List PV)), t0[Int.toNat t8]? = some [PV.str s, PV.sl es] ∧ ¬(5 : Int) = (0 : Int) ∧ ((0 : Int) ≤ wi (↑(List.length s) : Int) (5 : Int) ∧ wi (↑(List.length s) : Int) (5 : Int) < (5 : Int)) ∧ ∃ (c : List PV), [[PV.str []], [PV.str [(97 : UInt8)]], [PV.str [(98 : UInt8)]], [PV.str [(99 : UInt8)]], [PV.str [(100 : UInt8)]]][Int.toNat (wi (↑(List.length s) : Int) (5 : Int))]? = some c ∧ (1 : Nat) ≤ List.length c ∧ ∃ (s : List UInt8), List.take (1 : Nat) c = [PV.str s] ∧ (0 : Int) ≤ t8 ∧ ∃ (s_1 : List UInt8), ∃ (es : List (List PV)), t0[Int.toNat t8]? = some [PV.str s_1, PV.sl es] ∧ (∃ (l : Tr), es = Tr.rows l ∧ List.length (Tr.list l) ≤ (140737488351232 : Nat) ∧ Tr.lim (140737488351232 : Nat) l ∧ t1 = (↑w : Int) ∧ (0 : Int) ≤ IntKind.wrap IntKind.i64 (t2 - (1 : Int)) ∧ IntKind.wrap IntKind.i64 (t2 - (1 : Int)) < (↑N : Int) ∧ w ≤ (4000 : Nat)) ∧ (∃ (t : Tr), ∃ (u : Tr), o14 = Tr.rows t ∧ Tr.rows (smallF w (Int.toNat (IntKind.wrap IntKind.i64 (t2 - (1 : Int)))) (unrow es)) = Tr.rows u ∧ List.length (Tr.list t) ≤ (4000000 : Nat)) ∧ J0 (St.mk [((0 : Nat), AV.pv (PV.sl t0)), ((1 : Nat), AV.pv (PV.int IntKind.i64 t1)), ((2 : Nat), AV.pv (PV.int IntKind.i64 t2)), ((7 : Nat), AV.own (14 : Nat)), ((8 : Nat), AV.pv (PV.int IntKind.i64 (IntKind.wrap IntKind.i64 (t8 + (1 : Int)))))] [((14 : Nat), Obj.buf (2 : Nat) (Tr.rows (Tr.of (withE (Tr.list (unrow o14)) s (unrow (Tr.rows (smallF w (Int.toNat (IntKind.wrap IntKind.i64 (t2 - (1 : Int)))) (unrow es))))))))])) ∧ (decide (t2 > (0 : Int)) = false → ∃ (h : H), Q ([TV.own (2 : Nat) o14], []))) ∧ (decide (t8 < t1) = false → ∃ (h : H), Q ([TV.own (2 : Nat) o14], []))) ∧ (decide (t8 < (↑(List.length t0) : Int)) = false → ∃ (h : H), Q ([TV.own (2 : Nat) o14], []))) := by kernel_rfl

noncomputable def S_m3 : Specs := specL [(37, g_within)]

theorem m3_w (b : Bool) (l : List (List PV)) (Q : List TV × List TV → Prop) : (wFun C S_m3 15 [.pv (.agg [.bool b, .sl l])] Q) (H.auto) = (LoopAt C (15 : FuncId) (CP.dn (CP.dn (CP.dn (CP.dn (CP.dn CP.top (1 : Nat)) (1 : Nat)) (0 : Nat)) (1 : Nat)) (0 : Nat)) (St.mk [((1 : Nat), AV.addr (2 : Nat) (0 : Nat) (0 : Nat)), ((2 : Nat), AV.addr (4 : Nat) (0 : Nat) (0 : Nat)), ((3 : Nat), AV.addr (6 : Nat) (0 : Nat) (0 : Nat)), ((4 : Nat), AV.pv (PV.int IntKind.i64 (0 : Int)))] [((2 : Nat), Obj.box [AV.pv (PV.bool b), AV.pv (PV.sl l)]), ((4 : Nat), Obj.box [AV.pv (PV.bool false), AV.own (10002 : Nat)]), ((6 : Nat), Obj.box [AV.pv (PV.bool b), AV.nilSl]), ((10002 : Nat), Obj.buf (1 : Nat) [])]) (exK (blockK (0 : Nat) (seqK (wAt C S_m3 (15 : FuncId) (99997 : Nat) (CP.dn (CP.dn (CP.dn CP.top (1 : Nat)) (1 : Nat)) (1 : Nat))) (retK C (15 : FuncId) [TV.pv (PV.agg [PV.bool b, PV.sl l])] Q))))) := by kernel_rfl

def m3_c0 : CP := (CP.dn (CP.dn (CP.dn (CP.dn (CP.dn CP.top (1 : Nat)) (1 : Nat)) (0 : Nat)) (1 : Nat)) (0 : Nat))

def m3_h0 (t4 : Int) (o2 : Bool) (o2b : List (List PV)) (o6 : Bool) (o10002 : List (List PV)) : St := (St.mk [((1 : Nat), AV.addr (2 : Nat) (0 : Nat) (0 : Nat)), ((2 : Nat), AV.addr (4 : Nat) (0 : Nat) (0 : Nat)), ((3 : Nat), AV.addr (6 : Nat) (0 : Nat) (0 : Nat)), ((4 : Nat), AV.pv (PV.int IntKind.i64 t4))] [((2 : Nat), Obj.box [AV.pv (PV.bool o2), AV.pv (PV.sl o2b)]), ((4 : Nat), Obj.box [AV.pv (PV.bool false), AV.own (10002 : Nat)]), ((6 : Nat), Obj.box [AV.pv (PV.bool o6), AV.nilSl]), ((10002 : Nat), Obj.buf (1 : Nat) o10002)])

theorem m3_l0 (b : Bool) (l : List (List PV)) (t4 : Int) (o2 : Bool) (o2b : List (List PV)) (o6 : Bool) (o10002 : List (List PV))  (J0 : St → Prop) (Q : List TV × List TV → Prop) : (wAt C S_m3 15 1000 (m3_c0.dn 0) (m3_h0 t4 o2 o2b o6 o10002) (loopK C 15 m3_c0 J0 (exK (blockK (0 : Nat) (seqK (wAt C S_m3 (15 : FuncId) (99997 : Nat) (CP.dn (CP.dn (CP.dn CP.top (1 : Nat)) (1 : Nat)) (1 : Nat))) (retK C (15 : FuncId) [TV.pv (PV.agg [PV.bool b, PV.sl l])] Q)))))) (H.b (H.n (2 : Nat) (H.b (H.s (H.s (H.s (H.s H.auto)))) H.auto)) H.auto) = ((decide (t4 < (↑(List.length o2b) : Int)) = true → (decide (t4 < (6 : Int)) = true → (0 : Int) ≤ t4 ∧ ∃ (s : List UInt8), o2b[Int.toNat t4]? = some [PV.str s] ∧ ¬(5 : Int) = (0 : Int) ∧ ((0 : Int) ≤ wi (↑(List.length s) : Int) (5 : Int) ∧ wi (↑(List.length s) : Int) (5 : Int) < (5 : Int)) ∧ ∃ (c : List PV), [[PV.str []], [PV.str [(97 : UInt8)]], [PV.str [(98 : UInt8)]], [PV.str [(99 : UInt8)]], [PV.str [(100 : UInt8)]]][Int.toNat (wi (↑(List.length s) : Int) (5 : Int))]? = some c ∧ (1 : Nat) ≤ List.length c ∧ ∃ (s : List UInt8), List.take (1 : Nat) c = [PV.str s] ∧ J0 (St.mk [((1 : Nat), AV.addr (2 : Nat) (0 : Nat) (0 : Nat)), ((2 : Nat), AV.addr (4 : Nat) (0 : Nat) (0 : Nat)), ((3 : Nat), AV.addr (6 : Nat) (0 : Nat) (0 : Nat)), ((4 : Nat), AV.pv (PV.int IntKind.i64 (IntKind.wrap IntKind.i64 (t4 + (1 : Int)))))] [((2 : Nat), Obj.box [AV.pv (PV.bool o2), AV.pv (PV.sl o2b)]), ((4 : Nat), Obj.box [AV.pv (PV.bool false), AV.own (10002 : Nat)]), ((6 : Nat), Obj.box [AV.pv (PV.bool o6), AV.own (14002 : Nat)]), ((10002 : Nat), Obj.buf (1 : Nat) o10002), ((14002 : Nat), Obj.buf (1 : Nat) [[PV.str s]])])) ∧ (decide (t4 < (6 : Int)) = false → ∃ (h : H), Q ([TV.pv (PV.agg [PV.bool o6, PV.sl []])], []))) ∧ (decide (t4 < (↑(List.length o2b) : Int)) = false → ∃ (h : H), Q ([TV.pv (PV.agg [PV.bool o6, PV.sl []])], []))) := by kernel_rfl

def m3_hB (t4 : Int) (o2 : Bool) (o2b : List (List PV)) (o6 : Bool) (o10002 o14002 : List (List PV)) : St := (St.mk [((1 : Nat), AV.addr 2 0 0), ((2 : Nat), AV.addr 4 0 0), ((3 : Nat), AV.addr 6 0 0), ((4 : Nat), AV.pv (PV.int IntKind.i64 t4))] [((2 : Nat), Obj.box [AV.pv (PV.bool o2), AV.pv (PV.sl o2b)]), ((4 : Nat), Obj.box [AV.pv (PV.bool false), AV.own 10002]), ((6 : Nat), Obj.box [AV.pv (PV.bool o6), AV.own 14002]), ((10002 : Nat), Obj.buf 1 o10002), ((14002 : Nat), Obj.buf 1 o14002)])

theorem m3_lB (b : Bool) (l : List (List PV)) (t4 : Int) (o2 : Bool) (o2b : List (List PV)) (o6 : Bool) (o10002 o14002 : List (List PV)) (J0 : St → Prop) (Q : List TV × List TV → Prop) : (wAt C S_m3 15 1000 (m3_c0.dn 0) (m3_hB t4 o2 o2b o6 o10002 o14002) (loopK C 15 m3_c0 J0 (exK (blockK (0 : Nat) (seqK (wAt C S_m3 (15 : FuncId) (99997 : Nat) (CP.dn (CP.dn (CP.dn CP.top (1 : Nat)) (1 : Nat)) (1 : Nat))) (retK C (15 : FuncId) [TV.pv (PV.agg [PV.bool b, PV.sl l])] Q)))))) (H.b (H.n (2 : Nat) (H.b (H.s (H.s (H.s (H.s (H.s H.auto))))) H.auto)) H.auto) = ((decide (t4 < (↑(List.length o2b) : Int)) = true → (decide (t4 < (6 : Int)) = true → (0 : Int) ≤ t4 ∧ ∃ (s : List UInt8), o2b[Int.toNat t4]? = some [PV.str s] ∧ ¬(5 : Int) = (0 : Int) ∧ ((0 : Int) ≤ wi (↑(List.length s) : Int) (5 : Int) ∧ wi (↑(List.length s) : Int) (5 : Int) < (5 : Int)) ∧ ∃ (c : List PV), [[PV.str []], [PV.str [(97 : UInt8)]], [PV.str [(98 : UInt8)]], [PV.str [(99 : UInt8)]], [PV.str [(100 : UInt8)]]][Int.toNat (wi (↑(List.length s) : Int) (5 : Int))]? = some c ∧ (1 : Nat) ≤ List.length c ∧ ∃ (s : List UInt8), List.take (1 : Nat) c = [PV.str s] ∧ ((List.length o14002 + (1 : Nat)) * (16 : Nat) ≤ room ∧ List.length o14002 + (1 : Nat) ≤ maxInt) ∧ J0 (St.mk [((1 : Nat), AV.addr (2 : Nat) (0 : Nat) (0 : Nat)), ((2 : Nat), AV.addr (4 : Nat) (0 : Nat) (0 : Nat)), ((3 : Nat), AV.addr (6 : Nat) (0 : Nat) (0 : Nat)), ((4 : Nat), AV.pv (PV.int IntKind.i64 (IntKind.wrap IntKind.i64 (t4 + (1 : Int)))))] [((2 : Nat), Obj.box [AV.pv (PV.bool o2), AV.pv (PV.sl o2b)]), ((4 : Nat), Obj.box [AV.pv (PV.bool false), AV.own (10002 : Nat)]), ((6 : Nat), Obj.box [AV.pv (PV.bool o6), AV.own (14002 : Nat)]), ((10002 : Nat), Obj.buf (1 : Nat) o10002), ((14002 : Nat), Obj.buf (1 : Nat) (o14002 ++ [[PV.str s]]))])) ∧ (decide (t4 < (6 : Int)) = false → ∃ (h : H), Q ([TV.pv (PV.agg [PV.bool o6, PV.sl o14002])], []))) ∧ (decide (t4 < (↑(List.length o2b) : Int)) = false → ∃ (h : H), Q ([TV.pv (PV.agg [PV.bool o6, PV.sl o14002])], []))) := by kernel_rfl

theorem w3_ev (a n : Int) (hn : ¬ n = 0) : Ev C 37 [.pv (.int .i64 a), .pv (.int .i64 n)] ([.pv (.int .i64 (wi a n))], []) := by
  refine ev_w noSpec_ok (w3_w a n _) ⟨hn, fun h => ?_, fun h => ?_⟩
  · simp only [decide_eq_true_eq] at h; simp [wi, h]
  · simp only [decide_eq_false_iff_not] at h; simp [wi, h]
theorem w4_ev (a n : Int) (hn : ¬ n = 0) : Ev C 39 [.pv (.int .i64 a), .pv (.int .i64 n)] ([.pv (.int .i64 (wi a n))], []) := by
  refine ev_w noSpec_ok (w4_w a n _) ⟨hn, fun h => ?_, fun h => ?_⟩
  · simp only [decide_eq_true_eq] at h; simp [wi, h]
  · simp only [decide_eq_false_iff_not] at h; simp [wi, h]
theorem five_get {k : Int} (h : 0 ≤ k ∧ k < 5) : [[PV.str []], [PV.str [(97 : UInt8)]], [PV.str [(98 : UInt8)]], [PV.str [(99 : UInt8)]], [PV.str [(100 : UInt8)]]][Int.toNat k]? = some [PV.str (nm5 k)] := by
  have : k = 0 ∨ k = 1 ∨ k = 2 ∨ k = 3 ∨ k = 4 := by omega
  rcases this with rfl | rfl | rfl | rfl | rfl <;> rfl

theorem smallF_succ (w d : Nat) (l : Tr) : smallF w (d + 1) l = Tr.of ((l.list.take w).foldl (fun acc e => withE acc (nmOf e.1) (smallF w d e.2)) []) := rfl
def smallS (w d : Nat) (acc : List Edge) (e : Edge) : List Edge := withE acc (nmOf e.1) (smallF w d e.2)

theorem smallF_s (w d : Nat) (l : Tr) : smallF w (d + 1) l = Tr.of ((l.list.take w).foldl (smallS w d) []) := rfl
theorem smallS_len (w d : Nat) (l : List Edge) : ∀ acc : List Edge, (l.foldl (smallS w d) acc).length ≤ acc.length + l.length := by
  induction l with
  | nil => intro acc; simp
  | cons e l ih =>
    intro acc
    have h1 := ih (smallS w d acc e)
    have h2 := withE_len acc (nmOf e.1) (smallF w d e.2)
    simp only [List.foldl_cons, List.length_cons] at h1 ⊢
    unfold smallS at h1 ⊢
    omega

theorem small_ev (w : Nat) (hw : w ≤ 4000) : ∀ (d : Nat) (l : Tr), d ≤ 4000 → l.list.length ≤ 140737488351232 → l.lim 140737488351232 → Ev C 16 [.pv (.sl l.rows), .pv (.int .i64 w), .pv (.int .i64 d)] ([.own 2 (smallF w d l).rows], []) := by
  intro d
  induction d using Nat.strongRecOn with
  | _ d ih =>
  intro l hd hl1 hl2
  have hS : SpecOK C (S_small w d) := specL_ok (specs_cons with_ok (specs_cons (g_within_ok w4_ev) (specs_cons (by
    intro ag al hl x hx hp
    unfold g_small at hl
    split at hl
    · rename_i a w' d'
      have e := one_mem hl hx; subst e
      obtain ⟨u, rfl, h1, h2, rfl, h3, h4, h5⟩ := hp
      rw [unrow_rows]
      have := ih d'.toNat (by omega) u (by omega) h1 h2
      rwa [show ((d'.toNat : Nat) : Int) = d' by omega] at this
    · exact absurd hl (by simp)) specs_nil)))
  have hlen := rows_len l
  refine ev_w hS (sm_w w d l.rows w d _) ?_
  refine loop_rule hS (by kernel_rfl) 1000 (fun m st => ∃ i : Nat, st = sm_h0 l.rows w d i (Tr.of ((l.list.take i).foldl (smallS w (d - 1)) [])).rows ∧ i ≤ l.list.length ∧ i ≤ w ∧ (i = 0 ∨ 0 < d) ∧ m = l.list.length - i) ?_ (n := l.list.length) ⟨0, rfl, by omega, by omega, .inl rfl, rfl⟩
  rintro m st ⟨i, rfl, hi, hiw, hid, rfl⟩
  have hacc : ((l.list.take i).foldl (smallS w (d - 1)) []).length ≤ i := by
    have := smallS_len w (d - 1) (l.list.take i) []
    simp only [List.length_nil, List.length_take] at this; omega
  have fin : (l.list.length ≤ i ∨ w ≤ i ∨ d = 0) → Tr.of ((l.list.take i).foldl (smallS w (d - 1)) []) = smallF w d l := by
    intro h
    cases d with
    | zero =>
      have : i = 0 := by omega
      subst this
      rfl
    | succ d =>
      rw [smallF_s, Nat.add_sub_cancel]
      have : l.list.take i = l.list.take w := by
        rcases Nat.lt_or_ge i w with h2 | h2
        · rw [List.take_of_length_le (by omega), List.take_of_length_le (by omega)]
        · rw [show i = w by omega]
      rw [this]
  refine ex_w (sm_l0 _ _ _ _ _ _ _ _ _ _ _ _) ⟨fun h => ⟨fun h2 => ⟨fun h3 => ?_, fun h3 => ?_⟩, fun h2 => ?_⟩, fun h => ?_⟩
  · simp only [decide_eq_true_eq, gt_iff_lt] at h h2 h3
    have hi' : i < l.list.length := by omega
    have w1 := w64s (i := i) (by omega)
    have w2 : IntKind.wrap .i64 ((d : Int) - 1) = ((d - 1 : Nat) : Int) := by rw [w64 (by omega)]; omega
    obtain ⟨m1, m2, m3⟩ := lim_mem hl2 (List.getElem_mem hi')
    have hw5 : 0 ≤ wi (l.list[i].1.length : Int) 5 ∧ wi (l.list[i].1.length : Int) 5 < 5 := wi_range (n := 5) (by omega) (by omega)
    refine ⟨by omega, _, _, row_get l hi', by decide, hw5, _, five_get hw5, by simp, nmOf l.list[i].1, rfl, by omega, _, _, row_get l hi', ?_⟩
    rw [w2, unrow_rows, unrow_rows, unrow_rows, w1]
    simp only [Int.toNat_natCast, list_of]
    refine ⟨⟨_, rfl, m2, m3, trivial, by omega, by omega, hw⟩, ⟨_, _, rfl, rfl, by rw [list_of]; omega⟩, l.list.length - (i + 1), by omega, i + 1, ?_, by omega, by omega, .inr (by omega), rfl⟩
    rw [List.take_succ_eq_append_getElem hi', List.foldl_append]
    rfl
  · simp only [decide_eq_false_iff_not, gt_iff_lt] at h3
    exact ⟨.auto, by rw [fin (.inr (.inr (by omega)))]⟩
  · simp only [decide_eq_false_iff_not] at h2
    exact ⟨.auto, by rw [fin (.inr (.inl (by omega)))]⟩
  · simp only [decide_eq_false_iff_not] at h
    exact ⟨.auto, by rw [fin (.inl (by omega))]⟩

theorem small_mem {w d : Nat} (P : Edge → Prop) : ∀ {l : List Edge} {acc : List Edge}, (∀ e ∈ acc, P e) → (∀ e ∈ l, P (nmOf e.1, smallF w d e.2)) → ∀ e ∈ l.foldl (smallS w d) acc, P e
  | [], acc, h, _ => h
  | a :: l, acc, h, hl => by
    rw [List.foldl_cons]
    refine small_mem P (l := l) (acc := smallS w d acc a) (fun e he => ?_) (fun e he => hl e (by simp [he]))
    rcases withE_mem he with he | rfl
    · exact h e he
    · exact hl a (by simp)
theorem small_wide (w : Nat) (l : Tr) : ∀ d, (smallF w d l).list.length ≤ w
  | 0 => by simp [smallF, Tr.list]
  | d + 1 => by
    rw [smallF_s, list_of]
    have := smallS_len w d (l.list.take w) []
    simp only [List.length_nil, List.length_take] at this
    omega
theorem small_nodes (w : Nat) : ∀ (d : Nat) (l : Tr), (smallF w d l).nodes ≤ l.nodes
  | 0, l => by simp [smallF, Tr.nodes]
  | d + 1, l => by
    have key : ∀ (m acc : List Edge), sumN (m.foldl (smallS w d) acc) ≤ sumN acc + sumN m := by
      intro m
      induction m with
      | nil => intro acc; simp [sumN]
      | cons e m ih =>
        intro acc
        have h1 := ih (smallS w d acc e)
        have h2 := withE_sum acc (nmOf e.1) (smallF w d e.2)
        have h3 := small_nodes w d e.2
        have h4 : sumN (e :: m) = e.2.nodes + 1 + sumN m := by simp [sumN]
        simp only [List.foldl_cons]
        unfold smallS at h1 ⊢
        omega
    rw [smallF_s, nodes_sum]
    have h1 := key (l.list.take w) []
    have h2 : sumN l.list = sumN (l.list.take w) + sumN (l.list.drop w) := by rw [← sumN_app, List.take_append_drop]
    have h3 : l.nodes = sumN l.list := by rw [← nodes_sum, of_list]
    have h4 : sumN ([] : List Edge) = 0 := rfl
    omega

theorem nm5_len (k : Int) : (nm5 k).length ≤ 1 := by
  unfold nm5
  split
  · simp
  · split
    · simp
    · split
      · simp
      · split <;> simp
theorem small_srt {w d : Nat} : ∀ {l acc : List Edge}, sortE none acc → sortE none (l.foldl (smallS w d) acc)
  | [], acc, h => h
  | e :: l, acc, h => small_srt (l := l) (sortE_drop _ _ h rfl)
theorem small_sound (w : Nat) : ∀ (d : Nat) (l : Tr) (e : Int), e + d ≤ 13 → (smallF w d l).sound none e
  | 0, l, e, _ => trivial
  | d + 1, l, e, h => by
    rw [smallF_s]
    refine sound_of (by omega) (small_srt trivial) ?_
    exact small_mem (fun e' => e'.1.length ≤ 80 ∧ e'.2.sound none (e + 1)) (by simp) fun y hy => ⟨Nat.le_trans (nm5_len _) (by decide), small_sound w d y.2 (e + 1) (by omega)⟩

noncomputable def g_smallA : List TV → Option Alts
  | [.pv (.sl a), .pv (.int .i64 w), .pv (.int .i64 d)] => one (∃ l : Tr, a = l.rows ∧ l.list.length ≤ 140737488351232 ∧ l.lim 140737488351232 ∧ (0 ≤ w ∧ w ≤ 4000) ∧ 0 ≤ d ∧ d ≤ 4000) ([.own 2 (smallF w.toNat d.toNat (unrow a)).rows], [])
  | _ => none
theorem smallA_ok : ∀ ag al, g_smallA ag = some al → ∀ a ∈ al, a.1 → Ev C 16 ag a.2 := by
  intro ag al hl x hx hp
  unfold g_smallA at hl
  split at hl
  · rename_i a w d
    have e := one_mem hl hx; subst e
    obtain ⟨l, rfl, h1, h2, h3, h4⟩ := hp
    rw [unrow_rows]
    have := small_ev w.toNat (by omega) d.toNat l (by omega) h1 h2
    rwa [show ((w.toNat : Nat) : Int) = w by omega, show ((d.toNat : Nat) : Int) = d by omega] at this
  · exact absurd hl (by simp)

theorem srow_get3 (q : List (List UInt8)) {i : Nat} (h : i < q.length) : (q.map strRow)[((i : Int)).toNat]? = some [.str q[i]] := by
  rw [Int.toNat_natCast, List.getElem?_map, List.getElem?_eq_getElem h]; rfl
def pre3 (q : List (List UInt8)) (i : Nat) : List (List PV) := ((q.take i).map nmOf).map strRow
theorem pre3_succ {q : List (List UInt8)} {i : Nat} (h : i < q.length) : pre3 q (i + 1) = pre3 q i ++ [[.str (nmOf q[i])]] := by
  unfold pre3
  rw [List.take_succ_eq_append_getElem h, List.map_append, List.map_append]; rfl
theorem pre3_len (q : List (List UInt8)) (i : Nat) : (pre3 q i).length ≤ i := by
  unfold pre3
  rw [List.length_map, List.length_map, List.length_take]; omega
theorem m3_ev (b : Bool) (q : List (List UInt8)) (hq : q.length ≤ 140737488351232) : Ev C 15 [.pv (.agg [.bool b, .sl (q.map strRow)])] ([.pv (.agg [.bool b, .sl (mk3R (q.map strRow))])], []) := by
  have hr := room_val
  have hm := maxInt_val
  have hS : SpecOK C S_m3 := specL_ok (specs_cons (g_within_ok w3_ev) specs_nil)
  have hL : (q.map strRow).length = q.length := List.length_map _
  have fin : ∀ i, (q.length ≤ i ∨ 6 ≤ i) → i ≤ q.length → i ≤ 6 → pre3 q i = mk3R (q.map strRow) := by
    intro i h h1 h2
    unfold pre3 mk3R
    rw [unstr_map]
    have : q.take i = q.take 6 := by
      rcases Nat.lt_or_ge i 6 with h3 | h3
      · rw [List.take_of_length_le (by omega), List.take_of_length_le (by omega)]
      · rw [show i = 6 by omega]
    rw [this]
  refine ev_w hS (m3_w _ _ _) ?_
  refine loop_rule hS (by kernel_rfl) 1000 (fun k st => ∃ i : Nat, ((i = 0 ∧ st = m3_h0 i b (q.map strRow) b []) ∨ (1 ≤ i ∧ st = m3_hB i b (q.map strRow) b [] (pre3 q i))) ∧ i ≤ q.length ∧ i ≤ 6 ∧ k = 6 - i) ?_ (n := 6) ⟨0, .inl ⟨rfl, rfl⟩, by omega, by omega, rfl⟩
  rintro k st ⟨i, hst, hi, hi6, rfl⟩
  have five : ∀ h : i < q.length, 0 ≤ wi (q[i].length : Int) 5 ∧ wi (q[i].length : Int) 5 < 5 := fun h => wi_range (n := 5) (by omega) (by omega)
  have hpl := pre3_len q i
  rcases hst with ⟨h0, rfl⟩ | ⟨h1, rfl⟩
  · subst h0
    refine ex_w (m3_l0 _ _ _ _ _ _ _ _ _) ?_
    rw [hL]
    refine ⟨fun g => ⟨fun g6 => ?_, fun g6 => ?_⟩, fun g => ?_⟩
    · simp only [decide_eq_true_eq] at g g6
      have hi' : 0 < q.length := by omega
      have hs := srow_get3 q hi'
      have hp1 := pre3_succ hi'
      refine ⟨by omega, _, hs, by decide, five hi', _, five_get (five hi'), by simp, nmOf q[0], rfl, 5, by omega, 1, .inr ⟨by omega, ?_⟩, by omega, by omega, rfl⟩
      rw [hp1, w64s (by omega)]; rfl
    · simp only [decide_eq_false_iff_not] at g6; omega
    · simp only [decide_eq_false_iff_not] at g
      have := fin 0 (.inl (by omega)) (by omega) (by omega)
      exact ⟨.auto, by rw [← this]; rfl⟩
  · refine ex_w (m3_lB _ _ _ _ _ _ _ _ _ _) ?_
    rw [hL]
    refine ⟨fun g => ⟨fun g6 => ?_, fun g6 => ?_⟩, fun g => ?_⟩
    · simp only [decide_eq_true_eq] at g g6
      have hi' : i < q.length := by omega
      have hs := srow_get3 q hi'
      have hp1 := pre3_succ hi'
      refine ⟨by omega, _, hs, by decide, five hi', _, five_get (five hi'), by simp, nmOf q[i], rfl, ⟨by omega, by omega⟩, 6 - (i + 1), by omega, i + 1, .inr ⟨by omega, ?_⟩, by omega, by omega, rfl⟩
      rw [hp1, w64s (by omega)]; rfl
    · simp only [decide_eq_false_iff_not] at g6
      exact ⟨.auto, by rw [fin i (.inr (by omega)) hi hi6]⟩
    · simp only [decide_eq_false_iff_not] at g
      exact ⟨.auto, by rw [fin i (.inl (by omega)) hi hi6]⟩

noncomputable def g_m3 : List TV → Option Alts
  | [.pv (.agg [.bool b, .sl l])] => one (∃ q : List (List UInt8), l = q.map strRow ∧ q.length ≤ 140737488351232) ([.pv (.agg [.bool b, .sl (mk3R l)])], [])
  | _ => none
theorem m3_ok : ∀ ag al, g_m3 ag = some al → ∀ a ∈ al, a.1 → Ev C 15 ag a.2 := by
  intro ag al hl x hx hp
  unfold g_m3 at hl
  split at hl
  · have e := one_mem hl hx; subst e
    obtain ⟨q, rfl, h⟩ := hp
    exact m3_ev _ q h
  · exact absurd hl (by simp)

end Go.Proofs.YtbnjbianobdleaaGreat.Vm
