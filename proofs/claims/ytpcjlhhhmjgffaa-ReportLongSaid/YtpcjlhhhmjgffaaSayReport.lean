/-
  Paths as texts, in the machine.
-/
import Derived.Test.YtpcjlhhhmjgffaaSayTreeText
import Derived.Test.YtpcjlhhhmjgffaaSayQuoteLaw
namespace Go.Proofs.Ytpcjlhhhmjgffaa.Vm
open Go Go.RowKit
set_option linter.unusedVariables false
set_option linter.unusedSimpArgs false
set_option maxRecDepth 100000

def preB (s p : List UInt8) : Bool := decide (p.length ≤ s.length) && (s.take p.length == p)
def sufB (s t : List UInt8) : Bool := decide (t.length ≤ s.length) && (s.drop (s.length - t.length) == t)

theorem hp1_w (s p : List UInt8) (Q : List TV × List TV → Prop) : (wFun C noSpec 54 [.pv (.str s), .pv (.str p)] Q) (H.b (H.n (3 : Nat) (H.s H.auto)) H.auto) = ((decide ((↑(List.length s) : Int) ≥ (↑(List.length p) : Int)) = true → ((0 : Int) ≤ (0 : Int) ∧ (0 : Int) ≤ (↑(List.length p) : Int) ∧ (↑(List.length p) : Int) ≤ Int.ofNat (List.length s)) ∧ Q ([TV.pv (PV.bool (List.take (Int.toNat (↑(List.length p) : Int) - (0 : Nat)) s == p))], [])) ∧ (decide ((↑(List.length s) : Int) ≥ (↑(List.length p) : Int)) = false → Q ([TV.pv (PV.bool false)], []))) := by kernel_rfl

theorem hs1_w (s p : List UInt8) (Q : List TV × List TV → Prop) : (wFun C noSpec 48 [.pv (.str s), .pv (.str p)] Q) (H.b (H.n (6 : Nat) (H.s H.auto)) H.auto) = ((decide ((↑(List.length s) : Int) ≥ (↑(List.length p) : Int)) = true → ((0 : Int) ≤ IntKind.wrap IntKind.i64 ((↑(List.length s) : Int) - (↑(List.length p) : Int)) ∧ IntKind.wrap IntKind.i64 ((↑(List.length s) : Int) - (↑(List.length p) : Int)) ≤ Int.ofNat (List.length s) ∧ Int.ofNat (List.length s) ≤ Int.ofNat (List.length s)) ∧ Q ([TV.pv (PV.bool (List.take (Int.toNat (Int.ofNat (List.length s)) - Int.toNat (IntKind.wrap IntKind.i64 ((↑(List.length s) : Int) - (↑(List.length p) : Int)))) (List.drop (Int.toNat (IntKind.wrap IntKind.i64 ((↑(List.length s) : Int) - (↑(List.length p) : Int)))) s) == p))], [])) ∧ (decide ((↑(List.length s) : Int) ≥ (↑(List.length p) : Int)) = false → Q ([TV.pv (PV.bool false)], []))) := by kernel_rfl

theorem hp1_ev (s p : List UInt8) (hs : s.length ≤ room) (hp : p.length ≤ room) : Ev C 54 [.pv (.str s), .pv (.str p)] ([.pv (.bool (preB s p))], []) := by
  have hr := room_val
  refine ev_w noSpec_ok (hp1_w s p _) ⟨fun h => ?_, fun h => ?_⟩
  · simp only [ge_iff_le, decide_eq_true_eq] at h
    have h' : p.length ≤ s.length := by omega
    refine ⟨⟨by omega, by omega, by (try simp only [Int.ofNat_eq_natCast]); omega⟩, ?_⟩
    simp [preB, h']
  · simp only [ge_iff_le, decide_eq_false_iff_not] at h
    have h' : ¬ p.length ≤ s.length := by omega
    simp [preB, h']

theorem hs1_ev (s p : List UInt8) (hs : s.length ≤ room) (hp : p.length ≤ room) : Ev C 48 [.pv (.str s), .pv (.str p)] ([.pv (.bool (sufB s p))], []) := by
  have hr := room_val
  refine ev_w noSpec_ok (hs1_w s p _) ⟨fun h => ?_, fun h => ?_⟩
  · simp only [ge_iff_le, decide_eq_true_eq] at h
    have h' : p.length ≤ s.length := by omega
    have w : IntKind.wrap .i64 ((s.length : Int) - (p.length : Int)) = ((s.length - p.length : Nat) : Int) := by rw [w64 (by omega)]; omega
    rw [w]
    refine ⟨⟨by omega, by (try simp only [Int.ofNat_eq_natCast]); omega, by (try simp only [Int.ofNat_eq_natCast]); omega⟩, ?_⟩
    have e : List.take (Int.toNat (Int.ofNat s.length) - Int.toNat ((s.length - p.length : Nat) : Int)) (List.drop (Int.toNat ((s.length - p.length : Nat) : Int)) s) = s.drop (s.length - p.length) := by
      rw [Int.toNat_natCast, List.take_of_length_le]
      simp
    rw [e]
    simp [sufB, h']
  · simp only [ge_iff_le, decide_eq_false_iff_not] at h
    have h' : ¬ p.length ≤ s.length := by omega
    simp [sufB, h']

def g_pre : List TV → Option Alts
  | [.pv (.str s), .pv (.str p)] => one (s.length ≤ room ∧ p.length ≤ room) ([.pv (.bool (preB s p))], [])
  | _ => none
def g_suf : List TV → Option Alts
  | [.pv (.str s), .pv (.str p)] => one (s.length ≤ room ∧ p.length ≤ room) ([.pv (.bool (sufB s p))], [])
  | _ => none

theorem pre_ok {f : FuncId} (h : ∀ s p : List UInt8, s.length ≤ room → p.length ≤ room → Ev C f [.pv (.str s), .pv (.str p)] ([.pv (.bool (preB s p))], [])) : ∀ ag al, g_pre ag = some al → ∀ a ∈ al, a.1 → Ev C f ag a.2 := by
  intro ag al hl x hx hp
  unfold g_pre at hl
  split at hl
  · have e := one_mem hl hx; subst e
    exact h _ _ hp.1 hp.2
  · exact absurd hl (by simp)

theorem suf_ok {f : FuncId} (h : ∀ s p : List UInt8, s.length ≤ room → p.length ≤ room → Ev C f [.pv (.str s), .pv (.str p)] ([.pv (.bool (sufB s p))], [])) : ∀ ag al, g_suf ag = some al → ∀ a ∈ al, a.1 → Ev C f ag a.2 := by
  intro ag al hl x hx hp
  unfold g_suf at hl
  split at hl
  · have e := one_mem hl hx; subst e
    exact h _ _ hp.1 hp.2
  · exact absurd hl (by simp)

def S_pre : Specs := specL [(54, g_pre), (48, g_suf)]

theorem S_pre_ok : SpecOK C S_pre := specL_ok (specs_cons (pre_ok hp1_ev) (specs_cons (suf_ok hs1_ev) specs_nil))

theorem hp2_w (s p : List UInt8) (Q : List TV × List TV → Prop) : (wFun C S_pre 44 [.pv (.str s), .pv (.str p)] Q) (H.auto) = ((List.length s ≤ room ∧ List.length p ≤ room) ∧ Q ([TV.pv (PV.bool (preB s p))], [])) := by kernel_rfl

theorem tp1_w (s p : List UInt8) (Q : List TV × List TV → Prop) : (wFun C S_pre 63 [.pv (.str s), .pv (.str p)] Q) (H.b (H.s H.auto) H.auto) = ((List.length s ≤ room ∧ List.length p ≤ room) ∧ (preB s p = true → ((0 : Int) ≤ (↑(List.length p) : Int) ∧ (↑(List.length p) : Int) ≤ Int.ofNat (List.length s) ∧ Int.ofNat (List.length s) ≤ Int.ofNat (List.length s)) ∧ Q ([TV.pv (PV.str (List.take (Int.toNat (Int.ofNat (List.length s)) - Int.toNat (↑(List.length p) : Int)) (List.drop (Int.toNat (↑(List.length p) : Int)) s)))], [])) ∧ (preB s p = false → Q ([TV.pv (PV.str s)], []))) := by kernel_rfl

theorem ts1_w (s p : List UInt8) (Q : List TV × List TV → Prop) : (wFun C S_pre 62 [.pv (.str s), .pv (.str p)] Q) (H.b (H.s H.auto) H.auto) = ((List.length s ≤ room ∧ List.length p ≤ room) ∧ (sufB s p = true → ((0 : Int) ≤ (0 : Int) ∧ (0 : Int) ≤ IntKind.wrap IntKind.i64 ((↑(List.length s) : Int) - (↑(List.length p) : Int)) ∧ IntKind.wrap IntKind.i64 ((↑(List.length s) : Int) - (↑(List.length p) : Int)) ≤ Int.ofNat (List.length s)) ∧ Q ([TV.pv (PV.str (List.take (Int.toNat (IntKind.wrap IntKind.i64 ((↑(List.length s) : Int) - (↑(List.length p) : Int))) - (0 : Nat)) s))], [])) ∧ (sufB s p = false → Q ([TV.pv (PV.str s)], []))) := by kernel_rfl

theorem hp2_ev (s p : List UInt8) (hs : s.length ≤ room) (hp : p.length ≤ room) : Ev C 44 [.pv (.str s), .pv (.str p)] ([.pv (.bool (preB s p))], []) :=
  ev_w S_pre_ok (hp2_w s p _) ⟨⟨hs, hp⟩, rfl⟩

/-- Without what is ahead. -/
def cutP (s p : List UInt8) : List UInt8 := if preB s p then s.drop p.length else s
def cutS (s p : List UInt8) : List UInt8 := if sufB s p then s.take (s.length - p.length) else s

theorem tp1_ev (s p : List UInt8) (hs : s.length ≤ room) (hp : p.length ≤ room) : Ev C 63 [.pv (.str s), .pv (.str p)] ([.pv (.str (cutP s p))], []) := by
  have hr := room_val
  refine ev_w S_pre_ok (tp1_w s p _) ⟨⟨hs, hp⟩, fun h => ?_, fun h => ?_⟩
  · have h' : p.length ≤ s.length := by simp only [preB, Bool.and_eq_true, decide_eq_true_eq] at h; exact h.1
    refine ⟨⟨by omega, by (try simp only [Int.ofNat_eq_natCast]); omega, by (try simp only [Int.ofNat_eq_natCast]); omega⟩, ?_⟩
    rw [Int.toNat_natCast, List.take_of_length_le (by simp), cutP, if_pos h]
  · rw [cutP, if_neg (by simp [h])]

theorem ts1_ev (s p : List UInt8) (hs : s.length ≤ room) (hp : p.length ≤ room) : Ev C 62 [.pv (.str s), .pv (.str p)] ([.pv (.str (cutS s p))], []) := by
  have hr := room_val
  refine ev_w S_pre_ok (ts1_w s p _) ⟨⟨hs, hp⟩, fun h => ?_, fun h => ?_⟩
  · have h' : p.length ≤ s.length := by simp only [sufB, Bool.and_eq_true, decide_eq_true_eq] at h; exact h.1
    have w : IntKind.wrap .i64 ((s.length : Int) - (p.length : Int)) = ((s.length - p.length : Nat) : Int) := by rw [w64 (by omega)]; omega
    rw [w]
    refine ⟨⟨by omega, by (try simp only [Int.ofNat_eq_natCast]); omega, by (try simp only [Int.ofNat_eq_natCast]); omega⟩, ?_⟩
    rw [Int.toNat_natCast, cutS, if_pos h]; rfl
  · rw [cutS, if_neg (by simp [h])]

def g_cutP : List TV → Option Alts
  | [.pv (.str s), .pv (.str p)] => one (s.length ≤ room ∧ p.length ≤ room) ([.pv (.str (cutP s p))], [])
  | _ => none
def g_cutS : List TV → Option Alts
  | [.pv (.str s), .pv (.str p)] => one (s.length ≤ room ∧ p.length ≤ room) ([.pv (.str (cutS s p))], [])
  | _ => none

theorem cutP_ok {f : FuncId} (h : ∀ s p : List UInt8, s.length ≤ room → p.length ≤ room → Ev C f [.pv (.str s), .pv (.str p)] ([.pv (.str (cutP s p))], [])) : ∀ ag al, g_cutP ag = some al → ∀ a ∈ al, a.1 → Ev C f ag a.2 := by
  intro ag al hl x hx hp
  unfold g_cutP at hl
  split at hl
  · have e := one_mem hl hx; subst e
    exact h _ _ hp.1 hp.2
  · exact absurd hl (by simp)

theorem cutS_ok {f : FuncId} (h : ∀ s p : List UInt8, s.length ≤ room → p.length ≤ room → Ev C f [.pv (.str s), .pv (.str p)] ([.pv (.str (cutS s p))], [])) : ∀ ag al, g_cutS ag = some al → ∀ a ∈ al, a.1 → Ev C f ag a.2 := by
  intro ag al hl x hx hp
  unfold g_cutS at hl
  split at hl
  · have e := one_mem hl hx; subst e
    exact h _ _ hp.1 hp.2
  · exact absurd hl (by simp)

def S_cut : Specs := specL [(63, g_cutP), (62, g_cutS)]

theorem tp2_w (s p : List UInt8) (Q : List TV × List TV → Prop) : (wFun C S_cut 53 [.pv (.str s), .pv (.str p)] Q) (H.auto) = ((List.length s ≤ room ∧ List.length p ≤ room) ∧ Q ([TV.pv (PV.str (cutP s p))], [])) := by kernel_rfl

theorem ts2_w (s p : List UInt8) (Q : List TV × List TV → Prop) : (wFun C S_cut 52 [.pv (.str s), .pv (.str p)] Q) (H.auto) = ((List.length s ≤ room ∧ List.length p ≤ room) ∧ Q ([TV.pv (PV.str (cutS s p))], [])) := by kernel_rfl

theorem S_cut_ok : SpecOK C S_cut := specL_ok (specs_cons (cutP_ok tp1_ev) (specs_cons (cutS_ok ts1_ev) specs_nil))

theorem tp2_ev (s p : List UInt8) (hs : s.length ≤ room) (hp : p.length ≤ room) : Ev C 53 [.pv (.str s), .pv (.str p)] ([.pv (.str (cutP s p))], []) :=
  ev_w S_cut_ok (tp2_w s p _) ⟨⟨hs, hp⟩, rfl⟩

theorem ts2_ev (s p : List UInt8) (hs : s.length ≤ room) (hp : p.length ≤ room) : Ev C 52 [.pv (.str s), .pv (.str p)] ([.pv (.str (cutS s p))], []) :=
  ev_w S_cut_ok (ts2_w s p _) ⟨⟨hs, hp⟩, rfl⟩

noncomputable def S_pqd : Specs := specL [(51, g_txt 2), (53, g_cutP), (52, g_cutS)]

theorem pqd_w (s : List UInt8) (Q : List TV × List TV → Prop) : (wFun C S_pqd 41 [.pv (.str s)] Q) (H.auto) = ((∃ (t : Tr), [[PV.str s, PV.sl []]] = Tr.rows t ∧ Tr.nodes t < (2 : Nat) ∧ List.length (textT t) ≤ (4000000 : Nat)) ∧ (List.length (textT (unrow [[PV.str s, PV.sl []]])) ≤ room ∧ (1 : Nat) ≤ room) ∧ (List.length (cutP (textT (unrow [[PV.str s, PV.sl []]])) [(123 : UInt8)]) ≤ room ∧ (5 : Nat) ≤ room) ∧ Q ([TV.pv (PV.str (cutS (cutP (textT (unrow [[PV.str s, PV.sl []]])) [(123 : UInt8)]) [(58 : UInt8), (32 : UInt8), (123 : UInt8), (125 : UInt8), (125 : UInt8)]))], [])) := by kernel_rfl

theorem textT_one (s : List UInt8) : textT (.cons s .nil .nil) = [123] ++ (quoF s ++ [58, 32, 123, 125]) ++ [125] := by
  simp [textT, Tr.items, Lib.join]

theorem cut_one (s : List UInt8) : cutS (cutP (textT (.cons s .nil .nil)) [123]) [58, 32, 123, 125, 125] = quoF s := by
  rw [textT_one]
  have e : cutP ([123] ++ (quoF s ++ [58, 32, 123, 125]) ++ [125]) [123] = quoF s ++ [58, 32, 123, 125, 125] := by
    simp [cutP, preB]
  rw [e]
  simp [cutS, sufB]

theorem pqd_ev (s : List UInt8) (hs : s.length ≤ 900000) : Ev C 41 [.pv (.str s)] ([.pv (.str (quoF s))], []) := by
  have hr := room_val
  have hS : SpecOK C S_pqd := specL_ok (specs_cons (txt_ok (pt_ev 2)) (specs_cons (cutP_ok tp2_ev) (specs_cons (cutS_ok ts2_ev) specs_nil)))
  have e : [[PV.str s, PV.sl []]] = Tr.rows (.cons s .nil .nil) := rfl
  have hq := quoF_le s
  have hl : (textT (.cons s .nil .nil)).length ≤ 3700000 := by
    rw [textT_one]
    simp only [List.length_append, List.length_cons, List.length_nil]; omega
  have hc : (cutP (textT (.cons s .nil .nil)) [123]).length ≤ 3700000 := by
    unfold cutP
    split
    · simp only [List.length_drop]; omega
    · exact hl
  refine ev_w hS (pqd_w s _) ⟨⟨_, e, by simp [Tr.nodes], by omega⟩, ?_⟩
  rw [e, unrow_rows]
  exact ⟨⟨by omega, by omega⟩, ⟨by omega, by omega⟩, by rw [cut_one]⟩

def S_tog : Specs := specL [(38, g_ws), (39, g_bs)]

theorem tog_w (s : List UInt8) (a : List (List PV)) (Q : List TV × List TV → Prop) : (wFun C S_tog 42 [.pv (.str s), .pv (.sl a)] Q) (H.auto) = (LoopAt C (42 : FuncId) (CP.dn (CP.dn (CP.dn (CP.dn (CP.dn CP.top (1 : Nat)) (1 : Nat)) (0 : Nat)) (1 : Nat)) (0 : Nat)) (St.mk [((0 : Nat), AV.pv (PV.str s)), ((5 : Nat), AV.addr (10 : Nat) (0 : Nat) (0 : Nat)), ((8 : Nat), AV.pv (PV.sl a)), ((9 : Nat), AV.pv (PV.int IntKind.i64 (↑(List.length a) : Int))), ((10 : Nat), AV.pv (PV.int IntKind.i64 (0 : Int)))] [((10 : Nat), Obj.bld [])]) (exK (blockK (0 : Nat) (seqK (wAt C S_tog (42 : FuncId) (99997 : Nat) (CP.dn (CP.dn (CP.dn CP.top (1 : Nat)) (1 : Nat)) (1 : Nat))) (retK C (42 : FuncId) [TV.pv (PV.str s), TV.pv (PV.sl a)] Q))))) := by kernel_rfl

def tog_c0 : CP := (CP.dn (CP.dn (CP.dn (CP.dn (CP.dn CP.top (1 : Nat)) (1 : Nat)) (0 : Nat)) (1 : Nat)) (0 : Nat))

def tog_h0 (t0 : List UInt8) (t8 : List (List PV)) (t9 : Int) (t10 : Int) (o10 : List UInt8) : St := (St.mk [((0 : Nat), AV.pv (PV.str t0)), ((5 : Nat), AV.addr (10 : Nat) (0 : Nat) (0 : Nat)), ((8 : Nat), AV.pv (PV.sl t8)), ((9 : Nat), AV.pv (PV.int IntKind.i64 t9)), ((10 : Nat), AV.pv (PV.int IntKind.i64 t10))] [((10 : Nat), Obj.bld o10)])

theorem tog_l0 (s : List UInt8) (a : List (List PV)) (t0 : List UInt8) (t8 : List (List PV)) (t9 : Int) (t10 : Int) (o10 : List UInt8)  (J0 : St → Prop) (Q : List TV × List TV → Prop) : (wAt C S_tog 42 1000 (tog_c0.dn 0) (tog_h0 t0 t8 t9 t10 o10) (loopK C 42 tog_c0 J0 (exK (blockK (0 : Nat) (seqK (wAt C S_tog (42 : FuncId) (99997 : Nat) (CP.dn (CP.dn (CP.dn CP.top (1 : Nat)) (1 : Nat)) (1 : Nat))) (retK C (42 : FuncId) [TV.pv (PV.str s), TV.pv (PV.sl a)] Q)))))) (H.b (H.s (H.s (H.s H.auto))) H.auto) = ((decide (t10 < t9) = true → (0 : Int) ≤ t10 ∧ ∃ (s : List UInt8), t8[Int.toNat t10]? = some [PV.str s] ∧ List.length t0 + List.length s ≤ maxInt ∧ List.length o10 + List.length (t0 ++ s) ≤ room ∧ J0 (St.mk [((0 : Nat), AV.pv (PV.str t0)), ((5 : Nat), AV.addr (10 : Nat) (0 : Nat) (0 : Nat)), ((8 : Nat), AV.pv (PV.sl t8)), ((9 : Nat), AV.pv (PV.int IntKind.i64 t9)), ((10 : Nat), AV.pv (PV.int IntKind.i64 (IntKind.wrap IntKind.i64 (t10 + (1 : Int)))))] [((10 : Nat), Obj.bld (o10 ++ (t0 ++ s)))])) ∧ (decide (t10 < t9) = false → ∃ (h : H), List.length o10 ≤ room ∧ Q ([TV.pv (PV.str o10)], []))) := by kernel_rfl

theorem S_tog_ok : SpecOK C S_tog := specL_ok (specs_cons (ws_ok (by kernel_rfl)) (specs_cons (bs_ok (by kernel_rfl)) specs_nil))

def togF (s : List UInt8) (l : List (List UInt8)) : List UInt8 := l.flatMap fun x => s ++ x

theorem togF_take (s : List UInt8) {l : List (List UInt8)} {i : Nat} (h : i < l.length) : togF s (l.take (i + 1)) = togF s (l.take i) ++ (s ++ l[i]) := by
  rw [List.take_succ_eq_append_getElem h]; simp only [togF, List.flatMap_append, List.flatMap_cons, List.flatMap_nil, List.append_nil]

theorem togF_le (s : List UInt8) (l : List (List UInt8)) (i : Nat) : (togF s (l.take i)).length ≤ (togF s l).length := by
  have : togF s l = togF s (l.take i) ++ togF s (l.drop i) := by simp only [togF]; rw [← List.flatMap_append, List.take_append_drop]
  rw [this, List.length_append]; omega

theorem str_get {l : List (List UInt8)} {i : Nat} (h : i < l.length) : (l.map strRow)[((i : Int)).toNat]? = some [.str l[i]] := by
  rw [Int.toNat_natCast, List.getElem?_map, List.getElem?_eq_getElem h]; rfl

theorem tog_ev (s : List UInt8) (l : List (List UInt8)) (hl : l.length ≤ 4000000) (hb : (togF s l).length ≤ 4000000) : Ev C 42 [.pv (.str s), .pv (.sl (l.map strRow))] ([.pv (.str (togF s l))], []) := by
  have hr := room_val
  have hm := maxInt_val
  refine ev_w S_tog_ok (tog_w s _ _) ?_
  refine loop_rule S_tog_ok (by kernel_rfl) 1000 (fun n st => ∃ i : Nat, st = tog_h0 s (l.map strRow) l.length i (togF s (l.take i)) ∧ i ≤ l.length ∧ n = l.length - i) ?_ (n := l.length) ⟨0, by rw [List.length_map]; rfl, by omega, by omega⟩
  rintro n st ⟨i, rfl, hi, rfl⟩
  refine ex_w (tog_l0 _ _ _ _ _ _ _ _ _) ⟨fun h1 => ?_, fun h1 => ?_⟩
  · simp only [decide_eq_true_eq] at h1
    have hi' : i < l.length := by omega
    have w1 := w64s (i := i) (by omega)
    have b1 := togF_le s l (i + 1)
    have e1 := togF_take s hi'
    rw [e1] at b1
    simp only [List.length_append] at b1
    rw [w1]
    refine ⟨by omega, _, str_get hi', by omega, by simp only [List.length_append]; omega, l.length - (i + 1), by omega, i + 1, by rw [e1]; rfl, by omega, rfl⟩
  · simp only [decide_eq_false_iff_not] at h1
    have : i = l.length := by omega
    subst this
    rw [List.take_length]
    exact ⟨.auto, by omega, rfl⟩

def pathF (p : List (List UInt8)) : List UInt8 := if p = [] then [47] else togF [47] (p.map quoF)

def g_pqd : List TV → Option Alts
  | [.pv (.str s)] => one (s.length ≤ 900000) ([.pv (.str (quoF s))], [])
  | _ => none

def g_tog : List TV → Option Alts
  | [.pv (.str s), .pv (.sl a)] => one (∃ l : List (List UInt8), a = l.map strRow ∧ l.length ≤ 4000000 ∧ (togF s l).length ≤ 4000000) ([.pv (.str (togF s (unstr a)))], [])
  | _ => none

def S_pth : Specs := specL [(41, g_pqd), (42, g_tog)]

theorem pth_w (a : List (List PV)) (Q : List TV × List TV → Prop) : (wFun C S_pth 26 [.pv (.sl a)] Q) (H.b H.auto (H.s H.auto)) = ((((↑(List.length a) : Int) == (0 : Int)) = true → Q ([TV.pv (PV.str [(47 : UInt8)])], [])) ∧ (((↑(List.length a) : Int) == (0 : Int)) = false → ((0 : Int) ≤ (↑(List.length a) : Int) ∧ (↑(List.length a) : Int) ≤ (↑(List.length a) : Int) ∧ (↑(List.length a) : Int) ≤ (9223372036854775807 : Int) ∧ (↑(List.length a) : Int) * (16 : Int) ≤ (140737488355328 : Int)) ∧ LoopAt C (26 : FuncId) (CP.dn (CP.dn (CP.dn (CP.dn (CP.dn (CP.dn CP.top (1 : Nat)) (1 : Nat)) (1 : Nat)) (0 : Nat)) (1 : Nat)) (0 : Nat)) (St.mk [((3 : Nat), AV.own (6 : Nat)), ((12 : Nat), AV.pv (PV.sl a)), ((13 : Nat), AV.pv (PV.int IntKind.i64 (↑(List.length a) : Int))), ((14 : Nat), AV.pv (PV.int IntKind.i64 (0 : Int)))] [((6 : Nat), Obj.buf (1 : Nat) (List.replicate (Int.toNat (↑(List.length a) : Int)) [PV.str []]))]) (exK (blockK (0 : Nat) (seqK (wAt C S_pth (26 : FuncId) (99996 : Nat) (CP.dn (CP.dn (CP.dn (CP.dn CP.top (1 : Nat)) (1 : Nat)) (1 : Nat)) (1 : Nat))) (retK C (26 : FuncId) [TV.pv (PV.sl a)] Q)))))) := by kernel_rfl

def pth_c0 : CP := (CP.dn (CP.dn (CP.dn (CP.dn (CP.dn (CP.dn CP.top (1 : Nat)) (1 : Nat)) (1 : Nat)) (0 : Nat)) (1 : Nat)) (0 : Nat))

def pth_h0 (t12 : List (List PV)) (t13 : Int) (t14 : Int) (o6 : List (List PV)) : St := (St.mk [((3 : Nat), AV.own (6 : Nat)), ((12 : Nat), AV.pv (PV.sl t12)), ((13 : Nat), AV.pv (PV.int IntKind.i64 t13)), ((14 : Nat), AV.pv (PV.int IntKind.i64 t14))] [((6 : Nat), Obj.buf (1 : Nat) o6)])

theorem pth_l0 (a : List (List PV)) (t12 : List (List PV)) (t13 : Int) (t14 : Int) (o6 : List (List PV))  (J0 : St → Prop) (Q : List TV × List TV → Prop) : (wAt C S_pth 26 1000 (pth_c0.dn 0) (pth_h0 t12 t13 t14 o6) (loopK C 26 pth_c0 J0 (exK (blockK (0 : Nat) (seqK (wAt C S_pth (26 : FuncId) (99996 : Nat) (CP.dn (CP.dn (CP.dn (CP.dn CP.top (1 : Nat)) (1 : Nat)) (1 : Nat)) (1 : Nat))) (retK C (26 : FuncId) [TV.pv (PV.sl a)] Q)))))) (H.b (H.s (H.s (H.s (H.s (H.s (H.s H.auto)))))) H.auto) = ((decide (t14 < t13) = true → (0 : Int) ≤ t14 ∧ ∃ (s : List UInt8), t12[Int.toNat t14]? = some [PV.str s] ∧ List.length s ≤ (900000 : Nat) ∧ ((0 : Int) ≤ t14 ∧ t14 < (↑(List.length o6) : Int)) ∧ ∃ (c : List PV), o6[Int.toNat t14]? = some c ∧ (1 : Nat) ≤ List.length c ∧ List.length (List.set o6 (Int.toNat t14) (PV.str (quoF s) :: List.drop (1 : Nat) c)) = List.length o6 ∧ J0 (St.mk [((3 : Nat), AV.own (6 : Nat)), ((12 : Nat), AV.pv (PV.sl t12)), ((13 : Nat), AV.pv (PV.int IntKind.i64 t13)), ((14 : Nat), AV.pv (PV.int IntKind.i64 (IntKind.wrap IntKind.i64 (t14 + (1 : Int)))))] [((6 : Nat), Obj.buf (1 : Nat) (List.set o6 (Int.toNat t14) (PV.str (quoF s) :: List.drop (1 : Nat) c)))])) ∧ (decide (t14 < t13) = false → exK (blockK (0 : Nat) (seqK (wAt C S_pth (26 : FuncId) (99996 : Nat) (CP.dn (CP.dn (CP.dn (CP.dn CP.top (1 : Nat)) (1 : Nat)) (1 : Nat)) (1 : Nat))) (retK C (26 : FuncId) [TV.pv (PV.sl a)] Q))) (Ex.exit (0 : Nat)) (St.mk [((15 : Nat), AV.pv (PV.bool false)), ((3 : Nat), AV.own (6 : Nat)), ((12 : Nat), AV.pv (PV.sl t12)), ((13 : Nat), AV.pv (PV.int IntKind.i64 t13)), ((14 : Nat), AV.pv (PV.int IntKind.i64 t14))] [((6 : Nat), Obj.buf (1 : Nat) o6)]))) := by kernel_rfl

def pth_s1 (t12 : List (List PV)) (t13 : Int) (t14 : Int) (o6 : List (List PV)) : St := (St.mk [((15 : Nat), AV.pv (PV.bool false)), ((3 : Nat), AV.own (6 : Nat)), ((12 : Nat), AV.pv (PV.sl t12)), ((13 : Nat), AV.pv (PV.int IntKind.i64 t13)), ((14 : Nat), AV.pv (PV.int IntKind.i64 t14))] [((6 : Nat), Obj.buf (1 : Nat) o6)])

theorem pth_x1 (a : List (List PV)) (t12 : List (List PV)) (t13 : Int) (t14 : Int) (o6 : List (List PV))  (Q : List TV × List TV → Prop) : (fun h => blockK (0 : Nat) (seqK (wAt C S_pth (26 : FuncId) (99996 : Nat) (CP.dn (CP.dn (CP.dn (CP.dn CP.top (1 : Nat)) (1 : Nat)) (1 : Nat)) (1 : Nat))) (retK C (26 : FuncId) [TV.pv (PV.sl a)] Q)) h (Ex.exit (0 : Nat)) (pth_s1 t12 t13 t14 o6)) (H.auto) = ((∃ (l : List (List UInt8)), o6 = List.map strRow l ∧ List.length l ≤ (4000000 : Nat) ∧ List.length (togF [(47 : UInt8)] l) ≤ (4000000 : Nat)) ∧ Q ([TV.pv (PV.str (togF [(47 : UInt8)] (unstr o6)))], [])) := by kernel_rfl

def S_rth : Specs := specL [(28, g_quo)]

theorem rth_w (a : List (List PV)) (Q : List TV × List TV → Prop) : (wFun C S_rth 25 [.pv (.sl a)] Q) (H.b H.auto H.auto) = ((((↑(List.length a) : Int) == (0 : Int)) = true → Q ([TV.pv (PV.str [(47 : UInt8)])], [])) ∧ (((↑(List.length a) : Int) == (0 : Int)) = false → LoopAt C (25 : FuncId) (CP.dn (CP.dn (CP.dn (CP.dn (CP.dn (CP.dn CP.top (1 : Nat)) (1 : Nat)) (1 : Nat)) (0 : Nat)) (1 : Nat)) (0 : Nat)) (St.mk [((0 : Nat), AV.pv (PV.sl a)), ((3 : Nat), AV.pv (PV.str [])), ((4 : Nat), AV.pv (PV.int IntKind.i64 (0 : Int)))] []) (exK (blockK (0 : Nat) (seqK (wAt C S_rth (25 : FuncId) (99996 : Nat) (CP.dn (CP.dn (CP.dn (CP.dn CP.top (1 : Nat)) (1 : Nat)) (1 : Nat)) (1 : Nat))) (retK C (25 : FuncId) [TV.pv (PV.sl a)] Q)))))) := by kernel_rfl

def rth_c0 : CP := (CP.dn (CP.dn (CP.dn (CP.dn (CP.dn (CP.dn CP.top (1 : Nat)) (1 : Nat)) (1 : Nat)) (0 : Nat)) (1 : Nat)) (0 : Nat))

def rth_h0 (t0 : List (List PV)) (t3 : List UInt8) (t4 : Int) : St := (St.mk [((0 : Nat), AV.pv (PV.sl t0)), ((3 : Nat), AV.pv (PV.str t3)), ((4 : Nat), AV.pv (PV.int IntKind.i64 t4))] [])

theorem rth_l0 (a : List (List PV)) (t0 : List (List PV)) (t3 : List UInt8) (t4 : Int)  (J0 : St → Prop) (Q : List TV × List TV → Prop) : (wAt C S_rth 25 1000 (rth_c0.dn 0) (rth_h0 t0 t3 t4) (loopK C 25 rth_c0 J0 (exK (blockK (0 : Nat) (seqK (wAt C S_rth (25 : FuncId) (99996 : Nat) (CP.dn (CP.dn (CP.dn (CP.dn CP.top (1 : Nat)) (1 : Nat)) (1 : Nat)) (1 : Nat))) (retK C (25 : FuncId) [TV.pv (PV.sl a)] Q)))))) (H.b (H.s (H.s (H.s (H.s H.auto)))) H.auto) = ((decide (t4 < (↑(List.length t0) : Int)) = true → List.length t3 + (1 : Nat) ≤ maxInt ∧ (0 : Int) ≤ t4 ∧ ∃ (s : List UInt8), t0[Int.toNat t4]? = some [PV.str s] ∧ (4 : Nat) * List.length s + (2 : Nat) ≤ room ∧ List.length (t3 ++ [(47 : UInt8)]) + List.length (quoF s) ≤ maxInt ∧ J0 (St.mk [((0 : Nat), AV.pv (PV.sl t0)), ((3 : Nat), AV.pv (PV.str (t3 ++ [(47 : UInt8)] ++ quoF s))), ((4 : Nat), AV.pv (PV.int IntKind.i64 (IntKind.wrap IntKind.i64 (t4 + (1 : Int)))))] [])) ∧ (decide (t4 < (↑(List.length t0) : Int)) = false → ∃ (h : H), Q ([TV.pv (PV.str t3)], []))) := by kernel_rfl

theorem few_w (a : List (List PV)) (Q : List TV × List TV → Prop) : (wFun C noSpec 24 [.pv (.sl a)] Q) (H.auto) = (LoopAt C (24 : FuncId) (CP.dn (CP.dn (CP.dn (CP.dn CP.top (1 : Nat)) (0 : Nat)) (1 : Nat)) (0 : Nat)) (St.mk [((0 : Nat), AV.pv (PV.sl a)), ((3 : Nat), AV.pv (PV.int IntKind.i64 (0 : Int)))] []) (exK (blockK (0 : Nat) (seqK (wAt C noSpec (24 : FuncId) (99998 : Nat) (CP.dn (CP.dn CP.top (1 : Nat)) (1 : Nat))) (retK C (24 : FuncId) [TV.pv (PV.sl a)] Q))))) := by kernel_rfl

def few_c0 : CP := (CP.dn (CP.dn (CP.dn (CP.dn CP.top (1 : Nat)) (0 : Nat)) (1 : Nat)) (0 : Nat))

def few_h0 (t0 : List (List PV)) (t3 : Int) : St := (St.mk [((0 : Nat), AV.pv (PV.sl t0)), ((3 : Nat), AV.pv (PV.int IntKind.i64 t3))] [])

theorem few_l0 (a : List (List PV)) (t0 : List (List PV)) (t3 : Int)  (J0 : St → Prop) (Q : List TV × List TV → Prop) : (wAt C noSpec 24 1000 (few_c0.dn 0) (few_h0 t0 t3) (loopK C 24 few_c0 J0 (exK (blockK (0 : Nat) (seqK (wAt C noSpec (24 : FuncId) (99998 : Nat) (CP.dn (CP.dn CP.top (1 : Nat)) (1 : Nat))) (retK C (24 : FuncId) [TV.pv (PV.sl a)] Q)))))) (H.b (H.s (H.s (H.b H.auto H.auto))) H.auto) = ((decide (t3 < (↑(List.length t0) : Int)) = true → (0 : Int) ≤ t3 ∧ ∃ (s : List UInt8), t0[Int.toNat t3]? = some [PV.str s] ∧ (decide ((↑(List.length s) : Int) > (60 : Int)) = true → ∃ (h : H), Q ([TV.pv (PV.bool false)], [])) ∧ (decide ((↑(List.length s) : Int) > (60 : Int)) = false → J0 (St.mk [((0 : Nat), AV.pv (PV.sl t0)), ((3 : Nat), AV.pv (PV.int IntKind.i64 (IntKind.wrap IntKind.i64 (t3 + (1 : Int)))))] []))) ∧ (decide (t3 < (↑(List.length t0) : Int)) = false → ∃ (h : H), Q ([TV.pv (PV.bool (decide ((↑(List.length t0) : Int) ≤ (12 : Int))))], []))) := by kernel_rfl

theorem sam_w (a b : List (List PV)) (Q : List TV × List TV → Prop) : (wFun C noSpec 27 [.pv (.sl a), .pv (.sl b)] Q) (H.b H.auto H.auto) = ((((↑(List.length a) : Int) != (↑(List.length b) : Int)) = true → Q ([TV.pv (PV.bool false)], [])) ∧ (((↑(List.length a) : Int) != (↑(List.length b) : Int)) = false → LoopAt C (27 : FuncId) (CP.dn (CP.dn (CP.dn (CP.dn (CP.dn CP.top (1 : Nat)) (1 : Nat)) (0 : Nat)) (1 : Nat)) (0 : Nat)) (St.mk [((0 : Nat), AV.pv (PV.sl a)), ((1 : Nat), AV.pv (PV.sl b)), ((5 : Nat), AV.pv (PV.int IntKind.i64 (0 : Int)))] []) (exK (blockK (0 : Nat) (seqK (wAt C noSpec (27 : FuncId) (99997 : Nat) (CP.dn (CP.dn (CP.dn CP.top (1 : Nat)) (1 : Nat)) (1 : Nat))) (retK C (27 : FuncId) [TV.pv (PV.sl a), TV.pv (PV.sl b)] Q)))))) := by kernel_rfl

def sam_c0 : CP := (CP.dn (CP.dn (CP.dn (CP.dn (CP.dn CP.top (1 : Nat)) (1 : Nat)) (0 : Nat)) (1 : Nat)) (0 : Nat))

def sam_h0 (t0 : List (List PV)) (t1 : List (List PV)) (t5 : Int) : St := (St.mk [((0 : Nat), AV.pv (PV.sl t0)), ((1 : Nat), AV.pv (PV.sl t1)), ((5 : Nat), AV.pv (PV.int IntKind.i64 t5))] [])

theorem sam_l0 (a b : List (List PV)) (t0 : List (List PV)) (t1 : List (List PV)) (t5 : Int)  (J0 : St → Prop) (Q : List TV × List TV → Prop) : (wAt C noSpec 27 1000 (sam_c0.dn 0) (sam_h0 t0 t1 t5) (loopK C 27 sam_c0 J0 (exK (blockK (0 : Nat) (seqK (wAt C noSpec (27 : FuncId) (99997 : Nat) (CP.dn (CP.dn (CP.dn CP.top (1 : Nat)) (1 : Nat)) (1 : Nat))) (retK C (27 : FuncId) [TV.pv (PV.sl a), TV.pv (PV.sl b)] Q)))))) (H.b (H.s (H.s (H.s (H.s (H.b H.auto H.auto))))) H.auto) = ((decide (t5 < (↑(List.length t0) : Int)) = true → (0 : Int) ≤ t5 ∧ ∃ (s : List UInt8), t0[Int.toNat t5]? = some [PV.str s] ∧ (0 : Int) ≤ t5 ∧ ∃ (s_1 : List UInt8), t1[Int.toNat t5]? = some [PV.str s_1] ∧ ((!s == s_1) = true → ∃ (h : H), Q ([TV.pv (PV.bool false)], [])) ∧ ((!s == s_1) = false → J0 (St.mk [((0 : Nat), AV.pv (PV.sl t0)), ((1 : Nat), AV.pv (PV.sl t1)), ((5 : Nat), AV.pv (PV.int IntKind.i64 (IntKind.wrap IntKind.i64 (t5 + (1 : Int)))))] []))) ∧ (decide (t5 < (↑(List.length t0) : Int)) = false → ∃ (h : H), Q ([TV.pv (PV.bool true)], []))) := by kernel_rfl

theorem onl_w (a : List (List PV)) (Q : List TV × List TV → Prop) : (wFun C noSpec 29 [.pv (.sl a)] Q) (H.b H.auto H.auto) = ((((↑(List.length a) : Int) == (0 : Int)) = true → Q ([TV.pv (PV.int IntKind.i64 (1 : Int))], [])) ∧ (((↑(List.length a) : Int) == (0 : Int)) = false → Q ([TV.pv (PV.int IntKind.i64 (0 : Int))], []))) := by kernel_rfl

theorem pqd_ok : ∀ ag al, g_pqd ag = some al → ∀ a ∈ al, a.1 → Ev C 41 ag a.2 := by
  intro ag al hl x hx hp
  unfold g_pqd at hl
  split at hl
  · have e := one_mem hl hx; subst e
    exact pqd_ev _ hp
  · exact absurd hl (by simp)

theorem tog_ok : ∀ ag al, g_tog ag = some al → ∀ a ∈ al, a.1 → Ev C 42 ag a.2 := by
  intro ag al hl x hx hp
  unfold g_tog at hl
  split at hl
  · have e := one_mem hl hx; subst e
    obtain ⟨l, rfl, h1, h2⟩ := hp
    rw [unstr_map]
    exact tog_ev _ _ h1 h2
  · exact absurd hl (by simp)

theorem S_pth_ok : SpecOK C S_pth := specL_ok (specs_cons pqd_ok (specs_cons tog_ok specs_nil))

theorem S_rth_ok : SpecOK C S_rth := specL_ok (specs_cons rq_ok specs_nil)

theorem togF_mem (s : List UInt8) : ∀ {l : List (List UInt8)} {x : List UInt8}, x ∈ l → s.length + x.length ≤ (togF s l).length
  | [], x, h => by simp at h
  | y :: l, x, h => by
    simp only [togF, List.flatMap_cons, List.length_append]
    rcases List.mem_cons.1 h with rfl | h
    · omega
    · have := togF_mem s h
      simp only [togF] at this; omega

theorem togF_cnt {s : List UInt8} (hs : 1 ≤ s.length) : ∀ l : List (List UInt8), l.length ≤ (togF s l).length
  | [] => by simp
  | y :: l => by
    have := togF_cnt hs l
    simp only [togF, List.flatMap_cons, List.length_append, List.length_cons] at *; omega

theorem path_ne {p : List (List UInt8)} (h : ¬ p = []) : pathF p = togF [47] (p.map quoF) := by rw [pathF, if_neg h]

theorem path_mem {p : List (List UInt8)} {x : List UInt8} (h : x ∈ p) : x.length + 3 ≤ (pathF p).length := by
  rw [path_ne (by rintro rfl; simp at h)]
  have h1 := togF_mem [47] (List.mem_map.2 ⟨x, h, rfl⟩ : quoF x ∈ p.map quoF)
  have h2 := quoF_len x
  simp only [List.length_cons, List.length_nil] at h1; omega

theorem path_cnt (p : List (List UInt8)) : p.length ≤ (pathF p).length := by
  by_cases h : p = []
  · subst h; simp
  · rw [path_ne h]
    have := togF_cnt (s := [47]) (by simp) (p.map quoF)
    rwa [List.length_map] at this

theorem set_fill {α : Type} (d : α) (l : List α) {i : Nat} (h : i < l.length) (n : Nat) : (l.take i ++ List.replicate (n + 1) d).set i l[i] = l.take (i + 1) ++ List.replicate n d := by
  have hl : (l.take i).length = i := by rw [List.length_take]; omega
  rw [List.set_append_right _ _ (by omega), hl, Nat.sub_self, List.replicate_succ, List.set_cons_zero, List.take_succ_eq_append_getElem h, List.append_assoc]; rfl

theorem pth_ev (p : List (List UInt8)) (hb : (pathF p).length ≤ 800000) : Ev C 26 [.pv (.sl (p.map strRow))] ([.pv (.str (pathF p))], []) := by
  have hr := room_val
  have hc := path_cnt p
  have hl : (p.map strRow).length = p.length := List.length_map _
  refine ev_w S_pth_ok (pth_w _ _) ⟨fun h => ?_, fun h => ?_⟩
  · have h := beq_iff_eq.1 h
    have : p = [] := List.eq_nil_of_length_eq_zero (by omega)
    subst this; rfl
  · have h := beq_eq_false_iff_ne.1 h
    have hn : ¬ p = [] := by rintro rfl; simp at h
    have he := path_ne hn
    refine ⟨⟨by omega, by omega, by omega, by omega⟩, ?_⟩
    refine loop_rule S_pth_ok (by kernel_rfl) 1000 (fun n st => ∃ i : Nat, st = pth_h0 (p.map strRow) p.length i (((p.map quoF).map strRow).take i ++ List.replicate (p.length - i) [PV.str []]) ∧ i ≤ p.length ∧ n = p.length - i) ?_ (n := p.length) ⟨0, by rw [hl]; rfl, by omega, by omega⟩
    rintro n st ⟨i, rfl, hi, rfl⟩
    refine ex_w (pth_l0 _ _ _ _ _ _ _) ⟨fun h1 => ?_, fun h1 => ?_⟩
    · simp only [decide_eq_true_eq] at h1
      have hi' : i < p.length := by omega
      have w1 := w64s (i := i) (by omega)
      have hm := path_mem (List.getElem_mem hi')
      have hq : ((p.map quoF).map strRow).length = p.length := by rw [List.length_map, List.length_map]
      have hlen : (((p.map quoF).map strRow).take i ++ List.replicate (p.length - i) [PV.str []]).length = p.length := by
        rw [List.length_append, List.length_take, List.length_replicate]; omega
      have hg : (((p.map quoF).map strRow).take i ++ List.replicate (p.length - i) [PV.str []])[((i : Int)).toNat]? = some [PV.str []] := by
        rw [Int.toNat_natCast, List.getElem?_append_right (by rw [List.length_take]; omega), List.getElem?_replicate, if_pos (by rw [List.length_take]; omega)]
      rw [w1]
      refine ⟨by omega, _, str_get hi', by omega, ⟨by omega, by omega⟩, _, hg, by simp, by rw [List.length_set], p.length - (i + 1), by omega, i + 1, ?_, by omega, rfl⟩
      have hs := set_fill [PV.str []] ((p.map quoF).map strRow) (i := i) (by omega) (p.length - (i + 1))
      rw [show p.length - (i + 1) + 1 = p.length - i by omega] at hs
      have hr : ((p.map quoF).map strRow)[i] = PV.str (quoF p[i]) :: List.drop 1 [PV.str []] := by simp [strRow]
      rw [← hs, hr, Int.toNat_natCast]; rfl
    · simp only [decide_eq_false_iff_not] at h1
      have : i = p.length := by omega
      subst this
      have e : ((p.map quoF).map strRow).take p.length ++ List.replicate (p.length - p.length) [PV.str []] = (p.map quoF).map strRow := by
        rw [Nat.sub_self, List.replicate_zero, List.append_nil, List.take_of_length_le (by rw [List.length_map, List.length_map]; omega)]
      rw [e]
      refine ex_w (pth_x1 _ _ _ _ _ _) ⟨⟨_, rfl, by rw [List.length_map]; omega, by rw [← he]; omega⟩, ?_⟩
      rw [unstr_map, he]

theorem rth_ev (p : List (List UInt8)) (hb : (pathF p).length ≤ 800000) : Ev C 25 [.pv (.sl (p.map strRow))] ([.pv (.str (pathF p))], []) := by
  have hr := room_val
  have hm := maxInt_val
  have hc := path_cnt p
  have hl : (p.map strRow).length = p.length := List.length_map _
  refine ev_w S_rth_ok (rth_w _ _) ⟨fun h => ?_, fun h => ?_⟩
  · have h := beq_iff_eq.1 h
    have : p = [] := List.eq_nil_of_length_eq_zero (by omega)
    subst this; rfl
  · have h := beq_eq_false_iff_ne.1 h
    have hn : ¬ p = [] := by rintro rfl; simp at h
    have he := path_ne hn
    refine loop_rule S_rth_ok (by kernel_rfl) 1000 (fun n st => ∃ i : Nat, st = rth_h0 (p.map strRow) (togF [47] ((p.map quoF).take i)) i ∧ i ≤ p.length ∧ n = p.length - i) ?_ (n := p.length) ⟨0, rfl, by omega, by omega⟩
    rintro n st ⟨i, rfl, hi, rfl⟩
    refine ex_w (rth_l0 _ _ _ _ _ _) ⟨fun h1 => ?_, fun h1 => ?_⟩
    · simp only [decide_eq_true_eq] at h1
      have hi' : i < p.length := by omega
      have hi2 : i < (p.map quoF).length := by rw [List.length_map]; omega
      have w1 := w64s (i := i) (by omega)
      have hmm := path_mem (List.getElem_mem hi')
      have b1 := togF_le [47] (p.map quoF) (i + 1)
      have e1 := togF_take [47] hi2
      have e2 : (p.map quoF)[i] = quoF p[i] := by simp
      rw [e2] at e1
      rw [e1, ← he] at b1
      simp only [List.length_append, List.length_cons, List.length_nil] at b1
      rw [w1]
      refine ⟨by omega, by omega, _, str_get hi', by omega, by simp only [List.length_append, List.length_cons, List.length_nil]; omega, p.length - (i + 1), by omega, i + 1, ?_, by omega, rfl⟩
      rw [e1, List.append_assoc]; rfl
    · simp only [decide_eq_false_iff_not] at h1
      have : i = p.length := by omega
      subst this
      refine ⟨.auto, ?_⟩
      rw [he, List.take_of_length_le (by rw [List.length_map]; omega)]

def fewP (p : List (List UInt8)) : Bool := p.all (fun x => decide (x.length ≤ 60)) && decide (p.length ≤ 12)

theorem few_ev (p : List (List UInt8)) (hb : p.length ≤ 140737488351232) : Ev C 24 [.pv (.sl (p.map strRow))] ([.pv (.bool (fewP p))], []) := by
  have hl : (p.map strRow).length = p.length := List.length_map _
  refine ev_w noSpec_ok (few_w _ _) ?_
  refine loop_rule noSpec_ok (by kernel_rfl) 1000 (fun n st => ∃ i : Nat, st = few_h0 (p.map strRow) i ∧ (∀ x ∈ p.take i, x.length ≤ 60) ∧ i ≤ p.length ∧ n = p.length - i) ?_ (n := p.length) ⟨0, rfl, by simp, by omega, by omega⟩
  rintro n st ⟨i, rfl, ha, hi, rfl⟩
  refine ex_w (few_l0 _ _ _ _ _) ⟨fun h1 => ?_, fun h1 => ?_⟩
  · simp only [decide_eq_true_eq] at h1
    have hi' : i < p.length := by omega
    have w1 := w64s (i := i) (by omega)
    rw [w1]
    refine ⟨by omega, _, str_get hi', fun h2 => ⟨.auto, ?_⟩, fun h2 => ⟨p.length - (i + 1), by omega, i + 1, rfl, ?_, by omega, rfl⟩⟩
    · simp only [gt_iff_lt, decide_eq_true_eq] at h2
      have : fewP p = false := by
        rw [fewP, Bool.and_eq_false_iff]
        left
        rw [List.all_eq_false]
        exact ⟨p[i], List.getElem_mem hi', by simp only [decide_eq_true_eq]; omega⟩
      rw [this]
    · simp only [gt_iff_lt, decide_eq_false_iff_not] at h2
      intro x hx
      rw [List.take_succ_eq_append_getElem hi', List.mem_append, List.mem_singleton] at hx
      rcases hx with hx | rfl
      · exact ha x hx
      · omega
  · simp only [decide_eq_false_iff_not] at h1
    have : i = p.length := by omega
    subst this
    rw [List.take_length] at ha
    refine ⟨.auto, ?_⟩
    have e1 : p.all (fun x => decide (x.length ≤ 60)) = true := List.all_eq_true.2 fun x hx => by simp only [decide_eq_true_eq]; exact ha x hx
    have e2 : decide (((p.map strRow).length : Int) ≤ 12) = decide (p.length ≤ 12) := by rw [hl]; exact decide_eq_decide.2 (by omega)
    rw [fewP, e1, Bool.true_and, ← e2]

theorem sam_ev (p q : List (List UInt8)) (hb : p.length ≤ 140737488351232) : Ev C 27 [.pv (.sl (p.map strRow)), .pv (.sl (q.map strRow))] ([.pv (.bool (p == q))], []) := by
  have hl : (p.map strRow).length = p.length := List.length_map _
  have hl2 : (q.map strRow).length = q.length := List.length_map _
  refine ev_w noSpec_ok (sam_w _ _ _) ⟨fun h => ?_, fun h => ?_⟩
  · have h := bne_iff_ne.1 h
    have : (p == q) = false := beq_eq_false_iff_ne.2 (by rintro rfl; exact h rfl)
    rw [this]
  · have h : (((p.map strRow).length : Int)) = ((q.map strRow).length : Int) := by simpa using h
    have he : p.length = q.length := by omega
    refine loop_rule noSpec_ok (by kernel_rfl) 1000 (fun n st => ∃ i : Nat, st = sam_h0 (p.map strRow) (q.map strRow) i ∧ p.take i = q.take i ∧ i ≤ p.length ∧ n = p.length - i) ?_ (n := p.length) ⟨0, rfl, by simp, by omega, by omega⟩
    rintro n st ⟨i, rfl, ha, hi, rfl⟩
    refine ex_w (sam_l0 _ _ _ _ _ _ _) ⟨fun h1 => ?_, fun h1 => ?_⟩
    · simp only [decide_eq_true_eq] at h1
      have hi' : i < p.length := by omega
      have hi2 : i < q.length := by omega
      have w1 := w64s (i := i) (by omega)
      rw [w1]
      refine ⟨by omega, _, str_get hi', by omega, _, str_get hi2, fun h2 => ⟨.auto, ?_⟩, fun h2 => ⟨p.length - (i + 1), by omega, i + 1, rfl, ?_, by omega, rfl⟩⟩
      · have : (p == q) = false := beq_eq_false_iff_ne.2 (by rintro rfl; simp at h2)
        rw [this]
      · have h2 : p[i] = q[i] := by simpa using h2
        rw [List.take_succ_eq_append_getElem hi', List.take_succ_eq_append_getElem hi2, ha, h2]
    · simp only [decide_eq_false_iff_not] at h1
      have : i = p.length := by omega
      subst this
      rw [List.take_length, he, List.take_length] at ha
      refine ⟨.auto, ?_⟩
      rw [ha]; simp

theorem onl_ev (p : List (List UInt8)) : Ev C 29 [.pv (.sl (p.map strRow))] ([.pv (.int .i64 (if p = [] then 1 else 0))], []) := by
  refine ev_w noSpec_ok (onl_w _ _) ⟨fun h => ?_, fun h => ?_⟩
  · have h := beq_iff_eq.1 h
    have : p = [] := by cases p with | nil => rfl | cons a b => simp at h; omega
    rw [if_pos this]
  · have h := beq_eq_false_iff_ne.1 h
    rw [if_neg (by rintro rfl; simp at h)]

theorem togF_inj : ∀ (a b : List (List UInt8)), togF [47] (a.map quoF) = togF [47] (b.map quoF) → a = b
  | [], [], _ => rfl
  | [], y :: b, h => by simp [togF] at h
  | x :: a, [], h => by simp [togF] at h
  | x :: a, y :: b, h => by
    simp only [togF, List.map_cons, List.flatMap_cons, List.cons_append, List.nil_append, List.cons.injEq, true_and] at h
    obtain ⟨rfl, h2⟩ := quoF_inj h
    rw [togF_inj a b (by simp only [togF, List.cons_append, List.nil_append]; exact h2)]

theorem pathF_inj {p q : List (List UInt8)} (h : pathF p = pathF q) : p = q := by
  have two : ∀ {r : List (List UInt8)}, ¬ r = [] → pathF r ≠ [47] := by
    intro r hr e
    cases r with
    | nil => exact hr rfl
    | cons x r =>
      have := path_mem (p := x :: r) (x := x) (by simp)
      rw [e] at this; simp at this
  by_cases hp : p = []
  · by_cases hq : q = []
    · rw [hp, hq]
    · subst hp; exact (two hq h.symm).elim
  · by_cases hq : q = []
    · subst hq; exact (two hp h).elim
    · rw [path_ne hp, path_ne hq] at h
      exact togF_inj _ _ h

end Go.Proofs.Ytpcjlhhhmjgffaa.Vm
