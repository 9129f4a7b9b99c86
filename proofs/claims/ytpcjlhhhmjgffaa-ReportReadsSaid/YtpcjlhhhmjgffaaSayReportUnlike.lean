/-
  ReportUnlike, in the machine.
-/
import Derived.Test.YtpcjlhhhmjgffaaSayReport
import Derived.Test.YtpcjlhhhmjgffaaSayStrs
namespace Go.Proofs.Ytpcjlhhhmjgffaa.Vm
open Go Go.RowKit
set_option linter.unusedVariables false
set_option linter.unusedSimpArgs false
set_option maxRecDepth 100000

def g_path : List TV → Option Alts
  | [.pv (.sl a)] => one (∃ l : List (List UInt8), a = l.map strRow ∧ (pathF l).length ≤ 800000) ([.pv (.str (pathF (unstr a)))], [])
  | _ => none

def g_fewR : List TV → Option Alts
  | [.pv (.sl a)] => one (∃ l : List (List UInt8), a = l.map strRow ∧ l.length ≤ 140737488351232) ([.pv (.bool (fewP (unstr a)))], [])
  | _ => none

def g_samR : List TV → Option Alts
  | [.pv (.sl a), .pv (.sl b)] => one (∃ l m : List (List UInt8), a = l.map strRow ∧ b = m.map strRow ∧ l.length ≤ 140737488351232) ([.pv (.bool (unstr a == unstr b))], [])
  | _ => none

def g_onl : List TV → Option Alts
  | [.pv (.sl a)] => one (∃ l : List (List UInt8), a = l.map strRow) ([.pv (.int .i64 (if unstr a = [] then 1 else 0))], [])
  | _ => none

def S_kn : Specs := specL [(26, g_path)]

theorem kn_w  (Q : List TV × List TV → Prop) : (wFun C S_kn 23 [] Q) (H.auto) = ((∃ (l : List (List UInt8)), [[PV.str [(97 : UInt8)]], [PV.str [(98 : UInt8)]]] = List.map strRow l ∧ List.length (pathF l) ≤ (800000 : Nat)) ∧ Q ([TV.pv (PV.bool true)], [])) := by kernel_rfl

def g_kn : List TV → Option Alts
  | [] => one True ([.pv (.bool true)], [])
  | _ => none

def S_ru : Specs := specL [(23, g_kn), (24, g_fewR), (27, g_samR), (29, g_onl), (26, g_path), (25, g_path), (28, g_quo)]

theorem ru_w (a b : List (List PV)) (s : List UInt8) (Q : List TV × List TV → Prop) : (wFun C S_ru 8 [.pv (.sl a), .pv (.sl b), .pv (.str s)] Q) (H.n (1 : Nat) (H.b H.auto (H.n (3 : Nat) (H.b H.auto (H.n (3 : Nat) (H.b H.auto (H.b (H.n (6 : Nat) (H.s (H.n (2 : Nat) (H.b (H.n (2 : Nat) (H.s (H.s (H.n (3 : Nat) (H.s (H.n (10 : Nat) (H.s (H.n (1 : Nat) (H.s (H.n (3 : Nat) (H.s H.auto))))))))))) H.auto)))) H.auto))))))) = (True ∧ (∃ (l : List (List UInt8)), a = List.map strRow l ∧ List.length l ≤ (140737488351232 : Nat)) ∧ ((!fewP (unstr a)) = true → Q ([TV.pv (PV.bool true)], [])) ∧ ((!fewP (unstr a)) = false → (∃ (l : List (List UInt8)), b = List.map strRow l ∧ List.length l ≤ (140737488351232 : Nat)) ∧ ((!fewP (unstr b)) = true → Q ([TV.pv (PV.bool true)], [])) ∧ ((!fewP (unstr b)) = false → (decide ((↑(List.length s) : Int) > (60 : Int)) = true → Q ([TV.pv (PV.bool true)], [])) ∧ (decide ((↑(List.length s) : Int) > (60 : Int)) = false → (∃ (l : List (List UInt8)), a = List.map strRow l ∧ List.length (pathF l) ≤ (800000 : Nat)) ∧ (∃ (l : List (List UInt8)), a = List.map strRow l ∧ List.length (pathF l) ≤ (800000 : Nat)) ∧ (∃ (l : List (List UInt8)), b = List.map strRow l ∧ List.length (pathF l) ≤ (800000 : Nat)) ∧ (∃ (l : List (List UInt8)), ∃ (m : List (List UInt8)), a = List.map strRow l ∧ b = List.map strRow m ∧ List.length l ≤ (140737488351232 : Nat)) ∧ (((pathF (unstr a) == pathF (unstr b)) == (unstr a == unstr b)) = true → (∃ (l : List (List UInt8)), [[PV.str s]] = List.map strRow l ∧ List.length (pathF l) ≤ (800000 : Nat)) ∧ (4 : Nat) * List.length s + (2 : Nat) ≤ room ∧ (1 : Nat) + List.length (quoF s) ≤ maxInt ∧ ((pathF (unstr [[PV.str s]]) == [(47 : UInt8)] ++ quoF s) = true → (((0 : Nat) + List.length a) * (16 : Nat) ≤ room ∧ (0 : Nat) + List.length a ≤ maxInt) ∧ rowOk (1 : Nat) a = true ∧ ((List.length a + (1 : Nat)) * (16 : Nat) ≤ room ∧ List.length a + (1 : Nat) ≤ maxInt) ∧ (∃ (l : List (List UInt8)), a ++ [[PV.str s]] = List.map strRow l ∧ List.length (pathF l) ≤ (800000 : Nat)) ∧ (∃ (l : List (List UInt8)), a = List.map strRow l) ∧ ((0 : Int) ≤ (0 : Int) ∧ (0 : Int) ≤ IntKind.wrap IntKind.i64 ((↑(List.length (pathF (unstr a))) : Int) - if unstr a = [] then (1 : Int) else (0 : Int)) ∧ IntKind.wrap IntKind.i64 ((↑(List.length (pathF (unstr a))) : Int) - if unstr a = [] then (1 : Int) else (0 : Int)) ≤ Int.ofNat (List.length (pathF (unstr a)))) ∧ List.length (List.take (Int.toNat (IntKind.wrap IntKind.i64 ((↑(List.length (pathF (unstr a))) : Int) - if unstr a = [] then (1 : Int) else (0 : Int))) - (0 : Nat)) (List.drop (0 : Nat) (pathF (unstr a)))) + (1 : Nat) ≤ maxInt ∧ (4 : Nat) * List.length s + (2 : Nat) ≤ room ∧ List.length (List.take (Int.toNat (IntKind.wrap IntKind.i64 ((↑(List.length (pathF (unstr a))) : Int) - if unstr a = [] then (1 : Int) else (0 : Int))) - (0 : Nat)) (List.drop (0 : Nat) (pathF (unstr a))) ++ [(47 : UInt8)]) + List.length (quoF s) ≤ maxInt ∧ Q ([TV.pv (PV.bool (pathF (unstr (a ++ [[PV.str s]])) == List.take (Int.toNat (IntKind.wrap IntKind.i64 ((↑(List.length (pathF (unstr a))) : Int) - if unstr a = [] then (1 : Int) else (0 : Int))) - (0 : Nat)) (List.drop (0 : Nat) (pathF (unstr a))) ++ [(47 : UInt8)] ++ quoF s))], [])) ∧ ((pathF (unstr [[PV.str s]]) == [(47 : UInt8)] ++ quoF s) = false → Q ([TV.pv (PV.bool false)], []))) ∧ (((pathF (unstr a) == pathF (unstr b)) == (unstr a == unstr b)) = false → Q ([TV.pv (PV.bool false)], [])))))) := by kernel_rfl

theorem path_ok {f : FuncId} (h : ∀ p : List (List UInt8), (pathF p).length ≤ 800000 → Ev C f [.pv (.sl (p.map strRow))] ([.pv (.str (pathF p))], [])) : ∀ ag al, g_path ag = some al → ∀ a ∈ al, a.1 → Ev C f ag a.2 := by
  intro ag al hl x hx hp
  unfold g_path at hl
  split at hl
  · have e := one_mem hl hx; subst e
    obtain ⟨l, rfl, h1⟩ := hp
    rw [unstr_map]
    exact h l h1
  · exact absurd hl (by simp)

theorem fewR_ok : ∀ ag al, g_fewR ag = some al → ∀ a ∈ al, a.1 → Ev C 24 ag a.2 := by
  intro ag al hl x hx hp
  unfold g_fewR at hl
  split at hl
  · have e := one_mem hl hx; subst e
    obtain ⟨l, rfl, h1⟩ := hp
    rw [unstr_map]
    exact few_ev l h1
  · exact absurd hl (by simp)

theorem samR_ok : ∀ ag al, g_samR ag = some al → ∀ a ∈ al, a.1 → Ev C 27 ag a.2 := by
  intro ag al hl x hx hp
  unfold g_samR at hl
  split at hl
  · have e := one_mem hl hx; subst e
    obtain ⟨l, m, rfl, rfl, h1⟩ := hp
    rw [unstr_map, unstr_map]
    exact sam_ev l m h1
  · exact absurd hl (by simp)

theorem onlR_ok : ∀ ag al, g_onl ag = some al → ∀ a ∈ al, a.1 → Ev C 29 ag a.2 := by
  intro ag al hl x hx hp
  unfold g_onl at hl
  split at hl
  · have e := one_mem hl hx; subst e
    obtain ⟨l, rfl⟩ := hp
    rw [unstr_map]
    exact onl_ev l
  · exact absurd hl (by simp)

theorem kn_ev : Ev C 23 [] ([.pv (.bool true)], []) :=
  ev_w (specL_ok (specs_cons (path_ok pth_ev) specs_nil)) (kn_w _) ⟨⟨[[97], [98]], rfl, by decide⟩, rfl⟩

theorem kn_ok : ∀ ag al, g_kn ag = some al → ∀ a ∈ al, a.1 → Ev C 23 ag a.2 := by
  intro ag al hl x hx hp
  unfold g_kn at hl
  split at hl
  · have e := one_mem hl hx; subst e
    exact kn_ev
  · exact absurd hl (by simp)

theorem ru_specs : SpecOK C S_ru := specL_ok (specs_cons kn_ok (specs_cons fewR_ok (specs_cons samR_ok (specs_cons onlR_ok (specs_cons (path_ok pth_ev) (specs_cons (path_ok rth_ev) (specs_cons rq_ok specs_nil)))))))

theorem few_size : ∀ {p : List (List UInt8)}, (∀ x ∈ p, x.length ≤ 60) → (togF [47] (p.map quoF)).length ≤ 243 * p.length
  | [], _ => by simp [togF]
  | x :: p, h => by
    have h1 := few_size (p := p) fun y hy => h y (by simp [hy])
    have h2 := h x (by simp)
    have h3 := quoF_le x
    simp only [togF, List.map_cons, List.flatMap_cons, List.length_append, List.length_cons, List.length_nil] at *; omega

theorem few_path {p : List (List UInt8)} (h : fewP p = true) : (pathF p).length ≤ 3000 ∧ p.length ≤ 12 ∧ ∀ x ∈ p, x.length ≤ 60 := by
  simp only [fewP, Bool.and_eq_true, List.all_eq_true, decide_eq_true_eq] at h
  refine ⟨?_, h.2, h.1⟩
  by_cases hp : p = []
  · subst hp; simp [pathF]
  · rw [path_ne hp]
    have := few_size h.1
    omega

theorem path_snoc (p : List (List UInt8)) (s : List UInt8) : pathF (p ++ [s]) = (pathF p).take ((pathF p).length - (if p = [] then 1 else 0)) ++ [47] ++ quoF s := by
  rw [path_ne (by simp)]
  by_cases hp : p = []
  · subst hp; simp [pathF, togF]
  · rw [if_neg hp, path_ne hp, Nat.sub_zero, List.take_length]
    simp [togF]

theorem rowOk_str (l : List (List UInt8)) : rowOk 1 (l.map strRow) = true := by simp [rowOk, strRow]

theorem ru_ev (p q : List (List UInt8)) (s : List UInt8) (h1 : p.length ≤ 140737488351232) (h2 : q.length ≤ 140737488351232) : Ev C 8 [.pv (.sl (p.map strRow)), .pv (.sl (q.map strRow)), .pv (.str s)] good := by
  have hr := room_val
  have hm := maxInt_val
  refine ev_w ru_specs (ru_w _ _ _ _) ⟨trivial, ⟨p, rfl, h1⟩, ?_⟩
  rw [unstr_map, unstr_map]
  refine ⟨fun _ => rfl, fun f1 => ⟨⟨q, rfl, h2⟩, fun _ => rfl, fun f2 => ⟨fun _ => rfl, fun f3 => ?_⟩⟩⟩
  obtain ⟨a1, a2, a3⟩ := few_path (by simpa using f1)
  obtain ⟨b1, b2, b3⟩ := few_path (by simpa using f2)
  simp only [gt_iff_lt, decide_eq_false_iff_not] at f3
  have hs : s.length ≤ 60 := by omega
  have hq := quoF_le s
  have e1 : ((pathF p == pathF q) == (p == q)) = true := by
    by_cases h : p = q
    · rw [h]; simp
    · have : ¬ pathF p = pathF q := fun e => h (pathF_inj e)
      rw [beq_eq_false_iff_ne.2 h, beq_eq_false_iff_ne.2 this]; rfl
  have e2 : pathF [s] = [47] ++ quoF s := by simp [pathF, togF]
  have e3 : unstr [[PV.str s]] = [s] := rfl
  have e4 : p.map strRow ++ [[PV.str s]] = (p ++ [s]).map strRow := by simp [strRow]
  have hl : (p.map strRow).length = p.length := List.length_map _
  have hsn : (pathF (p ++ [s])).length ≤ 4000 := by
    rw [path_snoc]
    simp only [List.length_append, List.length_take, List.length_cons, List.length_nil]; omega
  have hw : IntKind.wrap .i64 (((pathF p).length : Int) - (if p = [] then 1 else 0)) = (((pathF p).length - (if p = [] then 1 else 0) : Nat) : Int) := by
    by_cases hp : p = []
    · subst hp; simp [pathF]; decide
    · rw [if_neg hp, if_neg hp, w64 (by omega)]; omega
  rw [e1, e3, e2, e4, unstr_map, hw, hl]
  have hd : List.take (Int.toNat (((pathF p).length - (if p = [] then 1 else 0) : Nat) : Int) - 0) (List.drop 0 (pathF p)) = (pathF p).take ((pathF p).length - (if p = [] then 1 else 0)) := by
    rw [Int.toNat_natCast, Nat.sub_zero, List.drop_zero]
  rw [hd]
  refine ⟨⟨p, rfl, by omega⟩, ⟨p, rfl, by omega⟩, ⟨q, rfl, by omega⟩, ⟨p, q, rfl, rfl, h1⟩, fun _ => ⟨⟨[s], rfl, by rw [e2]; simp only [List.length_append, List.length_cons, List.length_nil]; omega⟩, by omega, by omega, fun _ => ⟨⟨by omega, by omega⟩, rowOk_str p, ⟨by omega, by omega⟩, ⟨p ++ [s], rfl, by omega⟩, ⟨p, rfl⟩, ⟨by omega, by omega, by simp only [Int.ofNat_eq_natCast]; omega⟩, by simp only [List.length_take]; omega, by omega, by simp only [List.length_append, List.length_take, List.length_cons, List.length_nil]; omega, ?_⟩, fun h => by simp at h⟩, fun h => by simp at h⟩
  rw [path_snoc, beq_self_eq_true]; rfl

theorem ReportUnlike_calls (e1 : List (List PV)) (s1 : Shp Try.prog 30 [.sl e1]) (e2 : List (List PV)) (s2 : Shp Try.prog 30 [.sl e2]) (s : List UInt8) (hs : s.length ≤ 140737488351232) {w : World} {args : List Value} (hr : RepA w noCells [.sl e1, .sl e2, .str s] args) : Calls Try.prog 8 args.toArray w fun e w' => e = .returned (.bool true) ∧ Below w.heap.size w w' := by
  obtain ⟨l, rfl, h1⟩ := strs_of (by kernel_rfl) s1
  obtain ⟨m, rfl, h3⟩ := strs_of (by kernel_rfl) s2
  obtain ⟨k, h⟩ := (ru_ev l m s h1 h3).get
  exact law_calls (C := C) progOKp Try.func8 (by kernel_rfl) (sound h) hr

end Go.Proofs.Ytpcjlhhhmjgffaa.Vm
