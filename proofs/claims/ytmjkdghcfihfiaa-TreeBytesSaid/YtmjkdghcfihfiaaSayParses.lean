/-
  Parse, both, in the machine.
-/
import Derived.Test.YtmjkdghcfihfiaaSayRefTree
namespace Go.Proofs.Ytmjkdghcfihfiaa.Vm
open Go Go.RowKit
set_option linter.unusedVariables false
set_option linter.unusedSimpArgs false
set_option maxRecDepth 100000

def g_new : List TV → Option Alts
  | [.pv (.sl a)] => one (∃ l : List UInt8, a = u8s l ∧ l.length ≤ 80000000) ([.ptr [.pv (.sl a), .pv (.int .i64 0)]], [])
  | _ => none

noncomputable def S_ppa : Specs := specL [(52, g_new), (53, g_pt 12), (54, g_cut), (55, g_en)]

theorem ppa_w (a : List (List PV)) (Q : List TV × List TV → Prop) : (wFun C S_ppa 23 [.pv (.sl a)] Q) (H.b (H.b (H.b H.auto H.auto) (H.b H.auto H.auto)) (H.b (H.b (H.b H.auto H.auto) (H.b H.auto H.auto)) H.auto)) = ((∃ (l : List UInt8), a = u8s l ∧ List.length l ≤ (80000000 : Nat)) ∧ orAll [(((∃ (l : List UInt8), a = u8s l) ∧ (0 : Int) = (0 : Int) ∧ (0 : Int) = (0 : Int) ∧ (400 : Int) = (400 : Int) ∧ ((0 : Int) ≤ (0 : Int) ∧ (0 : Int) ≤ (400 : Int)) ∧ (1 : Int) + (↑(12 : Nat) : Int) = (13 : Int) ∧ (0 : Int) ≤ (1 : Int)) ∧ ptNil a (0 : Int) (1 : Int) = true, [TV.pv (PV.sl [])], [TV.ptr [TV.ptr [TV.pv (PV.sl (ptL a (0 : Int) (1 : Int))), TV.pv (PV.int IntKind.i64 (ptE a (0 : Int) (1 : Int)))], TV.pv (PV.int IntKind.i64 (ptN a (0 : Int) (1 : Int))), TV.pv (PV.int IntKind.i64 (400 : Int)), TV.pv (PV.int IntKind.i64 (ptR a (0 : Int) (1 : Int)))]]), (((∃ (l : List UInt8), a = u8s l) ∧ (0 : Int) = (0 : Int) ∧ (0 : Int) = (0 : Int) ∧ (400 : Int) = (400 : Int) ∧ ((0 : Int) ≤ (0 : Int) ∧ (0 : Int) ≤ (400 : Int)) ∧ (1 : Int) + (↑(12 : Nat) : Int) = (13 : Int) ∧ (0 : Int) ≤ (1 : Int)) ∧ ptNil a (0 : Int) (1 : Int) = false, [TV.own (2 : Nat) (ptT a (0 : Int) (1 : Int))], [TV.ptr [TV.ptr [TV.pv (PV.sl (ptL a (0 : Int) (1 : Int))), TV.pv (PV.int IntKind.i64 (ptE a (0 : Int) (1 : Int)))], TV.pv (PV.int IntKind.i64 (ptN a (0 : Int) (1 : Int))), TV.pv (PV.int IntKind.i64 (400 : Int)), TV.pv (PV.int IntKind.i64 (ptR a (0 : Int) (1 : Int)))]])] ∧ (((∃ (l : List UInt8), a = u8s l) ∧ (0 : Int) = (0 : Int) ∧ (0 : Int) = (0 : Int) ∧ (400 : Int) = (400 : Int) ∧ ((0 : Int) ≤ (0 : Int) ∧ (0 : Int) ≤ (400 : Int)) ∧ (13 : Int) = (13 : Int) ∧ (0 : Int) ≤ (1 : Int)) ∧ ptNil a (0 : Int) (1 : Int) = true → True ∧ ((!cutE (ptL a (0 : Int) (1 : Int)) (ptE a (0 : Int) (1 : Int)) (ptR a (0 : Int) (1 : Int)) != (0 : Int)) = true → True ∧ ((endE (ptL a (0 : Int) (1 : Int)) (ptE a (0 : Int) (1 : Int)) != (0 : Int)) = true → Q ([TV.pv (PV.sl []), TV.pv (PV.int IntKind.i64 (endE (ptL a (0 : Int) (1 : Int)) (ptE a (0 : Int) (1 : Int))))], [])) ∧ ((endE (ptL a (0 : Int) (1 : Int)) (ptE a (0 : Int) (1 : Int)) != (0 : Int)) = false → Q ([TV.pv (PV.sl []), TV.pv (PV.int IntKind.i64 (0 : Int))], []))) ∧ ((!cutE (ptL a (0 : Int) (1 : Int)) (ptE a (0 : Int) (1 : Int)) (ptR a (0 : Int) (1 : Int)) != (0 : Int)) = false → ((cutE (ptL a (0 : Int) (1 : Int)) (ptE a (0 : Int) (1 : Int)) (ptR a (0 : Int) (1 : Int)) != (0 : Int)) = true → Q ([TV.pv (PV.sl []), TV.pv (PV.int IntKind.i64 (cutE (ptL a (0 : Int) (1 : Int)) (ptE a (0 : Int) (1 : Int)) (ptR a (0 : Int) (1 : Int))))], [])) ∧ ((cutE (ptL a (0 : Int) (1 : Int)) (ptE a (0 : Int) (1 : Int)) (ptR a (0 : Int) (1 : Int)) != (0 : Int)) = false → Q ([TV.pv (PV.sl []), TV.pv (PV.int IntKind.i64 (0 : Int))], [])))) ∧ (((∃ (l : List UInt8), a = u8s l) ∧ (0 : Int) = (0 : Int) ∧ (0 : Int) = (0 : Int) ∧ (400 : Int) = (400 : Int) ∧ ((0 : Int) ≤ (0 : Int) ∧ (0 : Int) ≤ (400 : Int)) ∧ (13 : Int) = (13 : Int) ∧ (0 : Int) ≤ (1 : Int)) ∧ ptNil a (0 : Int) (1 : Int) = false → True ∧ ((!cutE (ptL a (0 : Int) (1 : Int)) (ptE a (0 : Int) (1 : Int)) (ptR a (0 : Int) (1 : Int)) != (0 : Int)) = true → True ∧ ((endE (ptL a (0 : Int) (1 : Int)) (ptE a (0 : Int) (1 : Int)) != (0 : Int)) = true → Q ([TV.pv (PV.sl []), TV.pv (PV.int IntKind.i64 (endE (ptL a (0 : Int) (1 : Int)) (ptE a (0 : Int) (1 : Int))))], [])) ∧ ((endE (ptL a (0 : Int) (1 : Int)) (ptE a (0 : Int) (1 : Int)) != (0 : Int)) = false → Q ([TV.own (2 : Nat) (ptT a (0 : Int) (1 : Int)), TV.pv (PV.int IntKind.i64 (0 : Int))], []))) ∧ ((!cutE (ptL a (0 : Int) (1 : Int)) (ptE a (0 : Int) (1 : Int)) (ptR a (0 : Int) (1 : Int)) != (0 : Int)) = false → ((cutE (ptL a (0 : Int) (1 : Int)) (ptE a (0 : Int) (1 : Int)) (ptR a (0 : Int) (1 : Int)) != (0 : Int)) = true → Q ([TV.pv (PV.sl []), TV.pv (PV.int IntKind.i64 (cutE (ptL a (0 : Int) (1 : Int)) (ptE a (0 : Int) (1 : Int)) (ptR a (0 : Int) (1 : Int))))], [])) ∧ ((cutE (ptL a (0 : Int) (1 : Int)) (ptE a (0 : Int) (1 : Int)) (ptR a (0 : Int) (1 : Int)) != (0 : Int)) = false → Q ([TV.own (2 : Nat) (ptT a (0 : Int) (1 : Int)), TV.pv (PV.int IntKind.i64 (0 : Int))], [])))) ∧ True) := by kernel_rfl

theorem rew_w (a : List (List PV)) (p e : Int) (Q : List TV × List TV → Prop) : (wFun C noSpec 61 [.ptr [.pv (.sl a), .pv (.int .i64 p), .pv (.int .i64 e)]] Q) (H.b (H.n (10 : Nat) (H.b H.auto H.auto)) H.auto) = (((e == (0 : Int)) = true → (decide (p < (↑(List.length a) : Int)) = true → Q ([TV.pv (PV.int IntKind.i64 (9 : Int))], [TV.ptr [TV.pv (PV.sl a), TV.pv (PV.int IntKind.i64 p), TV.pv (PV.int IntKind.i64 e)]])) ∧ (decide (p < (↑(List.length a) : Int)) = false → Q ([TV.pv (PV.int IntKind.i64 e)], [TV.ptr [TV.pv (PV.sl a), TV.pv (PV.int IntKind.i64 p), TV.pv (PV.int IntKind.i64 e)]]))) ∧ ((e == (0 : Int)) = false → Q ([TV.pv (PV.int IntKind.i64 e)], [TV.ptr [TV.pv (PV.sl a), TV.pv (PV.int IntKind.i64 p), TV.pv (PV.int IntKind.i64 e)]]))) := by kernel_rfl

theorem rnw_w (a : List (List PV)) (Q : List TV × List TV → Prop) : (wFun C noSpec 59 [.pv (.sl a)] Q) (H.auto) = (Q ([TV.ptr [TV.pv (PV.sl a), TV.pv (PV.int IntKind.i64 (0 : Int)), TV.pv (PV.int IntKind.i64 (0 : Int))]], [])) := by kernel_rfl

def g_rnew : List TV → Option Alts
  | [.pv (.sl a)] => one True ([.ptr [.pv (.sl a), .pv (.int .i64 0), .pv (.int .i64 0)]], [])
  | _ => none

def rendE (a : List (List PV)) (p e : Int) : Int := if e = 0 ∧ p < (a.length : Int) then 9 else e

def g_rend : List TV → Option Alts
  | [.ptr [.pv (.sl a), .pv (.int .i64 p), .pv (.int .i64 e)]] => one True ([.pv (.int .i64 (rendE a p e))], [.ptr [.pv (.sl a), .pv (.int .i64 p), .pv (.int .i64 e)]])
  | _ => none

noncomputable def S_rpa : Specs := specL [(59, g_rnew), (60, g_rpt 12), (61, g_rend)]

theorem rpa_w (a : List (List PV)) (Q : List TV × List TV → Prop) : (wFun C S_rpa 26 [.pv (.sl a)] Q) (H.b (H.b H.auto H.auto) (H.b (H.b H.auto H.auto) H.auto)) = (True ∧ orAll [(((∃ (l : List UInt8), a = u8s l ∧ List.length l ≤ (140737488355328 : Nat)) ∧ ((0 : Int) ≤ (0 : Int) ∧ (0 : Int) ≤ (↑(List.length a) : Int)) ∧ (0 : Int) = (0 : Int) ∧ (0 : Int) = (0 : Int) ∧ ((0 : Int) ≤ (0 : Int) ∧ (0 : Int) ≤ (400 : Int)) ∧ (1 : Int) + (↑(12 : Nat) : Int) = (13 : Int) ∧ (0 : Int) ≤ (1 : Int)) ∧ rpNil a (0 : Int) (0 : Int) (1 : Int) = true, [TV.pv (PV.sl [])], [TV.ptr [TV.ptr [TV.pv (PV.sl a), TV.pv (PV.int IntKind.i64 (rpP a (0 : Int) (0 : Int) (1 : Int))), TV.pv (PV.int IntKind.i64 (rpE a (0 : Int) (0 : Int) (1 : Int)))], TV.pv (PV.int IntKind.i64 (rpN a (0 : Int) (0 : Int) (1 : Int))), TV.pv (PV.int IntKind.i64 (0 : Int))]]), (((∃ (l : List UInt8), a = u8s l ∧ List.length l ≤ (140737488355328 : Nat)) ∧ ((0 : Int) ≤ (0 : Int) ∧ (0 : Int) ≤ (↑(List.length a) : Int)) ∧ (0 : Int) = (0 : Int) ∧ (0 : Int) = (0 : Int) ∧ ((0 : Int) ≤ (0 : Int) ∧ (0 : Int) ≤ (400 : Int)) ∧ (1 : Int) + (↑(12 : Nat) : Int) = (13 : Int) ∧ (0 : Int) ≤ (1 : Int)) ∧ rpNil a (0 : Int) (0 : Int) (1 : Int) = false, [TV.own (2 : Nat) (rpT a (0 : Int) (0 : Int) (1 : Int))], [TV.ptr [TV.ptr [TV.pv (PV.sl a), TV.pv (PV.int IntKind.i64 (rpP a (0 : Int) (0 : Int) (1 : Int))), TV.pv (PV.int IntKind.i64 (rpE a (0 : Int) (0 : Int) (1 : Int)))], TV.pv (PV.int IntKind.i64 (rpN a (0 : Int) (0 : Int) (1 : Int))), TV.pv (PV.int IntKind.i64 (0 : Int))]])] ∧ (((∃ (l : List UInt8), a = u8s l ∧ List.length l ≤ (140737488355328 : Nat)) ∧ ((0 : Int) ≤ (0 : Int) ∧ (0 : Int) ≤ (↑(List.length a) : Int)) ∧ (0 : Int) = (0 : Int) ∧ (0 : Int) = (0 : Int) ∧ ((0 : Int) ≤ (0 : Int) ∧ (0 : Int) ≤ (400 : Int)) ∧ (13 : Int) = (13 : Int) ∧ (0 : Int) ≤ (1 : Int)) ∧ rpNil a (0 : Int) (0 : Int) (1 : Int) = true → True ∧ ((rendE a (rpP a (0 : Int) (0 : Int) (1 : Int)) (rpE a (0 : Int) (0 : Int) (1 : Int)) != (0 : Int)) = true → Q ([TV.pv (PV.sl []), TV.pv (PV.int IntKind.i64 (rendE a (rpP a (0 : Int) (0 : Int) (1 : Int)) (rpE a (0 : Int) (0 : Int) (1 : Int))))], [])) ∧ ((rendE a (rpP a (0 : Int) (0 : Int) (1 : Int)) (rpE a (0 : Int) (0 : Int) (1 : Int)) != (0 : Int)) = false → Q ([TV.pv (PV.sl []), TV.pv (PV.int IntKind.i64 (0 : Int))], []))) ∧ (((∃ (l : List UInt8), a = u8s l ∧ List.length l ≤ (140737488355328 : Nat)) ∧ ((0 : Int) ≤ (0 : Int) ∧ (0 : Int) ≤ (↑(List.length a) : Int)) ∧ (0 : Int) = (0 : Int) ∧ (0 : Int) = (0 : Int) ∧ ((0 : Int) ≤ (0 : Int) ∧ (0 : Int) ≤ (400 : Int)) ∧ (13 : Int) = (13 : Int) ∧ (0 : Int) ≤ (1 : Int)) ∧ rpNil a (0 : Int) (0 : Int) (1 : Int) = false → True ∧ ((rendE a (rpP a (0 : Int) (0 : Int) (1 : Int)) (rpE a (0 : Int) (0 : Int) (1 : Int)) != (0 : Int)) = true → Q ([TV.pv (PV.sl []), TV.pv (PV.int IntKind.i64 (rendE a (rpP a (0 : Int) (0 : Int) (1 : Int)) (rpE a (0 : Int) (0 : Int) (1 : Int))))], [])) ∧ ((rendE a (rpP a (0 : Int) (0 : Int) (1 : Int)) (rpE a (0 : Int) (0 : Int) (1 : Int)) != (0 : Int)) = false → Q ([TV.own (2 : Nat) (rpT a (0 : Int) (0 : Int) (1 : Int)), TV.pv (PV.int IntKind.i64 (0 : Int))], []))) ∧ True) := by kernel_rfl

noncomputable def parE (a : List (List PV)) : Int := match parseB (ofU8s a) with
  | .error e => e
  | .ok _ => 0

noncomputable def parT (a : List (List PV)) : List (List PV) := match parseB (ofU8s a) with
  | .error _ => []
  | .ok t => t.rows

/-- What Parse answers. -/
def PaR (b : List UInt8) (r : List TV × List TV) : Prop := (parE (u8s b) ≠ 0 ∧ r = ([.pv (.sl []), .pv (.int .i64 (parE (u8s b)))], [])) ∨ (parE (u8s b) = 0 ∧ r = ([.own 2 (parT (u8s b)), .pv (.int .i64 0)], []))

theorem par_err {b : List UInt8} {e : Int} (h : parseB b = .error e) (he : e ≠ 0) : PaR b ([.pv (.sl []), .pv (.int .i64 e)], []) := by
  have e1 : parE (u8s b) = e := by rw [parE, ofU8s_u8s, h]
  exact .inl ⟨by rw [e1]; exact he, by rw [e1]⟩

theorem par_ok {b : List UInt8} {t : Tr} (h : parseB b = .ok t) : PaR b ([.own 2 t.rows, .pv (.int .i64 0)], []) := by
  have e1 : parE (u8s b) = 0 := by rw [parE, ofU8s_u8s, h]
  have e2 : parT (u8s b) = t.rows := by rw [parT, ofU8s_u8s, h]
  exact .inr ⟨e1, by rw [e2]⟩

theorem parseB_err {b : List UInt8} {e : Int} (h : parseD 12 1 b 0 = .error e) : parseB b = .error e ∧ isErr e := by
  have hg := parseD_good 12 1 b 0 (by decide) (by decide)
  rw [h] at hg
  exact ⟨by rw [parseB, h], hg⟩

theorem parseB_ok {b l : List UInt8} {t : Tr} {n : Int} (h : parseD 12 1 b 0 = .ok (t, l, n)) : parseB b = if l = [] then .ok t else .error 9 := by
  rw [parseB, h]
  cases l with
  | nil => rfl
  | cons a l => rw [if_neg (by simp)]

theorem new_ok : ∀ ag al, g_new ag = some al → ∀ a ∈ al, a.1 → Ev C 52 ag a.2 := by
  intro ag al hl x hx hp
  unfold g_new at hl
  split at hl
  · have e := one_mem hl hx; subst e
    obtain ⟨l, rfl, h⟩ := hp
    have hS : SpecOK C S_new := specL_ok (specs_cons wi2_ok specs_nil)
    refine ev_w hS (nw_w (u8s l) _) ⟨⟨l, [], rfl, rfl, by simp; omega⟩, ?_⟩
    rw [List.append_nil]
  · exact absurd hl (by simp)

theorem parse_ex (b : List UInt8) (hb : b.length ≤ 80000000) : ∃ r, Ev C 23 [.pv (.sl (u8s b))] r ∧ PaR b r := by
  have hS : SpecOK C S_ppa := specL_ok (specs_cons new_ok (specs_cons (pt_ok' (ptree_ex 12)) (specs_cons cut_ok (specs_cons en_ok specs_nil))))
  have hP := (ptV_spec (f := 12) (d := 1) (by decide) (by decide) (ptree_ex 12 1 (by decide) (by decide) b 0 (by decide))).2
  refine ev_wx hS (ppa_w (u8s b) _) ⟨⟨b, rfl, hb⟩, ?_⟩
  unfold ptNil ptT ptL ptE ptN ptR
  generalize ptV (u8s b) 0 1 = v at *
  have hc : (∃ l : List UInt8, u8s b = u8s l) ∧ (0 : Int) = 0 ∧ (0 : Int) = 0 ∧ (400 : Int) = 400 ∧ ((0 : Int) ≤ 0 ∧ (0 : Int) ≤ 400) ∧ (13 : Int) = 13 ∧ (0 : Int) ≤ 1 := ⟨⟨b, rfl⟩, rfl, rfl, rfl, by decide, rfl, by decide⟩
  cases hR : parseD 12 1 b 0 with
  | error x =>
    rw [hR] at hP
    obtain ⟨p1, p2⟩ := hP
    obtain ⟨h1, h2⟩ := parseB_err hR
    have h0 : x ≠ 0 := by unfold isErr at h2; omega
    have hcut : cutE (u8s v.l) v.e v.r = x := by rw [p1]; exact cut_bad _ h2 p2
    rw [hcut]
    have hx : (x != 0) = true := bne_iff_ne.2 h0
    rw [hx]
    refine ⟨?_, fun _ => ⟨trivial, fun h => absurd h (by decide), fun _ => ⟨fun _ => par_err h1 h0, fun h => absurd h (by decide)⟩⟩, fun _ => ⟨trivial, fun h => absurd h (by decide), fun _ => ⟨fun _ => par_err h1 h0, fun h => absurd h (by decide)⟩⟩, trivial⟩
    cases hv : v.isNil with
    | true => exact .inl ⟨⟨⟨b, rfl⟩, rfl, rfl, rfl, by decide, by decide, by decide⟩, rfl⟩
    | false => exact .inr ⟨⟨⟨b, rfl⟩, rfl, rfl, rfl, by decide, by decide, by decide⟩, rfl⟩
  | ok z =>
    obtain ⟨t, l, n⟩ := z
    rw [hR] at hP
    obtain ⟨p1, p2, p3, p4, p5, p6⟩ := hP
    have h1 := parseB_ok hR
    rw [p4, p6, cut_zero, p1, p2, p3]
    refine ⟨.inr ⟨⟨⟨b, rfl⟩, rfl, rfl, rfl, by decide, by decide, by decide⟩, rfl⟩, fun h => absurd h.2 (by decide), fun _ => ⟨trivial, fun _ => ⟨trivial, fun h => ?_, fun h => ?_⟩, fun h => absurd h (by decide)⟩, trivial⟩
    · have h : endE (u8s l) 0 ≠ 0 := bne_iff_ne.1 h
      have hl : l ≠ [] := by rintro rfl; exact h rfl
      have e9 : endE (u8s l) 0 = 9 := by
        rw [endE, if_pos ⟨rfl, by rw [u8s_len]; cases l with | nil => exact absurd rfl hl | cons a l => simp⟩]
      rw [if_neg hl] at h1
      rw [e9]
      exact par_err h1 (by decide)
    · have h : endE (u8s l) 0 = 0 := by simpa using h
      have hl : l = [] := by
        cases l with
        | nil => rfl
        | cons a l => rw [endE, if_pos ⟨rfl, by rw [u8s_len]; simp⟩] at h; exact absurd h (by decide)
      rw [if_pos hl] at h1
      exact par_ok h1

theorem rend_ok : ∀ ag al, g_rend ag = some al → ∀ a ∈ al, a.1 → Ev C 61 ag a.2 := by
  intro ag al hl x hx hp
  unfold g_rend at hl
  split at hl
  · rename_i a p e
    have e' := one_mem hl hx; subst e'
    refine ev_w noSpec_ok (rew_w a p e _) ⟨fun h => ⟨fun h2 => ?_, fun h2 => ?_⟩, fun h => ?_⟩
    · rw [rendE, if_pos ⟨by simpa using h, by simpa using h2⟩]
    · rw [rendE, if_neg (fun q => by simp at h2; omega)]
    · rw [rendE, if_neg (fun q => by simp [q.1] at h)]
  · exact absurd hl (by simp)

theorem rnew_ok : ∀ ag al, g_rnew ag = some al → ∀ a ∈ al, a.1 → Ev C 59 ag a.2 := by
  intro ag al hl x hx hp
  unfold g_rnew at hl
  split at hl
  · have e := one_mem hl hx; subst e
    exact ev_w noSpec_ok (rnw_w _ _) rfl
  · exact absurd hl (by simp)

theorem rparse_ex (b : List UInt8) (hb : b.length ≤ 80000000) : ∃ r, Ev C 26 [.pv (.sl (u8s b))] r ∧ PaR b r := by
  have hS : SpecOK C S_rpa := specL_ok (specs_cons rnew_ok (specs_cons (rpt_ok' (rtree_ex 12)) (specs_cons rend_ok specs_nil)))
  have hlu := u8s_len b
  have hP := (rvV_spec (f := 12) (d := 1) (by decide) (rtree_ex 12 1 (by decide) (by decide) b 0 0 (by omega) (by omega) (by decide))).2
  refine ev_wx hS (rpa_w (u8s b) _) ⟨trivial, ?_⟩
  unfold rpNil rpT rpP rpE rpN
  generalize rvV (u8s b) 0 0 1 = v at *
  rw [show (0 : Int).toNat = 0 from rfl, List.drop_zero] at hP
  have hor : orAll [(((∃ l : List UInt8, u8s b = u8s l ∧ l.length ≤ 140737488355328) ∧ ((0 : Int) ≤ 0 ∧ (0 : Int) ≤ ((u8s b).length : Int)) ∧ (0 : Int) = 0 ∧ (0 : Int) = 0 ∧ ((0 : Int) ≤ 0 ∧ (0 : Int) ≤ 400) ∧ (1 : Int) + ((12 : Nat) : Int) = 13 ∧ (0 : Int) ≤ 1) ∧ v.isNil = true, ([TV.pv (PV.sl [])], [TV.ptr [TV.ptr [TV.pv (PV.sl (u8s b)), TV.pv (PV.int .i64 v.p), TV.pv (PV.int .i64 v.e)], TV.pv (PV.int .i64 v.n), TV.pv (PV.int .i64 0)]])), (((∃ l : List UInt8, u8s b = u8s l ∧ l.length ≤ 140737488355328) ∧ ((0 : Int) ≤ 0 ∧ (0 : Int) ≤ ((u8s b).length : Int)) ∧ (0 : Int) = 0 ∧ (0 : Int) = 0 ∧ ((0 : Int) ≤ 0 ∧ (0 : Int) ≤ 400) ∧ (1 : Int) + ((12 : Nat) : Int) = 13 ∧ (0 : Int) ≤ 1) ∧ v.isNil = false, ([TV.own 2 v.t], [TV.ptr [TV.ptr [TV.pv (PV.sl (u8s b)), TV.pv (PV.int .i64 v.p), TV.pv (PV.int .i64 v.e)], TV.pv (PV.int .i64 v.n), TV.pv (PV.int .i64 0)]]))] := by
    have hc : (∃ l : List UInt8, u8s b = u8s l ∧ l.length ≤ 140737488355328) ∧ ((0 : Int) ≤ 0 ∧ (0 : Int) ≤ ((u8s b).length : Int)) ∧ (0 : Int) = 0 ∧ (0 : Int) = 0 ∧ ((0 : Int) ≤ 0 ∧ (0 : Int) ≤ 400) ∧ (1 : Int) + ((12 : Nat) : Int) = 13 ∧ (0 : Int) ≤ 1 := ⟨⟨b, rfl, by omega⟩, ⟨by decide, by omega⟩, rfl, rfl, by decide, by decide, by decide⟩
    cases hv : v.isNil with
    | true => exact .inl ⟨hc, rfl⟩
    | false => exact .inr ⟨hc, rfl⟩
  refine ⟨hor, ?_⟩
  clear hor
  cases hR : parseD 12 1 b 0 with
  | error x =>
    rw [hR] at hP
    have hP : v.e = x := hP
    obtain ⟨h1, h2⟩ := parseB_err hR
    have h0 : x ≠ 0 := by unfold isErr at h2; omega
    have he : rendE (u8s b) v.p v.e = x := by rw [rendE, hP, if_neg (fun q => h0 q.1)]
    have hx : (x != 0) = true := bne_iff_ne.2 h0
    rw [he, hx]
    exact ⟨fun _ => ⟨trivial, fun _ => par_err h1 h0, fun h => absurd h (by decide)⟩, fun _ => ⟨trivial, fun _ => par_err h1 h0, fun h => absurd h (by decide)⟩, trivial⟩
  | ok z =>
    obtain ⟨t, l, n⟩ := z
    rw [hR] at hP
    obtain ⟨p1, p2, p3, p4, p5, p6⟩ := hP
    have h1 := parseB_ok hR
    rw [p1, p2, p3]
    have hl2 := congrArg List.length p6
    rw [List.length_drop] at hl2
    refine ⟨fun h => absurd h.2 (by decide), fun _ => ⟨trivial, fun h => ?_, fun h => ?_⟩, trivial⟩
    · have h : rendE (u8s b) v.p 0 ≠ 0 := bne_iff_ne.1 h
      have hlt : v.p < ((u8s b).length : Int) := by
        rcases Int.lt_or_le v.p ((u8s b).length : Int) with h2 | h2
        · exact h2
        · rw [rendE, if_neg (fun q => by omega)] at h; exact absurd rfl h
      have e9 : rendE (u8s b) v.p 0 = 9 := by rw [rendE, if_pos ⟨rfl, hlt⟩]
      have hl : l ≠ [] := by rintro rfl; simp only [List.length_nil] at hl2; omega
      rw [if_neg hl] at h1
      rw [e9]
      exact par_err h1 (by decide)
    · have h : rendE (u8s b) v.p 0 = 0 := by simpa using h
      have hge : ¬ v.p < ((u8s b).length : Int) := fun h2 => by rw [rendE, if_pos ⟨rfl, h2⟩] at h; exact absurd h (by decide)
      have hl : l = [] := List.eq_nil_of_length_eq_zero (by omega)
      rw [if_pos hl] at h1
      exact par_ok h1

noncomputable def g_parse : List TV → Option Alts
  | [.pv (.sl a)] => some [((∃ l : List UInt8, a = u8s l ∧ l.length ≤ 80000000) ∧ parE a ≠ 0, [.pv (.sl []), .pv (.int .i64 (parE a))], []), ((∃ l : List UInt8, a = u8s l ∧ l.length ≤ 80000000) ∧ parE a = 0, [.own 2 (parT a), .pv (.int .i64 0)], [])]
  | _ => none

theorem parse_ok {f : FuncId} (h : ∀ b : List UInt8, b.length ≤ 80000000 → ∃ r, Ev C f [.pv (.sl (u8s b))] r ∧ PaR b r) : ∀ ag al, g_parse ag = some al → ∀ a ∈ al, a.1 → Ev C f ag a.2 := by
  intro ag al hl x hx hp
  unfold g_parse at hl
  split at hl
  · simp only [Option.some.injEq] at hl; subst hl
    simp only [List.mem_cons, List.not_mem_nil, or_false] at hx
    rcases hx with rfl | rfl
    · obtain ⟨⟨l, rfl, hl⟩, hp⟩ := hp
      obtain ⟨r, h1, h2⟩ := h l hl
      rcases h2 with ⟨_, rfl⟩ | ⟨g, _⟩
      · exact h1
      · exact absurd g hp
    · obtain ⟨⟨l, rfl, hl⟩, hp⟩ := hp
      obtain ⟨r, h1, h2⟩ := h l hl
      rcases h2 with ⟨g, _⟩ | ⟨_, rfl⟩
      · exact absurd hp g
      · exact h1
  · exact absurd hl (by simp)

end Go.Proofs.Ytmjkdghcfihfiaa.Vm
