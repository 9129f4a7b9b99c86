/-
  TreeTexts, in the machine.
-/
import Derived.Test.YtmjkdghcfihfiaaSayTreePlain
import Derived.Test.YtmjkdghcfihfiaaSayRaw
namespace Go.Proofs.Ytmjkdghcfihfiaa.Vm
open Go Go.RowKit
set_option linter.unusedVariables false
set_option linter.unusedSimpArgs false
set_option maxRecDepth 100000

noncomputable def g_makeA : List TV → Option Alts
  | [.pv (.sl a), .pv (.int .i64 w), .pv (.int .i64 d)] => one (∃ l : Tr, a = l.rows ∧ l.list.length ≤ 140737488351232 ∧ l.lim 140737488351232 ∧ (0 ≤ w ∧ w ≤ 4000) ∧ 0 ≤ d ∧ d ≤ 4000) ([.own 2 (makeF w.toNat d.toNat (unrow a)).rows], [])
  | _ => none

theorem makeA_ok : ∀ ag al, g_makeA ag = some al → ∀ a ∈ al, a.1 → Ev C 18 ag a.2 := by
  intro ag al hl x hx hp
  unfold g_makeA at hl
  split at hl
  · rename_i a w d
    have e := one_mem hl hx; subst e
    obtain ⟨l, rfl, h1, h2, h3, h4⟩ := hp
    rw [unrow_rows]
    have := make_ev w.toNat (by omega) d.toNat l (by omega) h1 h2
    rwa [show ((w.toNat : Nat) : Int) = w by omega, show ((d.toNat : Nat) : Int) = d by omega] at this
  · exact absurd hl (by simp)

noncomputable def S_tt : Specs := specL [(16, g_few), (18, g_makeA), (21, g_rsame 1000), (22, g_rsame 1000), (14, g_txt 1000), (15, g_byt 1000)]

theorem tt_w (a b : List (List PV)) (Q : List TV × List TV → Prop) : (wFun C S_tt 5 [.pv (.sl a), .pv (.sl b)] Q) (H.n (1 : Nat) (H.b H.auto (H.n (3 : Nat) (H.b H.auto (H.n (3 : Nat) (H.b (H.n (1 : Nat) (H.s (H.n (1 : Nat) (H.s (H.n (2 : Nat) (H.s (H.n (1 : Nat) (H.s (H.n (4 : Nat) (H.b H.auto H.auto)))))))))) H.auto)))))) = ((∃ (l : Tr), a = Tr.rows l ∧ List.length (Tr.list l) ≤ (140737488351232 : Nat) ∧ Tr.lim (140737488351232 : Nat) l) ∧ ((!fewF a) = true → Q ([TV.pv (PV.bool true)], [])) ∧ ((!fewF a) = false → (∃ (l : Tr), b = Tr.rows l ∧ List.length (Tr.list l) ≤ (140737488351232 : Nat) ∧ Tr.lim (140737488351232 : Nat) l) ∧ ((!fewF b) = true → Q ([TV.pv (PV.bool true)], [])) ∧ ((!fewF b) = false → (∃ (l : Tr), a = Tr.rows l ∧ List.length (Tr.list l) ≤ (140737488351232 : Nat) ∧ Tr.lim (140737488351232 : Nat) l ∧ ((0 : Int) ≤ (6 : Int) ∧ (6 : Int) ≤ (4000 : Int)) ∧ (0 : Int) ≤ (5 : Int) ∧ (5 : Int) ≤ (4000 : Int)) ∧ (∃ (l : Tr), b = Tr.rows l ∧ List.length (Tr.list l) ≤ (140737488351232 : Nat) ∧ Tr.lim (140737488351232 : Nat) l ∧ ((0 : Int) ≤ (6 : Int) ∧ (6 : Int) ≤ (4000 : Int)) ∧ (0 : Int) ≤ (5 : Int) ∧ (5 : Int) ≤ (4000 : Int)) ∧ (∃ (t : Tr), ∃ (u : Tr), Tr.rows (makeF (6 : Nat) (5 : Nat) (unrow a)) = Tr.rows t ∧ Tr.rows (makeF (6 : Nat) (5 : Nat) (unrow b)) = Tr.rows u ∧ Tr.nodes t < (1000 : Nat) ∧ Tr.nodes t ≤ (4000000 : Nat)) ∧ (∃ (t : Tr), Tr.rows (makeF (6 : Nat) (5 : Nat) (unrow a)) = Tr.rows t ∧ Tr.nodes t < (1000 : Nat) ∧ List.length (textT t) ≤ (4000000 : Nat)) ∧ (∃ (t : Tr), Tr.rows (makeF (6 : Nat) (5 : Nat) (unrow b)) = Tr.rows t ∧ Tr.nodes t < (1000 : Nat) ∧ List.length (textT t) ≤ (4000000 : Nat)) ∧ (((textT (unrow (Tr.rows (makeF (6 : Nat) (5 : Nat) (unrow a)))) == textT (unrow (Tr.rows (makeF (6 : Nat) (5 : Nat) (unrow b))))) == sameF (Tr.rows (makeF (6 : Nat) (5 : Nat) (unrow a))) (Tr.rows (makeF (6 : Nat) (5 : Nat) (unrow b)))) = true → (∃ (t : Tr), Tr.rows (makeF (6 : Nat) (5 : Nat) (unrow a)) = Tr.rows t ∧ Tr.nodes t < (1000 : Nat) ∧ List.length (binT t) ≤ (40000000 : Nat)) ∧ (flatTVs [TV.own (1 : Nat) (u8s (binT (unrow (Tr.rows (makeF (6 : Nat) (5 : Nat) (unrow a))))))] && true) = true ∧ u8Row (u8s (binT (unrow (Tr.rows (makeF (6 : Nat) (5 : Nat) (unrow a)))))) = true ∧ (∃ (t : Tr), Tr.rows (makeF (6 : Nat) (5 : Nat) (unrow b)) = Tr.rows t ∧ Tr.nodes t < (1000 : Nat) ∧ List.length (binT t) ≤ (40000000 : Nat)) ∧ (flatTVs [TV.own (1 : Nat) (u8s (binT (unrow (Tr.rows (makeF (6 : Nat) (5 : Nat) (unrow b))))))] && true) = true ∧ u8Row (u8s (binT (unrow (Tr.rows (makeF (6 : Nat) (5 : Nat) (unrow b)))))) = true ∧ (((ofU8s (u8s (binT (unrow (Tr.rows (makeF (6 : Nat) (5 : Nat) (unrow a)))))) == ofU8s (u8s (binT (unrow (Tr.rows (makeF (6 : Nat) (5 : Nat) (unrow b))))))) == sameF (Tr.rows (makeF (6 : Nat) (5 : Nat) (unrow a))) (Tr.rows (makeF (6 : Nat) (5 : Nat) (unrow b)))) = true → (∃ (t : Tr), ∃ (u : Tr), Tr.rows (makeF (6 : Nat) (5 : Nat) (unrow a)) = Tr.rows t ∧ Tr.rows (makeF (6 : Nat) (5 : Nat) (unrow b)) = Tr.rows u ∧ Tr.nodes t < (1000 : Nat) ∧ Tr.nodes t ≤ (4000000 : Nat)) ∧ Q ([TV.pv (PV.bool (sameF (Tr.rows (makeF (6 : Nat) (5 : Nat) (unrow a))) (Tr.rows (makeF (6 : Nat) (5 : Nat) (unrow b))) == sameF (Tr.rows (makeF (6 : Nat) (5 : Nat) (unrow a))) (Tr.rows (makeF (6 : Nat) (5 : Nat) (unrow b)))))], [])) ∧ (((ofU8s (u8s (binT (unrow (Tr.rows (makeF (6 : Nat) (5 : Nat) (unrow a)))))) == ofU8s (u8s (binT (unrow (Tr.rows (makeF (6 : Nat) (5 : Nat) (unrow b))))))) == sameF (Tr.rows (makeF (6 : Nat) (5 : Nat) (unrow a))) (Tr.rows (makeF (6 : Nat) (5 : Nat) (unrow b)))) = false → Q ([TV.pv (PV.bool false)], []))) ∧ (((textT (unrow (Tr.rows (makeF (6 : Nat) (5 : Nat) (unrow a)))) == textT (unrow (Tr.rows (makeF (6 : Nat) (5 : Nat) (unrow b))))) == sameF (Tr.rows (makeF (6 : Nat) (5 : Nat) (unrow a))) (Tr.rows (makeF (6 : Nat) (5 : Nat) (unrow b)))) = false → Q ([TV.pv (PV.bool false)], []))))) := by kernel_rfl

theorem u8Row_u8s (a : List UInt8) : u8Row (u8s a) = true := by simp [u8Row, u8s]
theorem ofU8s_u8s (a : List UInt8) : ofU8s (u8s a) = a := by simp [ofU8s, u8s, Function.comp_def]

theorem tt_specs : SpecOK C S_tt := specL_ok (specs_cons few_ok (specs_cons makeA_ok (specs_cons rsame_ok (specs_cons psame_ok (specs_cons (txt_ok (pt_ev 1000)) (specs_cons (byt_ok (pb_ev 1000)) specs_nil))))))

/-- What is known of a made tree. -/
structure Small (t : Tr) : Prop where
  nodes : t.nodes < 200
  text : (textT t).length ≤ 4000000
  bin : (binT t).length ≤ 40000000
  lim : t.lim 65535
  wide : t.list.length ≤ 65535
theorem make_small {l : Tr} (h1 : l.list.length ≤ 140737488351232) (h2 : l.lim 140737488351232) (hf : fewF l.rows = true) (w d : Nat) (hw : w ≤ 30) : Small (makeF w d l) := by
  have hn := few_nodes h1 h2 hf
  have hm := make_nodes w d l
  have hl := make_lim w 30 hw (Nat.le_refl _) d l
  have ht := (text_size 30 _ hl).1
  have hb := bin_size 30 _ hl
  have hww := make_wide w l d
  refine ⟨by omega, by omega, ?_, make_lim w 65535 (by omega) (by omega) d l, by omega⟩
  simp only [binT, List.length_append, le_len]; omega

theorem tt_ev (l m : Tr) (h1 : l.list.length ≤ 140737488351232) (h2 : l.lim 140737488351232) (h3 : m.list.length ≤ 140737488351232) (h4 : m.lim 140737488351232) : Ev C 5 [.pv (.sl l.rows), .pv (.sl m.rows)] good := by
  refine ev_w tt_specs (tt_w l.rows m.rows _) ⟨⟨l, rfl, h1, h2⟩, fun _ => rfl, fun f1 => ⟨⟨m, rfl, h3, h4⟩, fun _ => rfl, fun f2 => ?_⟩⟩
  have f1 : fewF l.rows = true := by simpa using f1
  have f2 : fewF m.rows = true := by simpa using f2
  have sa := make_small h1 h2 f1 6 5 (by omega)
  have sb := make_small h3 h4 f2 6 5 (by omega)
  refine ⟨⟨l, rfl, h1, h2, by omega, by omega⟩, ⟨m, rfl, h3, h4, by omega, by omega⟩, ?_⟩
  rw [unrow_rows, unrow_rows]
  have hn1 := sa.nodes
  have hn2 := sb.nodes
  generalize makeF 6 5 l = a at *
  generalize makeF 6 5 m = b at *
  rw [unrow_rows, unrow_rows]
  simp only [ofU8s_u8s]
  have e1 : (textT a == textT b) = sameF a.rows b.rows := by
    by_cases h : a = b
    · rw [h, sameF_eq rfl]; simp
    · rw [sameF_ne fun e => h (rows_inj e)]
      simp only [beq_eq_false_iff_ne, ne_eq]
      exact fun e => h (text_inj e)
  have e2 : (binT a == binT b) = sameF a.rows b.rows := by
    by_cases h : a = b
    · rw [h, sameF_eq rfl]; simp
    · rw [sameF_ne fun e => h (rows_inj e)]
      simp only [beq_eq_false_iff_ne, ne_eq]
      exact fun e => h (bin_inj (x := []) (y := []) sa.lim sb.lim sa.wide sb.wide (by rw [e])).1
  rw [e1, e2, beq_self_eq_true]
  exact ⟨⟨a, b, rfl, rfl, by omega, by omega⟩, ⟨a, rfl, by omega, sa.text⟩, ⟨b, rfl, by omega, sb.text⟩, fun _ => ⟨⟨a, rfl, by omega, sa.bin⟩, flat_u8s _, u8Row_u8s _, ⟨b, rfl, by omega, sb.bin⟩, flat_u8s _, u8Row_u8s _, fun _ => ⟨⟨a, b, rfl, rfl, by omega, by omega⟩, rfl⟩, fun h => by simp at h⟩, fun h => by simp at h⟩

theorem TreeTexts_calls (e1 : List (List PV)) (s1 : Shp Try.prog 35 [.sl e1]) (e2 : List (List PV)) (s2 : Shp Try.prog 35 [.sl e2]) {w : World} {args : List Value} (hr : RepA w noCells [.sl e1, .sl e2] args) : Calls Try.prog 5 args.toArray w fun e w' => e = .returned (.bool true) ∧ Below w.heap.size w w' := by
  obtain ⟨l, rfl, h1, h2⟩ := raw_of (E := 70) (by kernel_rfl) s1
  obtain ⟨m, rfl, h3, h4⟩ := raw_of (E := 70) (by kernel_rfl) s2
  obtain ⟨k, h⟩ := (tt_ev l m h1 h2 h3 h4).get
  exact law_calls (C := C) progOKp Try.func5 (by kernel_rfl) (sound h) hr

end Go.Proofs.Ytmjkdghcfihfiaa.Vm
