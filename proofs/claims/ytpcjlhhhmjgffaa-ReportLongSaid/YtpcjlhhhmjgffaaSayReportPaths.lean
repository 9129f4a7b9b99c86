/-
  ReportPaths, in the machine.
-/
import Derived.Test.YtpcjlhhhmjgffaaSayReportRead
namespace Go.Proofs.Ytpcjlhhhmjgffaa.Vm
open Go Go.RowKit
set_option linter.unusedVariables false
set_option linter.unusedSimpArgs false
set_option maxRecDepth 100000

noncomputable def rowsP (s : List UInt8) : List (List PV) := (parseP s).map strRow

noncomputable def g_parse : List TV → Option Alts
  | [.pv (.str s)] => some [(¬ goodS s, [.pv (.sl []), .pv (.int .i64 (parseE s))], []), (goodS s, [.own 1 (rowsP s), .pv (.int .i64 0)], [])]
  | _ => none

theorem parse_ok {f : FuncId} (h : ∀ s : List UInt8, ∃ r, Ev C f [.pv (.str s)] r ∧ PpR s r) : ∀ ag al, g_parse ag = some al → ∀ a ∈ al, a.1 → Ev C f ag a.2 := by
  intro ag al hl x hx hp
  unfold g_parse at hl
  split at hl
  · rename_i s
    simp only [Option.some.injEq] at hl; subst hl
    obtain ⟨r, h1, h2⟩ := h s
    simp only [List.mem_cons, List.not_mem_nil, or_false] at hx
    rcases hx with rfl | rfl
    · rcases h2 with ⟨_, rfl⟩ | ⟨g, _⟩
      · exact h1
      · exact absurd g hp
    · rcases h2 with ⟨g, _⟩ | ⟨_, rfl⟩
      · exact absurd hp g
      · exact h1
  · exact absurd hl (by simp)

noncomputable def S_rp : Specs := specL [(23, g_kn), (24, g_fewR), (27, g_samR), (26, g_path), (25, g_path), (32, g_parse)]

theorem rpt_w (a : List (List PV)) (Q : List TV × List TV → Prop) : (wFun C S_rp 10 [.pv (.sl a)] Q) (H.n (1 : Nat) (H.b H.auto (H.b (H.b (H.n (2 : Nat) (H.b H.auto H.auto)) H.auto) (H.b (H.b H.auto H.auto) H.auto)))) = (True ∧ (∃ (l : List (List UInt8)), a = List.map strRow l ∧ List.length l ≤ (140737488351232 : Nat)) ∧ ((!fewP (unstr a)) = true → Q ([TV.pv (PV.bool true)], [])) ∧ ((!fewP (unstr a)) = false → (∃ (l : List (List UInt8)), a = List.map strRow l ∧ List.length (pathF l) ≤ (800000 : Nat)) ∧ orAll [(¬goodS (pathF (unstr a)), [TV.pv (PV.sl []), TV.pv (PV.int IntKind.i64 (parseE (pathF (unstr a))))], []), (goodS (pathF (unstr a)), [TV.own (1 : Nat) (rowsP (pathF (unstr a))), TV.pv (PV.int IntKind.i64 (0 : Int))], [])] ∧ (¬goodS (pathF (unstr a)) → (∃ (l : List (List UInt8)), a = List.map strRow l ∧ List.length (pathF l) ≤ (800000 : Nat)) ∧ ((pathF (unstr a) == pathF (unstr a)) = true → ((parseE (pathF (unstr a)) == (0 : Int)) = true → (∃ (l : List (List UInt8)), ∃ (m : List (List UInt8)), a = List.map strRow l ∧ [] = List.map strRow m ∧ List.length l ≤ (140737488351232 : Nat)) ∧ Q ([TV.pv (PV.bool (unstr a == unstr []))], [])) ∧ ((parseE (pathF (unstr a)) == (0 : Int)) = false → Q ([TV.pv (PV.bool false)], []))) ∧ ((pathF (unstr a) == pathF (unstr a)) = false → Q ([TV.pv (PV.bool false)], []))) ∧ (goodS (pathF (unstr a)) → (∃ (l : List (List UInt8)), a = List.map strRow l ∧ List.length (pathF l) ≤ (800000 : Nat)) ∧ ((pathF (unstr a) == pathF (unstr a)) = true → (∃ (l : List (List UInt8)), ∃ (m : List (List UInt8)), a = List.map strRow l ∧ rowsP (pathF (unstr a)) = List.map strRow m ∧ List.length l ≤ (140737488351232 : Nat)) ∧ Q ([TV.pv (PV.bool (unstr a == unstr (rowsP (pathF (unstr a)))))], [])) ∧ ((pathF (unstr a) == pathF (unstr a)) = false → Q ([TV.pv (PV.bool false)], []))) ∧ True)) := by kernel_rfl

theorem goodS_spec {s : List UInt8} (h : goodS s) : pathF (parseP s) = s ∧ s.length ≤ 4000 := by
  obtain ⟨h1, h2, p, rfl⟩ := h
  exact ⟨by rw [parseP_path h1], h1⟩

theorem not_good {s : List UInt8} (h : ¬ goodS s) (he : parseE s = 0) : s = [47] := by
  unfold parseE at he
  split at he
  · exact absurd he (by decide)
  · rename_i h1
    split at he
    · rename_i h2
      by_cases h3 : s = [47]
      · exact h3
      · exact (h ⟨by omega, h3, h2⟩).elim
    · exact absurd he (by decide)

theorem unstr_rowsP (s : List UInt8) : unstr (rowsP s) = parseP s := unstr_map _

theorem rp_specs : SpecOK C S_rp := specL_ok (specs_cons kn_ok (specs_cons fewR_ok (specs_cons samR_ok (specs_cons (path_ok pth_ev) (specs_cons (path_ok rth_ev) (specs_cons (parse_ok pp_ex) specs_nil))))))

theorem orAll_two {p : Prop} {a b : List TV × List TV} : orAll [(¬ p, a), (p, b)] := by
  by_cases h : p
  · exact .inr h
  · exact .inl h

theorem rpt_ev (p : List (List UInt8)) (hp : p.length ≤ 140737488351232) : Ev C 10 [.pv (.sl (p.map strRow))] good := by
  refine ev_w rp_specs (rpt_w _ _) ⟨trivial, ⟨p, rfl, hp⟩, ?_⟩
  rw [unstr_map]
  refine ⟨fun _ => rfl, fun f1 => ?_⟩
  obtain ⟨a1, a2, a3⟩ := few_path (by simpa using f1)
  have e0 : ∀ s : List UInt8, ((s == s) = false) → False := fun s h => by simp at h
  refine ⟨⟨p, rfl, by omega⟩, orAll_two, fun g => ⟨⟨p, rfl, by omega⟩, fun _ => ⟨fun _ => ?_, fun h => ?_⟩, fun h => (e0 _ h).elim⟩, fun g => ⟨⟨p, rfl, by omega⟩, fun _ => ?_, fun h => (e0 _ h).elim⟩, trivial⟩
  · have := not_good g (parseE_path (by omega))
    have : p = [] := pathF_inj this
    subst this
    exact ⟨⟨[], [], rfl, rfl, by decide⟩, rfl⟩
  · rw [parseE_path (by omega)] at h; exact absurd h (by decide)
  · refine ⟨⟨p, p, rfl, by rw [rowsP, parseP_path (by omega)], hp⟩, ?_⟩
    rw [unstr_rowsP, parseP_path (by omega), beq_self_eq_true]; rfl

theorem ReportPaths_calls (e1 : List (List PV)) (s1 : Shp Try.prog 30 [.sl e1]) {w : World} {args : List Value} (hr : RepA w noCells [.sl e1] args) : Calls Try.prog 10 args.toArray w fun e w' => e = .returned (.bool true) ∧ Below w.heap.size w w' := by
  obtain ⟨l, rfl, h1⟩ := strs_of (by kernel_rfl) s1
  obtain ⟨k, h⟩ := (rpt_ev l h1).get
  exact law_calls (C := C) progOKp Try.func10 (by kernel_rfl) (sound h) hr

end Go.Proofs.Ytpcjlhhhmjgffaa.Vm
