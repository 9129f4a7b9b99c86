/-
  Library functions of plain values that make memory of their own and hand plain values back, by contracts.
-/
import Derived.Test.YtbnjbianobdleaaGreatVmGrow
import Derived.Lib.Join
import Derived.Lib.Bytealg
namespace Go.Proofs.YtbnjbianobdleaaGreat.Vm
open Go Go.RowKit
set_option linter.unusedVariables false
set_option linter.unusedSimpArgs false

theorem fr_below {w w' : World} (h : Below w.heap.size w w') : Fr (fun _ _ => False) w w' := by
  refine ⟨h.os, h.tape, h.output, h.size, fun b hb _ => h.block b hb, fun b j hb _ => ?_, fun b T hs => ?_, fun b T n hs hz => ?_⟩
  · have := h.block b hb
    constructor
    · unfold at_ World.cell?; simp only [this]
    · unfold frz_ World.frozen?; simp only [this]
  · have hb : b < w.heap.size := by
      unfold World.shape? at hs
      rcases Nat.lt_or_ge b w.heap.size with hb | hb
      · exact hb
      · rw [Array.getElem?_eq_none hb] at hs; simp at hs
    have := h.block b hb
    unfold World.shape? at hs ⊢
    rw [this]; exact hs
  · have := h.block b (shape_lt hs)
    unfold frz_ World.frozen? at hz ⊢
    rw [this]; exact hz

/-- A function of plain values, that hands plain values back. -/
theorem contract_plain {P : Program} {ms : List Mode} {f : FuncId} {xs rs : List PV}
    (h : ∀ w M0 cs, RepA w M0 xs cs → Invokes P f cs.toArray w fun v w' => ∃ vs, v = wrapV vs ∧ (∀ M', RepA w' M' rs vs) ∧ Below w.heap.size w w') : Contract P ms f (xs.map .pv) (rs.map .pv) [] := by
  intro M0 w ts args hH
  obtain ⟨hx, hl0⟩ := tvall_pv hH.tv
  have hlen := tvall_len hH.tv
  have hlc := TVAll.length hH.tv
  refine (h w M0 args (repA_sub (fun b j h => .inl h) hx)).mono ?_
  rintro v w' ⟨vs, rfl, h2, hB⟩
  refine ⟨vs, rs.map (fun _ => .none), [], rfl, tvall_of (h2 _), finR_pv (by simpa using hlen) (by simpa using hlc), by simp [Apart, locs_none], ?_, ?_, (fr_below hB).mono (fun _ _ h => h.elim)⟩
  · intro l hl; simp [locs_none] at hl
  · intro l hl
    have e : LooseF ([] : List TV) ([] : List LT) = [] := rfl
    simp [locs_none, e] at hl

/-! ### Rows of texts -/
def strsOf : List (List PV) → Option (List (List UInt8))
  | [] => some []
  | [.str s] :: r => match strsOf r with | some l => some (s :: l) | none => none
  | _ => none
def strRow (s : List UInt8) : List PV := [.str s]
theorem strsOf_eq : ∀ {es : List (List PV)} {l : List (List UInt8)}, strsOf es = some l → es = l.map strRow
  | [], l, h => by simp only [strsOf, Option.some.injEq] at h; subst h; rfl
  | e :: r, l, h => by
    unfold strsOf at h
    split at h
    · simp only [Option.some.injEq] at h; subst h; simp at *
    · rename_i s r' heq
      simp only [List.cons.injEq] at heq
      obtain ⟨rfl, rfl⟩ := heq
      split at h
      · rename_i l' h'
        simp only [Option.some.injEq] at h; subst h
        rw [List.map_cons, ← strsOf_eq h']; rfl
      · exact absurd h (by simp)
    · exact absurd h (by simp)
theorem strsOf_map : ∀ l : List (List UInt8), strsOf (l.map strRow) = some l
  | [] => rfl
  | s :: l => by simp [strsOf, strRow, strsOf_map l]

/-- Where the texts of a row lie. -/
theorem strs_cells {w : World} {M : Cells} {l : List (List UInt8)} {c : Value} (h : Rep w M (.sl (l.map strRow)) c) (hl : l ≠ []) :
    ∃ b o cap, c = .slice (some ⟨b, o, none⟩) l.length cap ∧ l.length ≤ cap ∧ b < w.heap.size ∧ ∀ j x, l[j]? = some x → w.cell? ⟨b, o + j, none⟩ = some (.string ⟨x.toArray⟩) := by
  simp only [Rep] at h
  obtain ⟨A, cap, rfl, hle, hnone, hspot, sz, hrow⟩ := h
  have key : ∀ j x, l[j]? = some x → ∃ a, A = some a ∧ sz = 1 ∧ at_ w a.block (a.off + j) = some (.string ⟨x.toArray⟩) := by
    intro j x hj
    obtain ⟨a, vs, h1, h2, h3, h4⟩ := RepRow.get hrow j (strRow x) (by rw [List.getElem?_map, hj]; rfl)
    have hs : sz = 1 := by rw [← h2]; rfl
    subst hs
    simp only [strRow, RepS, Rep] at h3
    obtain ⟨c, r, rfl, _, rfl, rfl⟩ := h3
    have := (h4 0 _ rfl).1
    exact ⟨a, h1, rfl, by simpa using this⟩
  cases l with
  | nil => exact absurd rfl hl
  | cons s l =>
    obtain ⟨a, rfl, _, h0⟩ := key 0 s rfl
    have hs := hspot a rfl (by simp)
    obtain ⟨b, o, sp⟩ := a
    simp only at hs; subst hs
    refine ⟨b, o, cap, by simp, by simpa using hle, at_lt h0, fun j x hj => ?_⟩
    obtain ⟨a', h1, _, h2⟩ := key j x hj
    simp only [Option.some.injEq] at h1; subst h1
    exact h2

/-- strings.Join. -/
def xJoin : List TV → Option (List TV × List TV)
  | [.pv (.sl es), .pv (.str sep)] => match strsOf es with
    | some l => if l.length ≤ room ∧ (Lib.join l sep).length ≤ room then some ([.pv (.str (Lib.join l sep))], []) else none
    | none => none
  | _ => none

theorem c_join {P : Program} {f : FuncId} (hrun : ∀ args w, (callFunc f args).run P w = .ok (.enter f args) w)
    (hnone : ∀ (a : Option Addr) (c : Nat) (sep : ByteArray) (w : World), Calls P f #[.slice a 0 c, .string sep] w fun e w' => e = .returned (.string ⟨#[]⟩) ∧ w' = w)
    (hsome : ∀ (bk o c : Nat) (xs : List ByteArray) (sep : ByteArray) (w : World), (∀ (j : Nat) x, xs[j]? = some x → w.cell? ⟨bk, o + j, none⟩ = some (.string x)) → bk < w.heap.size → xs.length ≤ 140737488355328 → xs.length ≤ c →
      (Lib.join (xs.map (·.data.toList)) sep.data.toList).length ≤ 140737488355328 → Calls P f #[.slice (some ⟨bk, o, none⟩) xs.length c, .string sep] w fun e w' => e = .returned (.string ⟨(Lib.join (xs.map (·.data.toList)) sep.data.toList).toArray⟩) ∧ Below w.heap.size w w')
    (ms : List Mode) (ag rs fs : List TV) (h : xJoin ag = some (rs, fs)) : Contract P ms f ag rs fs := by
  unfold xJoin at h
  split at h
  · rename_i es sep
    split at h
    · rename_i l hl
      split at h
      · rename_i hc
        simp only [Option.some.injEq, Prod.mk.injEq] at h; obtain ⟨rfl, rfl⟩ := h
        have he := strsOf_eq hl
        subst he
        refine contract_plain (xs := [.sl (l.map strRow), .str sep]) (rs := [.str (Lib.join l sep)]) ?_
        intro w M0 cs hx
        simp only [RepA] at hx
        obtain ⟨c, r, rfl, hrep, d, r', rfl, hsep, rfl⟩ := hx
        simp only [Rep] at hsep; subst hsep
        unfold Invokes
        rw [hrun]
        by_cases hl0 : l = []
        · subst hl0
          simp only [List.map_nil, Rep] at hrep
          obtain ⟨A, cap, rfl, _⟩ := hrep
          refine (hnone A cap _ w).mono ?_
          rintro e w' ⟨rfl, rfl⟩
          exact ⟨_, rfl, [.string ⟨#[]⟩], rfl, fun M' => by simp [RepA, Rep, Lib.join, List.intercalate], Below.refl _ _⟩
        · obtain ⟨b, o, cap, rfl, h1, h2, h3⟩ := strs_cells hrep hl0
          have hm : (l.map fun x => (⟨x.toArray⟩ : ByteArray)).map (·.data.toList) = l := by
            rw [List.map_map]; simp [Function.comp_def]
          have := hsome b o cap (l.map fun x => (⟨x.toArray⟩ : ByteArray)) ⟨sep.toArray⟩ w (fun j x hj => by
            rw [List.getElem?_map] at hj
            cases hy : l[j]? with
            | none => rw [hy] at hj; simp at hj
            | some y => rw [hy] at hj; simp at hj; subst hj; exact h3 j y hy) h2 (by simpa [room] using hc.1) (by simpa using h1) (by rw [hm]; simpa [room] using hc.2)
          rw [hm] at this
          simp only [List.length_map] at this
          refine this.mono ?_
          rintro e w' ⟨rfl, hB⟩
          exact ⟨_, rfl, [.string ⟨(Lib.join l sep).toArray⟩], rfl, fun M' => by simp [RepA, Rep], hB⟩
      · exact absurd h (by simp)
    · exact absurd h (by simp)
  · exact absurd h (by simp)

/-- strings.Compare. -/
def xCompare : List TV → Option (List TV × List TV)
  | [.pv (.str a), .pv (.str b)] => some ([.pv (.int .i64 (Lib.compareBytes a b))], [])
  | _ => none
theorem c_compare {P : Program} {f : FuncId} (hrun : ∀ args w, (callFunc f args).run P w = .ok (.enter f args) w)
    (hc : ∀ (a b : ByteArray) (w : World), Calls P f #[.string a, .string b] w fun e w' => e = .returned (.int .i64 (Lib.compareBytes a.data.toList b.data.toList)) ∧ w' = w)
    (ms : List Mode) (ag rs fs : List TV) (h : xCompare ag = some (rs, fs)) : Contract P ms f ag rs fs := by
  unfold xCompare at h
  split at h
  · rename_i a b
    simp only [Option.some.injEq, Prod.mk.injEq] at h; obtain ⟨rfl, rfl⟩ := h
    refine contract_plain (xs := [.str a, .str b]) (rs := [.int .i64 (Lib.compareBytes a b)]) ?_
    intro w M0 cs hx
    simp only [RepA, Rep] at hx
    obtain ⟨c, r, rfl, rfl, d, r', rfl, rfl, rfl⟩ := hx
    unfold Invokes
    rw [hrun]
    refine (hc ⟨a.toArray⟩ ⟨b.toArray⟩ w).mono ?_
    rintro e w' ⟨rfl, rfl⟩
    exact ⟨_, rfl, [.int .i64 (Lib.compareBytes a b)], by simp [wrapV], fun M' => by simp [RepA, Rep], Below.refl _ _⟩
  · exact absurd h (by simp)

/-- A function that turns an owned row in its place. -/
theorem contract_mut {P : Program} {ms : List Mode} {f : FuncId} {sz : Nat} {es es' : List (List PV)} (hms : ms.headD .borrow = .mut)
    (h : ∀ (w : World) (M : Cells) (l : Loc), ObjR (fun _ => l) w M l (.buf sz es) → (∀ b j, l.F b j → M b j) → (∀ b j, l.F b j → b < w.heap.size) → Invokes P f #[l.hdr] w fun v w' => v = .tuple #[] ∧ Fr l.F w w' ∧ ObjR (fun _ => l) w' M l (.buf sz es')) : Contract P ms f [.own sz es] [] [.own sz es'] := by
  intro M0 w ts args hH
  have htv := hH.tv
  simp only [TVAll, TVL] at htv
  obtain ⟨t, r, c, d, rfl, rfl, ⟨l, rfl, rfl, hO⟩, rfl, rfl⟩ := htv
  have hlocs : LT.locsL [LT.one l] = [l] := rfl
  have hout := hH.out
  rw [hlocs] at hout hO
  refine (h w _ l hO (fun b j hb => .inr ⟨l, by simp, hb⟩) (fun b j hb => (hout l (by simp) b j hb).2)).mono ?_
  rintro v w' ⟨rfl, hfr, hO'⟩
  have hl2 : LT.locsL ([] ++ [LT.one l]) = [l] := rfl
  refine ⟨[], [], [.one l], rfl, by simp [TVAll], ?_, by rw [hl2]; simp [Apart], ?_, ?_, ?_⟩
  · simp only [FinR]
    refine ⟨_, _, _, _, rfl, rfl, ?_⟩
    rw [if_pos hms]
    refine ⟨es', [], [], rfl, rfl, ?_, rfl, rfl⟩
    simp only [TVL]
    exact ⟨l, rfl, rfl, by rw [hl2]; exact hO'⟩
  · intro l1 hl1 b j hb
    rw [hl2] at hl1
    simp only [List.mem_singleton] at hl1
    subst hl1
    have := hout l1 (by simp) b j hb
    exact ⟨this.1, by have := hfr.size; omega, .inr ⟨l1, by rw [hlocs]; simp, hb⟩⟩
  · intro l1 hl1
    have e : LT.locsL [] ++ LooseF [TV.own sz es'] [LT.one l] = [] := rfl
    rw [e] at hl1
    simp at hl1
  · exact hfr.mono fun b j hb => ⟨l, by rw [hlocs]; simp, hb⟩

/-- A function that takes an owned row over, and hands one back. -/
theorem contract_moved {P : Program} {ms : List Mode} {f : FuncId} {sz : Nat} {es es' : List (List PV)} {xs : List PV} (hms : ms.headD .borrow ≠ .mut)
    (h : ∀ (w : World) (M0 : Cells) (l : Loc) (cs : List Value), ObjR (fun _ => l) w (fun b j => M0 b j ∨ l.F b j) l (.buf sz es) → RepA w (fun b j => M0 b j ∨ l.F b j) xs cs → (∀ b j, l.F b j → ¬ M0 b j ∧ b < w.heap.size) → (∀ b j, M0 b j → b < w.heap.size) →
      Invokes P f (l.hdr :: cs).toArray w fun v w' => ∃ l' : Loc, v = l'.hdr ∧ ObjR (fun _ => l') w' (fun b j => M0 b j ∨ l'.F b j) l' (.buf sz es') ∧ (∀ b j, l'.F b j → (w.heap.size ≤ b ∧ b < w'.heap.size) ∨ l.F b j) ∧ Fr l.F w w') : Contract P ms f (.own sz es :: xs.map .pv) [.own sz es'] [] := by
  intro M0 w ts args hH
  have htv := hH.tv
  have hA := htv
  simp only [TVAll, TVL] at hA
  obtain ⟨t, r, c, d, rfl, rfl, ⟨l, rfl, rfl, hO⟩, hr⟩ := hA
  obtain ⟨hx, hl0⟩ := tvall_pv hr
  have hlen := tvall_len hr
  have hlc := TVAll.length hr
  have hlocs : LT.locsL (LT.one l :: r) = [l] := by simp only [LT.locsL, LT.locs, hl0, List.append_nil]
  have hout := hH.out
  rw [hlocs] at hout hO hx
  have hcell : cellsOf M0 [l] = fun b j => M0 b j ∨ l.F b j := by
    funext b j
    simp [cellsOf]
  rw [hcell] at hO hx
  refine (h w M0 l d hO hx (fun b j hb => hout l (by simp) b j hb) hH.old).mono ?_
  rintro v w' ⟨l', rfl, hO', hF, hfr⟩
  have hl2 : LT.locsL ([LT.one l'] ++ []) = [l'] := rfl
  refine ⟨[l'.hdr], [.one l'], [], rfl, ?_, ?_, by rw [hl2]; simp [Apart], ?_, ?_, ?_⟩
  · rw [hl2]
    have hcell' : cellsOf M0 [l'] = fun b j => M0 b j ∨ l'.F b j := by
      funext b j
      simp [cellsOf]
    simp only [TVAll, TVL]
    exact ⟨.one l', [], l'.hdr, [], rfl, rfl, ⟨l', rfl, rfl, by rw [hcell']; exact hO'⟩, rfl, rfl⟩
  · simp only [FinR]
    refine ⟨_, _, _, _, rfl, rfl, ?_⟩
    rw [if_neg hms]
    exact finR_pv (by simpa using hlen) (by simpa using hlc)
  · intro l1 hl1 b j hb
    rw [hl2] at hl1
    simp only [List.mem_singleton] at hl1
    subst hl1
    rcases hF b j hb with h1 | h1
    · exact ⟨fun h0 => by have := hH.old b j h0; omega, h1.2, .inl h1.1⟩
    · have := hout l (by simp) b j h1
      exact ⟨this.1, by have := hfr.size; omega, .inr ⟨l, by rw [hlocs]; simp, h1⟩⟩
  · intro l1 hl1 b j hb
    have e : LT.locsL [LT.one l'] ++ LooseF [] [] = [l'] := rfl
    rw [e] at hl1
    simp only [List.mem_singleton] at hl1
    subst hl1
    rcases hF b j hb with h1 | h1
    · exact .inl h1.1
    · refine .inr ⟨l, ?_, h1⟩
      simp only [LooseA]
      rw [if_neg hms]
      simp [LT.locs]
  · exact hfr.mono fun b j hb => ⟨l, by rw [hlocs]; simp, hb⟩

end Go.Proofs.YtbnjbianobdleaaGreat.Vm
