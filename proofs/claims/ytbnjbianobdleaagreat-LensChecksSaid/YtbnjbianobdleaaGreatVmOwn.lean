/-
  Library functions that turn an owned row, by contract: slices.Sort and slices.Compact of texts.
-/
import Derived.Test.YtbnjbianobdleaaGreatVmPlain
import Derived.Sort.Grow
import Derived.Sort.EncStr
import Derived.Lib.SlicesCompact
namespace Go.Proofs.YtbnjbianobdleaaGreat.Vm
open Go Go.RowKit
set_option linter.unusedVariables false
set_option linter.unusedSimpArgs false

/-! ### Rows of texts, in place -/
open Go.Sort in
theorem holds_strs {w : World} {M : Cells} {l : Loc} {b o : Nat} {ss : List (List UInt8)} (hO : ObjR (fun _ => l) w M l (.buf 1 (ss.map strRow))) (hb : l.base = some (b, o)) : Go.Sort.Holds encStr w b o ss.toArray := by
  simp only [ObjR] at hO
  obtain ⟨h1, h2, h3, h4, h5, h6, h7, h8, h9⟩ := hO
  obtain ⟨k1, k2⟩ := h9 b o hb
  rw [List.length_map] at h3
  intro j hj
  have hj' : j < ss.length := by simpa using hj
  refine ⟨?_, (k1 j (by omega)).2⟩
  obtain ⟨vs, hv, hc⟩ := k2 j (strRow ss[j]) (by rw [List.getElem?_map, List.getElem?_eq_getElem hj']; rfl)
  simp only [strRow, RepS, Rep] at hv
  obtain ⟨c, r, rfl, _, rfl, rfl⟩ := hv
  have := hc 0 _ rfl
  rw [Nat.mul_one, Nat.add_zero] at this
  rw [getElem!_pos _ j hj]
  have this : w.cell? ⟨b, o + j, none⟩ = some (.string ⟨ss[j].toArray⟩) := this
  simpa [encStr] using this

open Go.Sort in
/-- What a row's turning leaves. -/
theorem fr_putRow {w : World} {D : Cells} {b o n : Nat} {d : Array (List UInt8)} {os : Array Go.Obj} (hD : ∀ j, j < d.size → D b (o + j)) (hd0 : 0 < d.size) (hat : ∀ j, j < d.size → ∃ v, at_ w b (o + j) = some v) (hb : b < w.heap.size) : Fr D w (grow (putRow encStr (Go.Sort.ahead w n) b o d) os) where
  os := rfl
  tape := rfl
  output := rfl
  size := by simp [Go.Sort.ahead]
  block := fun x hx hno => by
    have hne : x ≠ b := by
      rintro rfl
      obtain ⟨v, hv⟩ := hat 0 hd0
      exact hno _ v hv (hD 0 hd0)
    simp only [grow, putRow, mapBlock, Go.Sort.ahead]
    rw [Array.getElem?_append_left (by simpa using hx), Array.getElem?_modify, if_neg (fun e => hne e.symm)]
  cell := fun x j hx hnd => by
    have hc : (grow (putRow encStr (Go.Sort.ahead w n) b o d) os).cell? ⟨x, j, none⟩ = w.cell? ⟨x, j, none⟩ := by
      have e1 : (grow (putRow encStr (Go.Sort.ahead w n) b o d) os).cell? ⟨x, j, none⟩ = (putRow encStr (Go.Sort.ahead w n) b o d).cell? ⟨x, j, none⟩ := by
        simp only [World.cell?, grow]
        rw [Array.getElem?_append_left (by simpa [Go.Sort.ahead] using hx)]
      rw [e1, cell?_putRow_other]
      · rfl
      · by_cases h1 : x = b
        · subst h1
          right
          rcases Nat.lt_or_ge j o with h2 | h2
          · exact .inl h2
          · rcases Nat.lt_or_ge j (o + d.size) with h3 | h3
            · exact absurd (by have := hD (j - o) (by omega); rwa [show o + (j - o) = j by omega] at this) hnd
            · exact .inr h3
        · exact .inl h1
    have hf : (grow (putRow encStr (Go.Sort.ahead w n) b o d) os).frozen? ⟨x, j, none⟩ = w.frozen? ⟨x, j, none⟩ := by
      have e1 : (grow (putRow encStr (Go.Sort.ahead w n) b o d) os).frozen? ⟨x, j, none⟩ = (putRow encStr (Go.Sort.ahead w n) b o d).frozen? ⟨x, j, none⟩ := by
        simp only [World.frozen?, grow]
        rw [Array.getElem?_append_left (by simpa [Go.Sort.ahead] using hx)]
      rw [e1, frozen?_putRow]; rfl
    exact ⟨hc, hf⟩
  shape := fun x T hT => by
    have hx : x < w.heap.size := by
      unfold World.shape? at hT
      split at hT
      · rename_i c e fz hh
        exact (Array.getElem?_eq_some_iff.1 hh).1
      · exact absurd hT (by simp)
    simp only [World.shape?, grow, putRow, mapBlock, Go.Sort.ahead] at hT ⊢
    rw [Array.getElem?_append_left (by simpa using hx), Array.getElem?_modify]
    by_cases h : b = x
    · subst h
      rw [if_pos rfl]
      cases hh : w.heap[b]? with
      | none => rw [hh] at hT; exact hT
      | some ob =>
        rw [hh] at hT
        cases ob <;> simp_all [putCells, onCells]
    · rw [if_neg h]; exact hT
  mark := fun x T m hT hz => by
    have hx := shape_lt hT
    have e1 : (grow (putRow encStr (Go.Sort.ahead w n) b o d) os).frozen? ⟨x, m, none⟩ = (putRow encStr (Go.Sort.ahead w n) b o d).frozen? ⟨x, m, none⟩ := by
      simp only [World.frozen?, grow]
      rw [Array.getElem?_append_left (by simpa [Go.Sort.ahead] using hx)]
    show World.frozen? _ _ = false
    rw [e1, frozen?_putRow]; exact hz

open Go.Sort in
/-- A row of texts, after that. -/
theorem row_after {w : World} {M M' : Cells} {l l' : Loc} {b o n : Nat} {ss ts d : List (List UInt8)} {os : Array Go.Obj} (hO : ObjR (fun _ => l) w M l (.buf 1 (ss.map strRow))) (hb : l.base = some (b, o)) (hl : d.length = ss.length) (ht : ts.length ≤ d.length) (hp : ∀ (j : Nat) s, ts[j]? = some s → d[j]? = some s) (hw : b < w.heap.size) (hl' : l' = { l with len := ts.length }) :
    ObjR (fun _ => l') (grow (putRow encStr (Go.Sort.ahead w n) b o d.toArray) os) M' l' (.buf 1 (ts.map strRow)) := by
  have hH := holds_strs hO hb
  subst hl'
  simp only [ObjR] at hO ⊢
  obtain ⟨h1, h2, h3, h4, h5, h6, h7, h8, h9⟩ := hO
  rw [List.length_map] at h3
  have hcell : ∀ x, x.block = b → (grow (putRow encStr (Go.Sort.ahead w n) b o d.toArray) os).cell? x = (putRow encStr (Go.Sort.ahead w n) b o d.toArray).cell? x := fun x hx => by
    simp only [World.cell?, grow]
    rw [Array.getElem?_append_left (by rw [hx]; simpa [Go.Sort.ahead] using hw)]
  have hfz : ∀ x, x.block = b → (grow (putRow encStr (Go.Sort.ahead w n) b o d.toArray) os).frozen? x = w.frozen? x := fun x hx => by
    have : (grow (putRow encStr (Go.Sort.ahead w n) b o d.toArray) os).frozen? x = (putRow encStr (Go.Sort.ahead w n) b o d.toArray).frozen? x := by
      simp only [World.frozen?, grow]
      rw [Array.getElem?_append_left (by rw [hx]; simpa [Go.Sort.ahead] using hw)]
    rw [this, frozen?_putRow]; rfl
  have hin : ∀ j, j < d.length → (grow (putRow encStr (Go.Sort.ahead w n) b o d.toArray) os).cell? ⟨b, o + j, none⟩ = some (encStr d.toArray[j]!) := fun j hj => by
    rw [hcell _ rfl, cell?_putRow encStr (Go.Sort.ahead w n) b o ss.toArray d.toArray (fun k hk => hH k hk) (by simpa using hl) j (by simpa using hj)]
  refine ⟨h1, h2, by rw [List.length_map], by omega, h5, ⟨h6.1, fun _ _ _ h => absurd h (by decide)⟩, h7, ?_, fun b1 o1 hb1 => ?_⟩
  · intro e he
    obtain ⟨s, _, rfl⟩ := List.mem_map.1 he
    rfl
  · rw [hb] at hb1
    simp only [Option.some.injEq, Prod.mk.injEq] at hb1
    obtain ⟨rfl, rfl⟩ := hb1
    obtain ⟨k1, k2⟩ := h9 b o hb
    refine ⟨fun j hj => ⟨?_, by show World.frozen? _ _ = false; rw [hfz _ rfl]; exact (k1 j hj).2⟩, fun i e he => ?_⟩
    · rcases Nat.lt_or_ge j d.length with h | h
      · exact ⟨_, hin j h⟩
      · obtain ⟨c, hc⟩ := (k1 j hj).1
        refine ⟨c, ?_⟩
        show World.cell? _ _ = some c
        rw [hcell _ rfl, cell?_putRow_other]
        · exact hc
        · exact .inr (.inr (by simp; omega))
    · rw [List.getElem?_map] at he
      cases hs : ts[i]? with
      | none => rw [hs] at he; simp at he
      | some s =>
        rw [hs] at he
        simp only [Option.map_some, Option.some.injEq] at he
        subst he
        have hd := hp i s hs
        have hi : i < d.length := (List.getElem?_eq_some_iff.1 hd).1
        refine ⟨[.string ⟨s.toArray⟩], ⟨.string ⟨s.toArray⟩, [], rfl, rfl, by simp [Rep], by simp [RepS]⟩, fun j c hc => ?_⟩
        cases j with
        | zero =>
          simp only [List.getElem?_cons_zero, Option.some.injEq] at hc
          subst hc
          rw [Nat.mul_one, Nat.add_zero]
          show World.cell? _ _ = _
          rw [hin i hi, getElem!_pos _ i (by simpa using hi)]
          have : d[i] = s := by
            rw [List.getElem?_eq_getElem hi] at hd
            simpa using hd
          simp [encStr, this]
        | succ j => simp at hc

def sortS (l : List (List UInt8)) : List (List UInt8) := l.mergeSort fun x y => decide (x ≤ y)

def xSort : List TV → Option (List TV × List TV)
  | [.own 1 es] => match strsOf es with
    | some l => if l.length ≤ 4000000 then some ([], [.own 1 ((sortS l).map strRow)]) else none
    | none => none
  | _ => none

def xCompact : List TV → Option (List TV × List TV)
  | [.own 1 es] => match strsOf es with
    | some l => if l.length ≤ 4000000 then some ([.own 1 ((Lib.compact l).map strRow)], []) else none
    | none => none
  | _ => none

open Go.Sort in
theorem c_sort {P : Program} {f : FuncId} (hrun : ∀ args w, (callFunc f args).run P w = .ok (.enter f args) w)
    (hs : ∀ (blk off cap : Nat) (ss : List (List UInt8)) (w : World), Go.Sort.Holds encStr w blk off ss.toArray → blk < w.heap.size → ss.length < 4611686018427387904 → Calls P f #[.slice (some ⟨blk, off, none⟩) ss.length cap] w fun e w' => e = .returned (.tuple #[]) ∧ ∃ n os, w' = grow (putRow encStr (Go.Sort.ahead w n) blk off (ss.mergeSort fun x y => decide (x ≤ y)).toArray) os)
    (hn : ∀ (p : Option Addr) (cap : Nat) (w : World), Calls P f #[.slice p 0 cap] w fun e w' => e = .returned (.tuple #[]) ∧ w' = w)
    (ms : List Mode) (hms : ms.headD .borrow = .mut) (ag rs fs : List TV) (h : xSort ag = some (rs, fs)) : Contract P ms f ag rs fs := by
  unfold xSort at h
  split at h
  · rename_i es
    split at h
    · rename_i l hl
      split at h
      · rename_i hlen
        simp only [Option.some.injEq, Prod.mk.injEq] at h; obtain ⟨rfl, rfl⟩ := h
        have he := strsOf_eq hl
        subst he
        refine contract_mut hms ?_
        intro w M lc hO hM hold
        unfold Invokes
        rw [hrun]
        have hO2 := hO
        simp only [ObjR] at hO2
        obtain ⟨h1, h2, h3, h4, h5, h6, h7, h8, h9⟩ := hO2
        rw [List.length_map] at h3
        by_cases h0 : l = []
        · subst h0
          have : lc.hdr = .slice (lc.base.map fun x => ⟨x.1, x.2, none⟩) 0 (if lc.base = none then 0 else lc.cap) := by
            unfold Loc.hdr
            cases hb : lc.base with
            | none => simp
            | some p => obtain ⟨b, o⟩ := p; simp [h3]
          rw [this]
          refine (hn _ _ w).mono ?_
          rintro e w' ⟨rfl, rfl⟩
          refine ⟨_, rfl, rfl, Fr.refl _ _, ?_⟩
          have : (sortS []).map strRow = ([] : List (List UInt8)).map strRow := by simp [sortS]
          rw [this]; exact hO
        · have hpos : 0 < l.length := by cases l with | nil => exact absurd rfl h0 | cons a l => simp
          cases hb : lc.base with
          | none => have := h7 hb; omega
          | some p =>
            obtain ⟨b, o⟩ := p
            have hk : lc.k = lc.cap := by omega
            have hF : ∀ j, j < lc.k → lc.F b (o + j) := fun j hj => .inl ⟨o, hb, by omega, by omega⟩
            have hbw : b < w.heap.size := hold b (o + 0) (hF 0 (by omega))
            have hhdr : lc.hdr = .slice (some ⟨b, o, none⟩) l.length lc.cap := by unfold Loc.hdr; rw [hb, h3]
            rw [hhdr]
            refine (hs b o lc.cap l w (holds_strs hO hb) hbw (by omega)).mono ?_
            rintro e w' ⟨rfl, n, os, rfl⟩
            have hsl : (sortS l).length = l.length := by simp [sortS]
            refine ⟨_, rfl, rfl, ?_, ?_⟩
            · refine fr_putRow (fun j hj => hF j ?_) ?_ (fun j hj => ?_) hbw
              · have : j < (sortS l).length := by simpa [sortS] using hj
                omega
              · have : 0 < (sortS l).length := by omega
                simpa [sortS] using this
              · have : j < (sortS l).length := by simpa [sortS] using hj
                exact ((h9 b o hb).1 j (by omega)).1
            · exact row_after (d := sortS l) (ts := sortS l) hO hb hsl (Nat.le_refl _) (fun j s hj => hj) hbw (by rw [hsl, ← h3])
      · exact absurd h (by simp)
    · exact absurd h (by simp)
  · exact absurd h (by simp)

open Go.Sort in
theorem c_compact {P : Program} {f : FuncId} (hrun : ∀ args w, (callFunc f args).run P w = .ok (.enter f args) w)
    (hs : ∀ (blk off cap : Nat) (zs : List (List UInt8)) (w : World), Go.Sort.Holds encStr w blk off zs.toArray → zs.length ≤ 9223372036854775807 → zs.length ≤ cap → Calls P f #[.slice (some ⟨blk, off, none⟩) zs.length cap] w fun e w' => e = .returned (.slice (some ⟨blk, off, none⟩) (Lib.compact zs).length cap) ∧ ∃ q, w' = putRow encStr (Go.Sort.ahead w q) blk off (Lib.compact zs ++ List.replicate (zs.length - (Lib.compact zs).length) []).toArray)
    (hn : ∀ (a : Option Addr) (cap : Nat) (w : World), Calls P f #[.slice a 0 cap] w fun e w' => e = .returned (.slice a 0 cap) ∧ w' = w)
    (ms : List Mode) (hms : ms.headD .borrow ≠ .mut) (ag rs fs : List TV) (h : xCompact ag = some (rs, fs)) : Contract P ms f ag rs fs := by
  unfold xCompact at h
  split at h
  · rename_i es
    split at h
    · rename_i l hl
      split at h
      · rename_i hlen
        simp only [Option.some.injEq, Prod.mk.injEq] at h; obtain ⟨rfl, rfl⟩ := h
        have he := strsOf_eq hl
        subst he
        refine contract_moved (xs := []) hms ?_
        intro w M0 lc cs hO hx hold hM0
        simp only [RepA] at hx
        subst hx
        unfold Invokes
        rw [hrun]
        have hO2 := hO
        simp only [ObjR] at hO2
        obtain ⟨h1, h2, h3, h4, h5, h6, h7, h8, h9⟩ := hO2
        rw [List.length_map] at h3
        have hcl : (Lib.compact l).length ≤ l.length := by
          unfold Lib.compact Lib.compactUpTo
          rw [List.length_map]
          exact Nat.le_trans (List.length_filter_le _ _) (by simp)
        by_cases h0 : l = []
        · subst h0
          have : lc.hdr = .slice (lc.base.map fun x => ⟨x.1, x.2, none⟩) 0 (if lc.base = none then 0 else lc.cap) := by
            unfold Loc.hdr
            cases hb : lc.base with
            | none => simp
            | some p => obtain ⟨b, o⟩ := p; simp [h3]
          have e2 : (Lib.compact ([] : List (List UInt8))).map strRow = ([] : List (List UInt8)).map strRow := rfl
          rw [e2]
          have e3 : ([lc.hdr] : List Value).toArray = #[.slice (lc.base.map fun x => ⟨x.1, x.2, none⟩) 0 (if lc.base = none then 0 else lc.cap)] := by rw [this]
          rw [e3]
          refine (hn _ _ w).mono ?_
          rintro e w' ⟨rfl, rfl⟩
          exact ⟨_, rfl, lc, this.symm, hO, fun b j hb => .inr hb, Fr.refl _ _⟩
        · have hpos : 0 < l.length := by cases l with | nil => exact absurd rfl h0 | cons a l => simp
          cases hb : lc.base with
          | none => have := h7 hb; omega
          | some p =>
            obtain ⟨b, o⟩ := p
            have hF : ∀ j, j < lc.k → lc.F b (o + j) := fun j hj => .inl ⟨o, hb, by omega, by omega⟩
            have hbw : b < w.heap.size := (hold b (o + 0) (hF 0 (by omega))).2
            have hhdr : lc.hdr = .slice (some ⟨b, o, none⟩) l.length lc.cap := by unfold Loc.hdr; rw [hb, h3]
            have e3 : ([lc.hdr] : List Value).toArray = #[.slice (some ⟨b, o, none⟩) l.length lc.cap] := by rw [hhdr]
            rw [e3]
            refine (hs b o lc.cap l w (holds_strs hO hb) (by omega) (by omega)).mono ?_
            rintro e w' ⟨rfl, n, rfl⟩
            have hdl : (Lib.compact l ++ List.replicate (l.length - (Lib.compact l).length) []).length = l.length := by
              rw [List.length_append, List.length_replicate]; omega
            have hg : putRow encStr (Go.Sort.ahead w n) b o (Lib.compact l ++ List.replicate (l.length - (Lib.compact l).length) []).toArray = grow (putRow encStr (Go.Sort.ahead w n) b o (Lib.compact l ++ List.replicate (l.length - (Lib.compact l).length) []).toArray) #[] := by simp
            rw [hg]
            refine ⟨_, rfl, { lc with len := (Lib.compact l).length }, ?_, ?_, fun b j hb => .inr hb, ?_⟩
            · unfold Loc.hdr; rw [hb]
            · exact row_after (ts := Lib.compact l) hO hb hdl (by omega) (fun j s hj => by rw [List.getElem?_append_left (List.getElem?_eq_some_iff.1 hj).1]; exact hj) hbw rfl
            · refine fr_putRow (fun j hj => hF j ?_) ?_ (fun j hj => ?_) hbw
              · have : j < l.length := by rw [← hdl]; simpa using hj
                omega
              · have : 0 < (Lib.compact l ++ List.replicate (l.length - (Lib.compact l).length) []).length := by omega
                simpa using this
              · have : j < l.length := by rw [← hdl]; simpa using hj
                exact ((h9 b o hb).1 j (by omega)).1
      · exact absurd h (by simp)
    · exact absurd h (by simp)
  · exact absurd h (by simp)

end Go.Proofs.YtbnjbianobdleaaGreat.Vm
