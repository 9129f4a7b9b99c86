/-
  slices.Grow of a nil slice, by contract.
-/
import Derived.Test.YtmjkdghcfihfiaaVmLib
namespace Go.Proofs.Ytmjkdghcfihfiaa.Vm
open Go Go.RowKit
set_option linter.unusedVariables false
set_option linter.unusedSimpArgs false

def xGrow (P : Program) (e : TypeId) : List TV → Option (List TV × List TV)
  | [.pv .nilSlc, .pv (.int .i64 n)] => if 0 < sizeT P e ∧ 0 ≤ n ∧ n.toNat * bytesT P e ≤ room ∧ n.toNat ≤ 4611686018427387904 then some ([.own (sizeT P e) []], []) else none
  | _ => none

theorem contract_grow {P : Program} {ms : List Mode} {f : FuncId} {e : TypeId} (hen : ∀ args w, (callFunc f args).run P w = .ok (.enter f args) w)
    (hroomC : ∀ (base : Option Addr) (l c n : Nat) (w : World), l ≤ c → c ≤ 9223372036854775807 → n ≤ 9223372036854775807 → l + n ≤ c → Calls P f #[.slice base l c, .int .i64 n] w fun x w' => x = .returned (.slice base l c) ∧ w' = w)
    (hnewC : ∀ (i0 : TypeInfo) (z : Value), P.info? e = some i0 → i0.zero = some z → 0 < i0.size → ∀ (base : Option Addr) (l c n : Nat) (cs : List Value) (w : World), l ≤ c → c < l + n → (l + n) * i0.bytes ≤ 140737488355328 → l + n ≤ 4611686018427387904 →
      cs.length = c * i0.size → (base = none → c = 0) → (∀ a, base = some a → ∀ j v, cs[j]? = some v → w.cell? (a.add j) = some v) → Calls P f #[.slice base l c, .int .i64 n] w fun x w' =>
        x = .returned (.slice (some ⟨w.heap.size, 0, none⟩) l (grownCap w (l + n) c e)) ∧ w' = w.drew.alloc (.cells (cs.toArray ++ Builtin.zeroCells z.cells (l + n - c) ++ Builtin.zeroCells z.cells (grownCap w (l + n) c e - (l + n))) e))
    (hz : (zeroV P e).isSome = true) {ag rs fs : List TV} (h : xGrow P e ag = some (rs, fs)) : Contract P ms f ag rs fs := by
  unfold xGrow at h
  split at h
  · rename_i n
    split at h
    · rename_i hc
      obtain ⟨h0, hn, hbig, h63⟩ := hc
      simp only [Option.some.injEq, Prod.mk.injEq] at h; obtain ⟨rfl, rfl⟩ := h
      refine contract_fresh (xs := [.nilSlc, .int .i64 n]) ?_
      intro w M0 cs hx hold
      simp only [RepA, Rep] at hx
      obtain ⟨c, r, rfl, rfl, c2, r2, rfl, rfl, rfl⟩ := hx
      obtain ⟨zv, hz⟩ := Option.isSome_iff_exists.1 hz
      obtain ⟨i, z, hi, hzz, hzl, hl⟩ := zeroV_eq hz
      have hst : sizeT P e = i.size := by simp [sizeT, hi]
      have hbt : bytesT P e = i.bytes := by simp [bytesT, hi]
      obtain ⟨m, rfl⟩ : ∃ m : Nat, n = m := ⟨n.toNat, by omega⟩
      rw [Int.toNat_natCast] at hbig h63
      unfold Invokes
      rw [hen]
      simp only
      by_cases hm : m = 0
      · subst hm
        refine (hroomC none 0 0 0 w (by omega) (by omega) (by omega) (by omega)).mono ?_
        rintro x w' ⟨rfl, rfl⟩
        exact ⟨_, rfl, fresh_nil h0⟩
      · refine (hnewC i z hi hzz (by omega) none 0 0 m [] w (by omega) (by omega) (by rw [Nat.zero_add, ← hbt]; unfold room at hbig; exact hbig) (by omega) (by simp) (fun _ => rfl) (by simp)).mono ?_
        rintro x w' ⟨rfl, rfl⟩
        refine ⟨_, rfl, ?_⟩
        have hcp : 0 + m ≤ grownCap w (0 + m) 0 e := grownCap_ge _ _ _ _
        generalize grownCap w (0 + m) 0 e = cp at hcp
        let vs : List Value := (Builtin.zeroCells z.cells (0 + m - 0)).toList ++ (Builtin.zeroCells z.cells (cp - (0 + m))).toList
        have hvs : (([] : List Value).toArray ++ Builtin.zeroCells z.cells (0 + m - 0) ++ Builtin.zeroCells z.cells (cp - (0 + m))) = vs.toArray := by
          apply Array.ext'; simp [vs]
        rw [hvs]
        have hzs' : z.cells.size = sizeT P e := by rw [← hl, ← hzl]; simp
        have hvl : vs.length = cp * sizeT P e := by
          simp only [vs, List.length_append, Array.length_toList, size_zeroCells, hzs', ← Nat.add_mul]
          congr 1; omega
        have hblk : (w.drew.alloc (.cells vs.toArray e)).heap[w.heap.size]? = some (.cells vs.toArray e (0, 0)) := heap_alloc_new w.drew _
        exact fresh_block (w := w) (w' := w.drew.alloc (.cells vs.toArray e)) (g := w.heap.size) (vs := vs) (cap := cp) (es := []) hold h0 ⟨by simp, by simp⟩ hvl (by simp) (Nat.le_refl _) (by simp)
          (fun j => by have := cell_of_row (w.drew.alloc (.cells vs.toArray e)) w.heap.size j vs.toArray e (0, 0) hblk; exact this.trans (List.getElem?_toArray ..))
          (fun j _ => by show World.frozen? _ _ = false; unfold World.frozen?; simp only [hblk]; simp)
          ((Fr.drew w (fun _ _ => False)).trans (Fr.alloc _ _ _ (fun _ _ => False)) (fun _ _ h => h) (fun _ _ h => h.elim))
    · exact absurd h (by simp)
  · exact absurd h (by simp)

end Go.Proofs.Ytmjkdghcfihfiaa.Vm
