/-
  What the machine is told of this program: library functions by contract, how parameters are handed over, which slots live on at loops.
-/
import Derived.Test.YtbnjbianobdleaaVmGrow
import Derived.Test.YtbnjbianobdleaaVmPlain
import Derived.Test.YtbnjbianobdleaaVmShelf
import Derived.Lib.Bytealg
import Derived.Lib.Walk
import Derived.Lib.SliceRun
import Derived.Lib.AppendZerosOnto
namespace Go.Proofs.Ytbnjbianobdleaa.Vm
open Go Go.RowKit Go.Lib
set_option linter.unusedVariables false
set_option maxRecDepth 100000

theorem run_sliceNil {P : Program} {t e : TypeId} (ht : P.underlying t = some (.slice e)) (A : Option Addr) (n cap : Nat) (w : World) : (binOp .eql t (.slice A n cap) (.slice none 0 0)).run P w = .ok (.bool A.isNone) w := by
  have h : ∀ d : Nat, (Op.equalIn (d + 1) t (.slice A n cap) (.slice none 0 0)).run P w = .ok A.isNone w := fun d => by
    simp [Op.equalIn, run_underlying ht]
    try (cases A <;> rfl)
  simp only [binOp]
  simp [Op.equal, Op.maxDepth, h 9999]

theorem sizeE50 : sizeT Try.prog 37 = 2 := by kernel_rfl
set_option maxHeartbeats 400000 in
theorem c_clone50 (ms : List Mode) (ag rs fs : List TV) (h : xClone Try.prog 37 ag = some (rs, fs)) : Contract Try.prog ms 50 ag rs fs := by
  unfold xClone at h
  split at h
  · rename_i es
    split at h
    · rename_i hc
      obtain ⟨hroom, h63, hrow⟩ := hc
      simp only [Option.some.injEq, Prod.mk.injEq] at h; obtain ⟨rfl, rfl⟩ := h
      refine contract_fresh (xs := [.sl es]) ?_
      intro w M0 cs hx hold
      simp only [RepA] at hx
      obtain ⟨c, r, rfl, hrep, rfl⟩ := hx
      unfold Invokes
      rw [enters Try.func50 (by kernel_rfl) rfl]
      have hs : 0 < sizeT Try.prog 37 := by rw [sizeE50]; decide
      obtain ⟨v, W', hrun, hF⟩ := clone_app (P := Try.prog) hold (t := 28) (e := 37) Try.underlying28 (by kernel_rfl) hrep hs hrow hroom h63
      obtain ⟨A, cap, news, rfl, hnil, _⟩ := slice_cells hrep hs hrow
      have hrun' := Lib.hid hrun
      have hF' := Lib.hid hF
      clear hrun hF
      cases A with
      | none =>
        have := hnil rfl
        subst this
        have hb := run_sliceNil Try.underlying28 none 0 cap
        clear hrep hrow hroom h63 hrun' hF' hnil
        simp only
        go_enter Try.func50, Try.ntmps50
        go_wp2
        go_ret
        exact ⟨_, rfl, fresh_nil hs⟩
      | some a =>
        have hb := run_sliceNil Try.underlying28 (some a) es.length cap
        clear hrep hrow hroom h63 hnil
        simp only
        go_enter Try.func50, Try.ntmps50
        go_wp2_with (at_builtin; refine wpList_app rfl _ _ _ _ rfl hrun'.out ?_)
        go_ret
        exact ⟨_, rfl, hF'.out⟩
    · exact absurd h (by simp)
  · exact absurd h (by simp)

theorem c_compare61 (ms : List Mode) (ag rs fs : List TV) (h : xCompare ag = some (rs, fs)) : Contract Try.prog ms 61 ag rs fs := c_compare (enters Try.func61 (by kernel_rfl) rfl) (fun a b w => Try.strings_Compare a b w) ms ag rs fs h

set_option maxHeartbeats 2000000 in
theorem grow_room70 (base : Option Addr) (l c n : Nat) (w : World) (hlc : l ≤ c) (hc63 : c ≤ 9223372036854775807) (hn63 : n ≤ 9223372036854775807) (hroom : l + n ≤ c) :
    Calls Try.prog 70 #[.slice base l c, .int .i64 n] w fun e w' => e = .returned (.slice base l c) ∧ w' = w := by
  have h1 : ¬ ((n : Int) < 0) := by omega
  have h2 : wrap64 ((c : Int) - (l : Int)) = (c : Int) - (l : Int) := by unfold wrap64; omega
  have h3 : wrap64 ((n : Int) - ((c : Int) - (l : Int))) = (n : Int) - ((c : Int) - (l : Int)) := by unfold wrap64; omega
  have h4 : ¬ ((n : Int) - ((c : Int) - (l : Int)) > 0) := by omega
  go_enter Try.func70, Try.ntmps70
  go_wp2
  go_ret
  exact ⟨rfl, rfl⟩

set_option maxHeartbeats 4000000 in
theorem grow_new70 (i0 : TypeInfo) (z : Value) (hi0 : Try.prog.info? 37 = some i0) (hz0 : i0.zero = some z) (hs0 : 0 < i0.size)
    (base : Option Addr) (l c n : Nat) (cs : List Value) (w : World) (hlc : l ≤ c) (hroom : c < l + n) (hbig : (l + n) * i0.bytes ≤ 140737488355328) (h63 : l + n ≤ 4611686018427387904)
    (hcl : cs.length = c * i0.size) (hnil : base = none → c = 0) (hcs : ∀ a, base = some a → ∀ j v, cs[j]? = some v → w.cell? (a.add j) = some v) :
    Calls Try.prog 70 #[.slice base l c, .int .i64 n] w fun e w' =>
      e = .returned (.slice (some ⟨w.heap.size, 0, none⟩) l (grownCap w (l + n) c 37)) ∧
      w' = w.drew.alloc (.cells (cs.toArray ++ Builtin.zeroCells z.cells (l + n - c) ++ Builtin.zeroCells z.cells (grownCap w (l + n) c 37 - (l + n))) 37) := by
  have h1 : ¬ ((n : Int) < 0) := by omega
  have h2 : wrap64 ((c : Int) - (l : Int)) = (c : Int) - (l : Int) := by unfold wrap64; omega
  have h3 : wrap64 ((n : Int) - ((c : Int) - (l : Int))) = (n : Int) - ((c : Int) - (l : Int)) := by unfold wrap64; omega
  have h4 : (n : Int) - ((c : Int) - (l : Int)) > 0 := by omega
  have z25 : ∀ w, (Go.sizeOf 37).run Try.prog w = .ok i0.size w := fun w => by simp [Go.sizeOf, typeInfo, hi0]
  have hck : c + (l + n - c) = l + n := by omega
  have hold : (Builtin.firstCells i0.size c (.slice base c c)).run Try.prog w.drew = .ok cs.toArray w.drew := by
    cases base with
    | none =>
      have h0 := hnil rfl
      subst h0
      have hc0 : cs = [] := List.length_eq_zero_iff.1 (by simpa using hcl)
      rw [hc0]
      exact run_firstCells_none w.drew i0.size 0 0 0
    | some a => exact run_firstCells_some w.drew i0.size c a c c cs hcl (fun j v hj => hcs a rfl j v hj)
  have hrz : ∀ ty, (Builtin.append_ #[28, 3] ty #[.slice base c c, .int .i64 ((n : Int) - ((c : Int) - (l : Int)))]).run Try.prog w =
      .ok (.slice (some ⟨w.heap.size, 0, none⟩) (l + n) (grownCap w (l + n) c 37)) (w.drew.alloc (.cells (cs.toArray ++ Builtin.zeroCells z.cells (l + n - c) ++ Builtin.zeroCells z.cells (grownCap w (l + n) c 37 - (l + n))) 37)) := fun ty => by
    have h := Lib.run_append_grow_zeros w 28 3 ty 37 i0 z .i64 .i64 Try.underlying28 Try.underlying3 hi0 hz0 base c c cs hold (l + n - c) (by omega) hs0 (by omega) (by omega)
      (by have : (l + n - c) * i0.bytes ≤ (l + n) * i0.bytes := Nat.mul_le_mul_right _ (by omega)
          omega)
      (by rw [hck]; exact growslice_fits hroom hbig)
    rw [hck] at h
    rw [show (n : Int) - ((c : Int) - (l : Int)) = ((l + n - c : Nat) : Int) by omega]
    exact h
  have hGn : l + n ≤ grownCap w (l + n) c 37 := grownCap_ge w _ _ _
  obtain ⟨G, hG⟩ : ∃ G, G = grownCap w (l + n) c 37 := ⟨_, rfl⟩
  rw [← hG] at hrz hGn ⊢
  have hG63 : G ≤ 9223372036854775807 := by
    have := grownCap_le_maxLen w (l + n) c 37 (by unfold maxLen; omega)
    rw [← hG] at this
    unfold maxLen at this
    omega
  clear hold hck hG hcs hcl
  go_enter Try.func70, Try.ntmps70
  cases base with
  | none =>
    have h0 := hnil rfl
    subst h0
    obtain rfl : l = 0 := by omega
    go_wp2_with (at_builtin; refine Lib.wpList_append_run _ rfl _ _ _ _ rfl _ _ rfl rfl _ _ (hrz _) ?_)
    all_goals (go_ret; exact ⟨rfl, rfl⟩)
  | some a =>
    obtain ⟨ab, ao, asp⟩ := a
    go_wp2_with (at_builtin; refine Lib.wpList_append_run _ rfl _ _ _ _ rfl _ _ rfl rfl _ _ (hrz _) ?_)
    all_goals (go_ret; exact ⟨rfl, rfl⟩)
theorem c_grow70 (ms : List Mode) (ag rs fs : List TV) (h : xGrow Try.prog 37 ag = some (rs, fs)) : Contract Try.prog ms 70 ag rs fs :=
  contract_grow (e := 37) (enters Try.func70 (by kernel_rfl) rfl) (fun b l c n w h1 h2 h3 h4 => grow_room70 b l c n w h1 h2 h3 h4) (fun i0 z a1 a2 a3 b l c n cs w h1 h2 h3 h4 h5 h6 h7 => grow_new70 i0 z a1 a2 a3 b l c n cs w h1 h2 h3 h4 h5 h6 h7) (by kernel_rfl) h

theorem sizeE84 : sizeT Try.prog 9 = 1 := by kernel_rfl
set_option maxHeartbeats 400000 in
theorem c_clone84 (ms : List Mode) (ag rs fs : List TV) (h : xClone Try.prog 9 ag = some (rs, fs)) : Contract Try.prog ms 84 ag rs fs := by
  unfold xClone at h
  split at h
  · rename_i es
    split at h
    · rename_i hc
      obtain ⟨hroom, h63, hrow⟩ := hc
      simp only [Option.some.injEq, Prod.mk.injEq] at h; obtain ⟨rfl, rfl⟩ := h
      refine contract_fresh (xs := [.sl es]) ?_
      intro w M0 cs hx hold
      simp only [RepA] at hx
      obtain ⟨c, r, rfl, hrep, rfl⟩ := hx
      unfold Invokes
      rw [enters Try.func84 (by kernel_rfl) rfl]
      have hs : 0 < sizeT Try.prog 9 := by rw [sizeE84]; decide
      obtain ⟨v, W', hrun, hF⟩ := clone_app (P := Try.prog) hold (t := 24) (e := 9) Try.underlying24 (by kernel_rfl) hrep hs hrow hroom h63
      obtain ⟨A, cap, news, rfl, hnil, _⟩ := slice_cells hrep hs hrow
      have hrun' := Lib.hid hrun
      have hF' := Lib.hid hF
      clear hrun hF
      cases A with
      | none =>
        have := hnil rfl
        subst this
        have hb := run_sliceNil Try.underlying24 none 0 cap
        clear hrep hrow hroom h63 hrun' hF' hnil
        simp only
        go_enter Try.func84, Try.ntmps84
        go_wp2
        go_ret
        exact ⟨_, rfl, fresh_nil hs⟩
      | some a =>
        have hb := run_sliceNil Try.underlying24 (some a) es.length cap
        clear hrep hrow hroom h63 hnil
        simp only
        go_enter Try.func84, Try.ntmps84
        go_wp2_with (at_builtin; refine wpList_app rfl _ _ _ _ rfl hrun'.out ?_)
        go_ret
        exact ⟨_, rfl, hF'.out⟩
    · exact absurd h (by simp)
  · exact absurd h (by simp)

noncomputable def extL : List (FuncId × (List TV → Option (List TV × List TV))) := [(50, (xClone Try.prog 37)), (61, xCompare), (70, (xGrow Try.prog 37)), (84, (xClone Try.prog 9))]
def modesL : List (FuncId × List Mode) := [(54, [.mut]), (64, [.move]), (65, [.move]), (70, [.isNil]), (71, [.mut]), (80, [.mut]), (81, [.mut]), (85, [.mut]), (86, [.move]), (87, [.mut]), (91, [.mut])]
def loopsL : List (FuncId × List (Nat × List Nat × List Nat × List (Nat × Option Nat × Nat))) := [(3, [(7, [0, 5, 6], [], []), (11, [0, 5, 7], [], []), (17, [0, 5, 9], [], [])]),
  (12, [(3, [0, 3, 4], [], [(0, none, 2)])]),
  (13, [(22, [1, 2, 76, 77, 78], [], [(76, none, 10)])]),
  (15, [(20, [1, 74, 75, 76], [], [(1, none, 2), (74, none, 10)])]),
  (17, [(14, [1, 2, 7], [], [(1, none, 2)])]),
  (18, [(4, [0, 3, 4, 5], [], [])]),
  (24, [(2, [0, 10, 11, 12], [], [(0, none, 2), (10, none, 1)])]),
  (28, [(2, [3, 4, 5, 9, 10, 11], [], [(4, none, 2), (5, none, 2), (9, none, 2)])]),
  (30, [(3, [1, 6, 11, 12, 13], [], [(6, none, 2), (11, none, 2)])]),
  (38, [(3, [1, 3, 8, 23, 24, 25], [], [(1, none, 2), (8, none, 1), (23, none, 10)]), (12, [1, 3, 8, 14], [], [(1, none, 2), (8, none, 1)])]),
  (42, [(2, [0, 1, 2, 11, 12, 13], [], [(2, none, 2), (11, none, 2)])]),
  (44, [(3, [3, 9, 10, 11], [], [(3, none, 2), (9, none, 2)])]),
  (48, [(3, [3, 9, 10, 11], [], [(3, none, 2), (9, none, 2)])]),
  (53, [(3, [0, 3, 9, 10, 11], [], [(0, none, 1), (9, none, 1)]), (11, [6, 25, 26, 27], [], [(6, none, 2), (25, none, 1)])]),
  (59, [(3, [0, 1, 2, 8, 9, 10], [], [(0, none, 2)])]),
  (68, [(4, [1, 2, 15, 16, 17], [], [(1, none, 2), (15, none, 2)])]),
  (71, [(2, [0, 1, 2, 6, 7, 8], [], [(0, none, 2)]), (7, [0, 1, 2, 6], [], [(0, none, 2)]), (9, [0, 1, 2, 6, 7, 8], [], [(0, none, 2)])]),
  (72, [(2, [0, 1, 7, 8], [], [(0, none, 1)])]),
  (75, [(2, [0, 1, 7, 8], [], [(0, none, 2)])]),
  (78, [(2, [0, 1, 7, 8], [], [(0, none, 1)])]),
  (80, [(1, [0, 1, 2, 3, 8], [], [(0, none, 2)]), (4, [0, 1, 2, 3, 8, 9], [], [(0, none, 2)])]),
  (81, [(3, [0, 1, 4, 10, 11], [], [(0, none, 2)]), (9, [0, 10, 13], [], [(0, none, 2)]), (15, [0, 2, 4, 14, 15], [], [(0, none, 2)]), (21, [0, 14, 17], [], [(0, none, 2)]), (33, [0, 1, 2, 3, 4, 18, 19, 20, 21, 22], [], [(0, none, 2)])]),
  (86, [(4, [0, 3], [], [(0, none, 1)]), (9, [0, 3, 4, 5], [], [(0, none, 1), (4, none, 1)])]),
  (87, [(2, [0, 2, 4, 10, 11], [], [(0, none, 2)])]),
  (88, [(1, [0, 2, 3], [], [(0, none, 2)])]),
  (89, [(2, [0, 1, 2, 3, 8, 9], [], [(0, none, 1)])]),
  (91, [(1, [0, 1, 2, 3, 10], [], [(0, none, 2)])]),
  (92, [(1, [0, 1, 2, 6], [], [(0, none, 1)]), (4, [0, 1, 2, 6, 7], [], [(0, none, 1)])]),
  (93, [(4, [0, 6, 7, 8, 9], [], [(0, none, 1)]), (8, [0, 6, 7, 10], [], [(0, none, 1)])]),
  (94, [(5, [0, 1, 6, 7, 8, 9], [], [(0, none, 1)])]),
  (96, [(2, [0, 6, 7], [], [(0, none, 1)])]),
  (97, [(3, [0, 1, 2, 7, 8], [], [(0, none, 1)]), (5, [0, 1, 2, 7, 8], [], [(0, none, 1)]), (14, [0, 1, 2, 7, 8, 9], [], [(0, none, 1)]), (20, [0, 1, 2, 7, 8, 10], [], [(0, none, 1)])]),
  (99, [(3, [0, 1, 9, 10], [], [(0, none, 1)]), (5, [0, 1, 9, 10], [], [(0, none, 1)])]),
  (100, [(3, [0, 1, 10, 11], [], [(0, none, 1)]), (5, [0, 1, 10, 11], [], [(0, none, 1)]), (13, [0, 1, 10, 11], [], [(0, none, 1)]), (15, [0, 1, 10, 11], [], [(0, none, 1)])]),
  (103, [(1, [0, 2, 3, 8], [], [(0, none, 1)])])]
noncomputable def C : Cx where
  P := Try.prog
  modes f := (lkp f modesL).getD []
  ext f := lkp f extL
  bldT := bldTy
  loops f t := match lkp f loopsL with | some l => (lkp t l).getD ([], [], []) | none => ([], [], [])
  pre _ _ := []

theorem extOK : ∀ f g ag rs fs, C.ext f = some g → g ag = some (rs, fs) → Contract C.P (C.modes f) f ag rs fs := by
  intro f g ag rs fs h hg
  have hm := lkp_mem (show lkp f extL = some g from h)
  simp only [extL, List.mem_cons, List.not_mem_nil, or_false, Prod.mk.injEq] at hm
  rcases hm with ⟨rfl, rfl⟩ | ⟨rfl, rfl⟩ | ⟨rfl, rfl⟩ | ⟨rfl, rfl⟩
  · exact c_clone50 _ _ _ _ hg
  · exact c_compare61 _ _ _ _ hg
  · exact c_grow70 _ _ _ _ hg
  · exact c_clone84 _ _ _ _ hg

theorem progOKp : progOK C.P = true := by kernel_rfl
theorem mixedOKp : C.P.follows .mixedOrders = true := by kernel_rfl
/-- What the machine says of a call here, the model does. -/
theorem sound {k : Nat} {f : FuncId} {ag rs fs : List TV} (h : callN C k f ag = some (rs, fs)) : Contract C.P (C.modes f) f ag rs fs := callN_ok extOK progOKp mixedOKp k f ag rs fs h

end Go.Proofs.Ytbnjbianobdleaa.Vm
