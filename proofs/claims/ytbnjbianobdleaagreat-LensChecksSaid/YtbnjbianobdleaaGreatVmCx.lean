/-
  What the machine is told of this program: library functions by contract, how parameters are handed over, which slots live on at loops.
-/
import Derived.Test.YtbnjbianobdleaaGreatVmGrow
import Derived.Test.YtbnjbianobdleaaGreatVmPlain
import Derived.Test.YtbnjbianobdleaaGreatVmShelf
import Derived.Test.YtbnjbianobdleaaGreatVmOwn
import Derived.Test.YtbnjbianobdleaaGreatVmInsW
import Derived.Test.YtbnjbianobdleaaGreatVmDelW
import Derived.Lib.Bytealg
import Derived.Lib.Walk
import Derived.Lib.SliceRun
import Derived.Lib.AppendZerosOnto
namespace Go.Proofs.YtbnjbianobdleaaGreat.Vm
open Go Go.RowKit Go.Lib
set_option linter.unusedVariables false
set_option maxRecDepth 100000

theorem run_sliceNil {P : Program} {t e : TypeId} (ht : P.underlying t = some (.slice e)) (A : Option Addr) (n cap : Nat) (w : World) : (binOp .eql t (.slice A n cap) (.slice none 0 0)).run P w = .ok (.bool A.isNone) w := by
  have h : ∀ d : Nat, (Op.equalIn (d + 1) t (.slice A n cap) (.slice none 0 0)).run P w = .ok A.isNone w := fun d => by
    simp [Op.equalIn, run_underlying ht]
    try (cases A <;> rfl)
  simp only [binOp]
  simp [Op.equal, Op.maxDepth, h 9999]

theorem sizeE90 : sizeT Tryz.prog 44 = 2 := by kernel_rfl
set_option maxHeartbeats 400000 in
theorem c_clone90 (ms : List Mode) (ag rs fs : List TV) (h : xClone Tryz.prog 44 ag = some (rs, fs)) : Contract Tryz.prog ms 90 ag rs fs := by
  unfold xClone at h
  split at h
  · rename_i es
    split at h
    · rename_i hc
      obtain ⟨hroom, h63, hrow⟩ := hc
      simp only [Option.some.injEq, Prod.mk.injEq] at h; obtain ⟨rfl, rfl⟩ := h
      refine contract_fresh (xs := [.sl es]) ?_
      intro w M0 cs hx hold
      simp only [RepA] at hx
      obtain ⟨c, r, rfl, hrep, rfl⟩ := hx
      unfold Invokes
      rw [enters Tryz.func90 (by kernel_rfl) rfl]
      have hs : 0 < sizeT Tryz.prog 44 := by rw [sizeE90]; decide
      obtain ⟨v, W', hrun, hF⟩ := clone_app (P := Tryz.prog) hold (t := 32) (e := 44) Tryz.underlying32 (by kernel_rfl) hrep hs hrow hroom h63
      obtain ⟨A, cap, news, rfl, hnil, _⟩ := slice_cells hrep hs hrow
      have hrun' := Lib.hid hrun
      have hF' := Lib.hid hF
      clear hrun hF
      cases A with
      | none =>
        have := hnil rfl
        subst this
        have hb := run_sliceNil Tryz.underlying32 none 0 cap
        clear hrep hrow hroom h63 hrun' hF' hnil
        simp only
        go_enter Tryz.func90, Tryz.ntmps90
        go_wp2
        go_ret
        exact ⟨_, rfl, fresh_nil hs⟩
      | some a =>
        have hb := run_sliceNil Tryz.underlying32 (some a) es.length cap
        clear hrep hrow hroom h63 hnil
        simp only
        go_enter Tryz.func90, Tryz.ntmps90
        go_wp2_with (at_builtin; refine wpList_app rfl _ _ _ _ rfl hrun'.out ?_)
        go_ret
        exact ⟨_, rfl, hF'.out⟩
    · exact absurd h (by simp)
  · exact absurd h (by simp)

theorem c_compare105 (ms : List Mode) (ag rs fs : List TV) (h : xCompare ag = some (rs, fs)) : Contract Tryz.prog ms 105 ag rs fs := c_compare (enters Tryz.func105 (by kernel_rfl) rfl) (fun a b w => Tryz.strings_Compare a b w) ms ag rs fs h

set_option maxHeartbeats 2000000 in
theorem grow_room109 (base : Option Addr) (l c n : Nat) (w : World) (hlc : l ≤ c) (hc63 : c ≤ 9223372036854775807) (hn63 : n ≤ 9223372036854775807) (hroom : l + n ≤ c) :
    Calls Tryz.prog 109 #[.slice base l c, .int .i64 n] w fun e w' => e = .returned (.slice base l c) ∧ w' = w := by
  have h1 : ¬ ((n : Int) < 0) := by omega
  have h2 : wrap64 ((c : Int) - (l : Int)) = (c : Int) - (l : Int) := by unfold wrap64; omega
  have h3 : wrap64 ((n : Int) - ((c : Int) - (l : Int))) = (n : Int) - ((c : Int) - (l : Int)) := by unfold wrap64; omega
  have h4 : ¬ ((n : Int) - ((c : Int) - (l : Int)) > 0) := by omega
  go_enter Tryz.func109, Tryz.ntmps109
  go_wp2
  go_ret
  exact ⟨rfl, rfl⟩

set_option maxHeartbeats 4000000 in
theorem grow_new109 (i0 : TypeInfo) (z : Value) (hi0 : Tryz.prog.info? 44 = some i0) (hz0 : i0.zero = some z) (hs0 : 0 < i0.size)
    (base : Option Addr) (l c n : Nat) (cs : List Value) (w : World) (hlc : l ≤ c) (hroom : c < l + n) (hbig : (l + n) * i0.bytes ≤ 140737488355328) (h63 : l + n ≤ 4611686018427387904)
    (hcl : cs.length = c * i0.size) (hnil : base = none → c = 0) (hcs : ∀ a, base = some a → ∀ j v, cs[j]? = some v → w.cell? (a.add j) = some v) :
    Calls Tryz.prog 109 #[.slice base l c, .int .i64 n] w fun e w' =>
      e = .returned (.slice (some ⟨w.heap.size, 0, none⟩) l (grownCap w (l + n) c 44)) ∧
      w' = w.drew.alloc (.cells (cs.toArray ++ Builtin.zeroCells z.cells (l + n - c) ++ Builtin.zeroCells z.cells (grownCap w (l + n) c 44 - (l + n))) 44) := by
  have h1 : ¬ ((n : Int) < 0) := by omega
  have h2 : wrap64 ((c : Int) - (l : Int)) = (c : Int) - (l : Int) := by unfold wrap64; omega
  have h3 : wrap64 ((n : Int) - ((c : Int) - (l : Int))) = (n : Int) - ((c : Int) - (l : Int)) := by unfold wrap64; omega
  have h4 : (n : Int) - ((c : Int) - (l : Int)) > 0 := by omega
  have z25 : ∀ w, (Go.sizeOf 44).run Tryz.prog w = .ok i0.size w := fun w => by simp [Go.sizeOf, typeInfo, hi0]
  have hck : c + (l + n - c) = l + n := by omega
  have hold : (Builtin.firstCells i0.size c (.slice base c c)).run Tryz.prog w.drew = .ok cs.toArray w.drew := by
    cases base with
    | none =>
      have h0 := hnil rfl
      subst h0
      have hc0 : cs = [] := List.length_eq_zero_iff.1 (by simpa using hcl)
      rw [hc0]
      exact run_firstCells_none w.drew i0.size 0 0 0
    | some a => exact run_firstCells_some w.drew i0.size c a c c cs hcl (fun j v hj => hcs a rfl j v hj)
  have hrz : ∀ ty, (Builtin.append_ #[32, 3] ty #[.slice base c c, .int .i64 ((n : Int) - ((c : Int) - (l : Int)))]).run Tryz.prog w =
      .ok (.slice (some ⟨w.heap.size, 0, none⟩) (l + n) (grownCap w (l + n) c 44)) (w.drew.alloc (.cells (cs.toArray ++ Builtin.zeroCells z.cells (l + n - c) ++ Builtin.zeroCells z.cells (grownCap w (l + n) c 44 - (l + n))) 44)) := fun ty => by
    have h := Lib.run_append_grow_zeros w 32 3 ty 44 i0 z .i64 .i64 Tryz.underlying32 Tryz.underlying3 hi0 hz0 base c c cs hold (l + n - c) (by omega) hs0 (by omega) (by omega)
      (by have : (l + n - c) * i0.bytes ≤ (l + n) * i0.bytes := Nat.mul_le_mul_right _ (by omega)
          omega)
      (by rw [hck]; exact growslice_fits hroom hbig)
    rw [hck] at h
    rw [show (n : Int) - ((c : Int) - (l : Int)) = ((l + n - c : Nat) : Int) by omega]
    exact h
  have hGn : l + n ≤ grownCap w (l + n) c 44 := grownCap_ge w _ _ _
  obtain ⟨G, hG⟩ : ∃ G, G = grownCap w (l + n) c 44 := ⟨_, rfl⟩
  rw [← hG] at hrz hGn ⊢
  have hG63 : G ≤ 9223372036854775807 := by
    have := grownCap_le_maxLen w (l + n) c 44 (by unfold maxLen; omega)
    rw [← hG] at this
    unfold maxLen at this
    omega
  clear hold hck hG hcs hcl
  go_enter Tryz.func109, Tryz.ntmps109
  cases base with
  | none =>
    have h0 := hnil rfl
    subst h0
    obtain rfl : l = 0 := by omega
    go_wp2_with (at_builtin; refine Lib.wpList_append_run _ rfl _ _ _ _ rfl _ _ rfl rfl _ _ (hrz _) ?_)
    all_goals (go_ret; exact ⟨rfl, rfl⟩)
  | some a =>
    obtain ⟨ab, ao, asp⟩ := a
    go_wp2_with (at_builtin; refine Lib.wpList_append_run _ rfl _ _ _ _ rfl _ _ rfl rfl _ _ (hrz _) ?_)
    all_goals (go_ret; exact ⟨rfl, rfl⟩)
theorem c_grow109 (ms : List Mode) (ag rs fs : List TV) (h : xGrow Tryz.prog 44 ag = some (rs, fs)) : Contract Tryz.prog ms 109 ag rs fs :=
  contract_grow (e := 44) (enters Tryz.func109 (by kernel_rfl) rfl) (fun b l c n w h1 h2 h3 h4 => grow_room109 b l c n w h1 h2 h3 h4) (fun i0 z a1 a2 a3 b l c n cs w h1 h2 h3 h4 h5 h6 h7 => grow_new109 i0 z a1 a2 a3 b l c n cs w h1 h2 h3 h4 h5 h6 h7) (by kernel_rfl) h

theorem sizeE128 : sizeT Tryz.prog 9 = 1 := by kernel_rfl
set_option maxHeartbeats 400000 in
theorem c_clone128 (ms : List Mode) (ag rs fs : List TV) (h : xClone Tryz.prog 9 ag = some (rs, fs)) : Contract Tryz.prog ms 128 ag rs fs := by
  unfold xClone at h
  split at h
  · rename_i es
    split at h
    · rename_i hc
      obtain ⟨hroom, h63, hrow⟩ := hc
      simp only [Option.some.injEq, Prod.mk.injEq] at h; obtain ⟨rfl, rfl⟩ := h
      refine contract_fresh (xs := [.sl es]) ?_
      intro w M0 cs hx hold
      simp only [RepA] at hx
      obtain ⟨c, r, rfl, hrep, rfl⟩ := hx
      unfold Invokes
      rw [enters Tryz.func128 (by kernel_rfl) rfl]
      have hs : 0 < sizeT Tryz.prog 9 := by rw [sizeE128]; decide
      obtain ⟨v, W', hrun, hF⟩ := clone_app (P := Tryz.prog) hold (t := 22) (e := 9) Tryz.underlying22 (by kernel_rfl) hrep hs hrow hroom h63
      obtain ⟨A, cap, news, rfl, hnil, _⟩ := slice_cells hrep hs hrow
      have hrun' := Lib.hid hrun
      have hF' := Lib.hid hF
      clear hrun hF
      cases A with
      | none =>
        have := hnil rfl
        subst this
        have hb := run_sliceNil Tryz.underlying22 none 0 cap
        clear hrep hrow hroom h63 hrun' hF' hnil
        simp only
        go_enter Tryz.func128, Tryz.ntmps128
        go_wp2
        go_ret
        exact ⟨_, rfl, fresh_nil hs⟩
      | some a =>
        have hb := run_sliceNil Tryz.underlying22 (some a) es.length cap
        clear hrep hrow hroom h63 hnil
        simp only
        go_enter Tryz.func128, Tryz.ntmps128
        go_wp2_with (at_builtin; refine wpList_app rfl _ _ _ _ rfl hrun'.out ?_)
        go_ret
        exact ⟨_, rfl, hF'.out⟩
    · exact absurd h (by simp)
  · exact absurd h (by simp)

theorem c_sort129 (ms : List Mode) (hms : ms.headD .borrow = .mut) (ag rs fs : List TV) (h : xSort ag = some (rs, fs)) : Contract Tryz.prog ms 129 ag rs fs := c_sort (enters Tryz.func129 (by kernel_rfl) rfl) (fun b o c ss w h1 h2 h3 => Tryz.slices_Sort_string b o c ss w h1 h2 h3) (fun p c w => Tryz.slices_Sort_string_none p c w) ms hms ag rs fs h

theorem c_compact130 (ms : List Mode) (hms : ms.headD .borrow ≠ .mut) (ag rs fs : List TV) (h : xCompact ag = some (rs, fs)) : Contract Tryz.prog ms 130 ag rs fs := c_compact (enters Tryz.func130 (by kernel_rfl) rfl) (fun b o c ss w h1 h2 h3 => Tryz.slices_Compact_string b o c ss w h1 h2 h3) (fun p c w => Tryz.slices_Compact_string_empty p c w) ms hms ag rs fs h

noncomputable def extL : List (FuncId × (List TV → Option (List TV × List TV))) := [(90, (xClone Tryz.prog 44)), (105, xCompare), (109, (xGrow Tryz.prog 44)), (114, xInsert), (115, xDelete), (128, (xClone Tryz.prog 9)), (129, xSort), (130, xCompact)]
def modesL : List (FuncId × List Mode) := [(92, [.mut]), (109, [.isNil]), (110, [.mut]), (114, [.move]), (115, [.move]), (120, [.mut]), (121, [.mut]), (127, [.mut]), (129, [.mut]), (130, [.move]), (132, [.mut])]
def loopsL : List (FuncId × List (Nat × List Nat × List Nat × List (Nat × Option Nat × Nat))) := [(3, [(24, [2, 7, 9], [], []), (19, [2, 7, 8], [], [])]),
  (5, [(11, [7, 9, 10, 11, 12, 13, 14, 15], [], [(9, none, 2), (10, none, 2), (11, none, 2), (13, none, 2)]), (18, [7, 9, 10, 11, 12, 13, 14, 20], [], [(9, none, 2), (10, none, 2), (11, none, 2), (13, none, 2)])]),
  (9, [(20, [1, 2, 4, 5, 7], [], [])]),
  (11, [(3, [1, 2, 3, 4], [], [])]),
  (15, [(3, [1, 2, 3, 4], [], [])]),
  (16, [(3, [0, 1, 2, 7, 8], [], [(0, none, 2), (7, none, 2)])]),
  (17, [(3, [0, 3, 6, 7, 8], [], [(0, none, 2), (6, none, 2), (7, none, 2)])]),
  (20, [(4, [0, 1, 5], [], [(0, none, 2), (1, none, 2)])]),
  (28, [(3, [0, 3, 4], [], [(0, none, 2)])]),
  (29, [(3, [1, 2, 5, 6], [], [])]),
  (30, [(2, [1, 3], [], [])]),
  (33, [(22, [1, 2, 76, 77, 78], [], [(76, none, 10)])]),
  (34, [(3, [0, 3, 4], [], [(0, none, 2), (3, none, 2)])]),
  (35, [(16, [0, 2, 4, 6], [], [])]),
  (36, [(3, [0, 1, 5, 6], [], [(0, none, 2)])]),
  (43, [(20, [1, 74, 75, 76], [], [(1, none, 2), (74, none, 10)])]),
  (44, [(2, [0, 1, 6], [], [(0, none, 2)])]),
  (46, [(27, [1, 2, 13, 14], [], [(1, none, 2), (13, none, 2)]), (35, [1, 2, 17], [], [(1, none, 2)])]),
  (47, [(40, [1, 2, 3, 4, 23, 24], [], [(1, none, 2), (2, none, 2), (23, none, 2)]), (23, [13, 14, 15], [], [(13, none, 2), (14, none, 2)])]),
  (48, [(14, [1, 2, 7], [], [(1, none, 2)])]),
  (49, [(4, [0, 3, 4, 5], [], [])]),
  (57, [(2, [0, 1, 5], [], [(0, none, 1)])]),
  (59, [(2, [0, 10, 11, 12], [], [(0, none, 2), (10, none, 1)])]),
  (62, [(2, [3, 4, 5, 9, 10, 11], [], [(4, none, 2), (5, none, 2), (9, none, 2)])]),
  (67, [(3, [1, 6, 11, 12, 13], [], [(6, none, 2), (11, none, 2)])]),
  (69, [(3, [1, 3, 8, 23, 24, 25], [], [(1, none, 2), (8, none, 1), (23, none, 10)]), (12, [1, 3, 8, 14], [], [(1, none, 2), (8, none, 1)])]),
  (78, [(7, [1, 8, 13], [], [(1, none, 2), (8, none, 2)])]),
  (80, [(3, [1, 3, 4, 10, 11], [], [(1, none, 2), (10, none, 1)]), (10, [1, 3, 4, 10, 14], [], [(1, none, 2), (10, none, 1)])]),
  (83, [(4, [1, 3], [], [])]),
  (84, [(2, [0, 1, 2, 11, 12, 13], [], [(2, none, 2), (11, none, 2)])]),
  (86, [(3, [3, 9, 10, 11], [], [(3, none, 2), (9, none, 2)])]),
  (88, [(3, [3, 9, 10, 11], [], [(3, none, 2), (9, none, 2)])]),
  (91, [(3, [0, 3, 9, 10, 11], [], [(0, none, 1), (9, none, 1)]), (11, [6, 25, 26, 27], [], [(6, none, 2), (25, none, 1)])]),
  (98, [(1, [0, 1, 2, 6], [], [(1, none, 2)])]),
  (103, [(3, [0, 1, 2, 8, 9, 10], [], [(0, none, 2)])]),
  (106, [(4, [1, 2, 15, 16, 17], [], [(1, none, 2), (15, none, 2)])]),
  (110, [(2, [0, 1, 2, 6, 7, 8], [], [(0, none, 2)]), (7, [0, 1, 2, 6], [], [(0, none, 2)]), (9, [0, 1, 2, 6, 7, 8], [], [(0, none, 2)])]),
  (116, [(2, [0, 1, 7, 8], [], [(0, none, 1)])]),
  (119, [(2, [0, 1, 7, 8], [], [(0, none, 1)])]),
  (120, [(1, [0, 1, 2, 3, 8], [], [(0, none, 2)]), (4, [0, 1, 2, 3, 8, 9], [], [(0, none, 2)])]),
  (121, [(3, [0, 1, 4, 10, 11], [], [(0, none, 2)]), (9, [0, 10, 13], [], [(0, none, 2)]), (15, [0, 2, 4, 14, 15], [], [(0, none, 2)]), (21, [0, 14, 17], [], [(0, none, 2)]), (33, [0, 1, 2, 3, 4, 18, 19, 20, 21, 22], [], [(0, none, 2)])]),
  (123, [(2, [0, 1, 7, 8], [], [(0, none, 2)])]),
  (127, [(2, [0, 2, 4, 10, 11], [], [(0, none, 2)])]),
  (130, [(4, [0, 3], [], [(0, none, 1)]), (9, [0, 3, 4, 5], [], [(0, none, 1), (4, none, 1)])]),
  (132, [(1, [0, 1, 2, 3, 10], [], [(0, none, 2)])]),
  (133, [(2, [0, 1, 2, 3, 8, 9], [], [(0, none, 1)])]),
  (135, [(1, [0, 2, 3], [], [(0, none, 2)])]),
  (136, [(1, [0, 1, 2, 6], [], [(0, none, 1)]), (4, [0, 1, 2, 6, 7], [], [(0, none, 1)])]),
  (137, [(4, [0, 6, 7, 8, 9], [], [(0, none, 1)]), (8, [0, 6, 7, 10], [], [(0, none, 1)])]),
  (138, [(5, [0, 1, 6, 7, 8, 9], [], [(0, none, 1)])]),
  (140, [(2, [0, 6, 7], [], [(0, none, 1)])]),
  (141, [(3, [0, 1, 2, 7, 8], [], [(0, none, 1)]), (5, [0, 1, 2, 7, 8], [], [(0, none, 1)]), (14, [0, 1, 2, 7, 8, 9], [], [(0, none, 1)]), (20, [0, 1, 2, 7, 8, 10], [], [(0, none, 1)])]),
  (143, [(3, [0, 1, 9, 10], [], [(0, none, 1)]), (5, [0, 1, 9, 10], [], [(0, none, 1)])]),
  (144, [(3, [0, 1, 10, 11], [], [(0, none, 1)]), (5, [0, 1, 10, 11], [], [(0, none, 1)]), (13, [0, 1, 10, 11], [], [(0, none, 1)]), (15, [0, 1, 10, 11], [], [(0, none, 1)])]),
  (147, [(1, [0, 2, 3, 8], [], [(0, none, 1)])])]
def preL : List (FuncId × List (Nat × List Nat)) := [(3, [(29, [58, 89])]), (4, [(8, [40])]), (16, [(5, [7, 43])]), (68, [(3, [6])]), (69, [(14, [1])])]
noncomputable def C : Cx where
  P := Tryz.prog
  modes f := (lkp f modesL).getD []
  ext f := lkp f extL
  bldT := bldTy
  loops f t := match lkp f loopsL with | some l => (lkp t l).getD ([], [], []) | none => ([], [], [])
  pre f t := match lkp f preL with | some l => (lkp t l).getD [] | none => []

theorem extOK : ∀ f g ag rs fs, C.ext f = some g → g ag = some (rs, fs) → Contract C.P (C.modes f) f ag rs fs := by
  intro f g ag rs fs h hg
  have hm := lkp_mem (show lkp f extL = some g from h)
  simp only [extL, List.mem_cons, List.not_mem_nil, or_false, Prod.mk.injEq] at hm
  rcases hm with ⟨rfl, rfl⟩ | ⟨rfl, rfl⟩ | ⟨rfl, rfl⟩ | ⟨rfl, rfl⟩ | ⟨rfl, rfl⟩ | ⟨rfl, rfl⟩ | ⟨rfl, rfl⟩ | ⟨rfl, rfl⟩
  · exact c_clone90 _ _ _ _ hg
  · exact c_compare105 _ _ _ _ hg
  · exact c_grow109 _ _ _ _ hg
  · exact c_insert (C.modes 114) (fun e => absurd ((show (C.modes 114).headD .borrow = .move from by kernel_rfl).symm.trans e) (fun h => by cases h)) _ _ _ hg
  · exact c_delete (C.modes 115) (fun e => absurd ((show (C.modes 115).headD .borrow = .move from by kernel_rfl).symm.trans e) (fun h => by cases h)) _ _ _ hg
  · exact c_clone128 _ _ _ _ hg
  · exact c_sort129 _ (by kernel_rfl) _ _ _ hg
  · exact c_compact130 (C.modes 130) (fun e => absurd ((show (C.modes 130).headD .borrow = .move from by kernel_rfl).symm.trans e) (fun h => by cases h)) _ _ _ hg

theorem progOKp : progOK C.P = true := by kernel_rfl
theorem mixedOKp : C.P.follows .mixedOrders = true := by kernel_rfl
/-- What the machine says of a call here, the model does. -/
theorem sound {k : Nat} {f : FuncId} {ag rs fs : List TV} (h : callN C k f ag = some (rs, fs)) : Contract C.P (C.modes f) f ag rs fs := callN_ok extOK progOKp mixedOKp k f ag rs fs h

end Go.Proofs.YtbnjbianobdleaaGreat.Vm
