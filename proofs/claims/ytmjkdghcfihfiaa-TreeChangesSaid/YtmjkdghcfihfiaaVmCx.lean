/-
  What the machine is told of this program: library functions by contract, how parameters are handed over, which slots live on at loops.
-/
import Derived.Test.YtmjkdghcfihfiaaVmGrow
import Derived.Test.YtmjkdghcfihfiaaVmPlain
import Derived.Test.YtmjkdghcfihfiaaVmBldS
import Derived.Test.YtmjkdghcfihfiaaVmShelf
import Derived.Test.YtmjkdghcfihfiaaVmOwn
import Derived.Test.YtmjkdghcfihfiaaVmInsW
import Derived.Test.YtmjkdghcfihfiaaVmDelW
import Derived.Lib.Bytealg
import Derived.Lib.Walk
import Derived.Lib.SliceRun
import Derived.Lib.AppendZerosOnto
namespace Go.Proofs.Ytmjkdghcfihfiaa.Vm
open Go Go.RowKit Go.Lib
set_option linter.unusedVariables false
set_option maxRecDepth 100000

theorem run_sliceNil {P : Program} {t e : TypeId} (ht : P.underlying t = some (.slice e)) (A : Option Addr) (n cap : Nat) (w : World) : (binOp .eql t (.slice A n cap) (.slice none 0 0)).run P w = .ok (.bool A.isNone) w := by
  have h : ∀ d : Nat, (Op.equalIn (d + 1) t (.slice A n cap) (.slice none 0 0)).run P w = .ok A.isNone w := fun d => by
    simp [Op.equalIn, run_underlying ht]
    try (cases A <;> rfl)
  simp only [binOp]
  simp [Op.equal, Op.maxDepth, h 9999]

theorem c_join43 (ms : List Mode) (ag rs fs : List TV) (h : xJoin ag = some (rs, fs)) : Contract Try.prog ms 43 ag rs fs := c_join (enters Try.func43 (by kernel_rfl) rfl) (fun a c sep w => Try.strings_Join_none a c sep w) (fun bk o c xs sep w h1 h2 h3 h4 h5 => Try.strings_Join bk o c xs sep w h1 h2 h3 h4 h5) ms ag rs fs h

theorem sizeE65 : sizeT Try.prog 26 = 2 := by kernel_rfl
set_option maxHeartbeats 400000 in
theorem c_clone65 (ms : List Mode) (ag rs fs : List TV) (h : xClone Try.prog 26 ag = some (rs, fs)) : Contract Try.prog ms 65 ag rs fs := by
  unfold xClone at h
  split at h
  · rename_i es
    split at h
    · rename_i hc
      obtain ⟨hroom, h63, hrow⟩ := hc
      simp only [Option.some.injEq, Prod.mk.injEq] at h; obtain ⟨rfl, rfl⟩ := h
      refine contract_fresh (xs := [.sl es]) ?_
      intro w M0 cs hx hold
      simp only [RepA] at hx
      obtain ⟨c, r, rfl, hrep, rfl⟩ := hx
      unfold Invokes
      rw [enters Try.func65 (by kernel_rfl) rfl]
      have hs : 0 < sizeT Try.prog 26 := by rw [sizeE65]; decide
      obtain ⟨v, W', hrun, hF⟩ := clone_app (P := Try.prog) hold (t := 24) (e := 26) Try.underlying24 (by kernel_rfl) hrep hs hrow hroom h63
      obtain ⟨A, cap, news, rfl, hnil, _⟩ := slice_cells hrep hs hrow
      have hrun' := Lib.hid hrun
      have hF' := Lib.hid hF
      clear hrun hF
      cases A with
      | none =>
        have := hnil rfl
        subst this
        have hb := run_sliceNil Try.underlying24 none 0 cap
        clear hrep hrow hroom h63 hrun' hF' hnil
        simp only
        go_enter Try.func65, Try.ntmps65
        go_wp2
        go_ret
        exact ⟨_, rfl, fresh_nil hs⟩
      | some a =>
        have hb := run_sliceNil Try.underlying24 (some a) es.length cap
        clear hrep hrow hroom h63 hnil
        simp only
        go_enter Try.func65, Try.ntmps65
        go_wp2_with (at_builtin; refine wpList_app rfl _ _ _ _ rfl hrun'.out ?_)
        go_ret
        exact ⟨_, rfl, hF'.out⟩
    · exact absurd h (by simp)
  · exact absurd h (by simp)

theorem c_sort67 (ms : List Mode) (hms : ms.headD .borrow = .mut) (ag rs fs : List TV) (h : xSort ag = some (rs, fs)) : Contract Try.prog ms 67 ag rs fs := c_sort (enters Try.func67 (by kernel_rfl) rfl) (fun b o c ss w h1 h2 h3 => Try.slices_Sort_string b o c ss w h1 h2 h3) (fun p c w => Try.slices_Sort_string_none p c w) ms hms ag rs fs h

theorem sizeE68 : sizeT Try.prog 9 = 1 := by kernel_rfl
set_option maxHeartbeats 400000 in
theorem c_clone68 (ms : List Mode) (ag rs fs : List TV) (h : xClone Try.prog 9 ag = some (rs, fs)) : Contract Try.prog ms 68 ag rs fs := by
  unfold xClone at h
  split at h
  · rename_i es
    split at h
    · rename_i hc
      obtain ⟨hroom, h63, hrow⟩ := hc
      simp only [Option.some.injEq, Prod.mk.injEq] at h; obtain ⟨rfl, rfl⟩ := h
      refine contract_fresh (xs := [.sl es]) ?_
      intro w M0 cs hx hold
      simp only [RepA] at hx
      obtain ⟨c, r, rfl, hrep, rfl⟩ := hx
      unfold Invokes
      rw [enters Try.func68 (by kernel_rfl) rfl]
      have hs : 0 < sizeT Try.prog 9 := by rw [sizeE68]; decide
      obtain ⟨v, W', hrun, hF⟩ := clone_app (P := Try.prog) hold (t := 28) (e := 9) Try.underlying28 (by kernel_rfl) hrep hs hrow hroom h63
      obtain ⟨A, cap, news, rfl, hnil, _⟩ := slice_cells hrep hs hrow
      have hrun' := Lib.hid hrun
      have hF' := Lib.hid hF
      clear hrun hF
      cases A with
      | none =>
        have := hnil rfl
        subst this
        have hb := run_sliceNil Try.underlying28 none 0 cap
        clear hrep hrow hroom h63 hrun' hF' hnil
        simp only
        go_enter Try.func68, Try.ntmps68
        go_wp2
        go_ret
        exact ⟨_, rfl, fresh_nil hs⟩
      | some a =>
        have hb := run_sliceNil Try.underlying28 (some a) es.length cap
        clear hrep hrow hroom h63 hnil
        simp only
        go_enter Try.func68, Try.ntmps68
        go_wp2_with (at_builtin; refine wpList_app rfl _ _ _ _ rfl hrun'.out ?_)
        go_ret
        exact ⟨_, rfl, hF'.out⟩
    · exact absurd h (by simp)
  · exact absurd h (by simp)

theorem c_compact69 (ms : List Mode) (hms : ms.headD .borrow ≠ .mut) (ag rs fs : List TV) (h : xCompact ag = some (rs, fs)) : Contract Try.prog ms 69 ag rs fs := c_compact (enters Try.func69 (by kernel_rfl) rfl) (fun b o c ss w h1 h2 h3 => Try.slices_Compact_string b o c ss w h1 h2 h3) (fun p c w => Try.slices_Compact_string_empty p c w) ms hms ag rs fs h

theorem c_compare87 (ms : List Mode) (ag rs fs : List TV) (h : xCompare ag = some (rs, fs)) : Contract Try.prog ms 87 ag rs fs := c_compare (enters Try.func87 (by kernel_rfl) rfl) (fun a b w => Try.strings_Compare a b w) ms ag rs fs h

noncomputable def extL : List (FuncId × (List TV → Option (List TV × List TV))) := [(43, xJoin), (64, xInsert), (65, (xClone Try.prog 26)), (66, xDelete), (67, xSort), (68, (xClone Try.prog 9)), (69, xCompact), (72, xWriteString), (73, xWriteByte), (74, xString), (87, xCompare)]
def modesL : List (FuncId × List Mode) := [(56, [.move]), (57, [.move]), (64, [.move]), (66, [.move]), (67, [.mut]), (69, [.move])]
def loopsL : List (FuncId × List (Nat × List Nat × List Nat × List (Nat × Option Nat × Nat))) := [(4, [(8, [0, 1, 2, 3, 9, 10], [], [(0, none, 2), (9, none, 2)]), (13, [0, 2, 9, 11, 12], [], [(0, none, 2), (9, none, 2), (11, none, 2)]), (18, [13, 14], [], [(13, none, 1)])]),
  (6, [(15, [1, 5, 6, 9], [], [(5, none, 2)]), (10, [1, 5, 6, 7, 8], [], [(5, none, 2)])]),
  (7, [(12, [0, 1, 2, 3, 4, 12, 15, 16], [12], [(0, none, 2), (1, none, 1), (2, none, 1), (4, none, 1), (12, none, 1), (15, none, 1)]), (19, [17, 18], [], [(17, none, 1)])]),
  (10, [(8, [5, 6, 7, 8], [], [(5, none, 2), (6, none, 2), (7, none, 1)]), (18, [5, 6, 7, 13, 14], [], [(5, none, 2), (6, none, 2), (7, none, 1), (13, none, 1)])]),
  (11, [(16, [0, 7, 8, 15, 16, 17], [], [(0, none, 2), (7, none, 2), (8, none, 2), (15, none, 1), (16, none, 1)])]),
  (14, [(3, [3, 6, 7, 8], [], [(3, none, 1), (6, none, 2)])]),
  (15, [(3, [3, 10, 11, 12], [3], [(3, none, 1), (10, none, 2)])]),
  (17, [(3, [0, 3, 4], [], [(0, none, 2), (3, none, 2)])]),
  (18, [(3, [0, 1, 2, 7, 8], [], [(0, none, 2), (7, none, 2)])]),
  (21, [(4, [0, 1, 5], [], [(0, none, 2), (1, none, 2)])]),
  (24, [(3, [0, 3, 4], [], [(0, none, 2), (3, none, 1)])]),
  (25, [(3, [0, 3, 4], [], [(0, none, 2)])]),
  (27, [(3, [0, 1, 5, 6], [], [(0, none, 2), (1, none, 1), (5, none, 1)])]),
  (30, [(1, [0, 2], [], [(0, none, 2)])]),
  (31, [(2, [0, 10, 11, 12], [], [(0, none, 2), (10, none, 1)])]),
  (32, [(3, [3, 8, 9, 10], [], [(3, none, 1), (8, none, 1)]), (6, [3, 8, 9, 10, 14, 15, 16], [], [(3, none, 1), (8, none, 1), (14, none, 2)])]),
  (34, [(2, [0, 1, 6], [], [(0, none, 2), (1, none, 1)])]),
  (37, [(3, [3, 8, 9, 10], [], [(8, none, 2)])]),
  (38, [(3, [0, 3, 4], [], [(0, none, 2)])]),
  (39, [(3, [3, 6, 7, 8], [], [(6, none, 2)])]),
  (40, [(3, [0, 3, 4], [], [(0, none, 2)])]),
  (41, [(3, [0, 3, 4], [], [(0, none, 1), (3, none, 2)]), (6, [0, 3, 4, 5], [], [(0, none, 1), (3, none, 2)]), (11, [3, 6, 7], [], [(3, none, 2), (6, none, 1)])]),
  (42, [(3, [0, 3, 7, 8], [], [])]),
  (43, [(12, [0, 1, 5, 39, 40, 41], [], [(0, none, 1), (39, none, 1)]), (22, [1, 8, 63, 64, 65], [], [(63, none, 1)])]),
  (46, [(3, [0, 1, 5, 6], [], [(0, none, 2)])]),
  (48, [(2, [0, 1, 2, 11, 12, 13], [], [(2, none, 2), (11, none, 2)])]),
  (49, [(1, [0, 1, 2, 6], [], [(1, none, 2)])]),
  (50, [(4, [1, 2, 15, 16, 17], [], [(1, none, 2), (15, none, 2)])]),
  (53, [(4, [0, 1, 5, 20, 21], [], [(5, none, 2)])]),
  (58, [(4, [0, 3, 4, 5], [], [])]),
  (60, [(5, [0, 1, 5, 6, 7], [], [(6, none, 2)])]),
  (62, [(3, [3, 9, 10, 11], [], [(3, none, 2), (9, none, 2)])]),
  (69, [(4, [0, 3], [], [(0, none, 1)]), (9, [0, 3, 4, 5], [], [(0, none, 1), (4, none, 1)])]),
  (70, [(2, [0, 1, 6], [], [(0, none, 2)])]),
  (77, [(3, [0, 5, 10, 11], [], [(5, none, 1)])]),
  (85, [(3, [0, 1, 2, 8, 9, 10], [], [(0, none, 2)])]),
  (90, [(2, [0, 1, 2, 3, 8, 9], [], [(0, none, 1)])]),
  (95, [(3, [5, 10, 11, 12], [], [(10, none, 1)])]),
  (101, [(1, [0, 1, 2, 6], [], [(0, none, 1)]), (4, [0, 1, 2, 6, 7], [], [(0, none, 1)])]),
  (102, [(4, [0, 6, 7, 8, 9], [], [(0, none, 1)]), (8, [0, 6, 7, 10], [], [(0, none, 1)])]),
  (103, [(5, [0, 1, 6, 7, 8, 9], [], [(0, none, 1)])]),
  (105, [(2, [0, 6, 7], [], [(0, none, 1)])]),
  (106, [(3, [0, 1, 2, 7, 8], [], [(0, none, 1)]), (5, [0, 1, 2, 7, 8], [], [(0, none, 1)]), (14, [0, 1, 2, 7, 8, 9], [], [(0, none, 1)]), (20, [0, 1, 2, 7, 8, 10], [], [(0, none, 1)])]),
  (108, [(3, [0, 1, 9, 10], [], [(0, none, 1)]), (5, [0, 1, 9, 10], [], [(0, none, 1)])]),
  (109, [(3, [0, 1, 10, 11], [], [(0, none, 1)]), (5, [0, 1, 10, 11], [], [(0, none, 1)]), (13, [0, 1, 10, 11], [], [(0, none, 1)]), (15, [0, 1, 10, 11], [], [(0, none, 1)])]),
  (116, [(1, [0, 2, 3], [], [(0, none, 2)])]),
  (117, [(1, [0, 2, 3, 8], [], [(0, none, 1)])])]
def preL : List (FuncId × List (Nat × List Nat)) := [(9, [(6, [9, 10]), (7, [11, 12]), (8, [13]), (20, [21])]), (11, [(6, [7, 8]), (7, [9]), (10, [11])]), (18, [(5, [7, 46])]), (35, [(4, [29])]), (36, [(8, [36])]), (41, [(8, [3])])]
noncomputable def C : Cx where
  P := Try.prog
  modes f := (lkp f modesL).getD []
  ext f := lkp f extL
  bldT := bldTy
  loops f t := match lkp f loopsL with | some l => (lkp t l).getD ([], [], []) | none => ([], [], [])
  pre f t := match lkp f preL with | some l => (lkp t l).getD [] | none => []

theorem extOK : ∀ f g ag rs fs, C.ext f = some g → g ag = some (rs, fs) → Contract C.P (C.modes f) f ag rs fs := by
  intro f g ag rs fs h hg
  have hm := lkp_mem (show lkp f extL = some g from h)
  simp only [extL, List.mem_cons, List.not_mem_nil, or_false, Prod.mk.injEq] at hm
  rcases hm with ⟨rfl, rfl⟩ | ⟨rfl, rfl⟩ | ⟨rfl, rfl⟩ | ⟨rfl, rfl⟩ | ⟨rfl, rfl⟩ | ⟨rfl, rfl⟩ | ⟨rfl, rfl⟩ | ⟨rfl, rfl⟩ | ⟨rfl, rfl⟩ | ⟨rfl, rfl⟩ | ⟨rfl, rfl⟩
  · exact c_join43 _ _ _ _ hg
  · exact c_insert (C.modes 64) (fun e => absurd ((show (C.modes 64).headD .borrow = .move from by kernel_rfl).symm.trans e) (fun h => by cases h)) _ _ _ hg
  · exact c_clone65 _ _ _ _ hg
  · exact c_delete (C.modes 66) (fun e => absurd ((show (C.modes 66).headD .borrow = .move from by kernel_rfl).symm.trans e) (fun h => by cases h)) _ _ _ hg
  · exact c_sort67 _ (by kernel_rfl) _ _ _ hg
  · exact c_clone68 _ _ _ _ hg
  · exact c_compact69 (C.modes 69) (fun e => absurd ((show (C.modes 69).headD .borrow = .move from by kernel_rfl).symm.trans e) (fun h => by cases h)) _ _ _ hg
  · exact c_writeString _ _ _ _ hg
  · exact c_writeByte _ _ _ _ hg
  · exact c_string _ _ _ _ hg
  · exact c_compare87 _ _ _ _ hg

theorem progOKp : progOK C.P = true := by kernel_rfl
theorem mixedOKp : C.P.follows .mixedOrders = true := by kernel_rfl
/-- What the machine says of a call here, the model does. -/
theorem sound {k : Nat} {f : FuncId} {ag rs fs : List TV} (h : callN C k f ag = some (rs, fs)) : Contract C.P (C.modes f) f ag rs fs := callN_ok extOK progOKp mixedOKp k f ag rs fs h

end Go.Proofs.Ytmjkdghcfihfiaa.Vm
