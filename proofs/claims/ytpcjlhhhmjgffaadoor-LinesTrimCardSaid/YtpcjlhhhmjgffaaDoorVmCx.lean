/-
  What the machine is told of this program: library functions by contract, how parameters are handed over, which slots live on at loops.
-/
import Derived.Test.YtpcjlhhhmjgffaaDoorVmGrow
import Derived.Test.YtpcjlhhhmjgffaaDoorVmPlain
import Derived.Test.YtpcjlhhhmjgffaaDoorVmShelf
import Derived.Test.YtpcjlhhhmjgffaaDoorVmTrim
import Derived.Lib.Bytealg
import Derived.Lib.Walk
import Derived.Lib.SliceRun
import Derived.Lib.AppendZerosOnto
namespace Go.Proofs.YtpcjlhhhmjgffaaDoor.Vm
open Go Go.RowKit Go.Lib
set_option linter.unusedVariables false
set_option maxRecDepth 100000

theorem run_sliceNil {P : Program} {t e : TypeId} (ht : P.underlying t = some (.slice e)) (A : Option Addr) (n cap : Nat) (w : World) : (binOp .eql t (.slice A n cap) (.slice none 0 0)).run P w = .ok (.bool A.isNone) w := by
  have h : ∀ d : Nat, (Op.equalIn (d + 1) t (.slice A n cap) (.slice none 0 0)).run P w = .ok A.isNone w := fun d => by
    simp [Op.equalIn, run_underlying ht]
    try (cases A <;> rfl)
  simp only [binOp]
  simp [Op.equal, Op.maxDepth, h 9999]

theorem c_TrimLeft10 (ms : List Mode) (ag rs fs : List TV) (h : xTrimLeft ag = some (rs, fs)) : Contract Tryd.prog ms 10 ag rs fs := c_trimLeft (enters Tryd.func10 (by kernel_rfl) rfl) (fun s c w h1 h2 => Tryd.strings_TrimLeft s c w h1 h2) ms ag rs fs h

theorem c_TrimRight11 (ms : List Mode) (ag rs fs : List TV) (h : xTrimRight ag = some (rs, fs)) : Contract Tryd.prog ms 11 ag rs fs := c_trimRight (enters Tryd.func11 (by kernel_rfl) rfl) (fun s c w h0 h1 h2 => Tryd.strings_TrimRight s c w h0 h1 h2) ms ag rs fs h

theorem sizeE14 : sizeT Tryd.prog 32 = 2 := by kernel_rfl
set_option maxHeartbeats 400000 in
theorem c_clone14 (ms : List Mode) (ag rs fs : List TV) (h : xClone Tryd.prog 32 ag = some (rs, fs)) : Contract Tryd.prog ms 14 ag rs fs := by
  unfold xClone at h
  split at h
  · rename_i es
    split at h
    · rename_i hc
      obtain ⟨hroom, h63, hrow⟩ := hc
      simp only [Option.some.injEq, Prod.mk.injEq] at h; obtain ⟨rfl, rfl⟩ := h
      refine contract_fresh (xs := [.sl es]) ?_
      intro w M0 cs hx hold
      simp only [RepA] at hx
      obtain ⟨c, r, rfl, hrep, rfl⟩ := hx
      unfold Invokes
      rw [enters Tryd.func14 (by kernel_rfl) rfl]
      have hs : 0 < sizeT Tryd.prog 32 := by rw [sizeE14]; decide
      obtain ⟨v, W', hrun, hF⟩ := clone_app (P := Tryd.prog) hold (t := 29) (e := 32) Tryd.underlying29 (by kernel_rfl) hrep hs hrow hroom h63
      obtain ⟨A, cap, news, rfl, hnil, _⟩ := slice_cells hrep hs hrow
      have hrun' := Lib.hid hrun
      have hF' := Lib.hid hF
      clear hrun hF
      cases A with
      | none =>
        have := hnil rfl
        subst this
        have hb := run_sliceNil Tryd.underlying29 none 0 cap
        clear hrep hrow hroom h63 hrun' hF' hnil
        simp only
        go_enter Tryd.func14, Tryd.ntmps14
        go_wp2
        go_ret
        exact ⟨_, rfl, fresh_nil hs⟩
      | some a =>
        have hb := run_sliceNil Tryd.underlying29 (some a) es.length cap
        clear hrep hrow hroom h63 hnil
        simp only
        go_enter Tryd.func14, Tryd.ntmps14
        go_wp2_with (at_builtin; refine wpList_app rfl _ _ _ _ rfl hrun'.out ?_)
        go_ret
        exact ⟨_, rfl, hF'.out⟩
    · exact absurd h (by simp)
  · exact absurd h (by simp)

def xIndexByte : List TV → Option (List TV × List TV)
  | [.pv (.str s), .pv (.int .u8 n)] => some ([.pv (.int .i64 (Lib.indexByte s n.toNat.toUInt8))], [])
  | _ => none
theorem c_indexByte (ms : List Mode) (ag rs fs : List TV) (h : xIndexByte ag = some (rs, fs)) : Contract Tryd.prog ms 29 ag rs fs := by
  unfold xIndexByte at h
  split at h
  · rename_i s n
    simp only [Option.some.injEq, Prod.mk.injEq] at h; obtain ⟨rfl, rfl⟩ := h
    refine contract_value (xs := [.str s, .int .u8 n]) (rs := [.int .i64 (Lib.indexByte s n.toNat.toUInt8)]) ?_
    intro w M0 cs hx
    simp only [RepA, Rep] at hx
    obtain ⟨c, r, rfl, rfl, d, r, rfl, rfl, rfl⟩ := hx
    refine ⟨[.int .i64 (Lib.indexByte s n.toNat.toUInt8)], ?_, fun M' => by simp [RepA, Rep]⟩
    rw [run_callFunc_extern Tryd.func29 (by kernel_rfl) (by kernel_rfl) (by kernel_rfl) (e := Extern.BytealgIndexByte.indexByte) (by kernel_rfl)]
    show (((Extern.BytealgIndexByte.indexByte #[.string ⟨s.toArray⟩, .int .u8 n]).run _ w).andThen _) = _
    rw [Lib.run_indexByteString]
    rfl
  · exact absurd h (by simp)

noncomputable def extL : List (FuncId × (List TV → Option (List TV × List TV))) := [(10, xTrimLeft), (11, xTrimRight), (14, (xClone Tryd.prog 32)), (29, xIndexByte)]
def modesL : List (FuncId × List Mode) := []
def loopsL : List (FuncId × List (Nat × List Nat × List Nat × List (Nat × Option Nat × Nat))) := [(3, [(7, [5, 6], [], [(5, none, 1)])]),
  (5, [(3, [0, 3, 4], [], [(0, none, 1)])]),
  (7, [(2, [0, 5], [], []), (5, [0, 5, 6], [], [])]),
  (8, [(100000, [0, 3], [], [(3, none, 2)])]),
  (16, [(1, [0, 1], [], [])]),
  (17, [(2, [0, 2, 4], [], [])]),
  (18, [(1, [0, 1], [], [])]),
  (19, [(1, [0, 1], [], [])]),
  (20, [(1, [0, 1], [], [])]),
  (21, [(1, [0, 1], [], [])]),
  (22, [(1, [0, 1], [], [])]),
  (28, [(10, [0, 4, 5, 6], [], [])]),
  (31, [(5, [0, 1, 7, 8, 9, 10], [], []), (12, [0, 1, 7, 8, 9, 10, 12], [], []), (25, [0, 7, 8, 9, 14, 15], [], []), (29, [0, 7, 8, 9, 14, 15, 16], [], []), (38, [175], [], []), (100000, [0, 1, 7, 8, 9, 10], [], []), (100001, [0, 1, 7, 8, 9], [], []), (100002, [0, 7, 8, 9, 14, 15], [], [])])]
def preL : List (FuncId × List (Nat × List Nat)) := []
noncomputable def C : Cx where
  P := Tryd.prog
  modes f := (lkp f modesL).getD []
  ext f := lkp f extL
  bldT := bldTy
  loops f t := match lkp f loopsL with | some l => (lkp t l).getD ([], [], []) | none => ([], [], [])
  pre f t := match lkp f preL with | some l => (lkp t l).getD [] | none => []

theorem extOK : ∀ f g ag rs fs, C.ext f = some g → g ag = some (rs, fs) → Contract C.P (C.modes f) f ag rs fs := by
  intro f g ag rs fs h hg
  have hm := lkp_mem (show lkp f extL = some g from h)
  simp only [extL, List.mem_cons, List.not_mem_nil, or_false, Prod.mk.injEq] at hm
  rcases hm with ⟨rfl, rfl⟩ | ⟨rfl, rfl⟩ | ⟨rfl, rfl⟩ | ⟨rfl, rfl⟩
  · exact c_TrimLeft10 _ _ _ _ hg
  · exact c_TrimRight11 _ _ _ _ hg
  · exact c_clone14 _ _ _ _ hg
  · exact c_indexByte _ _ _ _ hg

theorem progOKp : progOK C.P = true := by kernel_rfl
theorem mixedOKp : C.P.follows .mixedOrders = true := by kernel_rfl
/-- What the machine says of a call here, the model does. -/
theorem sound {k : Nat} {f : FuncId} {ag rs fs : List TV} (h : callN C k f ag = some (rs, fs)) : Contract C.P (C.modes f) f ag rs fs := callN_ok extOK progOKp mixedOKp k f ag rs fs h

end Go.Proofs.YtpcjlhhhmjgffaaDoor.Vm
