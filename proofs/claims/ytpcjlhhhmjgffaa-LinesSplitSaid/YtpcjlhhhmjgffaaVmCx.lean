/-
  What the machine is told of this program: library functions by contract, how parameters are handed over, which slots live on at loops.
-/
import Derived.Test.YtpcjlhhhmjgffaaVmLib
import Derived.Lib.Bytealg
namespace Go.Proofs.Ytpcjlhhhmjgffaa.Vm
open Go Go.RowKit
set_option linter.unusedVariables false

theorem run_sliceNil {P : Program} {t e : TypeId} (ht : P.underlying t = some (.slice e)) (A : Option Addr) (n cap : Nat) (w : World) : (binOp .eql t (.slice A n cap) (.slice none 0 0)).run P w = .ok (.bool A.isNone) w := by
  have h : ∀ d : Nat, (Op.equalIn (d + 1) t (.slice A n cap) (.slice none 0 0)).run P w = .ok A.isNone w := fun d => by
    simp [Op.equalIn, run_underlying ht]
    try (cases A <;> rfl)
  simp only [binOp]
  simp [Op.equal, Op.maxDepth, h 9999]

theorem sizeE36 : sizeT Try.prog 33 = 2 := by kernel_rfl
set_option maxHeartbeats 400000 in
theorem c_clone36 (ms : List Mode) (ag rs fs : List TV) (h : xClone Try.prog 33 ag = some (rs, fs)) : Contract Try.prog ms 36 ag rs fs := by
  unfold xClone at h
  split at h
  · rename_i es
    split at h
    · rename_i hc
      obtain ⟨hroom, h63, hrow⟩ := hc
      simp only [Option.some.injEq, Prod.mk.injEq] at h; obtain ⟨rfl, rfl⟩ := h
      refine contract_fresh (xs := [.sl es]) ?_
      intro w M0 cs hx hold
      simp only [RepA] at hx
      obtain ⟨c, r, rfl, hrep, rfl⟩ := hx
      unfold Invokes
      rw [enters Try.func36 (by kernel_rfl) rfl]
      have hs : 0 < sizeT Try.prog 33 := by rw [sizeE36]; decide
      obtain ⟨v, W', hrun, hF⟩ := clone_app (P := Try.prog) hold (t := 25) (e := 33) Try.underlying25 (by kernel_rfl) hrep hs hrow hroom h63
      obtain ⟨A, cap, news, rfl, hnil, _⟩ := slice_cells hrep hs hrow
      have hrun' := Lib.hid hrun
      have hF' := Lib.hid hF
      clear hrun hF
      cases A with
      | none =>
        have := hnil rfl
        subst this
        have hb := run_sliceNil Try.underlying25 none 0 cap
        clear hrep hrow hroom h63 hrun' hF' hnil
        simp only
        go_enter Try.func36, Try.ntmps36
        go_wp2
        go_ret
        exact ⟨_, rfl, fresh_nil hs⟩
      | some a =>
        have hb := run_sliceNil Try.underlying25 (some a) es.length cap
        clear hrep hrow hroom h63 hnil
        simp only
        go_enter Try.func36, Try.ntmps36
        go_wp2_with (at_builtin; refine wpList_app rfl _ _ _ _ rfl hrun'.out ?_)
        go_ret
        exact ⟨_, rfl, hF'.out⟩
    · exact absurd h (by simp)
  · exact absurd h (by simp)

def xIndexByte : List TV → Option (List TV × List TV)
  | [.pv (.str s), .pv (.int .u8 n)] => some ([.pv (.int .i64 (Lib.indexByte s n.toNat.toUInt8))], [])
  | _ => none
theorem c_indexByte (ms : List Mode) (ag rs fs : List TV) (h : xIndexByte ag = some (rs, fs)) : Contract Try.prog ms 57 ag rs fs := by
  unfold xIndexByte at h
  split at h
  · rename_i s n
    simp only [Option.some.injEq, Prod.mk.injEq] at h; obtain ⟨rfl, rfl⟩ := h
    refine contract_value (xs := [.str s, .int .u8 n]) (rs := [.int .i64 (Lib.indexByte s n.toNat.toUInt8)]) ?_
    intro w M0 cs hx
    simp only [RepA, Rep] at hx
    obtain ⟨c, r, rfl, rfl, d, r, rfl, rfl, rfl⟩ := hx
    refine ⟨[.int .i64 (Lib.indexByte s n.toNat.toUInt8)], ?_, fun M' => by simp [RepA, Rep]⟩
    rw [run_callFunc_extern Try.func57 (by kernel_rfl) (by kernel_rfl) (by kernel_rfl) (e := Extern.BytealgIndexByte.indexByte) (by kernel_rfl)]
    show (((Extern.BytealgIndexByte.indexByte #[.string ⟨s.toArray⟩, .int .u8 n]).run _ w).andThen _) = _
    rw [Lib.run_indexByteString]
    rfl
  · exact absurd h (by simp)

noncomputable def extL : List (FuncId × (List TV → Option (List TV × List TV))) := [(36, (xClone Try.prog 33)), (38, xWriteString), (39, xString), (57, xIndexByte), (64, xWriteByte)]
def modesL : List (FuncId × List Mode) := []
def loopsL : List (FuncId × List (Nat × List Nat × List Nat × List (Nat × Option Nat × Nat))) := [(4, [(7, [5, 6], [], [(5, none, 1)])]),
  (7, [(4, [0, 1, 2, 7], [], [(0, none, 1)]), (14, [8, 9, 10, 11], [], [(8, none, 2), (10, none, 2)])]),
  (9, [(7, [0, 1, 5, 6], [], [(0, none, 1), (1, none, 1), (5, none, 2)]), (18, [5, 8, 9, 10], [], [(5, none, 2)])]),
  (11, [(12, [15, 16], [], [(15, none, 1)])]),
  (12, [(5, [0, 1, 5], [], [])]),
  (14, [(3, [0, 3, 4], [], [(0, none, 1)])]),
  (15, [(100000, [0, 3], [], [(3, none, 2)])]),
  (16, [(4, [0, 1, 5], [], [(0, none, 2), (1, none, 2)])]),
  (17, [(3, [3, 6, 7, 8], [], [(6, none, 2)])]),
  (18, [(4, [0, 3, 4, 5], [], [(3, none, 2)])]),
  (22, [(4, [0, 1, 7, 8, 15, 16, 17], [], [(0, none, 2), (8, none, 2), (15, none, 1)]), (10, [7, 11, 36, 37], [], [(11, none, 2)])]),
  (24, [(2, [0, 3], [], [(0, none, 1)])]),
  (25, [(5, [0, 3, 4], [], [(0, none, 1)])]),
  (26, [(5, [3, 12, 13, 14], [], [(3, none, 1), (12, none, 1)])]),
  (27, [(4, [0, 1, 5], [], [(0, none, 1), (1, none, 1)])]),
  (28, [(4, [0, 3, 4, 5], [], [])]),
  (30, [(3, [3, 6, 7, 8], [], [(3, none, 1), (6, none, 2)])]),
  (31, [(3, [0, 3, 4], [], [(0, none, 2)])]),
  (32, [(7, [0, 4, 5], [], [(4, none, 1)])]),
  (34, [(7, [0, 4, 5], [], [(4, none, 1)])]),
  (42, [(3, [0, 5, 8, 9, 10], [], [(8, none, 1)])]),
  (45, [(3, [0, 4, 5], [], [(4, none, 1)])]),
  (46, [(2, [0, 1, 7], [], [(7, none, 1)])]),
  (50, [(3, [0, 3, 9, 10, 11], [], [(0, none, 1), (9, none, 1)]), (11, [6, 25, 26, 27], [], [(6, none, 2), (25, none, 1)])]),
  (51, [(3, [3, 6, 7, 8], [], [(3, none, 1), (6, none, 2)])]),
  (60, [(3, [0, 3, 7, 8], [], [])]),
  (61, [(12, [0, 1, 5, 39, 40, 41], [], [(0, none, 1), (39, none, 1)]), (22, [1, 8, 63, 64, 65], [], [(63, none, 1)])])]
noncomputable def C : Cx where
  P := Try.prog
  modes f := (lkp f modesL).getD []
  ext f := lkp f extL
  bldT := bldTy
  loops f t := match lkp f loopsL with | some l => (lkp t l).getD ([], [], []) | none => ([], [], [])
  pre _ _ := []

theorem extOK : ∀ f g ag rs fs, C.ext f = some g → g ag = some (rs, fs) → Contract C.P (C.modes f) f ag rs fs := by
  intro f g ag rs fs h hg
  have hm := lkp_mem (show lkp f extL = some g from h)
  simp only [extL, List.mem_cons, List.not_mem_nil, or_false, Prod.mk.injEq] at hm
  rcases hm with ⟨rfl, rfl⟩ | ⟨rfl, rfl⟩ | ⟨rfl, rfl⟩ | ⟨rfl, rfl⟩ | ⟨rfl, rfl⟩
  · exact c_clone36 _ _ _ _ hg
  · exact c_writeString _ _ _ _ hg
  · exact c_string _ _ _ _ hg
  · exact c_indexByte _ _ _ _ hg
  · exact c_writeByte _ _ _ _ hg

theorem progOKp : progOK C.P = true := by kernel_rfl
theorem mixedOKp : C.P.follows .mixedOrders = true := by kernel_rfl
/-- What the machine says of a call here, the model does. -/
theorem sound {k : Nat} {f : FuncId} {ag rs fs : List TV} (h : callN C k f ag = some (rs, fs)) : Contract C.P (C.modes f) f ag rs fs := callN_ok extOK progOKp mixedOKp k f ag rs fs h

end Go.Proofs.Ytpcjlhhhmjgffaa.Vm
