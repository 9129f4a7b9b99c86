/-
  What the machine is told of this program: library functions by contract, how parameters are handed over, which slots live on at loops.
-/
import Derived.Test.YtpcjlhhhmjgffaaVmGrow
import Derived.Test.YtpcjlhhhmjgffaaVmPlain
import Derived.Test.YtpcjlhhhmjgffaaVmBldS
import Derived.Test.YtpcjlhhhmjgffaaVmShelf
import Derived.Lib.Bytealg
import Derived.Lib.Walk
import Derived.Lib.SliceRun
import Derived.Lib.AppendZerosOnto
namespace Go.Proofs.Ytpcjlhhhmjgffaa.Vm
open Go Go.RowKit Go.Lib
set_option linter.unusedVariables false
set_option maxRecDepth 100000

theorem run_sliceNil {P : Program} {t e : TypeId} (ht : P.underlying t = some (.slice e)) (A : Option Addr) (n cap : Nat) (w : World) : (binOp .eql t (.slice A n cap) (.slice none 0 0)).run P w = .ok (.bool A.isNone) w := by
  have h : ∀ d : Nat, (Op.equalIn (d + 1) t (.slice A n cap) (.slice none 0 0)).run P w = .ok A.isNone w := fun d => by
    simp [Op.equalIn, run_underlying ht]
    try (cases A <;> rfl)
  simp only [binOp]
  simp [Op.equal, Op.maxDepth, h 9999]

theorem sizeE36 : sizeT Try.prog 33 = 2 := by kernel_rfl
set_option maxHeartbeats 400000 in
theorem c_clone36 (ms : List Mode) (ag rs fs : List TV) (h : xClone Try.prog 33 ag = some (rs, fs)) : Contract Try.prog ms 36 ag rs fs := by
  unfold xClone at h
  split at h
  · rename_i es
    split at h
    · rename_i hc
      obtain ⟨hroom, h63, hrow⟩ := hc
      simp only [Option.some.injEq, Prod.mk.injEq] at h; obtain ⟨rfl, rfl⟩ := h
      refine contract_fresh (xs := [.sl es]) ?_
      intro w M0 cs hx hold
      simp only [RepA] at hx
      obtain ⟨c, r, rfl, hrep, rfl⟩ := hx
      unfold Invokes
      rw [enters Try.func36 (by kernel_rfl) rfl]
      have hs : 0 < sizeT Try.prog 33 := by rw [sizeE36]; decide
      obtain ⟨v, W', hrun, hF⟩ := clone_app (P := Try.prog) hold (t := 25) (e := 33) Try.underlying25 (by kernel_rfl) hrep hs hrow hroom h63
      obtain ⟨A, cap, news, rfl, hnil, _⟩ := slice_cells hrep hs hrow
      have hrun' := Lib.hid hrun
      have hF' := Lib.hid hF
      clear hrun hF
      cases A with
      | none =>
        have := hnil rfl
        subst this
        have hb := run_sliceNil Try.underlying25 none 0 cap
        clear hrep hrow hroom h63 hrun' hF' hnil
        simp only
        go_enter Try.func36, Try.ntmps36
        go_wp2
        go_ret
        exact ⟨_, rfl, fresh_nil hs⟩
      | some a =>
        have hb := run_sliceNil Try.underlying25 (some a) es.length cap
        clear hrep hrow hroom h63 hnil
        simp only
        go_enter Try.func36, Try.ntmps36
        go_wp2_with (at_builtin; refine wpList_app rfl _ _ _ _ rfl hrun'.out ?_)
        go_ret
        exact ⟨_, rfl, hF'.out⟩
    · exact absurd h (by simp)
  · exact absurd h (by simp)

def xIndexByte : List TV → Option (List TV × List TV)
  | [.pv (.str s), .pv (.int .u8 n)] => some ([.pv (.int .i64 (Lib.indexByte s n.toNat.toUInt8))], [])
  | _ => none
theorem c_indexByte (ms : List Mode) (ag rs fs : List TV) (h : xIndexByte ag = some (rs, fs)) : Contract Try.prog ms 57 ag rs fs := by
  unfold xIndexByte at h
  split at h
  · rename_i s n
    simp only [Option.some.injEq, Prod.mk.injEq] at h; obtain ⟨rfl, rfl⟩ := h
    refine contract_value (xs := [.str s, .int .u8 n]) (rs := [.int .i64 (Lib.indexByte s n.toNat.toUInt8)]) ?_
    intro w M0 cs hx
    simp only [RepA, Rep] at hx
    obtain ⟨c, r, rfl, rfl, d, r, rfl, rfl, rfl⟩ := hx
    refine ⟨[.int .i64 (Lib.indexByte s n.toNat.toUInt8)], ?_, fun M' => by simp [RepA, Rep]⟩
    rw [run_callFunc_extern Try.func57 (by kernel_rfl) (by kernel_rfl) (by kernel_rfl) (e := Extern.BytealgIndexByte.indexByte) (by kernel_rfl)]
    show (((Extern.BytealgIndexByte.indexByte #[.string ⟨s.toArray⟩, .int .u8 n]).run _ w).andThen _) = _
    rw [Lib.run_indexByteString]
    rfl
  · exact absurd h (by simp)

set_option maxHeartbeats 2000000 in
theorem grow_room59 (base : Option Addr) (l c n : Nat) (w : World) (hlc : l ≤ c) (hc63 : c ≤ 9223372036854775807) (hn63 : n ≤ 9223372036854775807) (hroom : l + n ≤ c) :
    Calls Try.prog 59 #[.slice base l c, .int .i64 n] w fun e w' => e = .returned (.slice base l c) ∧ w' = w := by
  have h1 : ¬ ((n : Int) < 0) := by omega
  have h2 : wrap64 ((c : Int) - (l : Int)) = (c : Int) - (l : Int) := by unfold wrap64; omega
  have h3 : wrap64 ((n : Int) - ((c : Int) - (l : Int))) = (n : Int) - ((c : Int) - (l : Int)) := by unfold wrap64; omega
  have h4 : ¬ ((n : Int) - ((c : Int) - (l : Int)) > 0) := by omega
  go_enter Try.func59, Try.ntmps59
  go_wp2
  go_ret
  exact ⟨rfl, rfl⟩

set_option maxHeartbeats 4000000 in
theorem grow_new59 (i0 : TypeInfo) (z : Value) (hi0 : Try.prog.info? 33 = some i0) (hz0 : i0.zero = some z) (hs0 : 0 < i0.size)
    (base : Option Addr) (l c n : Nat) (cs : List Value) (w : World) (hlc : l ≤ c) (hroom : c < l + n) (hbig : (l + n) * i0.bytes ≤ 140737488355328) (h63 : l + n ≤ 4611686018427387904)
    (hcl : cs.length = c * i0.size) (hnil : base = none → c = 0) (hcs : ∀ a, base = some a → ∀ j v, cs[j]? = some v → w.cell? (a.add j) = some v) :
    Calls Try.prog 59 #[.slice base l c, .int .i64 n] w fun e w' =>
      e = .returned (.slice (some ⟨w.heap.size, 0, none⟩) l (grownCap w (l + n) c 33)) ∧
      w' = w.drew.alloc (.cells (cs.toArray ++ Builtin.zeroCells z.cells (l + n - c) ++ Builtin.zeroCells z.cells (grownCap w (l + n) c 33 - (l + n))) 33) := by
  have h1 : ¬ ((n : Int) < 0) := by omega
  have h2 : wrap64 ((c : Int) - (l : Int)) = (c : Int) - (l : Int) := by unfold wrap64; omega
  have h3 : wrap64 ((n : Int) - ((c : Int) - (l : Int))) = (n : Int) - ((c : Int) - (l : Int)) := by unfold wrap64; omega
  have h4 : (n : Int) - ((c : Int) - (l : Int)) > 0 := by omega
  have z25 : ∀ w, (Go.sizeOf 33).run Try.prog w = .ok i0.size w := fun w => by simp [Go.sizeOf, typeInfo, hi0]
  have hck : c + (l + n - c) = l + n := by omega
  have hold : (Builtin.firstCells i0.size c (.slice base c c)).run Try.prog w.drew = .ok cs.toArray w.drew := by
    cases base with
    | none =>
      have h0 := hnil rfl
      subst h0
      have hc0 : cs = [] := List.length_eq_zero_iff.1 (by simpa using hcl)
      rw [hc0]
      exact run_firstCells_none w.drew i0.size 0 0 0
    | some a => exact run_firstCells_some w.drew i0.size c a c c cs hcl (fun j v hj => hcs a rfl j v hj)
  have hrz : ∀ ty, (Builtin.append_ #[25, 3] ty #[.slice base c c, .int .i64 ((n : Int) - ((c : Int) - (l : Int)))]).run Try.prog w =
      .ok (.slice (some ⟨w.heap.size, 0, none⟩) (l + n) (grownCap w (l + n) c 33)) (w.drew.alloc (.cells (cs.toArray ++ Builtin.zeroCells z.cells (l + n - c) ++ Builtin.zeroCells z.cells (grownCap w (l + n) c 33 - (l + n))) 33)) := fun ty => by
    have h := Lib.run_append_grow_zeros w 25 3 ty 33 i0 z .i64 .i64 Try.underlying25 Try.underlying3 hi0 hz0 base c c cs hold (l + n - c) (by omega) hs0 (by omega) (by omega)
      (by have : (l + n - c) * i0.bytes ≤ (l + n) * i0.bytes := Nat.mul_le_mul_right _ (by omega)
          omega)
      (by rw [hck]; exact growslice_fits hroom hbig)
    rw [hck] at h
    rw [show (n : Int) - ((c : Int) - (l : Int)) = ((l + n - c : Nat) : Int) by omega]
    exact h
  have hGn : l + n ≤ grownCap w (l + n) c 33 := grownCap_ge w _ _ _
  obtain ⟨G, hG⟩ : ∃ G, G = grownCap w (l + n) c 33 := ⟨_, rfl⟩
  rw [← hG] at hrz hGn ⊢
  have hG63 : G ≤ 9223372036854775807 := by
    have := grownCap_le_maxLen w (l + n) c 33 (by unfold maxLen; omega)
    rw [← hG] at this
    unfold maxLen at this
    omega
  clear hold hck hG hcs hcl
  go_enter Try.func59, Try.ntmps59
  cases base with
  | none =>
    have h0 := hnil rfl
    subst h0
    obtain rfl : l = 0 := by omega
    go_wp2_with (at_builtin; refine Lib.wpList_append_run _ rfl _ _ _ _ rfl _ _ rfl rfl _ _ (hrz _) ?_)
    all_goals (go_ret; exact ⟨rfl, rfl⟩)
  | some a =>
    obtain ⟨ab, ao, asp⟩ := a
    go_wp2_with (at_builtin; refine Lib.wpList_append_run _ rfl _ _ _ _ rfl _ _ rfl rfl _ _ (hrz _) ?_)
    all_goals (go_ret; exact ⟨rfl, rfl⟩)
theorem c_grow59 (ms : List Mode) (ag rs fs : List TV) (h : xGrow Try.prog 33 ag = some (rs, fs)) : Contract Try.prog ms 59 ag rs fs :=
  contract_grow (e := 33) (enters Try.func59 (by kernel_rfl) rfl) (fun b l c n w h1 h2 h3 h4 => grow_room59 b l c n w h1 h2 h3 h4) (fun i0 z a1 a2 a3 b l c n cs w h1 h2 h3 h4 h5 h6 h7 => grow_new59 i0 z a1 a2 a3 b l c n cs w h1 h2 h3 h4 h5 h6 h7) (by kernel_rfl) h

theorem c_join61 (ms : List Mode) (ag rs fs : List TV) (h : xJoin ag = some (rs, fs)) : Contract Try.prog ms 61 ag rs fs := c_join (enters Try.func61 (by kernel_rfl) rfl) (fun a c sep w => Try.strings_Join_none a c sep w) (fun bk o c xs sep w h1 h2 h3 h4 h5 => Try.strings_Join bk o c xs sep w h1 h2 h3 h4 h5) ms ag rs fs h

noncomputable def extL : List (FuncId × (List TV → Option (List TV × List TV))) := [(36, (xClone Try.prog 33)), (38, xWriteString), (39, xString), (57, xIndexByte), (59, (xGrow Try.prog 33)), (61, xJoin), (64, xWriteByte)]
def modesL : List (FuncId × List Mode) := [(59, [.isNil])]
def loopsL : List (FuncId × List (Nat × List Nat × List Nat × List (Nat × Option Nat × Nat))) := [(4, [(7, [5, 6], [], [(5, none, 1)])]),
  (7, [(4, [0, 1, 2, 7], [], [(0, none, 1)]), (14, [8, 9, 10, 11], [], [(8, none, 2), (10, none, 2)])]),
  (9, [(7, [0, 1, 5, 6], [], [(0, none, 1), (1, none, 1), (5, none, 2)]), (18, [5, 8, 9, 10], [], [(5, none, 2)])]),
  (11, [(12, [15, 16], [], [(15, none, 1)])]),
  (12, [(5, [0, 1, 5], [], [])]),
  (14, [(3, [0, 3, 4], [], [(0, none, 1)])]),
  (15, [(100000, [0, 3], [], [(3, none, 2)])]),
  (16, [(4, [0, 1, 5], [], [(0, none, 2), (1, none, 2)])]),
  (17, [(3, [3, 6, 7, 8], [], [(6, none, 2)])]),
  (18, [(4, [0, 3, 4, 5], [], [(3, none, 2)])]),
  (22, [(4, [0, 1, 7, 8, 15, 16, 17], [], [(0, none, 2), (8, none, 2), (15, none, 1)]), (10, [7, 11, 36, 37], [], [(11, none, 2)])]),
  (24, [(2, [0, 3], [], [(0, none, 1)])]),
  (25, [(5, [0, 3, 4], [], [(0, none, 1)])]),
  (26, [(5, [3, 12, 13, 14], [], [(3, none, 1), (12, none, 1)])]),
  (27, [(4, [0, 1, 5], [], [(0, none, 1), (1, none, 1)])]),
  (28, [(4, [0, 3, 4, 5], [], [])]),
  (30, [(3, [3, 6, 7, 8], [], [(3, none, 1), (6, none, 2)])]),
  (31, [(3, [0, 3, 4], [], [(0, none, 2)])]),
  (32, [(7, [0, 4, 5], [], [(4, none, 1)])]),
  (34, [(7, [0, 4, 5], [], [(4, none, 1)])]),
  (42, [(3, [0, 5, 8, 9, 10], [], [(8, none, 1)])]),
  (45, [(3, [0, 4, 5], [], [(4, none, 1)])]),
  (46, [(2, [0, 1, 7], [], [(7, none, 1)])]),
  (50, [(3, [0, 3, 9, 10, 11], [], [(0, none, 1), (9, none, 1)]), (11, [6, 25, 26, 27], [], [(6, none, 2), (25, none, 1)])]),
  (51, [(3, [3, 6, 7, 8], [], [(3, none, 1), (6, none, 2)])]),
  (60, [(3, [0, 3, 7, 8], [], [])]),
  (61, [(12, [0, 1, 5, 39, 40, 41], [], [(0, none, 1), (39, none, 1)]), (22, [1, 8, 63, 64, 65], [], [(63, none, 1)])])]
def preL : List (FuncId × List (Nat × List Nat)) := []
noncomputable def C : Cx where
  P := Try.prog
  modes f := (lkp f modesL).getD []
  ext f := lkp f extL
  bldT := bldTy
  loops f t := match lkp f loopsL with | some l => (lkp t l).getD ([], [], []) | none => ([], [], [])
  pre f t := match lkp f preL with | some l => (lkp t l).getD [] | none => []

theorem extOK : ∀ f g ag rs fs, C.ext f = some g → g ag = some (rs, fs) → Contract C.P (C.modes f) f ag rs fs := by
  intro f g ag rs fs h hg
  have hm := lkp_mem (show lkp f extL = some g from h)
  simp only [extL, List.mem_cons, List.not_mem_nil, or_false, Prod.mk.injEq] at hm
  rcases hm with ⟨rfl, rfl⟩ | ⟨rfl, rfl⟩ | ⟨rfl, rfl⟩ | ⟨rfl, rfl⟩ | ⟨rfl, rfl⟩ | ⟨rfl, rfl⟩ | ⟨rfl, rfl⟩
  · exact c_clone36 _ _ _ _ hg
  · exact c_writeString _ _ _ _ hg
  · exact c_string _ _ _ _ hg
  · exact c_indexByte _ _ _ _ hg
  · exact c_grow59 _ _ _ _ hg
  · exact c_join61 _ _ _ _ hg
  · exact c_writeByte _ _ _ _ hg

theorem progOKp : progOK C.P = true := by kernel_rfl
theorem mixedOKp : C.P.follows .mixedOrders = true := by kernel_rfl
/-- What the machine says of a call here, the model does. -/
theorem sound {k : Nat} {f : FuncId} {ag rs fs : List TV} (h : callN C k f ag = some (rs, fs)) : Contract C.P (C.modes f) f ag rs fs := callN_ok extOK progOKp mixedOKp k f ag rs fs h

end Go.Proofs.Ytpcjlhhhmjgffaa.Vm
