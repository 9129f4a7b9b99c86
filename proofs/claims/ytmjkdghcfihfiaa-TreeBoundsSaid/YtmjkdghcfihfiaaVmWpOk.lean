/-
  What was shown holds: single operations.
-/
import Derived.Test.YtmjkdghcfihfiaaVmWp
namespace Go.Proofs.Ytmjkdghcfihfiaa.Vm
open Go
set_option linter.unusedVariables false
set_option linter.unusedSimpArgs false

section
variable {C : Cx} {S : Specs}

theorem noCall_le (call : FuncId → List TV → Option (List TV × List TV)) : Le noCall call := by
  intro f xs r h; simp [noCall] at h

/-- What an operation makes is there. -/
def Does1 (C : Cx) (o : Oper) (V : View) (K : H → Made → Prop) : Prop := ∃ k m, made C (callN C k) o V = some m ∧ ∃ h', K h' m

theorem gen_ok {o : Oper} {V : View} {K : H → Made → Prop} {h : H} (k : gen C o V K h) : Does1 C o V K := by
  unfold gen at k
  split at k
  · rename_i m hm
    exact ⟨0, m, made_up (noCall_le _) hm, _, k⟩
  · exact k.elim

theorem made_q {call : FuncId → List TV → Option (List TV × List TV)} {o : Oper} {V : View} {v : AV} {os : List (Nat × Obj)} (h1 : isCall o.op = none) (h2 : opQ C.P C.bldT (o.dst.getD 499) o.op V = some (v, os)) : made C call o V = some (.only v os) := by
  unfold made
  simp only [h1, h2]
theorem does_q {o : Oper} {V : View} {K : H → Made → Prop} {v : AV} {os : List (Nat × Obj)} (h1 : isCall o.op = none) (h2 : opQ C.P C.bldT (o.dst.getD 499) o.op V = some (v, os)) {h' : H} (k : K h' (.only v os)) : Does1 C o V K :=
  ⟨0, _, made_q h1 h2, _, k⟩

theorem wCall_ok (hS : SpecOK C S) {f : FuncId} {as : List TV} {K : H → List TV × List TV → Prop} {h : H} (k : wCall C S f as K h) : ∃ n r, callN C n f as = some r ∧ ∃ h', K h' r := by
  unfold wCall at k
  split at k
  · rename_i g hg
    split at k
    · rename_i l hl
      obtain ⟨a, h1, h2, h', h3⟩ := wAlts_ok k
      obtain ⟨n, hn⟩ := (hS f g hg as l hl a h1 h2).get
      exact ⟨n, _, hn, h', h3⟩
    · exact k.elim
  · split at k
    · rename_i r hr; exact ⟨_, r, hr, _, k⟩
    · exact k.elim

theorem wLent_ok {lent : List Nat} {rs fs : List TV} {K : H → List Nat → Prop} {h : H} (k : wLent lent rs fs K h) : (lent = [] ∧ ∃ h', K h' []) ∨ ∃ a l, lent = a :: l ∧ ∃ h', K h' (if flatTVs rs && flatTVs fs then [] else a :: l) := by
  cases lent with
  | nil => exact .inl ⟨rfl, _, k⟩
  | cons a l =>
    obtain ⟨h', k⟩ := fork_ok (show fork _ _ _ from k)
    exact .inr ⟨a, l, rfl, h', k⟩

theorem wCallM_ok (hS : SpecOK C S) {d : Nat} {c : Call} {V : View} {K : H → Made → Prop} {h : H} (k : wCallM C S d c V K h) : ∃ n m, callM C (callN C n) d c V = some m ∧ ∃ h', K h' m := by
  unfold wCallM at k
  split at k
  · rename_i f first caps as e1 e2
    split at k
    · rename_i fn e3
      split at k
      · rename_i g e4
        split at k
        · rename_i e5
          obtain ⟨n, r, e6, h1, k⟩ := wCall_ok hS k
          split at k
          · rename_i ws os e7
            rcases wLent_ok k with ⟨e8, h2, k⟩ | ⟨a, l, e8, h2, k⟩
            · refine ⟨n, _, ?_, h2, k⟩
              rw [e8] at e5
              unfold callM
              simp only [e1, e2, e3, e4, e8, e5, if_true, e6, e7]
            · refine ⟨n, _, ?_, h2, k⟩
              rw [e8] at e5
              unfold callM
              simp only [e1, e2, e3, e4, e8, e5, if_true, e6, e7]
          · exact k.elim
        · exact k.elim
      · exact k.elim
    · exact k.elim
  · exact k.elim

theorem wSliceOf_ok {lo hi : Option AV} {len : Nat} {K : H → Nat → Nat → Prop} {h : H} (k : wSliceOf lo hi len K h) : ∃ a b, sliceOf lo hi len = some (a, b) ∧ ∃ h', K h' a b := by
  have key : ∀ (x y : Option Int) (h : H), (match x, y with | some b, some a => chk (0 ≤ a ∧ a ≤ b ∧ b ≤ Int.ofNat len) (fun h => K h a.toNat b.toNat) h | _, _ => False) →
      ∃ a b, (match (generalizing := false) x, y with | some h, some l => if 0 ≤ l ∧ l ≤ h ∧ h ≤ Int.ofNat len then some (l.toNat, h.toNat) else none | _, _ => none) = some (a, b) ∧ ∃ h', K h' a b := by
    intro x y h k
    split at k
    · rename_i b a
      obtain ⟨hp, h', k⟩ := chk_ok k
      exact ⟨_, _, if_pos hp, h', k⟩
    · exact k.elim
  exact key _ _ h k

theorem wPick_ok {o : Oper} {c a b : Operand} (ho : o.op = .pick c a b) {V : View} {K : H → Made → Prop} {h : H} (k : wPick c a b V K h) : Does1 C o V K := by
  unfold wPick at k
  split at k
  · rename_i t e1
    obtain ⟨h', k⟩ := fork_ok k
    split at k
    · rename_i v e2
      exact does_q (by rw [ho]; rfl) (by rw [ho]; simp only [opQ, e1, e2]) k
    · exact k.elim
  · exact k.elim

theorem wLd_ok {o : Oper} {t : TypeId} {a : Operand} (ho : o.op = .load t a) {V : View} {K : H → Made → Prop} {h : H} (k : wLd C o t a V K h) : Does1 C o V K := by
  unfold wLd at k
  split at k
  · rename_i id i off e1
    split at k
    · rename_i sz es e2
      split at k
      · exact k.elim
      · rename_i e3
        obtain ⟨c, e4, e5, h', k⟩ := wLoad_ok k
        split at k
        · rename_i v e6
          exact does_q (by rw [ho]; rfl) (by rw [ho]; simp only [opQ, e1, e2]; rw [if_neg e3]; simp only [e4]; rw [if_pos e5]; simp only [e6]) k
        · exact k.elim
    · exact gen_ok k
  · exact gen_ok k

theorem wBin_ok {o : Oper} {op : BinOp} {t u : TypeId} {x y : Operand} (ho : o.op = .binOp op t x y u) {V : View} {K : H → Made → Prop} {h : H} (k : wBin C o op x y V K h) : Does1 C o V K := by
  unfold wBin at k
  split at k
  · rename_i kk a kk' b e1 e2
    split at k
    · split at k
      · rename_i e3
        obtain ⟨hp, h', k⟩ := chk_ok k
        refine does_q (by rw [ho]; rfl) (by rw [ho]; simp only [opQ, e1, e2, vbin]; rw [if_pos e3]; simp only [intOp]; rw [if_neg hp]) k
      · exact k.elim
    · split at k
      · rename_i e3
        obtain ⟨hp, h', k⟩ := chk_ok k
        refine does_q (by rw [ho]; rfl) (by rw [ho]; simp only [opQ, e1, e2, vbin]; rw [if_pos e3]; simp only [intOp]; rw [if_neg hp]) k
      · exact k.elim
    · obtain ⟨hp, h', k⟩ := chk_ok k
      refine does_q (by rw [ho]; rfl) (by rw [ho]; simp only [opQ, e1, e2, vbin, shiftOp]; rw [if_neg hp]) k
    · obtain ⟨hp, h', k⟩ := chk_ok k
      refine does_q (by rw [ho]; rfl) (by rw [ho]; simp only [opQ, e1, e2, vbin, shiftOp]; rw [if_neg hp]) k
    · exact gen_ok k
  · rename_i a b e1 e2
    split at k
    · obtain ⟨hp, h', k⟩ := chk_ok k
      refine does_q (by rw [ho]; rfl) (by rw [ho]; simp only [opQ, e1, e2, vbin, strOp]; rw [if_pos hp]) k
    · exact gen_ok k
  · exact gen_ok k

theorem wSlice_ok {o : Oper} {t : TypeId} {x : Operand} {lo hi : Option Operand} (ho : o.op = .slice t x lo hi none) {V : View} {K : H → Made → Prop} {h : H} (k : wSlice C t x lo hi V K h) : Does1 C o V K := by
  unfold wSlice at k
  split at k
  · rename_i s l r e1 e2 e3 e4
    obtain ⟨a, b, e5, h', k⟩ := wSliceOf_ok k
    exact does_q (by rw [ho]; rfl) (by rw [ho]; simp only [opQ, e1, e2, e3, e4, e5]) k
  · rename_i e v l r e1 e2 e3 e4
    split at k
    · exact k.elim
    · rename_i e0
      split at k
      · obtain ⟨hp, h1, k⟩ := chk_ok k
        obtain ⟨a, b, e5, h', k⟩ := wSliceOf_ok k
        exact does_q (by rw [ho]; rfl) (by rw [ho]; simp only [opQ, e1, e2, e3, e4]; rw [if_neg e0, if_pos hp]; simp only [e5]) k
      · obtain ⟨a, b, e5, h', k⟩ := wSliceOf_ok k
        exact does_q (by rw [ho]; rfl) (by rw [ho]; simp only [opQ, e1, e2, e3, e4]; rw [if_neg e0]; simp only [e5]) k
      · split at k
        · rename_i e6
          split at k
          · rename_i e7
            obtain ⟨a, b, e5, h', k⟩ := wSliceOf_ok k
            exact does_q (by rw [ho]; rfl) (by rw [ho]; simp only [opQ, e1, e2, e3, e4]; rw [if_neg e0]; simp only [e6]; rw [if_pos e7]; simp only [e5]) k
          · exact k.elim
        · exact k.elim
      · split at k
        · rename_i e6
          split at k
          · rename_i e7
            obtain ⟨a, b, e5, h', k⟩ := wSliceOf_ok k
            exact does_q (by rw [ho]; rfl) (by rw [ho]; simp only [opQ, e1, e2, e3, e4]; rw [if_neg e0]; simp only [e6]; rw [if_pos e7]; simp only [e5]) k
          · exact k.elim
        · exact k.elim
      · exact k.elim
  · exact k.elim

theorem wIxA_ok {o : Oper} {t : TypeId} {x ix : Operand} (ho : o.op = .indexAddr t x ix) {V : View} {K : H → Made → Prop} {h : H} (k : wIxA C t x ix V K h) : Does1 C o V K := by
  unfold wIxA at k
  split at k
  · rename_i e id kk i e1 e2 e3
    split at k
    · rename_i sz es e4
      split at k
      · rename_i e5
        obtain ⟨hp, h', k⟩ := chk_ok k
        exact does_q (by rw [ho]; rfl) (by rw [ho]; simp only [opQ, e1, e2, e3, e4]; rw [if_pos ⟨hp.1, hp.2, e5⟩]) k
      · exact k.elim
    · exact k.elim
  · rename_i e id lo n kk i e1 e2 e3
    split at k
    · rename_i sz es e4
      split at k
      · rename_i e5
        obtain ⟨hp, h', k⟩ := chk_ok k
        exact does_q (by rw [ho]; rfl) (by rw [ho]; simp only [opQ, e1, e2, e3, e4]; rw [if_pos ⟨hp.1, hp.2.1, hp.2.2, e5⟩]) k
      · exact k.elim
    · exact k.elim
  · rename_i e es kk i e1 e2 e3
    obtain ⟨hp, h1, k⟩ := chk_ok k
    obtain ⟨c, e4, e5, h', k⟩ := wElem_ok k
    exact does_q (by rw [ho]; rfl) (by rw [ho]; simp only [opQ, e1, e2, e3]; rw [if_pos hp]; simp only [e4]; rw [if_pos e5]) k
  · exact k.elim

theorem wIx_ok {o : Oper} {t : TypeId} {x ix : Operand} (ho : o.op = .index t x ix) {V : View} {K : H → Made → Prop} {h : H} (k : wIx C t x ix V K h) : Does1 C o V K := by
  unfold wIx at k
  split at k
  · rename_i s kk i e1 e2 e3
    obtain ⟨hp, h1, k⟩ := chk_ok k
    obtain ⟨c, e4, h', k⟩ := wHas_ok k
    exact does_q (by rw [ho]; rfl) (by rw [ho]; simp only [opQ, e1, e2, e3]; rw [if_pos hp]; simp only [e4]) k
  · exact k.elim

theorem wMkSl_ok {o : Oper} {t : TypeId} {l c : Operand} (ho : o.op = .makeSlice t l c) {V : View} {K : H → Made → Prop} {h : H} (k : wMkSl C (o.dst.getD 499) t l c V K h) : Does1 C o V K := by
  unfold wMkSl at k
  split at k
  · rename_i e kn n km m e1 e2 e3
    split at k
    · rename_i vs e4
      split at k
      · rename_i z e5
        obtain ⟨hp, h', k⟩ := chk_ok k
        exact does_q (by rw [ho]; rfl) (by rw [ho]; simp only [opQ, e1, e2, e3]; rw [if_pos hp]; simp only [e4, e5]) k
      · exact k.elim
    · exact k.elim
  · exact k.elim

theorem wConv_ok {o : Oper} {s t : TypeId} {x : Operand} (ho : o.op = .convert s t x) {V : View} {K : H → Made → Prop} {h : H} (k : wConv C o s t x V K h) : Does1 C o V K := by
  unfold wConv at k
  split at k
  · rename_i v e e1 e2 e3
    split at k
    · rename_i es e4 e5
      obtain ⟨hp, h', k⟩ := chk_ok k
      exact does_q (by rw [ho]; rfl) (by rw [ho]; simp only [opQ, e1, vconv, e2, e3, e4, e5]; rw [if_pos hp]) k
    · exact k.elim
  · exact gen_ok k

theorem made_l {call : FuncId → List TV → Option (List TV × List TV)} {o : Oper} {V : View} {m : Made} (h1 : isCall o.op = none) (h2 : opL C.P o.op V = some m) : made C call o V = some m := by
  unfold made
  obtain ⟨n1, n2⟩ := opQ_none_L (W' := V) (bt := C.bldT) (d := o.dst.getD 499) h2
  simp only [h1, n1, n2, h2]
theorem made_a {call : FuncId → List TV → Option (List TV × List TV)} {o : Oper} {V : View} {v : AV} {os : List (Nat × Obj)} {id : Option Nat} (h1 : isCall o.op = none) (h2 : opA C.P (o.dst.getD 499) o.op V = some (v, os, id)) : made C call o V = some ⟨v, os, [], id.toList, [], []⟩ := by
  unfold made
  have n1 := opQ_none_A (W' := V) (bt := C.bldT) h2
  simp only [h1, n1, h2]

theorem wStore_ok {o : Oper} {t : TypeId} {a x : Operand} (ho : o.op = .store t a x) {V : View} {K : H → Made → Prop} {h : H} (k : wStore C o t a x V K h) : Does1 C o V K := by
  unfold wStore at k
  split at k
  · rename_i id i off v e1 e2
    split at k
    · rename_i sz es e3
      split at k
      · rename_i e4
        split at k
        · rename_i l e5
          obtain ⟨c, e6, h1, k⟩ := wHas_ok k
          obtain ⟨hp, h', k⟩ := chk_ok k
          exact ⟨0, _, made_l (by rw [ho]; rfl) (by rw [ho]; simp only [opL, e1, e2]; rw [if_pos e4]; simp only [e3, e5, e6]; rw [if_pos hp]), h', k⟩
        · exact k.elim
      · exact k.elim
    · exact gen_ok k
  · exact k.elim

theorem wAppend_ok {o : Oper} {as : Array Operand} {ts : Array TypeId} (ho : o.op = .call ⟨.builtin .append, as, ts⟩) {V : View} {K : H → Made → Prop} {h : H} (k : wAppend C (o.dst.getD 499) as ts V K h) : Does1 C o V K := by
  unfold wAppend at k
  split at k
  · rename_i x y t u e1 e2
    split at k
    · rename_i e e3
      split at k
      · rename_i es id l e4 e5
        split at k
        · rename_i e6
          obtain ⟨hp, h1, k⟩ := chk_ok k
          obtain ⟨hq, h', k⟩ := chk_ok k
          exact ⟨0, _, made_a (by rw [ho]; rfl) (by rw [ho]; simp only [opA, e1, e2, e3, e4, e5]; rw [if_pos ⟨hp.1, hp.2, hq, e6⟩]), h', k⟩
        · exact k.elim
      · exact k.elim
    · exact k.elim
  · exact k.elim

theorem wRowIn_ok {sz : Nat} {V : View} {K : H → Nat → Nat → Nat → List (List PV) → Prop} {xv : AV} {h : H} (k : wRowIn sz V K xv h) : ∃ id lo m es, rowIn sz V xv = some (id, lo, m, es) ∧ ∃ h', K h' id lo m es := by
  unfold wRowIn at k
  split at k
  · split at k
    · rename_i n es e1
      split at k
      · rename_i e2
        exact ⟨_, _, _, _, by simp only [rowIn, e1]; rw [if_pos e2], _, k⟩
      · exact k.elim
    · exact k.elim
  · split at k
    · rename_i k' es e1
      split at k
      · rename_i e2
        obtain ⟨hp, h', k⟩ := chk_ok k
        exact ⟨_, _, _, _, by simp only [rowIn, e1]; rw [if_pos ⟨e2, hp⟩], h', k⟩
      · exact k.elim
    · exact k.elim
  · exact k.elim
theorem wCopy_ok {o : Oper} {as : Array Operand} {ts : Array TypeId} (ho : o.op = .call ⟨.builtin .copy, as, ts⟩) {V : View} {K : H → Made → Prop} {h : H} (k : wCopy C as ts V K h) : Does1 C o V K := by
  unfold wCopy at k
  split at k
  · rename_i x y t u e1 e2
    split at k
    · rename_i e xv e3 e4
      split at k
      · rename_i l e5
        obtain ⟨id, lo, m, es, e6, h1, k⟩ := wRowIn_ok k
        obtain ⟨hp, h', k⟩ := chk_ok k
        exact ⟨0, _, made_l (by rw [ho]; rfl) (by rw [ho]; simp only [opL, e1, e2, e3, e4, e6, e5]; rw [if_pos hp]), h', k⟩
      · exact k.elim
    · exact k.elim
  · exact k.elim

theorem wOp_ok (hS : SpecOK C S) {o : Oper} {V : View} {K : H → Made → Prop} {h : H} (k : wOp C S o V K h) : Does1 C o V K := by
  unfold wOp at k
  split at k
  · rename_i ho; exact wPick_ok ho k
  · rename_i ho; exact wLd_ok ho k
  · rename_i ho; exact wBin_ok ho k
  · rename_i ho; exact wSlice_ok ho k
  · rename_i ho; exact wIxA_ok ho k
  · rename_i ho; exact wIx_ok ho k
  · rename_i ho; exact wStore_ok ho k
  · rename_i ho; exact wMkSl_ok ho k
  · rename_i ho; exact wConv_ok ho k
  · rename_i c ho
    obtain ⟨callee, as, ts⟩ := c
    simp only at k
    split at k
    · exact wAppend_ok ho k
    · exact wCopy_ok ho k
    · exact gen_ok k
    · rename_i n1 n2 n3
      obtain ⟨n, m, hm, h', k⟩ := wCallM_ok hS k
      refine ⟨n, m, ?_, h', k⟩
      unfold made
      have : isCall o.op = some ⟨callee, as, ts⟩ := by
        rw [ho]
        cases callee with
        | builtin b => exact absurd rfl (n3 b)
        | value f => rfl
        | invoke r m => rfl
      simp only [this, hm]
  · exact gen_ok k

end
end Go.Proofs.Ytmjkdghcfihfiaa.Vm
