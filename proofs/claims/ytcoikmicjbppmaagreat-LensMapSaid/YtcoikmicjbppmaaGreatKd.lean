/-
  The law LensMap: a part of its proof; no conditions.
-/
import Derived.Test.YtcoikmicjbppmaaGreatKc
import Derived.Test.YtcoikmicjbppmaaGreatChecked
import Derived.Lib.Builder
import Derived.Lib.UnsafeStr
import Derived.Lib.Hide
import Derived.Laws.Externs
import Derived.Below
import Derived.WideShapes
import Derived.ChangeSlices
import Derived.OpenShut
import Derived.Lib.Join
import Derived.Lib.Bytealg
import Derived.Shelf.Sort.Plain
import Derived.Shelf.Slices.In.SortNone
import Derived.Shelf.Slices.CompactS
import Derived.Shelf.Small.Strs
import Derived.Sort.Grow
import Derived.Sort.EncStr
import Derived.Lib.SlicesCompact
import Derived.Shelf.RegionOpenPlain
import Derived.Lib.AppendZerosOnto
import Derived.Lib.Walk
import Derived.Lib.SliceRun
import Derived.ChangeArms
import Derived.SizedLaws
import Derived.IntWalk
namespace Go.Proofs.YtcoikmicjbppmaaGreat.Vm
open Go Go.RowKit
set_option linter.unusedVariables false
set_option linter.unusedSimpArgs false
theorem rq {P : Program} {w : World} {ops : Array Oper} {rest : List Oper} {o : Oper} {a : Act} {Q : Exit -> Act -> World -> Prop} (hgd : o.guard = none) (s x : Operand) (t u : TypeId)
  (ho : o.op = .call { callee := .builtin .append, args := #[s, x], argTypes := #[t, u] }) {v : Value} {W' : World} (hrun : ∀ ty, (Builtin.append_ #[t, u] ty #[a.eval s, a.eval x]).run P w = .ok v W')
  (h : wpList P ops Q rest (a.put o.dst v) W') : wpList P ops Q (o :: rest) a w := by
 refine wpList_plain hgd fun K hK => ?_
 unfold Oper.wp
 simp [execOp, ho, resolve, invoke, builtin, hrun, Result.andThen]
 exact hK _ _ h
def f7 (w : World) (M : ay) : List PV -> List Value -> Prop
 | [], cs => cs = []
 | x :: xs, cs => ∃ c r, cs = c :: r /\ bp w M x c /\ f7 w M xs r
theorem nu {w : World} {M : ay} : ∀ {xs : List PV} {ts : List LT} {cs : List Value}, aX w M (xs.map .pv) ts cs -> f7 w M xs cs /\ LT.locsL ts = []
 | [], ts, cs, h => by
  simp only [List.map_nil, aX] at h
  obtain ⟨rfl, rfl⟩ := h
  exact ⟨rfl, rfl⟩
 | x :: xs, ts, cs, h => by
  simp only [List.map_cons, aX, cY] at h
  obtain ⟨t, r, c, d, rfl, rfl, ⟨rfl, hx⟩, hr⟩ := h
  obtain ⟨k1, k2⟩ := nu hr
  exact ⟨by simp only [f7]; exact ⟨c, d, rfl, hx, k1⟩, by simp [LT.locsL, LT.locs, k2]⟩
theorem wK {w : World} {M : ay} : ∀ {xs : List PV} {cs : List Value}, f7 w M xs cs -> aX w M (xs.map .pv) (xs.map fun _ => .none) cs
 | [], cs, h => by simp only [f7] at h; subst h; simp [aX]
 | x :: xs, cs, h => by
  simp only [f7] at h
  obtain ⟨c, r, rfl, h1, h2⟩ := h
  simp only [List.map_cons, aX, cY]
  exact ⟨.none, _, c, r, rfl, rfl, ⟨rfl, h1⟩, wK h2⟩
theorem i4 : ∀ xs : List PV, LT.locsL (xs.map fun _ => LT.none) = []
 | [] => rfl
 | _ :: xs => by simp [LT.locsL, LT.locs, i4 xs]
theorem pn {w : World} {M : ay} : ∀ {ms : List Mode} {xs : List PV} {ts : List LT} {cs : List Value}, ts.length = xs.length -> cs.length = xs.length -> cX w M ms (xs.map .pv) ts cs [] []
 | ms, [], ts, cs, _, _ => by simp [cX]
 | ms, x :: xs, [], cs, h, _ => by simp at h
 | ms, x :: xs, t :: ts, [], _, h => by simp at h
 | ms, x :: xs, t :: ts, c :: cs, h, k => by
  simp only [List.map_cons, cX]
  exact ⟨t, ts, c, cs, rfl, rfl, pn (by simpa using h) (by simpa using k)⟩
theorem lw {w : World} {M : ay} : ∀ {vs : List TV} {ts : List LT} {cs : List Value}, aX w M vs ts cs -> ts.length = vs.length
 | [], ts, cs, h => by simp only [aX] at h; obtain ⟨rfl, rfl⟩ := h; rfl
 | v :: vs, ts, cs, h => by
  simp only [aX] at h
  obtain ⟨t, r, c, d, rfl, rfl, _, hr⟩ := h
  simp [lw hr]
theorem j6 {f : FuncId} {fn : Func} {c : Code} (hf : Tryz.prog.funcs[f]? = some fn) (hn : (fn.name == "runtime.NumGoroutine") = false) (hb : fn.body = some c) (args : Array Value) (w : World) : (callFunc f args).run Tryz.prog w = .ok (.enter f args) w := by
 have h2 : ¬ fn.name = "runtime.NumGoroutine" := by simpa using hn
 unfold callFunc
 simp [program, Sem.run, hf, h2, hb]
end Go.Proofs.YtcoikmicjbppmaaGreat.Vm
namespace Go.Proofs.YtcoikmicjbppmaaGreat.Vm
open Go Go.RowKit
set_option linter.unusedVariables false
set_option linter.unusedSimpArgs false
def xX (w w' : World) (M0 : ay) (sz : Nat) (es : LP) (v : Value) : Prop :=
 ∃ l, v = l.hdr /\ cJ (fun _ => l) w' (fun b j => M0 b j ∨ l.F b j) l (.buf sz es) /\ (∀ b j, l.F b j -> w.heap.size <= b /\ b < w'.heap.size) /\ Fr (fun _ _ => False) w w'
theorem qU {w : World} {M M' : ay} (h : ∀ b j, M' b j -> M b j) : ∀ {xs : List PV} {cs : List Value}, f7 w M xs cs -> f7 w M' xs cs
 | [], cs, k => k
 | x :: xs, cs, k => by
  simp only [f7] at k ⊢
  obtain ⟨c, r, rfl, h1, h2⟩ := k
  exact ⟨c, r, rfl, bp.mono (fun b o v h1 h2 => ⟨h1, fun h' => h2 (h _ _ h')⟩) _ _ h1, qU h h2⟩
theorem hU {P : Program} {ms : List Mode} {f : FuncId} {xs : List PV} {sz : Nat} {es : LP}
  (h : ∀ w M0 cs, f7 w M0 xs cs -> (∀ b j, M0 b j -> b < w.heap.size) -> cT P f cs.toArray w fun v w' => xX w w' M0 sz es v) : br P ms f (xs.map .pv) [.own sz es] [] := by
 intro M0 w ts args hH
 obtain ⟨hx, hl0⟩ := nu hH.tv
 have hlen := lw hH.tv
 have hlc := aX.length hH.tv
 refine (h w M0 args (qU (fun b j h => .inl h) hx) hH.old).mono ?_
 rintro v w' ⟨l, rfl, hO, hF, hfr⟩
 have hlocs : LT.locsL ([LT.one l] ++ []) = [l] := rfl
 refine ⟨[l.hdr], [.one l], [], rfl, ?_, pn (by simpa using hlen) (by simpa using hlc), by rw [hlocs]; simp [fu], ?_, ?_, ?_⟩
 ·simp only [aX, cY]
  refine ⟨.one l, [], l.hdr, [], rfl, rfl, ⟨l, rfl, rfl, ?_⟩, rfl, rfl⟩
  refine cJ.mono (fun b o v h1 h2 => ⟨h1, fun h3 => h2 ?_⟩) (fun _ _ _ _ h => ⟨h, rfl⟩) (fun _ _ h => h) (fun _ _ _ => rfl) (fun _ h => h) (by simp [Obj.refs]) hO
  rcases h3 with h | ⟨l1, h1, h5⟩
  ·exact .inl h
  ·rw [hlocs] at h1; simp at h1; subst h1; exact .inr h5
 ·intro l1 hl1 b j hb
  rw [hlocs] at hl1; simp at hl1; subst hl1
  have := hF b j hb
  exact ⟨fun h0 => by have := hH.old b j h0; omega, this.2, .inl this.1⟩
 ·intro l1 hl1 b j hb
  have hl1' : l1 = l := by
   have e : LT.locsL [LT.one l] ++ bQ [] [] = [l] := rfl
   rw [e] at hl1
   simpa using hl1
  subst hl1'
  exact .inl (hF b j hb).1
 ·exact hfr.mono (fun _ _ h => h.elim)
theorem nS {w : World} {M0 : ay} {sz : Nat} (h0 : 0 < sz) : xX w w M0 sz [] (.slice none 0 0) :=
 ⟨⟨none, 0, 0, sz, 0, none⟩, rfl, yq _ w _ (by omega), by rintro b j (⟨_, h, _⟩ | ⟨_, h, _⟩) <;> simp at h, Fr.refl _ _⟩
theorem iG {w w' : World} {M0 : ay} (hold : ∀ b j, M0 b j -> b < w.heap.size) {sz cap : Nat} {es : LP} {vs : List Value} (h0 : 0 < sz) (hr : el w M0 sz es vs) (hl : vs.length = cap * sz) (hc : es.length <= cap)
  {g : Nat} (hg : w.heap.size <= g) (hg' : g < w'.heap.size) (hat : ∀ j : Nat, at_ w' g j = vs[j]?) (hz : ∀ j, j < vs.length -> cK w' g j = false) (hfr : Fr (fun _ _ => False) w w') (hu : 2 <= sz -> zQ w' g) :
  xX w w' M0 sz es (.slice (some ⟨g, 0, none⟩) es.length cap) := by
 let l : Loc := { base := some (g, 0), len := es.length, cap := cap, sz := sz, k := cap * sz, ext := none }
 have hF : ∀ b j, l.F b j -> b = g /\ j < cap * sz := by
  rintro b j (⟨o, h1, h2, h3⟩ | ⟨n, h1, _⟩)
  ·simp only [l, Option.some.injEq, Prod.mk.injEq] at h1
   obtain ⟨rfl, rfl⟩ := h1
   exact ⟨rfl, by simpa using h3⟩
  ·simp [l] at h1
 have hk : ∀ b o v, at_ w b o = some v -> ¬ M0 b o -> at_ w' b o = some v /\ ¬ (M0 b o ∨ l.F b o) := fun b o v hv hm => by
  refine ⟨(hfr.keeps hv (fun x => x)).1, ?_⟩
  rintro (h | h)
  ·exact hm h
  ·have := (hF b o h).1
   have := oC hv
   omega
 refine ⟨l, rfl, ⟨rfl, h0, rfl, hc, rfl, ⟨rfl, fun b o hb => by simp only [l, Option.some.injEq, Prod.mk.injEq] at hb; rw [<- hb.1]; exact hu⟩, fun h => by simp [l] at h, fun e he => ?_, fun b o hb => ?_⟩, fun b j h => ?_, hfr⟩
 ·obtain ⟨i, hi⟩ := List.mem_iff_getElem?.1 he
  exact (hr.2 i e hi).1
 ·simp only [l, Option.some.injEq, Prod.mk.injEq] at hb
  obtain ⟨rfl, rfl⟩ := hb
  refine ⟨fun j hj => ⟨⟨vs[j]'(by rw [hl]; exact hj), by rw [Nat.zero_add, hat]; exact List.getElem?_eq_getElem _⟩, by rw [Nat.zero_add]; exact hz j (by rw [hl]; exact hj)⟩, fun i e he => ?_⟩
  obtain ⟨k1, k2⟩ := hr.2 i e he
  refine ⟨_, RepS.mono hk e _ k2, fun j c hj => ?_⟩
  rw [List.getElem?_take] at hj
  split at hj
  ·rw [List.getElem?_drop] at hj
   rw [Nat.zero_add, hat]; exact hj
  ·exact absurd hj (by simp)
 ·rw [(hF b j h).1]; exact ⟨hg, hg'⟩
theorem kH {P : Program} {w : World} {M : ay} {es : LP} {c : Value} (h : bp w M (.sl es) c) {e : TypeId} (hs : 0 < ar P e) (hr : cg (ar P e) es = true) :
  ∃ (A : Option Addr) (cap : Nat) (news : List Value), c = .slice A es.length cap /\ (A = none -> es = []) /\ news.length = es.length * ar P e /\ (∀ v ∈ news, v.oneCell' = true) /\ el w M (ar P e) es news ∧
   ∀ W, (∀ b j v, at_ w b j = some v -> at_ W b j = some v) -> (Builtin.firstCells (ar P e) es.length c).run P W = .ok news.toArray W := by
 simp only [bp] at h
 obtain ⟨A, cap, rfl, hle, hnone, hspot, sz, hrow⟩ := h
 have hrow' : ∀ i e0, es[i]? = some e0 -> ∃ b o vs, A = some ⟨b, o, none⟩ /\ e0.length = ar P e /\ RepS w M e0 vs /\ ∀ j d, vs[j]? = some d -> at_ w b (o + i * ar P e + j) = some d := by
  intro i e0 he
  obtain ⟨a, vs, h1, h2, h3, h4⟩ := RepRow.get hrow i e0 he
  have h5 : e0.length = ar P e := by simpa using List.all_eq_true.1 hr e0 (List.mem_of_getElem? he)
  have hsz : sz = ar P e := by rw [<- h2, h5]
  subst hsz
  have := hspot a h1 (by rintro rfl; simp at he)
  obtain ⟨b, o, s⟩ := a
  simp only at this; subst this
  exact ⟨b, o, vs, h1, h2, h3, fun j d hj => by have := (h4 j d hj).1; simpa using this⟩
 obtain ⟨news, k1, k2, k3, k4⟩ := ln hs hrow'
 have hnil : A = none -> es = [] := fun hA => List.length_eq_zero_iff.1 (by have := hnone hA; omega)
 refine ⟨A, cap, news, rfl, hnil, k1, k2, k3, fun W hW => ?_⟩
 cases A with
 | none =>
  have := hnil rfl
  subst this
  have : news = [] := List.length_eq_zero_iff.1 (by simpa using k1)
  subst this
  exact run_firstCells_none W _ _ _ _
 | some pa =>
  by_cases he0 : es = []
  ·subst he0
   have : news = [] := List.length_eq_zero_iff.1 (by simpa using k1)
   subst this
   exact run_firstCells_some W _ _ _ _ _ [] (by simp) (fun j v hj => by simp at hj)
  have := hspot pa rfl he0
  obtain ⟨pb, po, ps⟩ := pa
  simp only at this; subst this
  exact run_firstCells_some W _ _ _ _ _ _ k1 (fun j v hj => by rw [dx]; exact hW _ _ _ (k4 pb po rfl j v hj))
theorem rW {P : Program} {w : World} {M0 : ay} (hold : ∀ b j, M0 b j -> b < w.heap.size) {t e : TypeId} (ht : P.underlying t = some (.slice e)) (hz : (eO P e).isSome = true) {es : LP} {c : Value} (h : bp w M0 (.sl es) c) (h0 : 0 < ar P e) (hr : cg (ar P e) es = true)
  (hroom : es.length * dM P e <= du) (h63 : es.length <= bz) :
  ∃ v W', (∀ ty, (Builtin.append_ #[t, t] ty #[.slice (some ⟨w.heap.size, 0, none⟩) 0 0, c]).run P (w.alloc (.cells #[] e)) = .ok v W') /\ xX w W' M0 (ar P e) es v := by
 obtain ⟨zv, hz⟩ := Option.isSome_iff_exists.1 hz
 obtain ⟨i, z, hi, hzz, hzl, hl⟩ := ec hz
 have hst : ar P e = i.size := by simp [ar, hi]
 have hbt : dM P e = i.bytes := by simp [dM, hi]
 obtain ⟨A, cap, news, rfl, hnil, n1, n2, n3, n4⟩ := kH h h0 hr
 have hfr1 : Fr (fun _ _ => False) w (w.alloc (.cells #[] e)) := Fr.alloc _ _ _ _
 have hk1 : ∀ b j v, at_ w b j = some v -> at_ (w.alloc (.cells #[] e)) b j = some v := fun b j v hv => (hfr1.keeps hv (fun h => h)).1
 have hlen : ∀ W, (Builtin.lenOf (.slice A es.length cap)).run P W = .ok es.length W := fun W => rfl
 by_cases hes : es = []
 ·subst hes
  have hn : news = [] := List.length_eq_zero_iff.1 (by simpa using n1)
  subst hn
  have hf := n4 _ hk1
  refine ⟨_, _, fun ty => fV (P := P) (w := w.alloc (.cells #[] e)) (ty := ty) ht hi (.inr ⟨_, ht⟩) (m := 0) (news := []) (hlen _) (by rw [<- hst]; exact hf) (by simp) (b := w.heap.size) (off := 0) (n := 0) (cap := 0) (by simp) (by simp) (by simp), ?_⟩
  refine iG (vs := []) (cap := 0) hold h0 ⟨by simp, by simp⟩ (by simp) (by simp) (Nat.le_refl _) (by simp [World.setCells]) (fun j => ?_) (by simp) hfr1 (fun _ => fK w _ _)
  show World.cell? _ _ = _
  simp [World.setCells]
 ·have hpos : 0 < es.length := by
   cases es with
   | nil => exact absurd rfl hes
   | cons _ _ => simp
  have hf := n4 (w.alloc (.cells #[] e)).drew hk1
  have hfo : (Builtin.firstCells i.size 0 (.slice (some ⟨w.heap.size, 0, none⟩) 0 0)).run P (w.alloc (.cells #[] e)).drew = .ok [].toArray (w.alloc (.cells #[] e)).drew := run_firstCells_some _ _ _ _ _ _ _ (by simp) (by simp)
  have hrun := fun ty => it (P := P) (w := w.alloc (.cells #[] e)) (ty := ty) ht hi hzz (.inr ⟨_, ht⟩) (x := .slice (some ⟨w.heap.size, 0, none⟩) 0 0) (y := .slice A es.length cap) (n := 0) (m := es.length) (cap := 0) (olds := []) (news := news) rfl (hlen _) hfo (by rw [<- hst]; exact hf) (by omega) (by unfold bz at h63; omega) (by rw [<- hbt, Nat.zero_add]; unfold du at hroom; omega)
  refine ⟨_, _, hrun, ?_⟩
  have hcp : 0 + es.length <= grownCap (w.alloc (.cells #[] e)) (0 + es.length) 0 e := grownCap_ge _ _ _ _
  generalize grownCap (w.alloc (.cells #[] e)) (0 + es.length) 0 e = cp at hcp
  have hsz1 : (w.alloc (.cells #[] e)).heap.size = w.heap.size + 1 := by simp
  let vs : List Value := news ++ (Builtin.zeroCells z.cells (cp - (0 + es.length))).toList
  have hvs : (([] : List Value).toArray ++ news.toArray ++ Builtin.zeroCells z.cells (cp - (0 + es.length))) = vs.toArray := by
   apply Array.ext'; simp [vs]
  rw [hvs]
  have hzs' : z.cells.size = ar P e := by rw [<- hl, <- hzl]; simp
  have hvl : vs.length = cp * ar P e := by
   simp only [vs, List.length_append, Array.length_toList, size_zeroCells, n1, hzs', <- Nat.add_mul]
   congr 1; omega
  have hblk : ((w.alloc (.cells #[] e)).drew.alloc (.cells vs.toArray e)).heap[(w.alloc (.cells #[] e)).heap.size]? = some (.cells vs.toArray e (0, 0)) := heap_alloc_new (w.alloc (.cells #[] e)).drew _
  have hres := iG (w := w) (w' := (w.alloc (.cells #[] e)).drew.alloc (.cells vs.toArray e)) (g := (w.alloc (.cells #[] e)).heap.size) (vs := vs) (cap := cp) (es := es) hold h0 (by
    have := el.append (es := []) (l := es) (olds := []) (news := news) (w := w) (M := M0) (sz := ar P e) ⟨by simp, by simp⟩ n3 (by simp) ((Builtin.zeroCells z.cells (cp - (0 + es.length))).toList)
    simpa [vs] using this) hvl (by omega) (by simp) (by simp)
   (fun j => by have := cell_of_row ((w.alloc (.cells #[] e)).drew.alloc (.cells vs.toArray e)) (w.alloc (.cells #[] e)).heap.size j vs.toArray e (0, 0) hblk; exact this.trans (List.getElem?_toArray ..))
   (fun j _ => by show World.frozen? _ _ = false; unfold World.frozen?; simp only [hblk]; simp)
   ((hfr1.trans (Fr.drew _ (fun _ _ => False)) (fun _ _ h => h) (fun _ _ h => h.elim)).trans (Fr.alloc _ _ _ (fun _ _ => False)) (fun _ _ h => h) (fun _ _ h => h.elim)) (fun _ => fK (w.alloc (.cells #[] e)).drew _ _)
  rw [Nat.zero_add]
  exact hres
def iW (P : Program) (e : TypeId) : List TV -> Option (RT)
 | [.pv (.sl es)] => if es.length * dM P e <= du /\ es.length <= bz /\ cg (ar P e) es then some ([.own (ar P e) es], []) else none
 | _ => none
end Go.Proofs.YtcoikmicjbppmaaGreat.Vm
namespace Go.Proofs.YtcoikmicjbppmaaGreat.Vm
open Go Go.RowKit
set_option linter.unusedVariables false
set_option linter.unusedSimpArgs false
def ti (P : Program) (e : TypeId) : List TV -> Option (RT)
 | [.pv .nilSlc, .pv (.int .i64 n)] => if 0 < ar P e /\ 0 <= n /\ n.toNat * dM P e <= du /\ n.toNat <= 4611686018427387904 then some ([.own (ar P e) []], []) else none
 | _ => none
theorem rC {P : Program} {ms : List Mode} {f : FuncId} {e : TypeId} (hen : ∀ args w, (callFunc f args).run P w = .ok (.enter f args) w)
  (hroomC : ∀ (base : Option Addr) (l c n : Nat) (w : World), l <= c -> c <= 9223372036854775807 -> n <= 9223372036854775807 -> l + n <= c -> Calls P f #[.slice base l c, .int .i64 n] w fun x w' => x = .returned (.slice base l c) /\ w' = w)
  (hnewC : ∀ (i0 : TypeInfo) (z : Value), P.info? e = some i0 -> i0.zero = some z -> 0 < i0.size -> ∀ (base : Option Addr) (l c n : Nat) (cs : List Value) (w : World), l <= c -> c < l + n -> (l + n) * i0.bytes <= 140737488355328 -> l + n <= 4611686018427387904 →
   cs.length = c * i0.size -> (base = none -> c = 0) -> (∀ a, base = some a -> ∀ j v, cs[j]? = some v -> w.cell? (a.add j) = some v) -> Calls P f #[.slice base l c, .int .i64 n] w fun x w' =>
    x = .returned (.slice (some ⟨w.heap.size, 0, none⟩) l (grownCap w (l + n) c e)) /\ w' = w.drew.alloc (.cells (cs.toArray ++ Builtin.zeroCells z.cells (l + n - c) ++ Builtin.zeroCells z.cells (grownCap w (l + n) c e - (l + n))) e))
  (hz : (eO P e).isSome = true) {ag rs fs : List TV} (h : ti P e ag = some (rs, fs)) : br P ms f ag rs fs := by
 unfold ti at h
 split at h
 ·rename_i n
  split at h
  ·rename_i hc
   obtain ⟨h0, hn, hbig, h63⟩ := hc
   simp only [Option.some.injEq, Prod.mk.injEq] at h; obtain ⟨rfl, rfl⟩ := h
   refine hU (xs := [.nilSlc, .int .i64 n]) ?_
   intro w M0 cs hx hold
   simp only [f7, bp] at hx
   obtain ⟨c, r, rfl, rfl, c2, r2, rfl, rfl, rfl⟩ := hx
   obtain ⟨zv, hz⟩ := Option.isSome_iff_exists.1 hz
   obtain ⟨i, z, hi, hzz, hzl, hl⟩ := ec hz
   have hst : ar P e = i.size := by simp [ar, hi]
   have hbt : dM P e = i.bytes := by simp [dM, hi]
   obtain ⟨m, rfl⟩ : ∃ m : Nat, n = m := ⟨n.toNat, by omega⟩
   rw [Int.toNat_natCast] at hbig h63
   unfold cT
   rw [hen]
   simp only
   by_cases hm : m = 0
   ·subst hm
    refine (hroomC none 0 0 0 w (by omega) (by omega) (by omega) (by omega)).mono ?_
    rintro x w' ⟨rfl, rfl⟩
    exact ⟨_, rfl, nS h0⟩
   ·refine (hnewC i z hi hzz (by omega) none 0 0 m [] w (by omega) (by omega) (by rw [Nat.zero_add, <- hbt]; unfold du at hbig; exact hbig) (by omega) (by simp) (fun _ => rfl) (by simp)).mono ?_
    rintro x w' ⟨rfl, rfl⟩
    refine ⟨_, rfl, ?_⟩
    have hcp : 0 + m <= grownCap w (0 + m) 0 e := grownCap_ge _ _ _ _
    generalize grownCap w (0 + m) 0 e = cp at hcp
    let vs : List Value := (Builtin.zeroCells z.cells (0 + m - 0)).toList ++ (Builtin.zeroCells z.cells (cp - (0 + m))).toList
    have hvs : (([] : List Value).toArray ++ Builtin.zeroCells z.cells (0 + m - 0) ++ Builtin.zeroCells z.cells (cp - (0 + m))) = vs.toArray := by
     apply Array.ext'; simp [vs]
    rw [hvs]
    have hzs' : z.cells.size = ar P e := by rw [<- hl, <- hzl]; simp
    have hvl : vs.length = cp * ar P e := by
     simp only [vs, List.length_append, Array.length_toList, size_zeroCells, hzs', <- Nat.add_mul]
     congr 1; omega
    have hblk : (w.drew.alloc (.cells vs.toArray e)).heap[w.heap.size]? = some (.cells vs.toArray e (0, 0)) := heap_alloc_new w.drew _
    exact iG (w := w) (w' := w.drew.alloc (.cells vs.toArray e)) (g := w.heap.size) (vs := vs) (cap := cp) (es := []) hold h0 ⟨by simp, by simp⟩ hvl (by simp) (Nat.le_refl _) (by simp)
     (fun j => by have := cell_of_row (w.drew.alloc (.cells vs.toArray e)) w.heap.size j vs.toArray e (0, 0) hblk; exact this.trans (List.getElem?_toArray ..))
     (fun j _ => by show World.frozen? _ _ = false; unfold World.frozen?; simp only [hblk]; simp)
     ((Fr.drew w (fun _ _ => False)).trans (Fr.alloc _ _ _ (fun _ _ => False)) (fun _ _ h => h) (fun _ _ h => h.elim)) (fun _ => fK w.drew _ _)
  ·exact absurd h (by simp)
 ·exact absurd h (by simp)
end Go.Proofs.YtcoikmicjbppmaaGreat.Vm
namespace Go.Proofs.YtcoikmicjbppmaaGreat.Vm
open Go Go.RowKit
set_option linter.unusedVariables false
set_option linter.unusedSimpArgs false
def good : RT := ([.pv (.bool true)], [])
def ep : ay := fun _ _ => False
theorem nt {w : World} : ∀ {xs : List PV} {cs : List Value}, f7 w ep xs cs -> aX w ep (xs.map .pv) (xs.map fun _ => .none) cs
 | [], cs, h => by
  simp only [f7] at h; subst h; simp [aX]
 | x :: xs, cs, h => by
  simp only [f7] at h
  obtain ⟨c, r, rfl, h1, h2⟩ := h
  simp only [List.map_cons, aX]
  exact ⟨_, _, _, _, rfl, rfl, by rw [cY]; exact ⟨rfl, h1⟩, nt h2⟩
theorem zd {C : Cx} {f : FuncId} {fn : Func} {xs : List PV} {ms : List Mode} {fs : List TV} {w : World} {args : List Value} (hprog : og C.P = true) (hf : C.P.funcs[f]? = some fn) (hb : fn.body.isSome = true)
  (hc : br C.P ms f (xs.map .pv) [.pv (.bool true)] fs) (hr : f7 w ep xs args) : Calls C.P f args.toArray w fun e w' => e = .returned (.bool true) /\ Below w.heap.size w w' := by
 obtain ⟨c, hb⟩ := Option.isSome_iff_exists.1 hb
 have hl : LT.locsL (xs.map fun _ => LT.none) = [] := i4 xs
 have hH : Handed ep w (xs.map .pv) (xs.map fun _ => .none) args := by
  refine ⟨?_, by rw [hl]; exact List.Pairwise.nil, fun l h => by rw [hl] at h; simp at h, fun b j h => h.elim⟩
  have : cellsOf ep (LT.locsL (xs.map fun _ => LT.none)) = ep := by
   funext b j; simp [cellsOf, hl]
  rw [this]; exact nt hr
 have h := hc ep w _ args hH
 unfold cT at h
 rw [ng hprog hf hb] at h
 refine Calls.mono h ?_
 rintro e w' ⟨v, rfl, vs, lrs, lfs, rfl, h1, h2, h3, h4, h5, h6⟩
 simp only [aX, cY, bp] at h1
 obtain ⟨t, r, c', d, rfl, rfl, ⟨rfl, rfl⟩, h7⟩ := h1
 obtain ⟨rfl, rfl⟩ := h7
 refine ⟨rfl, h6.os, h6.tape, h6.output, h6.size, fun b hb => h6.block b hb fun j v hv hx => ?_⟩
 obtain ⟨l, hl', _⟩ := hx
 rw [hl] at hl'; simp at hl'
def aZ (l : List (FuncId × (List TV -> Option Alts))) : Specs := fun f => cB f l
def ph (C : Cx) (l : List (FuncId × (List TV -> Option Alts))) : Prop := ∀ p ∈ l, ∀ ag al, p.2 ag = some al -> ∀ a ∈ al, a.1 -> Ev C p.1 ag a.2
theorem az {C : Cx} {l : List (FuncId × (List TV -> Option Alts))} (h : ph C l) : aK C (aZ l) := fun f g hf ag al hl a ha hp => h (f, g) (dX hf) ag al hl a ha hp
theorem ax {C : Cx} : ph C [] := by intro p hp; simp at hp
theorem am {C : Cx} {f : FuncId} {g : List TV -> Option Alts} {l : List (FuncId × (List TV -> Option Alts))} (h1 : ∀ ag al, g ag = some al -> ∀ a ∈ al, a.1 -> Ev C f ag a.2) (h2 : ph C l) : ph C ((f, g) :: l) := by
 intro p hp
 rcases List.mem_cons.1 hp with rfl | hp
 ·exact h1
 ·exact h2 p hp
def one (p : Prop) (r : RT) : Option Alts := some [(p, r)]
theorem aD {p : Prop} {r : RT} {al : Alts} (h : one p r = some al) {a : Prop × RT} (ha : a ∈ al) : a = (p, r) := by
 simp only [one, Option.some.injEq] at h; subst h; simpa using ha
theorem lN {C : Cx} {f : FuncId} {g : List TV -> Option (RT)} {ag : List TV} {r : RT} (h : C.ext f = some g) (k : g ag = some r) : Ev C f ag r := Ev.of (k := 1) (by simp only [cS, h]; exact k)
theorem JQ {C : Cx} {S : Specs} {f : FuncId} {ag : List TV} {R : RT} {h : H} (hS : aK C S) (k : bq C S f ag (fun r => r = R) h) : Ev C f ag R := by
 obtain ⟨r, h, rfl⟩ := vt hS k; exact h
end Go.Proofs.YtcoikmicjbppmaaGreat.Vm
namespace Go.Proofs.YtcoikmicjbppmaaGreat.Vm
open Go Go.RowKit
set_option linter.unusedVariables false
set_option linter.unusedSimpArgs false
end Go.Proofs.YtcoikmicjbppmaaGreat.Vm
namespace Go.Proofs.YtcoikmicjbppmaaGreat.Vm
open Go Go.RowKit
set_option linter.unusedVariables false
set_option linter.unusedSimpArgs false
theorem AB {w w' : World} (h : Below w.heap.size w w') : Fr (fun _ _ => False) w w' := by
 refine ⟨h.os, h.tape, h.output, h.size, fun b hb _ => h.block b hb, fun b j hb _ => ?_, fun b T hs => ?_, fun b T n hs hz => ?_⟩
 ·have := h.block b hb
  constructor
  ·unfold at_ World.cell?; simp only [this]
  ·unfold cK World.frozen?; simp only [this]
 ·have hb : b < w.heap.size := by
   unfold World.shape? at hs
   rcases Nat.lt_or_ge b w.heap.size with hb | hb
   ·exact hb
   ·rw [Array.getElem?_eq_none hb] at hs; simp at hs
  have := h.block b hb
  unfold World.shape? at hs ⊢
  rw [this]; exact hs
 ·have := h.block b (jd hs)
  unfold cK World.frozen? at hz ⊢
  rw [this]; exact hz
theorem qc {P : Program} {ms : List Mode} {f : FuncId} {xs rs : List PV}
  (h : ∀ w M0 cs, f7 w M0 xs cs -> cT P f cs.toArray w fun v w' => ∃ vs, v = rt vs /\ (∀ M', f7 w' M' rs vs) /\ Below w.heap.size w w') : br P ms f (xs.map .pv) (rs.map .pv) [] := by
 intro M0 w ts args hH
 obtain ⟨hx, hl0⟩ := nu hH.tv
 have hlen := lw hH.tv
 have hlc := aX.length hH.tv
 refine (h w M0 args (qU (fun b j h => .inl h) hx)).mono ?_
 rintro v w' ⟨vs, rfl, h2, hB⟩
 refine ⟨vs, rs.map (fun _ => .none), [], rfl, wK (h2 _), pn (by simpa using hlen) (by simpa using hlc), by simp [fu, i4], ?_, ?_, (AB hB).mono (fun _ _ h => h.elim)⟩
 ·intro l hl; simp [i4] at hl
 ·intro l hl
  have e : bQ ([] : List TV) ([] : List LT) = [] := rfl
  simp [i4, e] at hl
def kJ : LP -> Option (List (BS))
 | [] => some []
 | [.str s] :: r => match kJ r with | some l => some (s :: l) | none => none
 | _ => none
def ak (s : BS) : List PV := [.str s]
theorem ou : ∀ {es : LP} {l : List (BS)}, kJ es = some l -> es = l.map ak
 | [], l, h => by simp only [kJ, Option.some.injEq] at h; subst h; rfl
 | e :: r, l, h => by
  unfold kJ at h
  split at h
  ·simp only [Option.some.injEq] at h; subst h; simp at *
  ·rename_i s r' heq
   simp only [List.cons.injEq] at heq
   obtain ⟨rfl, rfl⟩ := heq
   split at h
   ·rename_i l' h'
    simp only [Option.some.injEq] at h; subst h
    rw [List.map_cons, <- ou h']; rfl
   ·exact absurd h (by simp)
  ·exact absurd h (by simp)
theorem mi : ∀ l : List (BS), kJ (l.map ak) = some l
 | [] => rfl
 | s :: l => by simp [kJ, ak, mi l]
def nD : List TV -> Option (RT)
 | [.pv (.str a), .pv (.str b)] => some ([.pv (.int .i64 (Lib.compareBytes a b))], [])
 | _ => none
theorem yS {P : Program} {f : FuncId} (hrun : ∀ args w, (callFunc f args).run P w = .ok (.enter f args) w)
  (hc : ∀ (a b : ByteArray) (w : World), Calls P f #[.string a, .string b] w fun e w' => e = .returned (.int .i64 (Lib.compareBytes a.data.toList b.data.toList)) /\ w' = w)
  (ms : List Mode) (ag rs fs : List TV) (h : nD ag = some (rs, fs)) : br P ms f ag rs fs := by
 unfold nD at h
 split at h
 ·rename_i a b
  simp only [Option.some.injEq, Prod.mk.injEq] at h; obtain ⟨rfl, rfl⟩ := h
  refine qc (xs := [.str a, .str b]) (rs := [.int .i64 (Lib.compareBytes a b)]) ?_
  intro w M0 cs hx
  simp only [f7, bp] at hx
  obtain ⟨c, r, rfl, rfl, d, r', rfl, rfl, rfl⟩ := hx
  unfold cT
  rw [hrun]
  refine (hc ⟨a.toArray⟩ ⟨b.toArray⟩ w).mono ?_
  rintro e w' ⟨rfl, rfl⟩
  exact ⟨_, rfl, [.int .i64 (Lib.compareBytes a b)], by simp [rt], fun M' => by simp [f7, bp], Below.refl _ _⟩
 ·exact absurd h (by simp)
theorem tD {P : Program} {ms : List Mode} {f : FuncId} {sz : Nat} {es es' : LP} (hms : ms.headD .borrow = .mut)
  (h : ∀ (w : World) (M : ay) (l : Loc), cJ (fun _ => l) w M l (.buf sz es) -> (∀ b j, l.F b j -> M b j) -> (∀ b j, l.F b j -> b < w.heap.size) -> cT P f #[l.hdr] w fun v w' => v = .tuple #[] /\ Fr l.F w w' /\ cJ (fun _ => l) w' M l (.buf sz es')) : br P ms f [.own sz es] [] [.own sz es'] := by
 intro M0 w ts args hH
 have htv := hH.tv
 simp only [aX, cY] at htv
 obtain ⟨t, r, c, d, rfl, rfl, ⟨l, rfl, rfl, hO⟩, rfl, rfl⟩ := htv
 have hlocs : LT.locsL [LT.one l] = [l] := rfl
 have hout := hH.out
 rw [hlocs] at hout hO
 refine (h w _ l hO (fun b j hb => .inr ⟨l, by simp, hb⟩) (fun b j hb => (hout l (by simp) b j hb).2)).mono ?_
 rintro v w' ⟨rfl, hfr, hO'⟩
 have hl2 : LT.locsL ([] ++ [LT.one l]) = [l] := rfl
 refine ⟨[], [], [.one l], rfl, by simp [aX], ?_, by rw [hl2]; simp [fu], ?_, ?_, ?_⟩
 ·simp only [cX]
  refine ⟨_, _, _, _, rfl, rfl, ?_⟩
  rw [if_pos hms]
  refine ⟨es', [], [], rfl, rfl, ?_, rfl, rfl⟩
  simp only [cY]
  exact ⟨l, rfl, rfl, by rw [hl2]; exact hO'⟩
 ·intro l1 hl1 b j hb
  rw [hl2] at hl1
  simp only [List.mem_singleton] at hl1
  subst hl1
  have := hout l1 (by simp) b j hb
  exact ⟨this.1, by have := hfr.size; omega, .inr ⟨l1, by rw [hlocs]; simp, hb⟩⟩
 ·intro l1 hl1
  have e : LT.locsL [] ++ bQ [TV.own sz es'] [LT.one l] = [] := rfl
  rw [e] at hl1
  simp at hl1
 ·exact hfr.mono fun b j hb => ⟨l, by rw [hlocs]; simp, hb⟩
theorem hX {P : Program} {ms : List Mode} {f : FuncId} {sz : Nat} {es es' : LP} {xs : List PV} (hms : ms.headD .borrow ≠ .mut)
  (h : ∀ (w : World) (M0 : ay) (l : Loc) (cs : List Value), cJ (fun _ => l) w (fun b j => M0 b j ∨ l.F b j) l (.buf sz es) -> f7 w (fun b j => M0 b j ∨ l.F b j) xs cs -> (∀ b j, l.F b j -> ¬ M0 b j /\ b < w.heap.size) -> (∀ b j, M0 b j -> b < w.heap.size) →
   cT P f (l.hdr :: cs).toArray w fun v w' => ∃ l' : Loc, v = l'.hdr /\ cJ (fun _ => l') w' (fun b j => M0 b j ∨ l'.F b j) l' (.buf sz es') /\ (∀ b j, l'.F b j -> (w.heap.size <= b /\ b < w'.heap.size) ∨ l.F b j) /\ Fr l.F w w') : br P ms f (.own sz es :: xs.map .pv) [.own sz es'] [] := by
 intro M0 w ts args hH
 have htv := hH.tv
 have hA := htv
 simp only [aX, cY] at hA
 obtain ⟨t, r, c, d, rfl, rfl, ⟨l, rfl, rfl, hO⟩, hr⟩ := hA
 obtain ⟨hx, hl0⟩ := nu hr
 have hlen := lw hr
 have hlc := aX.length hr
 have hlocs : LT.locsL (LT.one l :: r) = [l] := by simp only [LT.locsL, LT.locs, hl0, List.append_nil]
 have hout := hH.out
 rw [hlocs] at hout hO hx
 have hcell : cellsOf M0 [l] = fun b j => M0 b j ∨ l.F b j := by
  funext b j
  simp [cellsOf]
 rw [hcell] at hO hx
 refine (h w M0 l d hO hx (fun b j hb => hout l (by simp) b j hb) hH.old).mono ?_
 rintro v w' ⟨l', rfl, hO', hF, hfr⟩
 have hl2 : LT.locsL ([LT.one l'] ++ []) = [l'] := rfl
 refine ⟨[l'.hdr], [.one l'], [], rfl, ?_, ?_, by rw [hl2]; simp [fu], ?_, ?_, ?_⟩
 ·rw [hl2]
  have hcell' : cellsOf M0 [l'] = fun b j => M0 b j ∨ l'.F b j := by
   funext b j
   simp [cellsOf]
  simp only [aX, cY]
  exact ⟨.one l', [], l'.hdr, [], rfl, rfl, ⟨l', rfl, rfl, by rw [hcell']; exact hO'⟩, rfl, rfl⟩
 ·simp only [cX]
  refine ⟨_, _, _, _, rfl, rfl, ?_⟩
  rw [if_neg hms]
  exact pn (by simpa using hlen) (by simpa using hlc)
 ·intro l1 hl1 b j hb
  rw [hl2] at hl1
  simp only [List.mem_singleton] at hl1
  subst hl1
  rcases hF b j hb with h1 | h1
  ·exact ⟨fun h0 => by have := hH.old b j h0; omega, h1.2, .inl h1.1⟩
  ·have := hout l (by simp) b j h1
   exact ⟨this.1, by have := hfr.size; omega, .inr ⟨l, by rw [hlocs]; simp, h1⟩⟩
 ·intro l1 hl1 b j hb
  have e : LT.locsL [LT.one l'] ++ bQ [] [] = [l'] := rfl
  rw [e] at hl1
  simp only [List.mem_singleton] at hl1
  subst hl1
  rcases hF b j hb with h1 | h1
  ·exact .inl h1.1
  ·refine .inr ⟨l, ?_, h1⟩
   simp only [cD]
   rw [if_neg hms]
   simp [LT.locs]
 ·exact hfr.mono fun b j hb => ⟨l, by rw [hlocs]; simp, hb⟩
end Go.Proofs.YtcoikmicjbppmaaGreat.Vm
namespace Go.Proofs
open Go.Shelf
set_option maxRecDepth 100000
def Tryz.lays190_ren : Go.Shelf.Ren := ⟨fun | 190 => 108 | 125 => 113 | 258 => 112 | 128 => 124 | 129 => 125 | 302 => 115 | 303 => 116 | 304 => 117 | 305 => 118 | 306 => 119 | 307 => 120 | 308 => 121 | 309 => 122 | 310 => 123 | 333 => 126 | 329 => 127 | 330 => 128 | 334 => 129 | 335 => 130 | 336 => 131 | 344 => 132 | n => n, fun | 31 => 22 | 9 => 9 | 3 => 3 | 46 => 117 | 0 => 0 | 51 => 141 | 53 => 143 | 4 => 4 | 183 => 134 | 182 => 133 | 131 => 64 | 5 => 5 | 218 => 144 | 222 => 148 | 228 => 151 | 229 => 152 | n => n, fun | n => n⟩
theorem Tryz.lays190 : Go.Proofs.Lays.n190 Tryz.prog Tryz.lays190_ren := {
 mixed := by kernel_rfl
 f125 := Tryz.func113.trans (congrArg some (by kernel_rfl))
 f128 := Tryz.func124.trans (congrArg some (by kernel_rfl))
 f129 := Tryz.func125.trans (congrArg some (by kernel_rfl))
 f190 := Tryz.func108.trans (congrArg some (by kernel_rfl))
 f258 := Tryz.func112.trans (congrArg some (by kernel_rfl))
 f302 := Tryz.func115.trans (congrArg some (by kernel_rfl))
 f303 := Tryz.func116.trans (congrArg some (by kernel_rfl))
 f304 := Tryz.func117.trans (congrArg some (by kernel_rfl))
 f305 := Tryz.func118.trans (congrArg some (by kernel_rfl))
 f306 := Tryz.func119.trans (congrArg some (by kernel_rfl))
 f307 := Tryz.func120.trans (congrArg some (by kernel_rfl))
 f308 := Tryz.func121.trans (congrArg some (by kernel_rfl))
 f309 := Tryz.func122.trans (congrArg some (by kernel_rfl))
 f310 := Tryz.func123.trans (congrArg some (by kernel_rfl))
 f329 := Tryz.func127.trans (congrArg some (by kernel_rfl))
 f330 := Tryz.func128.trans (congrArg some (by kernel_rfl))
 f333 := Tryz.func126.trans (congrArg some (by kernel_rfl))
 f334 := Tryz.func129.trans (congrArg some (by kernel_rfl))
 f335 := Tryz.func130.trans (congrArg some (by kernel_rfl))
 f336 := Tryz.func131.trans (congrArg some (by kernel_rfl))
 f344 := Tryz.func132.trans (congrArg some (by kernel_rfl))
 t0 := Tryz.underlying0
 a0 := Tryz.isAgg0
 z0 := Tryz.sizeOf0
 v0 := Tryz.zeroValue0
 t3 := Tryz.underlying3
 a3 := Tryz.isAgg3
 z3 := Tryz.sizeOf3
 v3 := Tryz.zeroValue3
 t4 := Tryz.underlying4
 a4 := Tryz.isAgg4
 z4 := Tryz.sizeOf4
 v4 := Tryz.zeroValue4
 t5 := Tryz.underlying5
 a5 := Tryz.isAgg5
 z5 := Tryz.sizeOf5
 v5 := Tryz.zeroValue5
 t9 := Tryz.underlying9
 a9 := Tryz.isAgg9
 z9 := Tryz.sizeOf9
 v9 := Tryz.zeroValue9
 t31 := Tryz.underlying22
 a31 := Tryz.isAgg22
 z31 := Tryz.sizeOf22
 v31 := Tryz.zeroValue22
 t46 := Tryz.underlying117
 a46 := Tryz.isAgg117
 z46 := Tryz.sizeOf117
 v46 := Tryz.zeroValue117
 t51 := Tryz.underlying141
 a51 := Tryz.isAgg141
 z51 := Tryz.sizeOf141
 v51 := Tryz.zeroValue141
 t53 := Tryz.underlying143
 a53 := Tryz.isAgg143
 z53 := Tryz.sizeOf143
 v53 := Tryz.zeroValue143
 t131 := Tryz.underlying64
 a131 := Tryz.isAgg64
 z131 := Tryz.sizeOf64
 v131 := Tryz.zeroValue64
 t182 := Tryz.underlying133
 a182 := Tryz.isAgg133
 z182 := Tryz.sizeOf133
 v182 := Tryz.zeroValue133
 t183 := Tryz.underlying134
 a183 := Tryz.isAgg134
 z183 := Tryz.sizeOf134
 v183 := Tryz.zeroValue134
 t218 := Tryz.underlying144
 a218 := Tryz.isAgg144
 z218 := Tryz.sizeOf144
 v218 := Tryz.zeroValue144
 t222 := Tryz.underlying148
 a222 := Tryz.isAgg148
 z222 := Tryz.sizeOf148
 v222 := Tryz.zeroValue148
 t228 := Tryz.underlying151
 a228 := Tryz.isAgg151
 z228 := Tryz.sizeOf151
 v228 := Tryz.zeroValue151
 t229 := Tryz.underlying152
 a229 := Tryz.isAgg152
 z229 := Tryz.sizeOf152
 v229 := Tryz.zeroValue152 }
open Go.Sort Go.RowKit in
theorem Tryz.slices_Sort_string (blk off cap : Nat) (ss : List (List UInt8)) (w : World) (hH : Holds encStr w blk off ss.toArray) (hblk : blk < w.heap.size) (hsz : ss.length < 4611686018427387904) :
  Calls Tryz.prog 108 #[.slice (some ⟨blk, off, none⟩) ss.length cap] w fun e w' =>
   e = .returned (.tuple #[]) /\ ∃ n os, w' = grow (putRow encStr (Sort.ahead w n) blk off (ss.mergeSort fun x y => decide (x <= y)).toArray) os := Any.slices_Sort_string Tryz.lays190 blk off cap ss w hH hblk hsz
open Go.RowKit Go.Sort in
theorem Tryz.slices_Sort_string_none (p : Option Addr) (cap : Nat) (w : World) :
  Calls Tryz.prog 108 #[.slice p 0 cap] w fun e w' => e = .returned (.tuple #[]) /\ w' = w := Any.slices_Sort_string_none Tryz.lays190 p cap w
def Tryz.lays194_ren : Go.Shelf.Ren := ⟨fun | 194 => 109 | n => n, fun | 31 => 22 | 9 => 9 | 3 => 3 | 4 => 4 | 0 => 0 | n => n, fun | n => n⟩
theorem Tryz.lays194 : Go.Proofs.Lays.n194 Tryz.prog Tryz.lays194_ren := {
 mixed := by kernel_rfl
 f194 := Tryz.func109.trans (congrArg some (by kernel_rfl))
 t0 := Tryz.underlying0
 a0 := Tryz.isAgg0
 z0 := Tryz.sizeOf0
 v0 := Tryz.zeroValue0
 t3 := Tryz.underlying3
 a3 := Tryz.isAgg3
 z3 := Tryz.sizeOf3
 v3 := Tryz.zeroValue3
 t4 := Tryz.underlying4
 a4 := Tryz.isAgg4
 z4 := Tryz.sizeOf4
 v4 := Tryz.zeroValue4
 t9 := Tryz.underlying9
 a9 := Tryz.isAgg9
 z9 := Tryz.sizeOf9
 v9 := Tryz.zeroValue9
 t31 := Tryz.underlying22
 a31 := Tryz.isAgg22
 z31 := Tryz.sizeOf22
 v31 := Tryz.zeroValue22 }
open Go.RowKit Go.Lib Go.Sort in
theorem Tryz.slices_Compact_string (blk off cap : Nat) (zs : List (List UInt8)) (w : World) (hH : Holds encStr w blk off zs.toArray) (hsz : zs.length <= 9223372036854775807) (hcap : zs.length <= cap) :
  Calls Tryz.prog 109 #[.slice (some ⟨blk, off, none⟩) zs.length cap] w fun e w' => e = .returned (.slice (some ⟨blk, off, none⟩) (Lib.compact zs).length cap) /\ ∃ q, w' = putRow encStr (Sort.ahead w q) blk off (Lib.compact zs ++ List.replicate (zs.length - (Lib.compact zs).length) []).toArray := Any.slices_Compact_string Tryz.lays194 blk off cap zs w hH hsz hcap
open Go.RowKit Go.Lib Go.Sort in
theorem Tryz.slices_Compact_string_empty (a : Option Addr) (cap : Nat) (w : World) :
  Calls Tryz.prog 109 #[.slice a 0 cap] w fun e w' => e = .returned (.slice a 0 cap) /\ w' = w := Any.slices_Compact_string_empty Tryz.lays194 a cap w
def Tryz.lays106_ren : Go.Shelf.Ren := ⟨fun | 106 => 83 | 213 => 97 | 265 => 105 | n => n, fun | 9 => 9 | 3 => 3 | n => n, fun | n => n⟩
theorem Tryz.lays106 : Go.Proofs.Lays.n106 Tryz.prog Tryz.lays106_ren := {
 mixed := by kernel_rfl
 f106 := Tryz.func83.trans (congrArg some (by kernel_rfl))
 f213 := Tryz.func97.trans (congrArg some (by kernel_rfl))
 f265 := Tryz.func105.trans (congrArg some (by kernel_rfl))
 t3 := Tryz.underlying3
 a3 := Tryz.isAgg3
 z3 := Tryz.sizeOf3
 v3 := Tryz.zeroValue3
 t9 := Tryz.underlying9
 a9 := Tryz.isAgg9
 z9 := Tryz.sizeOf9
 v9 := Tryz.zeroValue9 }
open Go.RowKit in
theorem Tryz.strings_Compare (a b : ByteArray) (w : World) :
  Calls Tryz.prog 83 #[.string a, .string b] w fun e w' => e = .returned (.int .i64 (Lib.compareBytes a.data.toList b.data.toList)) /\ w' = w := Any.strings_Compare Tryz.lays106 a b w
end Go.Proofs
namespace Go.Proofs.YtcoikmicjbppmaaGreat.Vm
open Go Go.RowKit
set_option linter.unusedVariables false
set_option linter.unusedSimpArgs false
open Go.Sort in
theorem lU {w : World} {M : ay} {l : Loc} {b o : Nat} {ss : List (BS)} (hO : cJ (fun _ => l) w M l (.buf 1 (ss.map ak))) (hb : l.base = some (b, o)) : Go.Sort.Holds encStr w b o ss.toArray := by
 simp only [cJ] at hO
 obtain ⟨h1, h2, h3, h4, h5, h6, h7, h8, h9⟩ := hO
 obtain ⟨k1, k2⟩ := h9 b o hb
 rw [List.length_map] at h3
 intro j hj
 have hj' : j < ss.length := by simpa using hj
 refine ⟨?_, (k1 j (by omega)).2⟩
 obtain ⟨vs, hv, hc⟩ := k2 j (ak ss[j]) (by rw [List.getElem?_map, List.getElem?_eq_getElem hj']; rfl)
 simp only [ak, RepS, bp] at hv
 obtain ⟨c, r, rfl, _, rfl, rfl⟩ := hv
 have := hc 0 _ rfl
 rw [Nat.mul_one, Nat.add_zero] at this
 rw [getElem!_pos _ j hj]
 have this : w.cell? ⟨b, o + j, none⟩ = some (.string ⟨ss[j].toArray⟩) := this
 simpa [encStr] using this
open Go.Sort in
theorem sf {w : World} {D : ay} {b o n : Nat} {d : Array (BS)} {os : Array Go.Obj} (hD : ∀ j, j < d.size -> D b (o + j)) (hd0 : 0 < d.size) (hat : ∀ j, j < d.size -> ∃ v, at_ w b (o + j) = some v) (hb : b < w.heap.size) : Fr D w (grow (putRow encStr (Go.Sort.ahead w n) b o d) os) where
 os := rfl
 tape := rfl
 output := rfl
 size := by simp [Go.Sort.ahead]
 block := fun x hx hno => by
  have hne : x ≠ b := by
   rintro rfl
   obtain ⟨v, hv⟩ := hat 0 hd0
   exact hno _ v hv (hD 0 hd0)
  simp only [grow, putRow, mapBlock, Go.Sort.ahead]
  rw [Array.getElem?_append_left (by simpa using hx), Array.getElem?_modify, if_neg (fun e => hne e.symm)]
 cell := fun x j hx hnd => by
  have hc : (grow (putRow encStr (Go.Sort.ahead w n) b o d) os).cell? ⟨x, j, none⟩ = w.cell? ⟨x, j, none⟩ := by
   have e1 : (grow (putRow encStr (Go.Sort.ahead w n) b o d) os).cell? ⟨x, j, none⟩ = (putRow encStr (Go.Sort.ahead w n) b o d).cell? ⟨x, j, none⟩ := by
    simp only [World.cell?, grow]
    rw [Array.getElem?_append_left (by simpa [Go.Sort.ahead] using hx)]
   rw [e1, cell?_putRow_other]
   ·rfl
   ·by_cases h1 : x = b
    ·subst h1
     right
     rcases Nat.lt_or_ge j o with h2 | h2
     ·exact .inl h2
     ·rcases Nat.lt_or_ge j (o + d.size) with h3 | h3
      ·exact absurd (by have := hD (j - o) (by omega); rwa [show o + (j - o) = j by omega] at this) hnd
      ·exact .inr h3
    ·exact .inl h1
  have hf : (grow (putRow encStr (Go.Sort.ahead w n) b o d) os).frozen? ⟨x, j, none⟩ = w.frozen? ⟨x, j, none⟩ := by
   have e1 : (grow (putRow encStr (Go.Sort.ahead w n) b o d) os).frozen? ⟨x, j, none⟩ = (putRow encStr (Go.Sort.ahead w n) b o d).frozen? ⟨x, j, none⟩ := by
    simp only [World.frozen?, grow]
    rw [Array.getElem?_append_left (by simpa [Go.Sort.ahead] using hx)]
   rw [e1, frozen?_putRow]; rfl
  exact ⟨hc, hf⟩
 shape := fun x T hT => by
  have hx : x < w.heap.size := by
   unfold World.shape? at hT
   split at hT
   ·rename_i c e fz hh
    exact (Array.getElem?_eq_some_iff.1 hh).1
   ·exact absurd hT (by simp)
  simp only [World.shape?, grow, putRow, mapBlock, Go.Sort.ahead] at hT ⊢
  rw [Array.getElem?_append_left (by simpa using hx), Array.getElem?_modify]
  by_cases h : b = x
  ·subst h
   rw [if_pos rfl]
   cases hh : w.heap[b]? with
   | none => rw [hh] at hT; exact hT
   | some ob =>
    rw [hh] at hT
    cases ob <;> simp_all [putCells, onCells]
  ·rw [if_neg h]; exact hT
 mark := fun x T m hT hz => by
  have hx := jd hT
  have e1 : (grow (putRow encStr (Go.Sort.ahead w n) b o d) os).frozen? ⟨x, m, none⟩ = (putRow encStr (Go.Sort.ahead w n) b o d).frozen? ⟨x, m, none⟩ := by
   simp only [World.frozen?, grow]
   rw [Array.getElem?_append_left (by simpa [Go.Sort.ahead] using hx)]
  show World.frozen? _ _ = false
  rw [e1, frozen?_putRow]; exact hz
open Go.Sort in
theorem sS {w : World} {M M' : ay} {l l' : Loc} {b o n : Nat} {ss ts d : List (BS)} {os : Array Go.Obj} (hO : cJ (fun _ => l) w M l (.buf 1 (ss.map ak))) (hb : l.base = some (b, o)) (hl : d.length = ss.length) (ht : ts.length <= d.length) (hp : ∀ (j : Nat) s, ts[j]? = some s -> d[j]? = some s) (hw : b < w.heap.size) (hl' : l' = { l with len := ts.length }) :
  cJ (fun _ => l') (grow (putRow encStr (Go.Sort.ahead w n) b o d.toArray) os) M' l' (.buf 1 (ts.map ak)) := by
 have hH := lU hO hb
 subst hl'
 simp only [cJ] at hO ⊢
 obtain ⟨h1, h2, h3, h4, h5, h6, h7, h8, h9⟩ := hO
 rw [List.length_map] at h3
 have hcell : ∀ x, x.block = b -> (grow (putRow encStr (Go.Sort.ahead w n) b o d.toArray) os).cell? x = (putRow encStr (Go.Sort.ahead w n) b o d.toArray).cell? x := fun x hx => by
  simp only [World.cell?, grow]
  rw [Array.getElem?_append_left (by rw [hx]; simpa [Go.Sort.ahead] using hw)]
 have hfz : ∀ x, x.block = b -> (grow (putRow encStr (Go.Sort.ahead w n) b o d.toArray) os).frozen? x = w.frozen? x := fun x hx => by
  have : (grow (putRow encStr (Go.Sort.ahead w n) b o d.toArray) os).frozen? x = (putRow encStr (Go.Sort.ahead w n) b o d.toArray).frozen? x := by
   simp only [World.frozen?, grow]
   rw [Array.getElem?_append_left (by rw [hx]; simpa [Go.Sort.ahead] using hw)]
  rw [this, frozen?_putRow]; rfl
 have hin : ∀ j, j < d.length -> (grow (putRow encStr (Go.Sort.ahead w n) b o d.toArray) os).cell? ⟨b, o + j, none⟩ = some (encStr d.toArray[j]!) := fun j hj => by
  rw [hcell _ rfl, cell?_putRow encStr (Go.Sort.ahead w n) b o ss.toArray d.toArray (fun k hk => hH k hk) (by simpa using hl) j (by simpa using hj)]
 refine ⟨h1, h2, by rw [List.length_map], by omega, h5, ⟨h6.1, fun _ _ _ h => absurd h (by decide)⟩, h7, ?_, fun b1 o1 hb1 => ?_⟩
 ·intro e he
  obtain ⟨s, _, rfl⟩ := List.mem_map.1 he
  rfl
 ·rw [hb] at hb1
  simp only [Option.some.injEq, Prod.mk.injEq] at hb1
  obtain ⟨rfl, rfl⟩ := hb1
  obtain ⟨k1, k2⟩ := h9 b o hb
  refine ⟨fun j hj => ⟨?_, by show World.frozen? _ _ = false; rw [hfz _ rfl]; exact (k1 j hj).2⟩, fun i e he => ?_⟩
  ·rcases Nat.lt_or_ge j d.length with h | h
   ·exact ⟨_, hin j h⟩
   ·obtain ⟨c, hc⟩ := (k1 j hj).1
    refine ⟨c, ?_⟩
    show World.cell? _ _ = some c
    rw [hcell _ rfl, cell?_putRow_other]
    ·exact hc
    ·exact .inr (.inr (by simp; omega))
  ·rw [List.getElem?_map] at he
   cases hs : ts[i]? with
   | none => rw [hs] at he; simp at he
   | some s =>
    rw [hs] at he
    simp only [Option.map_some, Option.some.injEq] at he
    subst he
    have hd := hp i s hs
    have hi : i < d.length := (List.getElem?_eq_some_iff.1 hd).1
    refine ⟨[.string ⟨s.toArray⟩], ⟨.string ⟨s.toArray⟩, [], rfl, rfl, by simp [bp], by simp [RepS]⟩, fun j c hc => ?_⟩
    cases j with
    | zero =>
     simp only [List.getElem?_cons_zero, Option.some.injEq] at hc
     subst hc
     rw [Nat.mul_one, Nat.add_zero]
     show World.cell? _ _ = _
     rw [hin i hi, getElem!_pos _ i (by simpa using hi)]
     have : d[i] = s := by
      rw [List.getElem?_eq_getElem hi] at hd
      simpa using hd
     simp [encStr, this]
    | succ j => simp at hc
def eN (l : List (BS)) : List (BS) := l.mergeSort fun x y => decide (x <= y)
def tj : List TV -> Option (RT)
 | [.own 1 es] => match kJ es with
  | some l => if l.length <= 4000000 then some ([], [.own 1 ((eN l).map ak)]) else none
  | none => none
 | _ => none
def jm : List TV -> Option (RT)
 | [.own 1 es] => match kJ es with
  | some l => if l.length <= 4000000 then some ([.own 1 ((Lib.compact l).map ak)], []) else none
  | none => none
 | _ => none
open Go.Sort in
theorem Gu {P : Program} {f : FuncId} (hrun : ∀ args w, (callFunc f args).run P w = .ok (.enter f args) w)
  (hs : ∀ (blk off cap : Nat) (ss : List (BS)) (w : World), Go.Sort.Holds encStr w blk off ss.toArray -> blk < w.heap.size -> ss.length < 4611686018427387904 -> Calls P f #[.slice (some ⟨blk, off, none⟩) ss.length cap] w fun e w' => e = .returned (.tuple #[]) /\ ∃ n os, w' = grow (putRow encStr (Go.Sort.ahead w n) blk off (ss.mergeSort fun x y => decide (x <= y)).toArray) os)
  (hn : ∀ (p : Option Addr) (cap : Nat) (w : World), Calls P f #[.slice p 0 cap] w fun e w' => e = .returned (.tuple #[]) /\ w' = w)
  (ms : List Mode) (hms : ms.headD .borrow = .mut) (ag rs fs : List TV) (h : tj ag = some (rs, fs)) : br P ms f ag rs fs := by
 unfold tj at h
 split at h
 ·rename_i es
  split at h
  ·rename_i l hl
   split at h
   ·rename_i hlen
    simp only [Option.some.injEq, Prod.mk.injEq] at h; obtain ⟨rfl, rfl⟩ := h
    have he := ou hl
    subst he
    refine tD hms ?_
    intro w M lc hO hM hold
    unfold cT
    rw [hrun]
    have hO2 := hO
    simp only [cJ] at hO2
    obtain ⟨h1, h2, h3, h4, h5, h6, h7, h8, h9⟩ := hO2
    rw [List.length_map] at h3
    by_cases h0 : l = []
    ·subst h0
     have : lc.hdr = .slice (lc.base.map fun x => ⟨x.1, x.2, none⟩) 0 (if lc.base = none then 0 else lc.cap) := by
      unfold Loc.hdr
      cases hb : lc.base with
      | none => simp
      | some p => obtain ⟨b, o⟩ := p; simp [h3]
     rw [this]
     refine (hn _ _ w).mono ?_
     rintro e w' ⟨rfl, rfl⟩
     refine ⟨_, rfl, rfl, Fr.refl _ _, ?_⟩
     have : (eN []).map ak = ([] : List (BS)).map ak := by simp [eN]
     rw [this]; exact hO
    ·have hpos : 0 < l.length := by cases l with | nil => exact absurd rfl h0 | cons a l => simp
     cases hb : lc.base with
     | none => have := h7 hb; omega
     | some p =>
      obtain ⟨b, o⟩ := p
      have hk : lc.k = lc.cap := by omega
      have hF : ∀ j, j < lc.k -> lc.F b (o + j) := fun j hj => .inl ⟨o, hb, by omega, by omega⟩
      have hbw : b < w.heap.size := hold b (o + 0) (hF 0 (by omega))
      have hhdr : lc.hdr = .slice (some ⟨b, o, none⟩) l.length lc.cap := by unfold Loc.hdr; rw [hb, h3]
      rw [hhdr]
      refine (hs b o lc.cap l w (lU hO hb) hbw (by omega)).mono ?_
      rintro e w' ⟨rfl, n, os, rfl⟩
      have hsl : (eN l).length = l.length := by simp [eN]
      refine ⟨_, rfl, rfl, ?_, ?_⟩
      ·refine sf (fun j hj => hF j ?_) ?_ (fun j hj => ?_) hbw
       ·have : j < (eN l).length := by simpa [eN] using hj
        omega
       ·have : 0 < (eN l).length := by omega
        simpa [eN] using this
       ·have : j < (eN l).length := by simpa [eN] using hj
        exact ((h9 b o hb).1 j (by omega)).1
      ·exact sS (d := eN l) (ts := eN l) hO hb hsl (Nat.le_refl _) (fun j s hj => hj) hbw (by rw [hsl, <- h3])
   ·exact absurd h (by simp)
  ·exact absurd h (by simp)
 ·exact absurd h (by simp)
open Go.Sort in
theorem yR {P : Program} {f : FuncId} (hrun : ∀ args w, (callFunc f args).run P w = .ok (.enter f args) w)
  (hs : ∀ (blk off cap : Nat) (zs : List (BS)) (w : World), Go.Sort.Holds encStr w blk off zs.toArray -> zs.length <= 9223372036854775807 -> zs.length <= cap -> Calls P f #[.slice (some ⟨blk, off, none⟩) zs.length cap] w fun e w' => e = .returned (.slice (some ⟨blk, off, none⟩) (Lib.compact zs).length cap) /\ ∃ q, w' = putRow encStr (Go.Sort.ahead w q) blk off (Lib.compact zs ++ List.replicate (zs.length - (Lib.compact zs).length) []).toArray)
  (hn : ∀ (a : Option Addr) (cap : Nat) (w : World), Calls P f #[.slice a 0 cap] w fun e w' => e = .returned (.slice a 0 cap) /\ w' = w)
  (ms : List Mode) (hms : ms.headD .borrow ≠ .mut) (ag rs fs : List TV) (h : jm ag = some (rs, fs)) : br P ms f ag rs fs := by
 unfold jm at h
 split at h
 ·rename_i es
  split at h
  ·rename_i l hl
   split at h
   ·rename_i hlen
    simp only [Option.some.injEq, Prod.mk.injEq] at h; obtain ⟨rfl, rfl⟩ := h
    have he := ou hl
    subst he
    refine hX (xs := []) hms ?_
    intro w M0 lc cs hO hx hold hM0
    simp only [f7] at hx
    subst hx
    unfold cT
    rw [hrun]
    have hO2 := hO
    simp only [cJ] at hO2
    obtain ⟨h1, h2, h3, h4, h5, h6, h7, h8, h9⟩ := hO2
    rw [List.length_map] at h3
    have hcl : (Lib.compact l).length <= l.length := by
     unfold Lib.compact Lib.compactUpTo
     rw [List.length_map]
     exact Nat.le_trans (List.length_filter_le _ _) (by simp)
    by_cases h0 : l = []
    ·subst h0
     have : lc.hdr = .slice (lc.base.map fun x => ⟨x.1, x.2, none⟩) 0 (if lc.base = none then 0 else lc.cap) := by
      unfold Loc.hdr
      cases hb : lc.base with
      | none => simp
      | some p => obtain ⟨b, o⟩ := p; simp [h3]
     have e2 : (Lib.compact ([] : List (BS))).map ak = ([] : List (BS)).map ak := rfl
     rw [e2]
     have e3 : ([lc.hdr] : List Value).toArray = #[.slice (lc.base.map fun x => ⟨x.1, x.2, none⟩) 0 (if lc.base = none then 0 else lc.cap)] := by rw [this]
     rw [e3]
     refine (hn _ _ w).mono ?_
     rintro e w' ⟨rfl, rfl⟩
     exact ⟨_, rfl, lc, this.symm, hO, fun b j hb => .inr hb, Fr.refl _ _⟩
    ·have hpos : 0 < l.length := by cases l with | nil => exact absurd rfl h0 | cons a l => simp
     cases hb : lc.base with
     | none => have := h7 hb; omega
     | some p =>
      obtain ⟨b, o⟩ := p
      have hF : ∀ j, j < lc.k -> lc.F b (o + j) := fun j hj => .inl ⟨o, hb, by omega, by omega⟩
      have hbw : b < w.heap.size := (hold b (o + 0) (hF 0 (by omega))).2
      have hhdr : lc.hdr = .slice (some ⟨b, o, none⟩) l.length lc.cap := by unfold Loc.hdr; rw [hb, h3]
      have e3 : ([lc.hdr] : List Value).toArray = #[.slice (some ⟨b, o, none⟩) l.length lc.cap] := by rw [hhdr]
      rw [e3]
      refine (hs b o lc.cap l w (lU hO hb) (by omega) (by omega)).mono ?_
      rintro e w' ⟨rfl, n, rfl⟩
      have hdl : (Lib.compact l ++ List.replicate (l.length - (Lib.compact l).length) []).length = l.length := by
       rw [List.length_append, List.length_replicate]; omega
      have hg : putRow encStr (Go.Sort.ahead w n) b o (Lib.compact l ++ List.replicate (l.length - (Lib.compact l).length) []).toArray = grow (putRow encStr (Go.Sort.ahead w n) b o (Lib.compact l ++ List.replicate (l.length - (Lib.compact l).length) []).toArray) #[] := by simp
      rw [hg]
      refine ⟨_, rfl, { lc with len := (Lib.compact l).length }, ?_, ?_, fun b j hb => .inr hb, ?_⟩
      ·unfold Loc.hdr; rw [hb]
      ·exact sS (ts := Lib.compact l) hO hb hdl (by omega) (fun j s hj => by rw [List.getElem?_append_left (List.getElem?_eq_some_iff.1 hj).1]; exact hj) hbw rfl
      ·refine sf (fun j hj => hF j ?_) ?_ (fun j hj => ?_) hbw
       ·have : j < l.length := by rw [<- hdl]; simpa using hj
        omega
       ·have : 0 < (Lib.compact l ++ List.replicate (l.length - (Lib.compact l).length) []).length := by omega
        simpa using this
       ·have : j < l.length := by rw [<- hdl]; simpa using hj
        exact ((h9 b o hb).1 j (by omega)).1
   ·exact absurd h (by simp)
  ·exact absurd h (by simp)
 ·exact absurd h (by simp)
end Go.Proofs.YtcoikmicjbppmaaGreat.Vm
namespace Go.Proofs.YtcoikmicjbppmaaGreat.Vm
open Go Go.RowKit
set_option linter.unusedVariables false
set_option linter.unusedSimpArgs false
theorem sJ {w : World} {M : ay} {l : Loc} {sz : Nat} {es : LP} (hO : cJ (fun _ => l) w M l (.buf sz es)) :
  ∃ cs : List Value, cs.length = es.length * sz /\ (∀ d ∈ cs, d.oneCell' = true) /\ el w M sz es cs /\ ∀ b o, l.base = some (b, o) -> ∀ j d, cs[j]? = some d -> at_ w b (o + j) = some d := by
 simp only [cJ] at hO
 obtain ⟨h1, h2, h3, h4, h5, h6, h7, h8, h9⟩ := hO
 obtain ⟨cs, k1, k2, k3, k4⟩ := ln (w := w) (M := M) (A := l.base.map fun x => ⟨x.1, x.2, none⟩) (sz := sz) (es := es) h2 (fun i e he => by
  cases hb : l.base with
  | none =>
   have := h7 hb
   have := (List.getElem?_eq_some_iff.1 he).1
   omega
  | some p =>
   obtain ⟨b, o⟩ := p
   obtain ⟨vs, r1, r2⟩ := (h9 b o hb).2 i e he
   exact ⟨b, o, vs, rfl, h8 e (List.mem_of_getElem? he), r1, r2⟩)
 exact ⟨cs, k1, k2, k3, fun b o hb => k4 b o (by rw [hb]; rfl)⟩
theorem el.take {w : World} {M : ay} {sz : Nat} {es : LP} {cs : List Value} (h : el w M sz es cs) (i : Nat) : el w M sz (es.take i) (cs.take (i * sz)) := by
 obtain ⟨h1, h2⟩ := h
 refine ⟨?_, fun k e he => ?_⟩
 ·rw [List.length_take, List.length_take]
  have : min i es.length * sz <= i * sz := Nat.mul_le_mul_right _ (Nat.min_le_left ..)
  have : min i es.length * sz <= es.length * sz := Nat.mul_le_mul_right _ (Nat.min_le_right ..)
  omega
 ·rw [List.getElem?_take] at he
  split at he
  ·rename_i hk
   obtain ⟨k1, k2⟩ := h2 k e he
   refine ⟨k1, ?_⟩
   have e1 : (List.drop (k * sz) (cs.take (i * sz))).take sz = (cs.drop (k * sz)).take sz := by
    rw [List.drop_take, List.take_take]
    congr 1
    have : (k + 1) * sz <= i * sz := Nat.mul_le_mul_right _ hk
    rw [Nat.add_mul] at this
    omega
   rw [e1]; exact k2
  ·exact absurd he (by simp)
theorem el.drop {w : World} {M : ay} {sz : Nat} {es : LP} {cs : List Value} (h : el w M sz es cs) (i : Nat) : el w M sz (es.drop i) (cs.drop (i * sz)) := by
 obtain ⟨h1, h2⟩ := h
 refine ⟨?_, fun k e he => ?_⟩
 ·rw [List.length_drop, List.length_drop, Nat.sub_mul]; omega
 ·rw [List.getElem?_drop] at he
  obtain ⟨k1, k2⟩ := h2 _ e he
  refine ⟨k1, ?_⟩
  rw [List.drop_drop]
  rwa [Nat.add_mul] at k2
theorem el.mono {w w' : World} {M M' : ay} (hk : ∀ b o v, at_ w b o = some v -> ¬ M b o -> at_ w' b o = some v /\ ¬ M' b o) {sz : Nat} {es : LP} {cs : List Value} (h : el w M sz es cs) : el w' M' sz es cs :=
 ⟨h.1, fun i e he => ⟨(h.2 i e he).1, RepS.mono hk _ _ (h.2 i e he).2⟩⟩
theorem Cj {w' : World} {M' : ay} {l' : Loc} {sz : Nat} {es' : LP} {news : List Value} (h0 : 0 < sz) (hr : el w' M' sz es' news) (h1 : l'.sz = sz) (h3 : l'.len = es'.length) (h4 : l'.len <= l'.cap) (h5 : l'.k = l'.cap * sz) (h6 : l'.ext = none) (h7 : l'.base = none -> l'.cap = 0)
  (hu : ∀ b o, l'.base = some (b, o) -> 2 <= sz -> zQ w' b)
  (hc : ∀ b o, l'.base = some (b, o) -> (∀ j, j < l'.k -> (∃ c, at_ w' b (o + j) = some c) /\ cK w' b (o + j) = false) /\ ∀ j d, news[j]? = some d -> at_ w' b (o + j) = some d) : cJ (fun _ => l') w' M' l' (.buf sz es') := by
 simp only [cJ]
 refine ⟨h1, h0, h3, h4, h5, ⟨h6, hu⟩, h7, fun e he => ?_, fun b o hb => ⟨(hc b o hb).1, fun i e he => ?_⟩⟩
 ·obtain ⟨i, hi⟩ := List.mem_iff_getElem?.1 he
  exact (hr.2 i e hi).1
 ·obtain ⟨k1, k2⟩ := hr.2 i e he
  refine ⟨_, k2, fun j c hj => ?_⟩
  rw [List.getElem?_take] at hj
  split at hj
  ·rw [List.getElem?_drop] at hj
   rw [Nat.add_assoc]
   exact (hc b o hb).2 _ _ hj
  ·exact absurd hj (by simp)
theorem oi {P : Program} (w : World) (tS tR e : TypeId) (ht : P.underlying tS = some (.slice e)) (size : Nat) (hz : ∀ w, (Go.sizeOf e).run P w = .ok size w)
  (a b : Addr) (la ca lb cb : Nat) (tA tB : TypeId) (kA kB : Nat) (hsa : w.shape? a.block = some (tA, kA)) (hkA : kA ≠ 0) (hsb : w.shape? b.block = some (tB, kB)) (hkB : kB ≠ 0)
  (hfb : w.frozen? b = false) (hfe : w.frozen? { block := b.block, off := kB } = false) (hdis : a.block = b.block -> ¬ (a.off < b.off + lb * size /\ b.off < a.off + la * size)) :
  (Extern.SlicesOverlaps.overlaps #[tS, tS] #[tR] #[.slice (some a) la ca, .slice (some b) lb cb]).run P w = .ok (.bool false) w := by
 change Sem.run P (α := Value) (do
  let some t := (#[tS, tS] : Array TypeId)[0]? | stuck "slices.overlaps: no parameter types"
  let .slice elem ← underlying t | stuck "slices.overlaps: slice type expected"
  let size ← sizeOf elem
  match (some a : Option Addr), (some b : Option Addr) with
  | some a, some b =>
   if la = 0 ∨ lb = 0 ∨ size = 0 then pure (Value.bool false)
   else if a.block != b.block && (← frozen a) && (← frozen b) then unsupported .addressObserved
   else do
    if a.block != b.block then do
     noView a; noView b
     if ← mayBeOne a b then return Value.bool ((← choose (.extern "sameAddr.stringBytes" 2)) == 1)
    pure (Value.bool (a.block == b.block && a.off < b.off + lb * size && b.off < a.off + la * size))
  | _, _ => pure (Value.bool false)) w = _
 by_cases h0 : la = 0 ∨ lb = 0 ∨ size = 0
 ·simp [run_underlying ht, hz, h0]
 ·cases kB with
  | zero => exact absurd rfl hkB
  | succ kB =>
   cases kA with
   | zero => exact absurd rfl hkA
   | succ kA =>
    by_cases hne : a.block = b.block
    ·have hd := hdis hne
     have hd' : (decide (a.off < b.off + lb * size) && decide (b.off < a.off + la * size)) = false := by
      simp only [Bool.and_eq_false_iff, decide_eq_false_iff_not]
      by_cases h1 : a.off < b.off + lb * size
      ·exact .inr fun h2 => hd ⟨h1, h2⟩
      ·exact .inl h1
     simp [run_underlying ht, hz, h0, hne, Sem.run]
     intro h1
     rcases Nat.lt_or_ge b.off (a.off + la * size) with h2 | h2
     ·exact absurd ⟨h1, h2⟩ hd
     ·exact h2
    ·have hnb : (a.block != b.block) = true := by simpa using hne
     have hnb' : (a.block == b.block) = false := by simpa using hne
     cases hfa : w.frozen? a <;> simp [run_underlying ht, hz, h0, hnb, hnb', frozen, noView, viewAt, mayBeOne, stringish, shape, Sem.run, hsa, hsb, hfa, hfb, hfe]
theorem c9 {w : World} {b o p j : Nat} {R vs : List Value} (h : p + vs.length <= R.length) (hj : at_ w b (o + j) = R[j]?) (hex : ∀ q, q < vs.length -> ∃ c, at_ w b (o + p + q) = some c) :
  at_ (w.setCells b (o + p) vs) b (o + j) = (R.take p ++ vs ++ R.drop (p + vs.length))[j]? := by
 have hp : (R.take p).length = p := by rw [List.length_take]; omega
 have hpv : (R.take p ++ vs).length = p + vs.length := by rw [List.length_append, hp]
 rcases Nat.lt_or_ge j p with h1 | h1
 ·rw [cL (fun _ => .inl (by omega)), hj, List.getElem?_append_left (by omega), List.getElem?_append_left (by omega), List.getElem?_take, if_pos h1]
 ·rcases Nat.lt_or_ge j (p + vs.length) with h2 | h2
  ·rw [List.getElem?_append_left (by omega), List.getElem?_append_right (by omega), hp]
   have hv := List.getElem?_eq_getElem (l := vs) (i := j - p) (by omega)
   rw [hv]
   have := dL (w := w) (b := b) (vs := vs) (o := o + p) hex hv
   rwa [show o + p + (j - p) = o + j by omega] at this
  ·rw [cL (fun _ => .inr (by omega)), hj, List.getElem?_append_right (by omega), hpv, List.getElem?_drop]
   congr 1; omega
theorem oS {w : World} {b j : Nat} {v : Value} (h : at_ w b j = some v) : ∃ T n, w.shape? b = some (T, n) /\ j < n := by
 unfold at_ World.cell? at h
 unfold World.shape?
 split at h
 ·rename_i c e fz hh
  rw [hh]
  refine ⟨e, c.size, rfl, ?_⟩
  split at h
  ·exact absurd h (by simp)
  ·have := (Array.getElem?_eq_some_iff.1 h).1
   exact this
 ·exact absurd h (by simp)
theorem uq {w : World} {M : ay} {l : Loc} {sz : Nat} {es : LP} {cs : List Value} (hO : cJ (fun _ => l) w M l (.buf sz es)) (hcl : cs.length = es.length * sz) {b o : Nat} (hb : l.base = some (b, o)) (hc : ∀ j d, cs[j]? = some d -> at_ w b (o + j) = some d) :
  ∃ spare : List Value, (cs ++ spare).length = l.cap * sz /\ ∀ j, j < l.cap * sz -> at_ w b (o + j) = (cs ++ spare)[j]? := by
 simp only [cJ] at hO
 obtain ⟨h1, h2, h3, h4, h5, h6, h7, h8, h9⟩ := hO
 have hle : es.length * sz <= l.cap * sz := Nat.mul_le_mul_right _ (by omega)
 refine ⟨(List.range (l.cap * sz - es.length * sz)).map fun j => (at_ w b (o + (es.length * sz + j))).getD undef, by simp [hcl]; omega, fun j hj => ?_⟩
 rcases Nat.lt_or_ge j cs.length with h | h
 ·rw [List.getElem?_append_left h, List.getElem?_eq_getElem h]
  exact hc j _ (List.getElem?_eq_getElem h)
 ·rw [List.getElem?_append_right h, List.getElem?_map, List.getElem?_range (by omega)]
  obtain ⟨c, k1⟩ := ((h9 b o hb).1 j (by omega)).1
  have e : es.length * sz + (j - cs.length) = j := by omega
  simp only [Option.map_some, e, k1, Option.getD_some]
theorem qH {w W : World} {M0 : ay} {l : Loc} {sz : Nat} {es es' : LP} (hO : cJ (fun _ => l) w (fun b j => M0 b j ∨ l.F b j) l (.buf sz es)) {b o : Nat} (hb : l.base = some (b, o)) {Rf : List Value} (hRl : Rf.length = l.cap * sz) (hle : es'.length <= l.cap)
  (hk : ∀ x y u, at_ w x y = some u -> ¬ (M0 x y ∨ l.F x y) -> at_ W x y = some u) (hat : ∀ j, j < l.cap * sz -> at_ W b (o + j) = Rf[j]?) (hz : ∀ x y, cK W x y = cK w x y) (hfr : Fr l.F w W) (hr : el w (fun b j => M0 b j ∨ l.F b j) sz es' Rf) :
  ∃ l', Value.slice (some ⟨b, o, none⟩) es'.length l.cap = l'.hdr /\ cJ (fun _ => l') W (fun b j => M0 b j ∨ l'.F b j) l' (.buf sz es') /\ (∀ b j, l'.F b j -> (w.heap.size <= b /\ b < W.heap.size) ∨ l.F b j) /\ Fr l.F w W := by
 have hO2 := hO
 simp only [cJ] at hO2
 obtain ⟨h1, h2, h3, h4, h5, h6, h7, h8, h9⟩ := hO2
 refine ⟨{ l with len := es'.length }, by unfold Loc.hdr; rw [hb], ?_, fun b j h => .inr h, hfr⟩
 refine Cj h2 (el.mono (fun x y u hu hm => ⟨hk x y u hu hm, hm⟩) hr) h1 rfl hle h5 h6.1 h7 (fun b1 o1 hb1 hz1 => hfr.unm (h6.2 b1 o1 hb1 hz1)) (fun b1 o1 hb1 => ?_)
 have hb1 : l.base = some (b1, o1) := hb1
 rw [hb] at hb1
 simp only [Option.some.injEq, Prod.mk.injEq] at hb1
 obtain ⟨rfl, rfl⟩ := hb1
 refine ⟨fun j hj => ?_, fun j d hd => ?_⟩
 ·have hj : j < l.cap * sz := by have : j < l.k := hj; omega
  refine ⟨⟨Rf[j]'(by omega), by rw [hat j hj]; exact List.getElem?_eq_getElem _⟩, ?_⟩
  rw [hz]
  exact ((h9 b o hb).1 j (by omega)).2
 ·have hj := (List.getElem?_eq_some_iff.1 hd).1
  rw [hat j (by omega)]; exact hd
theorem sI {w W : World} {M0 : ay} {l : Loc} {sz cap : Nat} {es' : LP} (h0 : 0 < sz) (hold : ∀ b j, (M0 b j ∨ l.F b j) -> b < w.heap.size) {Rf : List Value} (hRl : Rf.length = cap * sz) (hle : es'.length <= cap)
  (hs : W.heap.size = w.heap.size + 1) (hat : ∀ j : Nat, at_ W w.heap.size j = Rf[j]?) (hz : ∀ j, cK W w.heap.size j = false) (hu : zQ W w.heap.size) (hfr : Fr (fun _ _ => False) w W) (hr : el w (fun b j => M0 b j ∨ l.F b j) sz es' Rf) :
  ∃ l', Value.slice (some ⟨w.heap.size, 0, none⟩) es'.length cap = l'.hdr /\ cJ (fun _ => l') W (fun b j => M0 b j ∨ l'.F b j) l' (.buf sz es') /\ (∀ b j, l'.F b j -> (w.heap.size <= b /\ b < W.heap.size) ∨ l.F b j) /\ Fr l.F w W := by
 obtain ⟨l', k1, k2, k3, k4⟩ := iG (M0 := fun b j => M0 b j ∨ l.F b j) hold h0 hr hRl hle (Nat.le_refl _) (by omega) hat (fun j _ => hz j) hfr (fun _ => hu)
 refine ⟨l', k1, ?_, fun b j h => .inl (k3 b j h), hfr.mono fun _ _ h => h.elim⟩
 exact cJ.mono (o := .buf sz es') (fun b o v h1 h2 => ⟨h1, fun h3 => h2 (h3.elim (fun h => .inl (.inl h)) .inr)⟩) (fun _ _ _ _ h => ⟨h, rfl⟩) (fun _ _ h => h) (fun _ _ _ => rfl) (fun _ h => h) (by simp [Obj.refs]) k2
end Go.Proofs.YtcoikmicjbppmaaGreat.Vm
namespace Go.Proofs.YtcoikmicjbppmaaGreat.Vm
open Go Go.RowKit Go.Lib Go.Shelf
set_option linter.unusedVariables false
set_option linter.unusedSimpArgs false
set_option maxRecDepth 100000
theorem vP {w : World} {o : Oper} {a : Act} {K : Act -> World -> Prop} {Q : Exit -> Act -> World -> Prop} {P : Program} (d s : Operand) (t t' : TypeId)
  (ho : o.op = .call { callee := .builtin .copy, args := #[d, s], argTypes := #[t, t'] }) (v u : Value) (hd : a.eval d = v) (hs : a.eval s = u) {v' : Value} {w' : World}
  (hr : (Builtin.copy_ #[t, t'] o.type #[v, u]).run P w = .ok v' w') (h : K (a.put o.dst v') w') : o.wp P a w K Q := by
 unfold Oper.wp execOp
 simp only [ho, resolve, invoke, builtin, Sem.run_bind, Sem.run_pure, Result.andThen_ok, List.map_toArray, List.map_cons, List.map_nil, hd, hs, hr]
 exact h
theorem nV {P : Program} {w : World} {ops : Array Oper} {rest : List Oper} {o : Oper} {a : Act} {Q : Exit -> Act -> World -> Prop} (hgd : o.guard = none) (d s : Operand) (t t' : TypeId)
  (ho : o.op = .call { callee := .builtin .copy, args := #[d, s], argTypes := #[t, t'] }) (v u : Value) (hd : a.eval d = v) (hs : a.eval s = u) {v' : Value} {w' : World}
  (hr : (Builtin.copy_ #[t, t'] o.type #[v, u]).run P w = .ok v' w') (h : wpList P ops Q rest (a.put o.dst v') w') : wpList P ops Q (o :: rest) a w :=
 wpList_plain hgd fun _ hK => vP d s t t' ho v u hd hs hr (hK _ _ h)
theorem sr {P : Program} {ops : Array Oper} {o : Oper} {a : Act} {w : World} {K : Act -> World -> Prop} {Q : Exit -> Act -> World -> Prop} {E : Prop}
  (hg : o.guard = none) (d x : Operand) (dT sT : TypeId) (hop : o.op = Op.call { callee := Callee.builtin Builtin.copy, args := #[d, x], argTypes := #[dT, sT] })
  (v u : Value) (hd : a.eval d = v) (hx : a.eval x = u) {v' : Value} {w' : World} (hr : (Builtin.copy_ #[dT, sT] o.type #[v, u]).run P w = .ok v' w') (hK : K (a.put o.dst v') w') :
  if Region.wanted o (yielded ops a.tmps) = true then Oper.wp P o a w K Q else E := by
 have hw : Region.wanted o (yielded ops a.tmps) = true := by simp [Region.wanted, hg]
 rw [if_pos hw]
 exact vP d x dT sT hop v u hd hx hr hK
theorem jH {P : Program} (w : World) (dT sT ty elem : TypeId) {i0 : TypeInfo} (b o dLen dCap : Nat) (a : Addr) (sLen sCap k : Nat) (cs : List Value)
  (hu : P.underlying dT = some (.slice elem)) (hi : P.info? elem = some i0) (hk : k = Nat.min sLen dLen) (hn : cs.length = k * i0.size)
  (hsrc : ∀ j v, cs[j]? = some v -> w.cell? (a.add j) = some v) (hc : ∀ j, j < cs.length -> (w.cell? ⟨b, o + j, none⟩).isSome = true) (hf : ∀ j, j < cs.length -> w.frozen? ⟨b, o + j, none⟩ = false) (h1 : ∀ v ∈ cs, v.oneCell' = true) :
  (Builtin.copy_ #[dT, sT] ty #[.slice (some ⟨b, o, none⟩) dLen dCap, .slice (some a) sLen sCap]).run P w = .ok (goInt k) (w.setCells b o cs) := by
 have hl := run_firstCells_some (P := P) w i0.size k a sLen sCap cs hn hsrc
 have hst := run_storeCells_cells (P := P) b o cs 0 w (by simpa using hc) (by simpa using hf) h1
 simp only [Nat.add_zero] at hst
 simp [Builtin.copy_, run_underlying hu, Builtin.lenOf, sizeOf, typeInfo, hi, <- hk, hl, hst]
set_option maxHeartbeats 4000000 in
theorem tZ (i0 : TypeInfo) (hi0 : Tryz.prog.info? 47 = some i0) (hs2 : i0.size = 2) (b off n c vb voff vc : Nat) (vs : List Value) (w : World) (hn : n <= 4000000) (hroom : n + 1 <= c)
  (hvl : vs.length = 2) (hsp : ∀ j, j < 2 -> (w.cell? ⟨b, off + n * 2 + j, none⟩).isSome = true) (hfz : ∀ j, j < 2 -> w.frozen? ⟨b, off + n * 2 + j, none⟩ = false)
  (hvs : ∀ j v, vs[j]? = some v -> w.cell? ⟨vb, voff + j, none⟩ = some v) (h1v : ∀ v ∈ vs, v.oneCell' = true) :
  Calls Tryz.prog 86 #[.slice (some ⟨b, off, none⟩) n c, .int .i64 n, .slice (some ⟨vb, voff, none⟩) 1 vc] w fun e w' =>
   e = .returned (.slice (some ⟨b, off, none⟩) (n + 1) c) /\ w' = w.setCells b (off + n * 2) vs := by
 have zE : ∀ w, (Go.sizeOf 47).run Tryz.prog w = .ok 2 w := fun w => by simp [Go.sizeOf, typeInfo, hi0, hs2]
 have hrun : ∀ ty, (Builtin.append_ #[33, 32] ty #[.slice (some ⟨b, off, none⟩) n c, .slice (some ⟨vb, voff, none⟩) 1 vc]).run Tryz.prog w = .ok (.slice (some ⟨b, off, none⟩) (n + 1) c) (w.setCells b (off + n * 2) vs) := fun ty => by
  have := fV (P := Tryz.prog) (w := w) (ty := ty) Tryz.underlying33 hi0 (.inr ⟨_, Tryz.underlying32⟩) (y := .slice (some ⟨vb, voff, none⟩) 1 vc) (m := 1) (news := vs) rfl
   (by rw [hs2]; exact run_firstCells_some w 2 1 ⟨vb, voff, none⟩ 1 vc vs hvl (fun j v hj => by rw [Addr.add_lit]; exact hvs j v hj)) h1v (b := b) (off := off) (n := n) (cap := c) hroom (by rw [hs2, hvl]; exact hsp) (by rw [hs2, hvl]; exact hfz)
  rw [hs2] at this; exact this
 go_enter Tryz.func86, Tryz.ntmps86
 go_wp2_with (at_builtin; refine Lib.wpList_append_run _ rfl _ _ _ _ rfl _ _ rfl rfl _ _ (hrun _) ?_)
 go_ret
 exact ⟨rfl, rfl⟩
set_option maxHeartbeats 4000000 in
theorem tY (i0 : TypeInfo) (z : Value) (hi0 : Tryz.prog.info? 47 = some i0) (hz0 : i0.zero = some z) (hs2 : i0.size = 2) (base : Option Addr) (n c vb voff vc : Nat) (cs vs : List Value) (w : World) (hn : n <= 4000000) (hnc : n <= c) (hroom : c < n + 1)
  (hbig : (n + 1) * i0.bytes <= 140737488355328) (hcl : cs.length = n * 2) (hvl : vs.length = 2) (hnil : base = none -> n = 0)
  (hcs : ∀ a, base = some a -> ∀ j v, cs[j]? = some v -> w.cell? (a.add j) = some v) (hvs : ∀ j v, vs[j]? = some v -> w.cell? ⟨vb, voff + j, none⟩ = some v) :
  Calls Tryz.prog 86 #[.slice base n c, .int .i64 n, .slice (some ⟨vb, voff, none⟩) 1 vc] w fun e w' =>
   e = .returned (.slice (some ⟨w.heap.size, 0, none⟩) (n + 1) (grownCap w (n + 1) c 47)) ∧
   w' = w.drew.alloc (.cells (cs.toArray ++ vs.toArray ++ Builtin.zeroCells z.cells (grownCap w (n + 1) c 47 - (n + 1))) 47) := by
 have zE : ∀ w, (Go.sizeOf 47).run Tryz.prog w = .ok 2 w := fun w => by simp [Go.sizeOf, typeInfo, hi0, hs2]
 have hold : (Builtin.firstCells i0.size n (.slice base n c)).run Tryz.prog w.drew = .ok cs.toArray w.drew := by
  rw [hs2]
  cases base with
  | none =>
   have h0 := hnil rfl
   subst h0
   rw [List.length_eq_zero_iff.1 (by omega : cs.length = 0)]
   exact run_firstCells_none w.drew 2 0 0 c
  | some a => exact run_firstCells_some w.drew 2 n a n c cs (by omega) (fun j v hj => hcs a rfl j v hj)
 have hrun : ∀ ty, (Builtin.append_ #[33, 32] ty #[.slice base n c, .slice (some ⟨vb, voff, none⟩) 1 vc]).run Tryz.prog w = .ok (.slice (some ⟨w.heap.size, 0, none⟩) (n + 1) (grownCap w (n + 1) c 47)) (w.drew.alloc (.cells (cs.toArray ++ vs.toArray ++ Builtin.zeroCells z.cells (grownCap w (n + 1) c 47 - (n + 1))) 47)) := fun ty =>
  it (P := Tryz.prog) (w := w) (ty := ty) Tryz.underlying33 hi0 hz0 (.inr ⟨_, Tryz.underlying32⟩) (x := .slice base n c) (y := .slice (some ⟨vb, voff, none⟩) 1 vc) (n := n) (m := 1) (cap := c) (olds := cs) (news := vs) rfl rfl hold
   (by rw [hs2]; exact run_firstCells_some w.drew 2 1 ⟨vb, voff, none⟩ 1 vc vs hvl (fun j v hj => by rw [Addr.add_lit]; exact hvs j v hj)) hroom (by omega) hbig
 obtain ⟨G, hG⟩ : ∃ G, G = grownCap w (n + 1) c 47 := ⟨_, rfl⟩
 rw [<- hG] at hrun ⊢
 obtain ⟨ROW, hROW⟩ : ∃ ROW : Array Value, ROW = cs.toArray ++ vs.toArray ++ Builtin.zeroCells z.cells (G - (n + 1)) := ⟨_, rfl⟩
 rw [<- hROW] at hrun ⊢
 clear hold hROW hG
 go_enter Tryz.func86, Tryz.ntmps86
 cases base with
 | none =>
  have h0 := hnil rfl
  subst h0
  go_wp2_with (at_builtin; refine Lib.wpList_append_run _ rfl _ _ _ _ rfl _ _ rfl rfl _ _ (hrun _) ?_)
  all_goals (go_ret; exact ⟨rfl, rfl⟩)
 | some a =>
  obtain ⟨ab, ao, asp⟩ := a
  go_wp2_with (at_builtin; refine Lib.wpList_append_run _ rfl _ _ _ _ rfl _ _ rfl rfl _ _ (hrun _) ?_)
  all_goals (go_ret; exact ⟨rfl, rfl⟩)
theorem kj (b : Nat) (vs : List Value) (o : Nat) (w : World) (h : ∀ j, j < vs.length -> (w.cell? ⟨b, o + j, none⟩).isSome = true) (k : Nat) (hk : (w.cell? ⟨b, k, none⟩).isSome = true) : ((w.setCells b o vs).cell? ⟨b, k, none⟩).isSome = true := by
 by_cases hin : o <= k /\ k < o + vs.length
 ·have := World.cell?_setCells_in b vs o w h (k - o) (by omega)
  rw [show o + (k - o) = k by omega] at this
  rw [this]; rfl
 ·rw [World.cell?_setCells_out b vs o w ⟨b, k, none⟩ (fun _ _ => by show k < o ∨ o + vs.length <= k; omega)]
  exact hk
set_option maxHeartbeats 4000000 in
theorem zc (i0 : TypeInfo) (hi0 : Tryz.prog.info? 47 = some i0) (hs2 : i0.size = 2) (b off n c i vb voff vc : Nat) (cs vs : List Value) (w : World) (hn : n <= 4000000) (hi : i < n) (hroom : n + 1 <= c)
  (hcl : cs.length = n * 2) (hvl : vs.length = 2)
  (hcs : ∀ j v, cs[j]? = some v -> w.cell? ⟨b, off + j, none⟩ = some v) (hsp : ∀ j, j < (n + 1) * 2 -> (w.cell? ⟨b, off + j, none⟩).isSome = true) (hfz : ∀ j, j < (n + 1) * 2 -> w.frozen? ⟨b, off + j, none⟩ = false)
  (hvs : ∀ j v, vs[j]? = some v -> w.cell? ⟨vb, voff + j, none⟩ = some v) (hva : ∀ j, j < 2 -> vb = b -> voff + j < off ∨ off + (n + 1) * 2 <= voff + j) (h1c : ∀ v ∈ cs, v.oneCell' = true) (h1v : ∀ v ∈ vs, v.oneCell' = true)
  (tA tB : TypeId) (kA kB : Nat) (hsa : w.shape? vb = some (tA, kA)) (hkA : kA ≠ 0) (hsb : w.shape? b = some (tB, kB)) (hkB : kB ≠ 0) (hfe : w.frozen? { block := b, off := kB } = false) :
  Calls Tryz.prog 86 #[.slice (some ⟨b, off, none⟩) n c, .int .i64 i, .slice (some ⟨vb, voff, none⟩) 1 vc] w fun e w' =>
   e = .returned (.slice (some ⟨b, off, none⟩) (n + 1) c) /\ w' = (w.drew.setCells b (off + (i + 1) * 2) (cs.drop (i * 2))).setCells b (off + i * 2) vs := by
 have zE : ∀ w, (Go.sizeOf 47).run Tryz.prog w = .ok 2 w := fun w => by simp [Go.sizeOf, typeInfo, hi0, hs2]
 have hz2 : ¬ ((i : Int) = (n : Int)) := by omega
 have hov : ∀ lb cb, lb <= n - i -> (callFunc 99 #[.slice (some ⟨vb, voff, none⟩) 1 vc, .slice (some ⟨b, off + (i + 1) * 2, none⟩) lb cb]).run Tryz.prog w = .ok (.value (.bool false)) w := fun lb cb hlb => by
  rw [run_callFunc_extern Tryz.func99 (by kernel_rfl) (by kernel_rfl) (by kernel_rfl) (e := Extern.SlicesOverlaps.overlaps #[32, 32] #[4]) (by kernel_rfl),
   oi w 32 4 47 Tryz.underlying32 2 zE ⟨vb, voff, none⟩ ⟨b, off + (i + 1) * 2, none⟩ 1 vc lb cb tA tB kA kB hsa hkA hsb hkB
    (by have := hfz ((i + 1) * 2) (by omega); exact this) hfe (fun e => by
     have e : vb = b := e
     have h1 := hva 0 (by omega) e
     have h2 := hva 1 (by omega) e
     simp only
     omega)]
  rfl
 have hdl : (cs.drop (i * 2)).length = (n - i) * 2 := by rw [List.length_drop, hcl]; omega
 have hw1 : IntKind.i64.wrap ((i : Int) + 1) = (i : Int) + 1 := by rw [IntKind.wrap_i64]; omega
 have hb1 : (0 : Int) <= (i : Int) + 1 := by omega
 have hin : i <= n := by omega
 have htn : ((i : Int) + 1).toNat = i + 1 := by omega
 have hb2 : ¬ (c = i + 1) := by omega
 have hb3 : (i : Int) <= (n : Int) + 1 := by omega
 have hb4 : ¬ (c = i) := by omega
 have mixed : Tryz.prog.follows Departure.mixedOrders = true := by kernel_rfl
 have hcp1 : ∀ ty dc sc, (Builtin.copy_ #[33, 33] ty #[.slice (some ⟨b, off + (i + 1) * 2, none⟩) (n - i) dc, .slice (some ⟨b, off + i * 2, none⟩) (n + 1 - i) sc]).run Tryz.prog w.drew = .ok (goInt (n - i : Nat)) (w.drew.setCells b (off + (i + 1) * 2) (cs.drop (i * 2))) := fun ty dc sc =>
  jH w.drew _ _ ty 47 b (off + (i + 1) * 2) (n - i) dc ⟨b, off + i * 2, none⟩ (n + 1 - i) sc (n - i) (cs.drop (i * 2)) Tryz.underlying33 hi0 (by simp only [Nat.min_def]; split <;> omega) (by rw [hs2, hdl])
   (fun j v hj => by rw [Addr.add_lit, Nat.add_assoc]; exact hcs (i * 2 + j) v (by rwa [List.getElem?_drop] at hj))
   (fun j hj => by rw [Nat.add_assoc]; exact hsp _ (by omega)) (fun j hj => by rw [Nat.add_assoc]; exact hfz _ (by omega)) (fun v hv => h1c v (List.mem_of_mem_drop hv))
 obtain ⟨W1, hW1⟩ : ∃ W1, W1 = w.drew.setCells b (off + (i + 1) * 2) (cs.drop (i * 2)) := ⟨_, rfl⟩
 have hsp1 : ∀ k, k < (n + 1) * 2 -> (W1.cell? ⟨b, off + k, none⟩).isSome = true := fun k hk => by
  rw [hW1]
  exact kj b _ _ _ (fun j hj => by rw [Nat.add_assoc]; exact hsp _ (by omega)) _ (hsp k hk)
 have hcp2 : ∀ (W : World), (∀ x, W.cell? x = W1.cell? x) -> (∀ x, W.frozen? x = W1.frozen? x) -> ∀ ty dc, (Builtin.copy_ #[33, 32] ty #[.slice (some ⟨b, off + i * 2, none⟩) (n + 1 - i) dc, .slice (some ⟨vb, voff, none⟩) 1 vc]).run Tryz.prog W = .ok (goInt 1) (W.setCells b (off + i * 2) vs) := fun W hWc hWf ty dc =>
  jH W _ _ ty 47 b (off + i * 2) (n + 1 - i) dc ⟨vb, voff, none⟩ 1 vc 1 vs Tryz.underlying33 hi0 (by simp only [Nat.min_def]; split <;> omega) (by rw [hs2, hvl])
   (fun j v hj => by
    have hj2 : j < 2 := by rw [<- hvl]; exact (List.getElem?_eq_some_iff.1 hj).1
    rw [Addr.add_lit, hWc, hW1, World.cell?_setCells_out b _ _ _ _ (fun h _ => by
     have := hva j hj2 h
     show voff + j < off + (i + 1) * 2 ∨ off + (i + 1) * 2 + (cs.drop (i * 2)).length <= voff + j
     rw [hdl]; omega)]
    exact hvs j v hj)
   (fun j hj => by rw [hWc, Nat.add_assoc]; exact hsp1 _ (by omega)) (fun j hj => by rw [hWf, hW1, World.frozen?_setCells, Nat.add_assoc]; exact hfz _ (by omega)) h1v
 rw [<- hW1] at hcp1
 go_enter Tryz.func86, Tryz.ntmps86
 go_wp2_with (simp only [hov _ _ (by omega)])
 go_region_law_o (refine sr rfl _ _ 33 33 rfl _ _ (by simp [Act.eval, Act.put]) (by simp [Act.eval, Act.put]) (hcp1 ..) ?_)
 go_wp2_with (at_builtin; refine nV _ rfl _ _ 33 32 rfl _ _ rfl rfl (hcp2 _ (fun _ => rfl) (fun _ => rfl) _ _) ?_)
 go_ret
 first | exact ⟨rfl, rfl⟩ | exact ⟨rfl, by rw [hW1]⟩
set_option maxHeartbeats 4000000 in
theorem Bi (i0 : TypeInfo) (z : Value) (hi0 : Tryz.prog.info? 47 = some i0) (hz0 : i0.zero = some z) (hs2 : i0.size = 2) (hzl : z.cells.size = 2) (b off n c i vb voff vc : Nat) (cs vs : List Value) (w : World) (hn : n <= 4000000) (hi : i < n) (hnc : n <= c) (hroom : c < n + 1)
  (hbig : (n + 1) * i0.bytes <= 140737488355328) (hcl : cs.length = n * 2) (hvl : vs.length = 2)
  (hcs : ∀ j v, cs[j]? = some v -> w.cell? ⟨b, off + j, none⟩ = some v) (hvs : ∀ j v, vs[j]? = some v -> w.cell? ⟨vb, voff + j, none⟩ = some v) (h1c : ∀ v ∈ cs, v.oneCell' = true) (h1v : ∀ v ∈ vs, v.oneCell' = true) :
  Calls Tryz.prog 86 #[.slice (some ⟨b, off, none⟩) n c, .int .i64 i, .slice (some ⟨vb, voff, none⟩) 1 vc] w fun e w' =>
   e = .returned (.slice (some ⟨w.heap.size, 0, none⟩) (n + 1) (grownCap w (n + 1) c 47)) ∧
   w' = (((w.alloc (.cells ((cs.take (i * 2)).toArray ++ Builtin.zeroCells z.cells (n + 1 - i) ++ Builtin.zeroCells z.cells (grownCap w (n + 1) c 47 - (n + 1))) 47)).drew.setCells w.heap.size (i * 2) vs).drew).setCells w.heap.size ((i + 1) * 2) (cs.drop (i * 2)) := by
 have zE : ∀ w, (Go.sizeOf 47).run Tryz.prog w = .ok 2 w := fun w => by simp [Go.sizeOf, typeInfo, hi0, hs2]
 have mixed : Tryz.prog.follows Departure.mixedOrders = true := by kernel_rfl
 have hz2 : ¬ ((i : Int) = (n : Int)) := by omega
 have hz3 : (c : Int) < (n : Int) + 1 := by omega
 have hbw : b < w.heap.size := block_lt_of_cell (hcs 0 _ (List.getElem?_eq_getElem (by omega)))
 have hvw : vb < w.heap.size := block_lt_of_cell (hvs 0 _ (List.getElem?_eq_getElem (by omega)))
 have hkk : (n : Int) + 1 - (i : Int) = ((n + 1 - i : Nat) : Int) := by omega
 have hik : i + (n + 1 - i) = n + 1 := by omega
 have hold : (Builtin.firstCells i0.size i (.slice (some ⟨b, off, none⟩) i c)).run Tryz.prog w.drew = .ok (cs.take (i * 2)).toArray w.drew := by
  rw [hs2]
  exact run_firstCells_some w.drew 2 i ⟨b, off, none⟩ i c (cs.take (i * 2)) (by rw [List.length_take]; omega) (fun j v hj => by
   rw [Addr.add_lit]
   rw [List.getElem?_take] at hj
   split at hj
   ·exact hcs j v hj
   ·cases hj)
 have hb64 : (n + 1 - i) * i0.bytes <= (n + 1) * i0.bytes := Nat.mul_le_mul_right _ (by omega)
 have hrz : ∀ ty, (Builtin.append_ #[33, 3] ty #[.slice (some ⟨b, off, none⟩) i c, .int .i64 ((n : Int) + 1 - (i : Int))]).run Tryz.prog w =
   .ok (.slice (some ⟨w.heap.size, 0, none⟩) (n + 1) (grownCap w (n + 1) c 47)) (w.drew.alloc (.cells ((cs.take (i * 2)).toArray ++ Builtin.zeroCells z.cells (n + 1 - i) ++ Builtin.zeroCells z.cells (grownCap w (n + 1) c 47 - (n + 1))) 47)) := fun ty => by
  have h := Lib.run_append_grow_zeros w 33 3 ty 47 i0 z .i64 .i64 Tryz.underlying33 Tryz.underlying3 hi0 hz0 (some ⟨b, off, none⟩) i c (cs.take (i * 2)) hold (n + 1 - i) (by omega) (by omega) (by omega) (by omega) (by omega) (by rw [hik]; exact growslice_fits hroom hbig)
  rw [hik] at h
  rw [hkk]
  exact h
 obtain ⟨G, hG⟩ : ∃ G, G = grownCap w (n + 1) c 47 := ⟨_, rfl⟩
 obtain ⟨ROW, hROW⟩ : ∃ ROW : Array Value, ROW = (cs.take (i * 2)).toArray ++ Builtin.zeroCells z.cells (n + 1 - i) ++ Builtin.zeroCells z.cells (G - (n + 1)) := ⟨_, rfl⟩
 rw [<- hG] at hrz ⊢
 rw [<- hROW] at hrz ⊢
 have hRl : (n + 1) * 2 <= ROW.size := by
  rw [hROW]
  simp only [Array.size_append, size_zeroCells, hzl, List.size_toArray, List.length_take]
  omega
 obtain ⟨W1, hW1⟩ : ∃ W1, W1 = w.drew.alloc (.cells ROW 47) := ⟨_, rfl⟩
 rw [<- hW1] at hrz
 have hN : ∀ j, j < (n + 1) * 2 -> (W1.cell? ⟨w.heap.size, j, none⟩).isSome = true := fun j hj => by
  rw [hW1, World.cell?_alloc_at (w := w.drew) ROW _ w.heap.size j rfl, Array.getElem?_eq_getElem (by omega)]; rfl
 have hNf : ∀ j, W1.frozen? ⟨w.heap.size, j, none⟩ = false := fun j => by rw [hW1]; exact World.frozen?_alloc_at (w := w.drew) ROW _ w.heap.size j rfl
 have hOb : ∀ j v, w.cell? ⟨b, j, none⟩ = some v -> W1.cell? ⟨b, j, none⟩ = some v := fun j v h => by rw [hW1, World.cell?_alloc_past (w := w.drew) _ b j hbw]; exact h
 have hOv : ∀ j v, w.cell? ⟨vb, j, none⟩ = some v -> W1.cell? ⟨vb, j, none⟩ = some v := fun j v h => by rw [hW1, World.cell?_alloc_past (w := w.drew) _ vb j hvw]; exact h
 have hcpA : ∀ (W : World), (∀ x, W.cell? x = W1.cell? x) -> (∀ x, W.frozen? x = W1.frozen? x) -> ∀ ty dc, (Builtin.copy_ #[33, 32] ty #[.slice (some ⟨w.heap.size, i * 2, none⟩) (n + 1 - i) dc, .slice (some ⟨vb, voff, none⟩) 1 vc]).run Tryz.prog W = .ok (goInt 1) (W.setCells w.heap.size (i * 2) vs) := fun W hWc hWf ty dc =>
  jH W _ _ ty 47 w.heap.size (i * 2) (n + 1 - i) dc ⟨vb, voff, none⟩ 1 vc 1 vs Tryz.underlying33 hi0 (by simp only [Nat.min_def]; split <;> omega) (by rw [hs2, hvl])
   (fun j v hj => by rw [Addr.add_lit, hWc]; exact hOv _ v (hvs j v hj))
   (fun j hj => by rw [hWc]; exact hN _ (by omega)) (fun j hj => by rw [hWf]; exact hNf _) h1v
 have hGn : n + 1 <= G := by rw [hG]; exact grownCap_ge w _ _ _
 have hG63 : G <= 9223372036854775807 := by
  have := grownCap_le_maxLen w (n + 1) c 47 (by unfold maxLen; omega)
  rw [<- hG] at this
  unfold maxLen at this
  omega
 have hGi : ¬ (G = i) := by omega
 have hGim : ¬ (G = i + 1) := by omega
 have hci : ¬ (c = i) := by omega
 have hbN : b ≠ w.heap.size := by omega
 have hdl : (cs.drop (i * 2)).length = (n - i) * 2 := by rw [List.length_drop, hcl]; omega
 have hcpB : ∀ (W : World), (∀ x, W.cell? x = (W1.setCells w.heap.size (i * 2) vs).cell? x) -> (∀ x, W.frozen? x = (W1.setCells w.heap.size (i * 2) vs).frozen? x) -> ∀ ty dc sc, (Builtin.copy_ #[33, 33] ty #[.slice (some ⟨w.heap.size, (i + 1) * 2, none⟩) (n - i) dc, .slice (some ⟨b, off + i * 2, none⟩) (n - i) sc]).run Tryz.prog W = .ok (goInt (n - i : Nat)) (W.setCells w.heap.size ((i + 1) * 2) (cs.drop (i * 2))) := fun W hWc hWf ty dc sc =>
  jH W _ _ ty 47 w.heap.size ((i + 1) * 2) (n - i) dc ⟨b, off + i * 2, none⟩ (n - i) sc (n - i) (cs.drop (i * 2)) Tryz.underlying33 hi0 (by simp only [Nat.min_def]; split <;> omega) (by rw [hs2, hdl])
   (fun j v hj => by
    rw [Addr.add_lit, hWc, World.cell?_setCells_out _ _ _ _ _ (fun h _ => absurd h hbN), Nat.add_assoc]
    exact hOb _ v (hcs (i * 2 + j) v (by rwa [List.getElem?_drop] at hj)))
   (fun j hj => by rw [hWc]; exact kj _ _ _ _ (fun t ht => hN _ (by omega)) _ (hN _ (by omega)))
   (fun j hj => by rw [hWf, World.frozen?_setCells]; exact hNf _) (fun v hv => h1c v (List.mem_of_mem_drop hv))
 subst hW1
 have hE1 : ∀ x, ((w.alloc (.cells ROW 47)).drew).cell? x = (w.drew.alloc (.cells ROW 47)).cell? x := fun x => rfl
 have hE2 : ∀ x, ((w.alloc (.cells ROW 47)).drew).frozen? x = (w.drew.alloc (.cells ROW 47)).frozen? x := fun x => rfl
 have hF1 : ∀ x, (((w.alloc (.cells ROW 47)).drew.setCells w.heap.size (i * 2) vs).drew).cell? x = ((w.drew.alloc (.cells ROW 47)).setCells w.heap.size (i * 2) vs).cell? x := fun x => rfl
 have hF2 : ∀ x, (((w.alloc (.cells ROW 47)).drew.setCells w.heap.size (i * 2) vs).drew).frozen? x = ((w.drew.alloc (.cells ROW 47)).setCells w.heap.size (i * 2) vs).frozen? x := fun x => rfl
 have hw1 : IntKind.i64.wrap ((i : Int) + 1) = (i : Int) + 1 := by rw [IntKind.wrap_i64]; omega
 have hb1 : (0 : Int) <= (i : Int) + 1 := by omega
 have hin : i <= n := by omega
 have htn : ((i : Int) + 1).toNat = i + 1 := by omega
 have hb3 : (i : Int) <= (n : Int) := by omega
 clear hkk hik hold hROW hG hRl hb64
 go_enter Tryz.func86, Tryz.ntmps86
 go_wp2_with (first
  | (at_builtin; refine Lib.wpList_append_run _ rfl _ _ _ _ rfl _ _ rfl rfl _ _ (hrz _) ?_)
  | (at_builtin; refine nV _ rfl _ _ 33 32 rfl _ _ rfl rfl (hcpA _ hE1 hE2 _ _) ?_)
  | (at_builtin; refine nV _ rfl _ _ 33 33 rfl _ _ rfl rfl (hcpB _ (fun _ => rfl) (fun _ => rfl) _ _ _) ?_))
 go_region_law_o (refine sr rfl _ _ 33 33 rfl (.slice (some ⟨w.heap.size, (i + 1) * 2, none⟩) (n - i) (G - (i + 1))) (.slice (some ⟨b, off + i * 2, none⟩) (n - i) (c - i)) (by simp [Act.eval, Act.put]) (by simp [Act.eval, Act.put]) (hcpB _ hF1 hF2 3 (G - (i + 1)) (c - i)) ?_)
 go_wp2
 go_ret
 exact ⟨rfl, rfl⟩
def nF : List TV -> Option (RT)
 | [.own 2 es, .pv (.int .i64 i), .pv (.sl [v])] => if 0 <= i /\ i.toNat <= es.length /\ es.length <= 4000000 /\ v.length = 2 then some ([.own 2 (es.take i.toNat ++ [v] ++ es.drop i.toNat)], []) else none
 | _ => none
theorem nN : dM Tryz.prog 47 = 40 := by kernel_rfl
theorem kG : ar Tryz.prog 47 = 2 := by kernel_rfl
theorem Dr : (eO Tryz.prog 47).isSome = true := by kernel_rfl
set_option maxHeartbeats 1000000 in
theorem z7 (ms : List Mode) (hms : ms.headD .borrow ≠ .mut) (ag rs fs : List TV) (h : nF ag = some (rs, fs)) : br Tryz.prog ms 86 ag rs fs := by
 unfold nF at h
 split at h
 ·rename_i es i v
  split at h
  ·rename_i hc
   obtain ⟨hi0, hie, hbig, hvlen⟩ := hc
   simp only [Option.some.injEq, Prod.mk.injEq] at h; obtain ⟨rfl, rfl⟩ := h
   obtain ⟨zv, hzv⟩ := Option.isSome_iff_exists.1 Dr
   obtain ⟨i0, z, hin, hzz, hzl, hl⟩ := ec hzv
   have hs2 : i0.size = 2 := by have := kG; simpa [ar, hin] using this
   have hbt : i0.bytes = 40 := by have := nN; simpa [dM, hin] using this
   have hzs : z.cells.size = 2 := by rw [<- Array.length_toList, hzl, hl, kG]
   obtain ⟨k, rfl⟩ : ∃ k : Nat, i = k := ⟨i.toNat, by omega⟩
   rw [Int.toNat_natCast] at hie ⊢
   refine hX (xs := [.int .i64 k, .sl [v]]) hms ?_
   intro w M0 lc args hO hx hold hM0
   unfold cT
   rw [j6 Tryz.func86 (by kernel_rfl) rfl]
   simp only [f7, bp] at hx
   obtain ⟨c1, r1, rfl, rfl, c2, r2, rfl, ⟨A, vc, rfl, hvc, hnone, hspot, sz, hrow⟩, rfl⟩ := hx
   simp only [RepRow, Nat.zero_mul, Nat.add_zero] at hrow
   obtain ⟨⟨a, vs, rfl, hsz, hvs, hho⟩, _⟩ := hrow
   have hsp := hspot a rfl (by simp)
   obtain ⟨vb, voff, vsp⟩ := a
   simp only at hsp hho; subst hsp
   have hvl : vs.length = 2 := by rw [hvs.length, hvlen]
   have h1v : ∀ d ∈ vs, d.oneCell' = true := RepS.one hvs
   have hvc : ∀ j d, vs[j]? = some d -> w.cell? ⟨vb, voff + j, none⟩ = some d := fun j d hj => (hho j d hj).1
   have hvm : ∀ j, j < 2 -> ¬ (M0 vb (voff + j) ∨ lc.F vb (voff + j)) := fun j hj => (hho j _ (List.getElem?_eq_getElem (by omega))).2
   have hO2 := hO
   simp only [cJ] at hO2
   obtain ⟨q1, q2, q3, q4, q5, q6, q7, q8, q9⟩ := hO2
   obtain ⟨cs, k1, k2, k3, k4⟩ := sJ hO
   have hrv : el w (fun b j => M0 b j ∨ lc.F b j) 2 [v] vs := ⟨by simp [hvl], fun i e he => by
    cases i with
    | zero =>
     simp only [List.getElem?_cons_zero, Option.some.injEq] at he
     subst he
     refine ⟨hvlen, ?_⟩
     simp only [Nat.zero_mul, List.drop_zero]
     rw [List.take_of_length_le (by omega)]
     exact hvs
    | succ i => simp at he⟩
   have hck : (cs.take (k * 2)).length = (es.take k).length * 2 := by rw [List.length_take, List.length_take]; omega
   have hR : ∀ rest, el w (fun b j => M0 b j ∨ lc.F b j) 2 (es.take k ++ [v] ++ es.drop k) (cs.take (k * 2) ++ vs ++ cs.drop (k * 2) ++ rest) := fun rest => by
    have ha := el.append (k3.take k) hrv hck []
    rw [List.append_nil] at ha
    refine el.append ha (k3.drop k) ?_ rest
    rw [List.length_append, hck, hvl, List.length_append, List.length_singleton]; omega
   have hlen' : (es.take k ++ [v] ++ es.drop k).length = es.length + 1 := by simp; omega
   have hold' : ∀ b j, (M0 b j ∨ lc.F b j) -> b < w.heap.size := fun b j h => h.elim (hM0 b j) (fun h => (hold b j h).2)
   have hroomB : (es.length + 1) * i0.bytes <= 140737488355328 := by rw [hbt]; omega
   have hdk : (cs.drop (k * 2)).length = (es.length - k) * 2 := by rw [List.length_drop]; omega
   have htk : (cs.take (k * 2)).length = k * 2 := by rw [List.length_take]; omega
   by_cases hend : k = es.length
   ·subst hend
    have hdr : cs.drop (es.length * 2) = [] := List.drop_eq_nil_of_le (by omega)
    have htr : cs.take (es.length * 2) = cs := List.take_of_length_le (by omega)
    rw [hdr, htr, List.append_nil] at hR
    by_cases hroom : es.length + 1 <= lc.cap
    ·cases hb : lc.base with
     | none => have := q7 hb; omega
     | some p =>
      obtain ⟨b, o⟩ := p
      have hhdr : lc.hdr = .slice (some ⟨b, o, none⟩) es.length lc.cap := by unfold Loc.hdr; rw [hb, q3]
      rw [hhdr]
      obtain ⟨spare, s1, s2⟩ := uq hO k1 hb (k4 b o hb)
      rw [List.length_append] at s1
      have hF : ∀ j, j < lc.cap * 2 -> lc.F b (o + j) := fun j hj => .inl ⟨o, hb, by omega, by omega⟩
      have hc2 : (es.length + 1) * 2 <= lc.cap * 2 := Nat.mul_le_mul_right _ hroom
      have hex : ∀ j, j < 2 -> ∃ c, at_ w b (o + es.length * 2 + j) = some c := fun j hj => by
       have := ((q9 b o hb).1 (es.length * 2 + j) (by omega)).1
       rwa [<- Nat.add_assoc] at this
      refine (tZ i0 hin hs2 b o es.length lc.cap vb voff vc vs w hbig hroom hvl (fun j hj => Option.isSome_iff_exists.2 (hex j hj)) (fun j hj => by
       have := ((q9 b o hb).1 (es.length * 2 + j) (by omega)).2
       rw [<- Nat.add_assoc] at this; exact this) hvc h1v).mono ?_
      rintro e w' ⟨rfl, rfl⟩
      refine ⟨_, rfl, ?_⟩
      rw [<- hlen']
      refine qH (Rf := cs ++ vs ++ (cs ++ spare).drop (es.length * 2 + 2)) hO hb ?_ (by omega) (fun x y u hu hm => (dD (M := fun b j => M0 b j ∨ lc.F b j) (fun j hj => .inr (by have := hF (es.length * 2 + j) (by omega); rwa [<- Nat.add_assoc] at this)) x y u hu hm).1) (fun j hj => ?_) (fun x y => cV) (Fr.setCells b vs _ w fun j hj => by have := hF (es.length * 2 + j) (by omega); rwa [<- Nat.add_assoc] at this) (hR _)
      ·rw [List.length_append, List.length_append, List.length_drop, List.length_append]; omega
      ·have := c9 (w := w) (b := b) (o := o) (p := es.length * 2) (j := j) (R := cs ++ spare) (vs := vs) (by rw [List.length_append]; omega) (s2 j hj) (fun q hq => hex q (by omega))
       rw [this, hvl, List.take_left' (by omega)]
    ·have hhdr : ∃ A : Option Addr, lc.hdr = .slice A es.length (if lc.base = none then 0 else lc.cap) /\ (A = none -> es.length = 0) /\ (∀ a, A = some a -> ∀ j d, cs[j]? = some d -> w.cell? (a.add j) = some d) := by
      cases hb : lc.base with
      | none =>
       have := q7 hb
       refine ⟨none, ?_, fun _ => by omega, fun a h => by simp at h⟩
       unfold Loc.hdr; rw [hb]
       simp; omega
      | some p =>
       obtain ⟨b, o⟩ := p
       refine ⟨some ⟨b, o, none⟩, ?_, fun h => by simp at h, fun a ha j d hj => ?_⟩
       ·unfold Loc.hdr; rw [hb, q3]; simp
       ·simp only [Option.some.injEq] at ha; subst ha
        rw [dx]; exact k4 b o hb j d hj
     obtain ⟨A, hh1, hh2, hh3⟩ := hhdr
     rw [hh1]
     have hcapE : (if lc.base = none then 0 else lc.cap) = lc.cap := by
      split
      ·rename_i hb; exact (q7 hb).symm
      ·rfl
     rw [hcapE]
     refine (tY i0 z hin hzz hs2 A es.length lc.cap vb voff vc cs vs w hbig (by omega) (by omega) hroomB (by omega) hvl hh2 hh3 hvc).mono ?_
     rintro e w' ⟨rfl, rfl⟩
     refine ⟨_, rfl, ?_⟩
     have hcp := grownCap_ge w (es.length + 1) lc.cap 47
     generalize grownCap w (es.length + 1) lc.cap 47 = cp at hcp ⊢
     have hvs' : cs.toArray ++ vs.toArray ++ Builtin.zeroCells z.cells (cp - (es.length + 1)) = (cs ++ vs ++ (Builtin.zeroCells z.cells (cp - (es.length + 1))).toList).toArray := by
      apply Array.ext'; simp
     rw [hvs']
     generalize hZ : (Builtin.zeroCells z.cells (cp - (es.length + 1))).toList = Z
     have hZl : Z.length = (cp - (es.length + 1)) * 2 := by rw [<- hZ, Array.length_toList, size_zeroCells, hzs]
     have hblk : (w.drew.alloc (.cells (cs ++ vs ++ Z).toArray 47)).heap[w.heap.size]? = some (.cells (cs ++ vs ++ Z).toArray 47 (0, 0)) := heap_alloc_new w.drew _
     rw [<- hlen']
     refine sI (by omega) hold' (Rf := cs ++ vs ++ Z) ?_ (by omega) (by simp) (fun j => ?_) (fun j => ?_) (fK w.drew _ _) ((Fr.drew w (fun _ _ => False)).trans (Fr.alloc _ _ _ (fun _ _ => False)) (fun _ _ h => h) (fun _ _ h => h.elim)) (hR _)
     ·rw [List.length_append, List.length_append]; omega
     ·have := cell_of_row _ w.heap.size j _ 47 (0, 0) hblk
      exact this.trans (List.getElem?_toArray ..)
     ·show World.frozen? _ _ = false
      unfold World.frozen?
      simp only [hblk]; simp
   ·have hlt : k < es.length := by omega
    cases hb : lc.base with
    | none => have := q7 hb; omega
    | some p =>
     obtain ⟨b, o⟩ := p
     have hhdr : lc.hdr = .slice (some ⟨b, o, none⟩) es.length lc.cap := by unfold Loc.hdr; rw [hb, q3]
     rw [hhdr]
     have hF : ∀ j, j < lc.cap * 2 -> lc.F b (o + j) := fun j hj => .inl ⟨o, hb, by omega, by omega⟩
     by_cases hroom : es.length + 1 <= lc.cap
     ·obtain ⟨spare, s1, s2⟩ := uq hO k1 hb (k4 b o hb)
      rw [List.length_append] at s1
      have hc2 : (es.length + 1) * 2 <= lc.cap * 2 := Nat.mul_le_mul_right _ hroom
      have hex : ∀ j, j < lc.cap * 2 -> ∃ c, at_ w b (o + j) = some c := fun j hj => ((q9 b o hb).1 j (by omega)).1
      obtain ⟨c0, hc0⟩ := hex 0 (by omega)
      obtain ⟨tB, kB, hsb, hfe⟩ := q6.2 b o hb (Nat.le_refl _)
      obtain ⟨tB', kB', hsb', hlt'⟩ := oS hc0
      have ekB : kB = kB' := by rw [hsb] at hsb'; simp only [Option.some.injEq, Prod.mk.injEq] at hsb'; exact hsb'.2
      obtain ⟨tA, kA, hsa, hltA⟩ := oS (hvc 0 _ (List.getElem?_eq_getElem (by omega)))
      refine (zc i0 hin hs2 b o es.length lc.cap k vb voff vc cs vs w hbig hlt hroom (by omega) hvl (k4 b o hb) (fun j hj => Option.isSome_iff_exists.2 (hex j (by omega))) (fun j hj => ((q9 b o hb).1 j (by omega)).2) hvc (fun j hj e => by
       subst e
       have := hvm j hj
       rcases Nat.lt_or_ge (voff + j) o with h1 | h1
       ·exact .inl h1
       ·rcases Nat.lt_or_ge (voff + j) (o + lc.cap * 2) with h2 | h2
        ·exact absurd (.inr (by have := hF (voff + j - o) (by omega); rwa [show o + (voff + j - o) = voff + j by omega] at this)) this
        ·exact .inr (by omega)) k2 h1v tA tB kA kB hsa (by omega) hsb (by omega) hfe).mono ?_
      rintro e w' ⟨rfl, rfl⟩
      refine ⟨_, rfl, ?_⟩
      rw [<- hlen']
      have hm1 : ∀ j, j < (cs.drop (k * 2)).length -> lc.F b (o + (k + 1) * 2 + j) := fun j hj => by
       have := hF ((k + 1) * 2 + j) (by omega)
       rwa [<- Nat.add_assoc] at this
      have hm2 : ∀ j, j < vs.length -> lc.F b (o + k * 2 + j) := fun j hj => by
       have := hF (k * 2 + j) (by omega)
       rwa [<- Nat.add_assoc] at this
      have hfr1 : Fr lc.F w (w.drew.setCells b (o + (k + 1) * 2) (cs.drop (k * 2))) := (Fr.drew w lc.F).trans (Fr.setCells b _ _ w.drew hm1) (fun _ _ h => h) (fun _ _ h => .inl h)
      have hR1 : ∀ j, j < lc.cap * 2 -> at_ (w.drew.setCells b (o + (k + 1) * 2) (cs.drop (k * 2))) b (o + j) = ((cs ++ spare).take ((k + 1) * 2) ++ cs.drop (k * 2) ++ (cs ++ spare).drop ((k + 1) * 2 + (cs.drop (k * 2)).length))[j]? := fun j hj =>
       c9 (w := w.drew) (by rw [List.length_append]; omega) (s2 j hj) (fun q hq => by have := hex ((k + 1) * 2 + q) (by omega); rwa [<- Nat.add_assoc] at this)
      generalize hRest : (cs ++ spare).drop ((k + 1) * 2 + (cs.drop (k * 2)).length) = rest at hR1
      have hrl : rest.length = lc.cap * 2 - (es.length + 1) * 2 := by rw [<- hRest, List.length_drop, List.length_append]; omega
      have hpre : ((cs ++ spare).take ((k + 1) * 2)).length = (k + 1) * 2 := by rw [List.length_take, List.length_append]; omega
      generalize hPre : (cs ++ spare).take ((k + 1) * 2) = pre at hR1 hpre
      have hpt : pre.take (k * 2) = cs.take (k * 2) := by
       rw [<- hPre, List.take_take, Nat.min_eq_left (by omega), List.take_append_of_le_length (by omega)]
      refine qH (Rf := cs.take (k * 2) ++ vs ++ cs.drop (k * 2) ++ rest) hO hb ?_ (by omega) (fun x y u hu hm => ?_) (fun j hj => ?_) (fun x y => by rw [cV, cV]; rfl) (hfr1.trans (Fr.setCells b vs _ _ hm2) (fun _ _ h => h) (fun _ _ h => .inl h)) (hR _)
      ·simp only [List.length_append]; omega
      ·have h1 := (dD (w := w.drew) (M := fun b j => M0 b j ∨ lc.F b j) (fun j hj => .inr (hm1 j hj)) x y u hu hm).1
       exact (dD (M := fun b j => M0 b j ∨ lc.F b j) (fun j hj => .inr (hm2 j hj)) x y u h1 hm).1
      ·have h2 := c9 (w := w.drew.setCells b (o + (k + 1) * 2) (cs.drop (k * 2))) (b := b) (o := o) (p := k * 2) (j := j) (vs := vs) (by simp only [List.length_append]; omega) (hR1 j hj) (fun q hq => by
        have h3 := hR1 (k * 2 + q) (by omega)
        rw [<- Nat.add_assoc] at h3
        exact ⟨_, h3.trans (List.getElem?_eq_getElem (by simp only [List.length_append]; omega))⟩)
       rw [h2]
       congr 1
       rw [List.append_assoc pre, List.take_append_of_le_length (by omega), hpt, hvl]
       rw [List.drop_left' (l₁ := pre) (by omega)]
       simp only [List.append_assoc]
     ·refine (Bi i0 z hin hzz hs2 hzs b o es.length lc.cap k vb voff vc cs vs w hbig hlt (by omega) (by omega) hroomB (by omega) hvl (k4 b o hb) hvc k2 h1v).mono ?_
      rintro e w' ⟨rfl, rfl⟩
      refine ⟨_, rfl, ?_⟩
      have hcp := grownCap_ge w (es.length + 1) lc.cap 47
      generalize grownCap w (es.length + 1) lc.cap 47 = cp at hcp ⊢
      generalize hZ1 : Builtin.zeroCells z.cells (es.length + 1 - k) = Z1
      generalize hZ2 : Builtin.zeroCells z.cells (cp - (es.length + 1)) = Z2
      have z1 : Z1.toList.length = (es.length + 1 - k) * 2 := by rw [<- hZ1, Array.length_toList, size_zeroCells, hzs]
      have z2 : Z2.toList.length = (cp - (es.length + 1)) * 2 := by rw [<- hZ2, Array.length_toList, size_zeroCells, hzs]
      have hvs' : (cs.take (k * 2)).toArray ++ Z1 ++ Z2 = (cs.take (k * 2) ++ Z1.toList ++ Z2.toList).toArray := by
       apply Array.ext'; simp
      rw [hvs', <- hlen']
      have hblk : (w.alloc (.cells (cs.take (k * 2) ++ Z1.toList ++ Z2.toList).toArray 47)).heap[w.heap.size]? = some (.cells (cs.take (k * 2) ++ Z1.toList ++ Z2.toList).toArray 47 (0, 0)) := heap_alloc_new w _
      have hA0 : ∀ j : Nat, at_ (w.alloc (.cells (cs.take (k * 2) ++ Z1.toList ++ Z2.toList).toArray 47)).drew w.heap.size (0 + j) = (cs.take (k * 2) ++ Z1.toList ++ Z2.toList)[j]? := fun j => by
       rw [Nat.zero_add]
       have := cell_of_row _ w.heap.size j _ 47 (0, 0) hblk
       exact this.trans (List.getElem?_toArray ..)
      have hf0 : ∀ j : Nat, cK (w.alloc (.cells (cs.take (k * 2) ++ Z1.toList ++ Z2.toList).toArray 47)).drew w.heap.size j = false := fun j => by
       show World.frozen? (w.alloc _) _ = false
       unfold World.frozen?
       simp only [hblk]; simp
      have hW0 : (w.alloc (.cells (cs.take (k * 2) ++ Z1.toList ++ Z2.toList).toArray 47)).drew.heap.size = w.heap.size + 1 := by simp
      have hfr0 : Fr (fun _ _ => False) w (w.alloc (.cells (cs.take (k * 2) ++ Z1.toList ++ Z2.toList).toArray 47)).drew := (Fr.alloc w _ _ (fun _ _ => False)).trans (Fr.drew _ (fun _ _ => False)) (fun _ _ h => h) (fun _ _ h => h.elim)
      have hu0 : zQ (w.alloc (.cells (cs.take (k * 2) ++ Z1.toList ++ Z2.toList).toArray 47)).drew w.heap.size := fK w _ _
      generalize (w.alloc (.cells (cs.take (k * 2) ++ Z1.toList ++ Z2.toList).toArray 47)).drew = W0 at hA0 hf0 hW0 hfr0 hu0 ⊢
      have hex0 : ∀ j, j < (cs.take (k * 2) ++ Z1.toList ++ Z2.toList).length -> ∃ c, at_ W0 w.heap.size j = some c := fun j hj => by
       have := hA0 j
       rw [Nat.zero_add] at this
       exact ⟨_, this.trans (List.getElem?_eq_getElem hj)⟩
      have hA1 : ∀ j : Nat, at_ (W0.setCells w.heap.size (0 + k * 2) vs) w.heap.size (0 + j) = ((cs.take (k * 2) ++ Z1.toList ++ Z2.toList).take (k * 2) ++ vs ++ (cs.take (k * 2) ++ Z1.toList ++ Z2.toList).drop (k * 2 + vs.length))[j]? := fun j =>
       c9 (by simp only [List.length_append]; omega) (hA0 j) (fun q hq => by rw [Nat.zero_add]; exact hex0 _ (by simp only [List.length_append]; omega))
      have e1 : (cs.take (k * 2) ++ Z1.toList ++ Z2.toList).take (k * 2) = cs.take (k * 2) := by rw [List.append_assoc, List.take_left' htk]
      rw [e1] at hA1
      generalize hD1 : (cs.take (k * 2) ++ Z1.toList ++ Z2.toList).drop (k * 2 + vs.length) = D1 at hA1
      have hd1 : D1.length = (cp - k) * 2 - 2 := by rw [<- hD1, List.length_drop]; simp only [List.length_append]; omega
      rw [Nat.zero_add] at hA1
      have hA2 : ∀ j : Nat, at_ ((W0.setCells w.heap.size (k * 2) vs).drew.setCells w.heap.size (0 + (k + 1) * 2) (cs.drop (k * 2))) w.heap.size (0 + j) = ((cs.take (k * 2) ++ vs ++ D1).take ((k + 1) * 2) ++ cs.drop (k * 2) ++ (cs.take (k * 2) ++ vs ++ D1).drop ((k + 1) * 2 + (cs.drop (k * 2)).length))[j]? := fun j =>
       c9 (by simp only [List.length_append]; omega) (hA1 j) (fun q hq => by
        have := hA1 ((k + 1) * 2 + q)
        rw [<- Nat.add_assoc] at this
        exact ⟨_, this.trans (List.getElem?_eq_getElem (by simp only [List.length_append]; omega))⟩)
      have e2 : (cs.take (k * 2) ++ vs ++ D1).take ((k + 1) * 2) = cs.take (k * 2) ++ vs := List.take_left' (by rw [List.length_append]; omega)
      rw [e2] at hA2
      generalize hD2 : (cs.take (k * 2) ++ vs ++ D1).drop ((k + 1) * 2 + (cs.drop (k * 2)).length) = D2 at hA2
      have hd2 : D2.length = (cp - (es.length + 1)) * 2 := by rw [<- hD2, List.length_drop]; simp only [List.length_append]; omega
      have hFr1 : Fr (fun b j => b = w.heap.size) W0 ((W0.setCells w.heap.size (k * 2) vs).drew.setCells w.heap.size ((k + 1) * 2) (cs.drop (k * 2))) :=
       ((Fr.setCells w.heap.size vs _ W0 (fun _ _ => rfl)).trans (Fr.drew _ (fun b j => b = w.heap.size)) (fun _ _ h => h) (fun _ _ h => .inl h)).trans (Fr.setCells w.heap.size _ _ _ (fun _ _ => rfl)) (fun _ _ h => h) (fun _ _ h => .inl h)
      simp only [Nat.zero_add] at hA2
      refine sI (by omega) hold' (Rf := cs.take (k * 2) ++ vs ++ cs.drop (k * 2) ++ D2) ?_ (by omega) ?_ hA2 (fun j => ?_) (hFr1.unm hu0) (hfr0.trans hFr1 (fun _ _ h => h) (fun b j h => .inr (by omega))) (hR _)
      ·simp only [List.length_append]; omega
      ·rw [eh]
       show (W0.setCells ..).heap.size = _
       rw [eh, hW0]
      ·rw [cV]
       show cK (W0.setCells ..) _ _ = false
       rw [cV]; exact hf0 j
  ·exact absurd h (by simp)
 ·exact absurd h (by simp)
end Go.Proofs.YtcoikmicjbppmaaGreat.Vm
namespace Go.Proofs.YtcoikmicjbppmaaGreat.Vm
open Go Go.RowKit Go.Lib Go.Shelf
set_option linter.unusedVariables false
set_option linter.unusedSimpArgs false
set_option maxRecDepth 100000
theorem D8 {w : World} {o : Oper} {a : Act} {K : Act -> World -> Prop} {Q : Exit -> Act -> World -> Prop} {P : Program} (d s : Operand) (t t' : TypeId)
  (ho : o.op = .call { callee := .builtin .append, args := #[d, s], argTypes := #[t, t'] }) (v u : Value) (hd : a.eval d = v) (hs : a.eval s = u) {v' : Value} {w' : World}
  (hr : (Builtin.append_ #[t, t'] o.type #[v, u]).run P w = .ok v' w') (h : K (a.put o.dst v') w') : o.wp P a w K Q := by
 unfold Oper.wp execOp
 simp only [ho, resolve, invoke, builtin, Sem.run_bind, Sem.run_pure, Result.andThen_ok, List.map_toArray, List.map_cons, List.map_nil, hd, hs, hr]
 exact h
theorem Bh {P : Program} {ops : Array Oper} {o : Oper} {a : Act} {w : World} {K : Act -> World -> Prop} {Q : Exit -> Act -> World -> Prop} {E : Prop}
  (hg : o.guard = none) (d x : Operand) (dT sT : TypeId) (hop : o.op = Op.call { callee := Callee.builtin Builtin.append, args := #[d, x], argTypes := #[dT, sT] })
  (v u : Value) (hd : a.eval d = v) (hx : a.eval x = u) {v' : Value} {w' : World} (hr : (Builtin.append_ #[dT, sT] o.type #[v, u]).run P w = .ok v' w') (hK : K (a.put o.dst v') w') :
  if Region.wanted o (yielded ops a.tmps) = true then Oper.wp P o a w K Q else E := by
 have hw : Region.wanted o (yielded ops a.tmps) = true := by simp [Region.wanted, hg]
 rw [if_pos hw]
 exact D8 d x dT sT hop v u hd hx hr hK
theorem wz {P : Program} (w : World) (t e ty : TypeId) (z : Value) (ht : P.underlying t = some (.slice e)) (hv : ∀ w, (zeroValue e).run P w = .ok z w) (b o n c : Nat) (hn : 0 < n) (vs : List Value) (hvs : (Builtin.zeroCells z.cells n).toList = vs) (h1 : ∀ v ∈ vs, v.oneCell' = true)
  (hc : ∀ j, j < vs.length -> (w.cell? ⟨b, o + j, none⟩).isSome = true) (hf : ∀ j, j < vs.length -> w.frozen? ⟨b, o + j, none⟩ = false) :
  (Builtin.clear_ #[t] ty #[.slice (some ⟨b, o, none⟩) n c]).run P w = .ok (.tuple #[]) (w.setCells b o vs) := by
 have hst := run_storeCells_cells (P := P) b o vs 0 w (by simpa using hc) (by simpa using hf) h1
 simp only [Nat.add_zero] at hst
 obtain ⟨m, rfl⟩ : ∃ m, n = m + 1 := ⟨n - 1, by omega⟩
 simp [Builtin.clear_, run_underlying ht, hv, hvs, hst]
set_option maxHeartbeats 4000000 in
theorem DQ (i0 : TypeInfo) (z : Value) (hi0 : Tryz.prog.info? 47 = some i0) (hz0 : i0.zero = some z) (hs2 : i0.size = 2) (hzc : (Builtin.zeroCells z.cells 1).toList = [.string ⟨#[]⟩, .slice none 0 0]) (b off q c i : Nat) (cs : List Value) (w : World) (hn : q <= 4000000) (hi : i <= q) (hnc : q + 1 <= c)
  (hcl : cs.length = (q + 1) * 2) (hcs : ∀ j v, cs[j]? = some v -> w.cell? ⟨b, off + j, none⟩ = some v) (hsp : ∀ j, j < (q + 1) * 2 -> (w.cell? ⟨b, off + j, none⟩).isSome = true) (hfz : ∀ j, j < (q + 1) * 2 -> w.frozen? ⟨b, off + j, none⟩ = false) (h1c : ∀ v ∈ cs, v.oneCell' = true) :
  Calls Tryz.prog 87 #[.slice (some ⟨b, off, none⟩) (q + 1 : Nat) c, .int .i64 i, .int .i64 ((i : Int) + 1)] w fun e w' =>
   e = .returned (.slice (some ⟨b, off, none⟩) q c) /\ w' = (w.drew.setCells b (off + i * 2) (cs.drop ((i + 1) * 2))).setCells b (off + q * 2) [.string ⟨#[]⟩, .slice none 0 0] := by
 have zE : ∀ w, (Go.sizeOf 47).run Tryz.prog w = .ok 2 w := fun w => by simp [Go.sizeOf, typeInfo, hi0, hs2]
 have vE : ∀ w, (zeroValue 47).run Tryz.prog w = .ok z w := fun w => by simp [zeroValue, typeInfo, hi0, hz0]
 have mixed : Tryz.prog.follows Departure.mixedOrders = true := by kernel_rfl
 have hdl : (cs.drop ((i + 1) * 2)).length = (q - i) * 2 := by rw [List.length_drop, hcl]; omega
 obtain ⟨A, hA, hsrc⟩ : ∃ A : Addr, (if c = i + 1 then (some ⟨b, off, none⟩ : Option Addr) else some ⟨b, off + (i + 1) * 2, none⟩) = some A /\ ∀ t u, (cs.drop ((i + 1) * 2))[t]? = some u -> w.drew.cell? (A.add t) = some u := by
  by_cases h : c = i + 1
  ·refine ⟨⟨b, off, none⟩, by simp [h], fun t u hu => ?_⟩
   have := (List.getElem?_eq_some_iff.1 hu).1
   omega
  ·refine ⟨⟨b, off + (i + 1) * 2, none⟩, by simp [h], fun t u hu => ?_⟩
   rw [Addr.add_lit, Nat.add_assoc]
   rw [List.getElem?_drop] at hu
   exact hcs _ u hu
 have happ : ∀ ty, (Builtin.append_ #[33, 33] ty #[.slice (some ⟨b, off, none⟩) i c, .slice (some A) (q - i) (c - (i + 1))]).run Tryz.prog w.drew = .ok (.slice (some ⟨b, off, none⟩) q c) (w.drew.setCells b (off + i * 2) (cs.drop ((i + 1) * 2))) := fun ty => by
  have := fV (P := Tryz.prog) (w := w.drew) (ty := ty) Tryz.underlying33 hi0 (.inr ⟨_, Tryz.underlying33⟩) (y := .slice (some A) (q - i) (c - (i + 1))) (m := q - i) (news := cs.drop ((i + 1) * 2)) rfl
   (by rw [hs2]; exact run_firstCells_some w.drew 2 (q - i) A (q - i) (c - (i + 1)) _ hdl hsrc) (fun v hv => h1c v (List.mem_of_mem_drop hv)) (b := b) (off := off) (n := i) (cap := c) (by omega) (by rw [hs2, hdl]; intro j hj; rw [Nat.add_assoc]; exact hsp _ (by omega)) (by rw [hs2, hdl]; intro j hj; rw [Nat.add_assoc]; exact hfz _ (by omega))
  rw [hs2, show i + (q - i) = q by omega] at this; exact this
 obtain ⟨W1, hW1⟩ : ∃ W1, W1 = w.drew.setCells b (off + i * 2) (cs.drop ((i + 1) * 2)) := ⟨_, rfl⟩
 have hsp1 : ∀ k, k < (q + 1) * 2 -> (W1.cell? ⟨b, off + k, none⟩).isSome = true := fun k hk => by
  rw [hW1]
  exact kj b _ _ _ (fun j hj => by rw [Nat.add_assoc]; exact hsp _ (by omega)) _ (hsp k hk)
 have hcl1 : ∀ ty, (Builtin.clear_ #[33] ty #[.slice (some ⟨b, off + q * 2, none⟩) 1 (c - q)]).run Tryz.prog W1 = .ok (.tuple #[]) (W1.setCells b (off + q * 2) [.string ⟨#[]⟩, .slice none 0 0]) := fun ty =>
  wz W1 _ _ ty z Tryz.underlying33 vE b (off + q * 2) 1 (c - q) (by omega) _ hzc (by intro v hv; simp only [List.mem_cons, List.not_mem_nil, or_false] at hv; rcases hv with rfl | rfl <;> rfl)
   (fun j hj => by rw [Nat.add_assoc]; exact hsp1 _ (by simp only [List.length_cons, List.length_nil] at hj; omega)) (fun j hj => by rw [hW1, World.frozen?_setCells, Nat.add_assoc]; exact hfz _ (by simp only [List.length_cons, List.length_nil] at hj; omega))
 rw [<- hW1] at happ ⊢
 clear hW1
 have hq1 : (i : Int) <= (i : Int) + 1 := by omega
 have hq2 : (i : Int) + 1 <= (q : Int) + 1 := by omega
 have hq3 : ¬ ((i : Int) = (i : Int) + 1) := by omega
 have hq4 : ((i : Int) + 1).toNat = i + 1 := by omega
 have hq5 : (0 : Int) <= (i : Int) + 1 := by omega
 have hq6 : (i : Int) <= (q : Int) + 1 := by omega
 have hq7 : ¬ (c = q) := by omega
 have hq8 : (q : Int) <= (q : Int) + 1 := by omega
 have hq9 : (i : Int) <= (c : Int) := by omega
 have hq10 : (q : Int) + 1 <= (c : Int) := by omega
 have hq11 : ¬ (c = i) := by omega
 go_enter Tryz.func87, Tryz.ntmps87
 go_wp2_with fail
 go_region_law_o (refine Bh rfl _ _ 33 33 rfl _ _ (by simp [Act.eval, Act.put]) (by simp [Act.eval, Act.put]) (happ _) ?_)
 go_wp2
 go_ret
 exact ⟨rfl, rfl⟩
def nE : List TV -> Option (RT)
 | [.own 2 es, .pv (.int .i64 i), .pv (.int .i64 j)] => if 0 <= i /\ i.toNat < es.length /\ es.length <= 4000000 /\ j = i + 1 then some ([.own 2 (es.take i.toNat ++ es.drop (i.toNat + 1))], []) else none
 | _ => none
theorem zD : eO Tryz.prog 47 = some [.string ⟨#[]⟩, .slice none 0 0] := by kernel_rfl
set_option maxHeartbeats 1000000 in
theorem zZ (ms : List Mode) (hms : ms.headD .borrow ≠ .mut) (ag rs fs : List TV) (h : nE ag = some (rs, fs)) : br Tryz.prog ms 87 ag rs fs := by
 unfold nE at h
 split at h
 ·rename_i es i j
  split at h
  ·rename_i hc
   obtain ⟨hi0, hie, hbig, rfl⟩ := hc
   simp only [Option.some.injEq, Prod.mk.injEq] at h; obtain ⟨rfl, rfl⟩ := h
   obtain ⟨i0, z, hin, hzz, hzl, hl⟩ := ec zD
   have hs2 : i0.size = 2 := by have := kG; simpa [ar, hin] using this
   have hzc : (Builtin.zeroCells z.cells 1).toList = [.string ⟨#[]⟩, .slice none 0 0] := by
    have : z.cells = #[.string ⟨#[]⟩, .slice none 0 0] := by apply Array.ext'; simpa using hzl
    rw [this]; simp [Builtin.zeroCells]; rfl
   obtain ⟨k, rfl⟩ : ∃ k : Nat, i = k := ⟨i.toNat, by omega⟩
   rw [Int.toNat_natCast] at hie ⊢
   refine hX (xs := [.int .i64 k, .int .i64 ((k : Int) + 1)]) hms ?_
   intro w M0 lc args hO hx hold hM0
   unfold cT
   rw [j6 Tryz.func87 (by kernel_rfl) rfl]
   simp only [f7, bp] at hx
   obtain ⟨c1, r1, rfl, rfl, c2, r2, rfl, rfl, rfl⟩ := hx
   have hO2 := hO
   simp only [cJ] at hO2
   obtain ⟨q1, q2, q3, q4, q5, q6, q7, q8, q9⟩ := hO2
   obtain ⟨cs, k1, k2, k3, k4⟩ := sJ hO
   cases hb : lc.base with
   | none => have := q7 hb; omega
   | some p =>
    obtain ⟨b, o⟩ := p
    obtain ⟨q, hq⟩ : ∃ q, es.length = q + 1 := ⟨es.length - 1, by omega⟩
    have hhdr : lc.hdr = .slice (some ⟨b, o, none⟩) (q + 1 : Nat) lc.cap := by unfold Loc.hdr; rw [hb, q3, hq]
    rw [hhdr]
    have hF : ∀ j, j < lc.cap * 2 -> lc.F b (o + j) := fun j hj => .inl ⟨o, hb, by omega, by omega⟩
    obtain ⟨spare, s1, s2⟩ := uq hO k1 hb (k4 b o hb)
    rw [List.length_append] at s1
    have hc2 : (q + 1) * 2 <= lc.cap * 2 := Nat.mul_le_mul_right _ (by omega)
    have hex : ∀ j, j < lc.cap * 2 -> ∃ c, at_ w b (o + j) = some c := fun j hj => ((q9 b o hb).1 j (by omega)).1
    have hck : (cs.take (k * 2)).length = (es.take k).length * 2 := by rw [List.length_take, List.length_take]; omega
    have hR : ∀ rest, el w (fun b j => M0 b j ∨ lc.F b j) 2 (es.take k ++ es.drop (k + 1)) (cs.take (k * 2) ++ cs.drop ((k + 1) * 2) ++ rest) := fun rest => el.append (k3.take k) (k3.drop (k + 1)) hck rest
    have hlen' : (es.take k ++ es.drop (k + 1)).length = q := by simp; omega
    have hdk : (cs.drop ((k + 1) * 2)).length = (q - k) * 2 := by rw [List.length_drop]; omega
    have htk : (cs.take (k * 2)).length = k * 2 := by rw [List.length_take]; omega
    refine (DQ i0 z hin hzz hs2 hzc b o q lc.cap k cs w (by omega) (by omega) (by omega) (by omega) (k4 b o hb) (fun j hj => Option.isSome_iff_exists.2 (hex j (by omega))) (fun j hj => ((q9 b o hb).1 j (by omega)).2) k2).mono ?_
    rintro e w' ⟨rfl, rfl⟩
    refine ⟨_, rfl, ?_⟩
    rw [<- hlen']
    have hm1 : ∀ j, j < (cs.drop ((k + 1) * 2)).length -> lc.F b (o + k * 2 + j) := fun j hj => by
     have := hF (k * 2 + j) (by omega)
     rwa [<- Nat.add_assoc] at this
    have hm2 : ∀ j, j < ([.string ⟨#[]⟩, .slice none 0 0] : List Value).length -> lc.F b (o + q * 2 + j) := fun j hj => by
     have hj : j < 2 := hj
     have := hF (q * 2 + j) (by omega)
     rwa [<- Nat.add_assoc] at this
    have hfr1 : Fr lc.F w (w.drew.setCells b (o + k * 2) (cs.drop ((k + 1) * 2))) := (Fr.drew w lc.F).trans (Fr.setCells b _ _ w.drew hm1) (fun _ _ h => h) (fun _ _ h => .inl h)
    have hR1 : ∀ j, j < lc.cap * 2 -> at_ (w.drew.setCells b (o + k * 2) (cs.drop ((k + 1) * 2))) b (o + j) = ((cs ++ spare).take (k * 2) ++ cs.drop ((k + 1) * 2) ++ (cs ++ spare).drop (k * 2 + (cs.drop ((k + 1) * 2)).length))[j]? := fun j hj =>
     c9 (w := w.drew) (by rw [List.length_append]; omega) (s2 j hj) (fun q hq => by have := hex (k * 2 + q) (by omega); rwa [<- Nat.add_assoc] at this)
    have hpt : (cs ++ spare).take (k * 2) = cs.take (k * 2) := List.take_append_of_le_length (by omega)
    rw [hpt] at hR1
    generalize hRest : (cs ++ spare).drop (k * 2 + (cs.drop ((k + 1) * 2)).length) = rest at hR1
    have hrl : rest.length = lc.cap * 2 - q * 2 := by rw [<- hRest, List.length_drop, List.length_append]; omega
    have hzl2 : ([.string ⟨#[]⟩, .slice none 0 0] : List Value).length = 2 := rfl
    generalize ([.string ⟨#[]⟩, .slice none 0 0] : List Value) = zs at hm2 hzl2 ⊢
    have hfrz : ∀ x y, cK ((w.drew.setCells b (o + k * 2) (cs.drop ((k + 1) * 2))).setCells b (o + q * 2) zs) x y = cK w x y := fun x y => by rw [cV, cV]; rfl
    refine qH (Rf := cs.take (k * 2) ++ cs.drop ((k + 1) * 2) ++ (zs ++ rest.drop 2)) hO hb ?_ (by omega) (fun x y u hu hm => ?_) (fun j hj => ?_) ?_ (hfr1.trans (Fr.setCells b zs _ _ (by rw [hlen']; exact hm2)) (fun _ _ h => h) (fun _ _ h => .inl h)) (hR _)
    ·simp only [List.length_append, List.length_drop] at *; omega
    ·have h1 := (dD (w := w.drew) (M := fun b j => M0 b j ∨ lc.F b j) (fun j hj => .inr (hm1 j hj)) x y u hu hm).1
     exact (dD (M := fun b j => M0 b j ∨ lc.F b j) (fun j hj => .inr (by rw [hlen']; exact hm2 j hj)) x y u h1 hm).1
    ·have h2 := c9 (w := w.drew.setCells b (o + k * 2) (cs.drop ((k + 1) * 2))) (b := b) (o := o) (p := q * 2) (j := j) (vs := zs) (by simp only [List.length_append]; omega) (hR1 j hj) (fun q' hq' => by
      have h3 := hR1 (q * 2 + q') (by omega)
      rw [<- Nat.add_assoc] at h3
      exact ⟨_, h3.trans (List.getElem?_eq_getElem (by simp only [List.length_append]; omega))⟩)
     rw [hlen', h2]
     congr 1
     rw [List.take_left' (by rw [List.length_append]; omega), <- List.drop_drop, List.drop_left' (by rw [List.length_append]; omega), hzl2, List.append_assoc _ zs]
    ·rw [hlen']; exact hfrz
  ·exact absurd h (by simp)
 ·exact absurd h (by simp)
end Go.Proofs.YtcoikmicjbppmaaGreat.Vm
namespace Go.Proofs.YtcoikmicjbppmaaGreat.Vm
open Go Go.RowKit Go.Lib
set_option linter.unusedVariables false
set_option maxRecDepth 100000
theorem gM {P : Program} {t e : TypeId} (ht : P.underlying t = some (.slice e)) (A : Option Addr) (n cap : Nat) (w : World) : (binOp .eql t (.slice A n cap) (.slice none 0 0)).run P w = .ok (.bool A.isNone) w := by
 have h : ∀ d : Nat, (Op.equalIn (d + 1) t (.slice A n cap) (.slice none 0 0)).run P w = .ok A.isNone w := fun d => by
  simp [Op.equalIn, run_underlying ht]
  try (cases A <;> rfl)
 simp only [binOp]
 simp [Op.equal, Op.maxDepth, h 9999]
theorem ER : ar Tryz.prog 47 = 2 := by kernel_rfl
set_option maxHeartbeats 400000 in
theorem yQ (ms : List Mode) (ag rs fs : List TV) (h : iW Tryz.prog 47 ag = some (rs, fs)) : br Tryz.prog ms 70 ag rs fs := by
 unfold iW at h
 split at h
 ·rename_i es
  split at h
  ·rename_i hc
   obtain ⟨hroom, h63, hrow⟩ := hc
   simp only [Option.some.injEq, Prod.mk.injEq] at h; obtain ⟨rfl, rfl⟩ := h
   refine hU (xs := [.sl es]) ?_
   intro w M0 cs hx hold
   simp only [f7] at hx
   obtain ⟨c, r, rfl, hrep, rfl⟩ := hx
   unfold cT
   rw [j6 Tryz.func70 (by kernel_rfl) rfl]
   have hs : 0 < ar Tryz.prog 47 := by rw [ER]; decide
   obtain ⟨v, W', hrun, hF⟩ := rW (P := Tryz.prog) hold (t := 33) (e := 47) Tryz.underlying33 (by kernel_rfl) hrep hs hrow hroom h63
   obtain ⟨A, cap, news, rfl, hnil, _⟩ := kH hrep hs hrow
   have hrun' := Lib.hid hrun
   have hF' := Lib.hid hF
   clear hrun hF
   cases A with
   | none =>
    have := hnil rfl
    subst this
    have hb := gM Tryz.underlying33 none 0 cap
    clear hrep hrow hroom h63 hrun' hF' hnil
    simp only
    go_enter Tryz.func70, Tryz.ntmps70
    go_wp2
    go_ret
    exact ⟨_, rfl, nS hs⟩
   | some a =>
    have hb := gM Tryz.underlying33 (some a) es.length cap
    clear hrep hrow hroom h63 hnil
    simp only
    go_enter Tryz.func70, Tryz.ntmps70
    go_wp2_with (at_builtin; refine rq rfl _ _ _ _ rfl hrun'.out ?_)
    go_ret
    exact ⟨_, rfl, hF'.out⟩
  ·exact absurd h (by simp)
 ·exact absurd h (by simp)
theorem vd (ms : List Mode) (ag rs fs : List TV) (h : nD ag = some (rs, fs)) : br Tryz.prog ms 83 ag rs fs := yS (j6 Tryz.func83 (by kernel_rfl) rfl) (fun a b w => Tryz.strings_Compare a b w) ms ag rs fs h
set_option maxHeartbeats 2000000 in
theorem vI (base : Option Addr) (l c n : Nat) (w : World) (hlc : l <= c) (hc63 : c <= 9223372036854775807) (hn63 : n <= 9223372036854775807) (hroom : l + n <= c) :
  Calls Tryz.prog 92 #[.slice base l c, .int .i64 n] w fun e w' => e = .returned (.slice base l c) /\ w' = w := by
 have h1 : ¬ ((n : Int) < 0) := by omega
 have h2 : wrap64 ((c : Int) - (l : Int)) = (c : Int) - (l : Int) := by unfold wrap64; omega
 have h3 : wrap64 ((n : Int) - ((c : Int) - (l : Int))) = (n : Int) - ((c : Int) - (l : Int)) := by unfold wrap64; omega
 have h4 : ¬ ((n : Int) - ((c : Int) - (l : Int)) > 0) := by omega
 go_enter Tryz.func92, Tryz.ntmps92
 go_wp2
 go_ret
 exact ⟨rfl, rfl⟩
set_option maxHeartbeats 4000000 in
theorem xk (i0 : TypeInfo) (z : Value) (hi0 : Tryz.prog.info? 47 = some i0) (hz0 : i0.zero = some z) (hs0 : 0 < i0.size)
  (base : Option Addr) (l c n : Nat) (cs : List Value) (w : World) (hlc : l <= c) (hroom : c < l + n) (hbig : (l + n) * i0.bytes <= 140737488355328) (h63 : l + n <= 4611686018427387904)
  (hcl : cs.length = c * i0.size) (hnil : base = none -> c = 0) (hcs : ∀ a, base = some a -> ∀ j v, cs[j]? = some v -> w.cell? (a.add j) = some v) :
  Calls Tryz.prog 92 #[.slice base l c, .int .i64 n] w fun e w' =>
   e = .returned (.slice (some ⟨w.heap.size, 0, none⟩) l (grownCap w (l + n) c 47)) ∧
   w' = w.drew.alloc (.cells (cs.toArray ++ Builtin.zeroCells z.cells (l + n - c) ++ Builtin.zeroCells z.cells (grownCap w (l + n) c 47 - (l + n))) 47) := by
 have h1 : ¬ ((n : Int) < 0) := by omega
 have h2 : wrap64 ((c : Int) - (l : Int)) = (c : Int) - (l : Int) := by unfold wrap64; omega
 have h3 : wrap64 ((n : Int) - ((c : Int) - (l : Int))) = (n : Int) - ((c : Int) - (l : Int)) := by unfold wrap64; omega
 have h4 : (n : Int) - ((c : Int) - (l : Int)) > 0 := by omega
 have z25 : ∀ w, (Go.sizeOf 47).run Tryz.prog w = .ok i0.size w := fun w => by simp [Go.sizeOf, typeInfo, hi0]
 have hck : c + (l + n - c) = l + n := by omega
 have hold : (Builtin.firstCells i0.size c (.slice base c c)).run Tryz.prog w.drew = .ok cs.toArray w.drew := by
  cases base with
  | none =>
   have h0 := hnil rfl
   subst h0
   have hc0 : cs = [] := List.length_eq_zero_iff.1 (by simpa using hcl)
   rw [hc0]
   exact run_firstCells_none w.drew i0.size 0 0 0
  | some a => exact run_firstCells_some w.drew i0.size c a c c cs hcl (fun j v hj => hcs a rfl j v hj)
 have hrz : ∀ ty, (Builtin.append_ #[33, 3] ty #[.slice base c c, .int .i64 ((n : Int) - ((c : Int) - (l : Int)))]).run Tryz.prog w =
   .ok (.slice (some ⟨w.heap.size, 0, none⟩) (l + n) (grownCap w (l + n) c 47)) (w.drew.alloc (.cells (cs.toArray ++ Builtin.zeroCells z.cells (l + n - c) ++ Builtin.zeroCells z.cells (grownCap w (l + n) c 47 - (l + n))) 47)) := fun ty => by
  have h := Lib.run_append_grow_zeros w 33 3 ty 47 i0 z .i64 .i64 Tryz.underlying33 Tryz.underlying3 hi0 hz0 base c c cs hold (l + n - c) (by omega) hs0 (by omega) (by omega)
   (by
     have : (l + n - c) * i0.bytes <= (l + n) * i0.bytes := Nat.mul_le_mul_right _ (by omega)
     omega)
   (by rw [hck]; exact growslice_fits hroom hbig)
  rw [hck] at h
  rw [show (n : Int) - ((c : Int) - (l : Int)) = ((l + n - c : Nat) : Int) by omega]
  exact h
 have hGn : l + n <= grownCap w (l + n) c 47 := grownCap_ge w _ _ _
 obtain ⟨G, hG⟩ : ∃ G, G = grownCap w (l + n) c 47 := ⟨_, rfl⟩
 rw [<- hG] at hrz hGn ⊢
 have hG63 : G <= 9223372036854775807 := by
  have := grownCap_le_maxLen w (l + n) c 47 (by unfold maxLen; omega)
  rw [<- hG] at this
  unfold maxLen at this
  omega
 clear hold hck hG hcs hcl
 go_enter Tryz.func92, Tryz.ntmps92
 cases base with
 | none =>
  have h0 := hnil rfl
  subst h0
  obtain rfl : l = 0 := by omega
  go_wp2_with (at_builtin; refine Lib.wpList_append_run _ rfl _ _ _ _ rfl _ _ rfl rfl _ _ (hrz _) ?_)
  all_goals (go_ret; exact ⟨rfl, rfl⟩)
 | some a =>
  obtain ⟨ab, ao, asp⟩ := a
  go_wp2_with (at_builtin; refine Lib.wpList_append_run _ rfl _ _ _ _ rfl _ _ rfl rfl _ _ (hrz _) ?_)
  all_goals (go_ret; exact ⟨rfl, rfl⟩)
theorem z6 (ms : List Mode) (ag rs fs : List TV) (h : ti Tryz.prog 47 ag = some (rs, fs)) : br Tryz.prog ms 92 ag rs fs :=
 rC (e := 47) (j6 Tryz.func92 (by kernel_rfl) rfl) (fun b l c n w h1 h2 h3 h4 => vI b l c n w h1 h2 h3 h4) (fun i0 z a1 a2 a3 b l c n cs w h1 h2 h3 h4 h5 h6 h7 => xk i0 z a1 a2 a3 b l c n cs w h1 h2 h3 h4 h5 h6 h7) (by kernel_rfl) h
theorem CH : ar Tryz.prog 9 = 1 := by kernel_rfl
set_option maxHeartbeats 400000 in
theorem wV (ms : List Mode) (ag rs fs : List TV) (h : iW Tryz.prog 9 ag = some (rs, fs)) : br Tryz.prog ms 107 ag rs fs := by
 unfold iW at h
 split at h
 ·rename_i es
  split at h
  ·rename_i hc
   obtain ⟨hroom, h63, hrow⟩ := hc
   simp only [Option.some.injEq, Prod.mk.injEq] at h; obtain ⟨rfl, rfl⟩ := h
   refine hU (xs := [.sl es]) ?_
   intro w M0 cs hx hold
   simp only [f7] at hx
   obtain ⟨c, r, rfl, hrep, rfl⟩ := hx
   unfold cT
   rw [j6 Tryz.func107 (by kernel_rfl) rfl]
   have hs : 0 < ar Tryz.prog 9 := by rw [CH]; decide
   obtain ⟨v, W', hrun, hF⟩ := rW (P := Tryz.prog) hold (t := 22) (e := 9) Tryz.underlying22 (by kernel_rfl) hrep hs hrow hroom h63
   obtain ⟨A, cap, news, rfl, hnil, _⟩ := kH hrep hs hrow
   have hrun' := Lib.hid hrun
   have hF' := Lib.hid hF
   clear hrun hF
   cases A with
   | none =>
    have := hnil rfl
    subst this
    have hb := gM Tryz.underlying22 none 0 cap
    clear hrep hrow hroom h63 hrun' hF' hnil
    simp only
    go_enter Tryz.func107, Tryz.ntmps107
    go_wp2
    go_ret
    exact ⟨_, rfl, nS hs⟩
   | some a =>
    have hb := gM Tryz.underlying22 (some a) es.length cap
    clear hrep hrow hroom h63 hnil
    simp only
    go_enter Tryz.func107, Tryz.ntmps107
    go_wp2_with (at_builtin; refine rq rfl _ _ _ _ rfl hrun'.out ?_)
    go_ret
    exact ⟨_, rfl, hF'.out⟩
  ·exact absurd h (by simp)
 ·exact absurd h (by simp)
theorem yT (ms : List Mode) (hms : ms.headD .borrow = .mut) (ag rs fs : List TV) (h : tj ag = some (rs, fs)) : br Tryz.prog ms 108 ag rs fs := Gu (j6 Tryz.func108 (by kernel_rfl) rfl) (fun b o c ss w h1 h2 h3 => Tryz.slices_Sort_string b o c ss w h1 h2 h3) (fun p c w => Tryz.slices_Sort_string_none p c w) ms hms ag rs fs h
theorem tu (ms : List Mode) (hms : ms.headD .borrow ≠ .mut) (ag rs fs : List TV) (h : jm ag = some (rs, fs)) : br Tryz.prog ms 109 ag rs fs := yR (j6 Tryz.func109 (by kernel_rfl) rfl) (fun b o c ss w h1 h2 h3 => Tryz.slices_Compact_string b o c ss w h1 h2 h3) (fun p c w => Tryz.slices_Compact_string_empty p c w) ms hms ag rs fs h
noncomputable def GM : List (FuncId × (List TV -> Option (RT))) := [(70, (iW Tryz.prog 47)), (83, nD), (86, nF), (87, nE), (92, (ti Tryz.prog 47)), (107, (iW Tryz.prog 9)), (108, tj), (109, jm)]
def HA : List (FuncId × List Mode) := [(74, [.mut]), (86, [.move]), (87, [.move]), (92, [.isNil]), (93, [.mut]), (103, [.mut]), (104, [.mut]), (108, [.mut]), (109, [.move]), (110, [.mut]), (114, [.mut])]
def Hw : List (FuncId × List (Nat × List Nat × List Nat × List (Nat × Option Nat × Nat))) := [(3, [(11, [7, 9, 10, 11, 12, 13, 14, 15], [9, 10, 11, 13], [(9, none, 2), (10, none, 2), (11, none, 2), (13, none, 2)]), (18, [7, 9, 10, 11, 12, 13, 14, 20], [9, 10, 11, 13], [(9, none, 2), (10, none, 2), (11, none, 2), (13, none, 2)])]),
 (7, [(20, [1, 2, 4, 5, 7], [], [])]),
 (9, [(3, [0, 1, 2, 7, 8], [], [(0, none, 2), (7, none, 2)])]),
 (14, [(4, [0, 1, 5], [], [(0, none, 2), (1, none, 2)])]),
 (17, [(3, [0, 3, 4], [], [(0, none, 2)])]),
 (18, [(3, [1, 2, 5, 6], [], [])]),
 (19, [(2, [1, 3], [], [])]),
 (20, [(3, [0, 1, 5, 6], [], [(0, none, 2)])]),
 (23, [(3, [1, 2, 3, 4], [], [])]),
 (28, [(20, [1, 74, 75, 76], [1], [(1, none, 2), (74, none, 10)])]),
 (30, [(2, [0, 1, 6], [], [(0, none, 2)])]),
 (32, [(27, [1, 2, 13, 14], [], [(1, none, 2), (13, none, 2)]), (35, [1, 2, 17], [], [(1, none, 2)])]),
 (33, [(40, [1, 2, 3, 4, 23, 24], [], [(1, none, 2), (2, none, 2), (23, none, 2)]), (23, [13, 14, 15], [13, 14], [(13, none, 2), (14, none, 2)])]),
 (34, [(4, [0, 3, 4, 5], [], [])]),
 (38, [(2, [0, 10, 11, 12], [], [(0, none, 2), (10, none, 1)])]),
 (42, [(2, [3, 4, 5, 9, 10, 11], [], [(4, none, 2), (5, none, 2), (9, none, 2)])]),
 (44, [(3, [1, 6, 11, 12, 13], [], [(6, none, 2), (11, none, 2)])]),
 (53, [(3, [1, 3, 8, 23, 24, 25], [1], [(1, none, 2), (8, none, 1), (23, none, 10)]), (12, [1, 3, 8, 14], [1], [(1, none, 2), (8, none, 1)])]),
 (58, [(3, [0, 3, 6, 7, 8], [], [(0, none, 2), (6, none, 2), (7, none, 2)])]),
 (59, [(7, [1, 8, 13], [8], [(1, none, 2), (8, none, 2)])]),
 (61, [(3, [1, 3, 4, 10, 11], [], [(1, none, 2), (10, none, 1)]), (10, [1, 3, 4, 10, 14], [], [(1, none, 2), (10, none, 1)])]),
 (62, [(2, [0, 1, 2, 11, 12, 13], [], [(2, none, 2), (11, none, 2)])]),
 (64, [(3, [3, 9, 10, 11], [], [(3, none, 2), (9, none, 2)])]),
 (68, [(3, [3, 9, 10, 11], [], [(3, none, 2), (9, none, 2)])]),
 (73, [(3, [0, 3, 9, 10, 11], [], [(0, none, 1), (9, none, 1)]), (11, [6, 25, 26, 27], [], [(6, none, 2), (25, none, 1)])]),
 (76, [(14, [1, 2, 7], [1], [(1, none, 2)])]),
 (77, [(1, [0, 1, 2, 6], [], [(1, none, 2)])]),
 (81, [(3, [0, 1, 2, 8, 9, 10], [], [(0, none, 2)])]),
 (90, [(4, [1, 2, 15, 16, 17], [], [(1, none, 2), (15, none, 2)])]),
 (93, [(2, [0, 1, 2, 6, 7, 8], [], [(0, none, 2)]), (7, [0, 1, 2, 6], [], [(0, none, 2)]), (9, [0, 1, 2, 6, 7, 8], [], [(0, none, 2)])]),
 (95, [(2, [0, 1, 5], [], [(0, none, 1)])]),
 (98, [(2, [0, 1, 7, 8], [], [(0, none, 2)])]),
 (101, [(2, [0, 1, 7, 8], [], [(0, none, 1)])]),
 (103, [(1, [0, 1, 2, 3, 8], [], [(0, none, 2)]), (4, [0, 1, 2, 3, 8, 9], [], [(0, none, 2)])]),
 (104, [(3, [0, 1, 4, 10, 11], [], [(0, none, 2)]), (9, [0, 10, 13], [], [(0, none, 2)]), (15, [0, 2, 4, 14, 15], [], [(0, none, 2)]), (21, [0, 14, 17], [], [(0, none, 2)]), (33, [0, 1, 2, 3, 4, 18, 19, 20, 21, 22], [], [(0, none, 2)])]),
 (109, [(4, [0, 3], [], [(0, none, 1)]), (9, [0, 3, 4, 5], [], [(0, none, 1), (4, none, 1)])]),
 (110, [(2, [0, 2, 4, 10, 11], [], [(0, none, 2)])]),
 (111, [(1, [0, 2, 3], [], [(0, none, 2)])]),
 (112, [(2, [0, 1, 2, 3, 8, 9], [], [(0, none, 1)])]),
 (114, [(1, [0, 1, 2, 3, 10], [], [(0, none, 2)])]),
 (115, [(1, [0, 1, 2, 6], [], [(0, none, 1)]), (4, [0, 1, 2, 6, 7], [], [(0, none, 1)])]),
 (116, [(4, [0, 6, 7, 8, 9], [], [(0, none, 1)]), (8, [0, 6, 7, 10], [], [(0, none, 1)])]),
 (117, [(5, [0, 1, 6, 7, 8, 9], [], [(0, none, 1)])]),
 (119, [(2, [0, 6, 7], [], [(0, none, 1)])]),
 (120, [(3, [0, 1, 2, 7, 8], [], [(0, none, 1)]), (5, [0, 1, 2, 7, 8], [], [(0, none, 1)]), (14, [0, 1, 2, 7, 8, 9], [], [(0, none, 1)]), (20, [0, 1, 2, 7, 8, 10], [], [(0, none, 1)])]),
 (122, [(3, [0, 1, 9, 10], [], [(0, none, 1)]), (5, [0, 1, 9, 10], [], [(0, none, 1)])]),
 (123, [(3, [0, 1, 10, 11], [], [(0, none, 1)]), (5, [0, 1, 10, 11], [], [(0, none, 1)]), (13, [0, 1, 10, 11], [], [(0, none, 1)]), (15, [0, 1, 10, 11], [], [(0, none, 1)])]),
 (126, [(1, [0, 2, 3, 8], [], [(0, none, 1)])])]
def My : List (FuncId × List (Nat × List Nat)) := [(3, [(8, [9]), (9, [9, 10])]), (9, [(5, [7, 43])]), (29, [(8, [9])]), (32, [(17, [8]), (20, [9])]), (33, [(30, [16, 18]), (33, [17, 19])]), (39, [(3, [16]), (6, [8, 25, 26, 28])]), (43, [(2, [14, 15]), (10, [16, 18])]), (51, [(3, [6])]), (53, [(14, [1])]), (56, [(7, [30])])]
noncomputable def C : Cx where
 P := Tryz.prog
 modes f := (cB f HA).getD []
 ext f := cB f GM
 bldT := u0
 loops f t := match cB f Hw with | some l => (cB t l).getD ([], [], []) | none => ([], [], [])
 pre f t := match cB f My with | some l => (cB t l).getD [] | none => []
theorem JR : ∀ f g ag rs fs, C.ext f = some g -> g ag = some (rs, fs) -> br C.P (C.modes f) f ag rs fs := by
 intro f g ag rs fs h hg
 have hm := dX (show cB f GM = some g from h)
 simp only [GM, List.mem_cons, List.not_mem_nil, or_false, Prod.mk.injEq] at hm
 rcases hm with ⟨rfl, rfl⟩ | ⟨rfl, rfl⟩ | ⟨rfl, rfl⟩ | ⟨rfl, rfl⟩ | ⟨rfl, rfl⟩ | ⟨rfl, rfl⟩ | ⟨rfl, rfl⟩ | ⟨rfl, rfl⟩
 ·exact yQ _ _ _ _ hg
 ·exact vd _ _ _ _ hg
 ·exact z7 (C.modes 86) (fun e => absurd ((show (C.modes 86).headD .borrow = .move from by kernel_rfl).symm.trans e) (fun h => by cases h)) _ _ _ hg
 ·exact zZ (C.modes 87) (fun e => absurd ((show (C.modes 87).headD .borrow = .move from by kernel_rfl).symm.trans e) (fun h => by cases h)) _ _ _ hg
 ·exact z6 _ _ _ _ hg
 ·exact wV _ _ _ _ hg
 ·exact yT _ (by kernel_rfl) _ _ _ hg
 ·exact tu (C.modes 109) (fun e => absurd ((show (C.modes 109).headD .borrow = .move from by kernel_rfl).symm.trans e) (fun h => by cases h)) _ _ _ hg
theorem yw : og C.P = true := by kernel_rfl
theorem BG : C.P.follows .mixedOrders = true := by kernel_rfl
theorem sound {k : Nat} {f : FuncId} {ag rs fs : List TV} (h : cS C k f ag = some (rs, fs)) : br C.P (C.modes f) f ag rs fs := ve JR yw BG k f ag rs fs h
end Go.Proofs.YtcoikmicjbppmaaGreat.Vm
namespace Go.Proofs.YtcoikmicjbppmaaGreat.Vm
open Go Go.RowKit
set_option linter.unusedVariables false
set_option linter.unusedSimpArgs false
def wJ (P : Program) : Nat -> List Field -> Nat -> Bool
 | o, [], n => o == n
 | o, f :: r, n => f.offset == o && wJ P (o + P.cellsOf f.type) r n
def tz (P : Program) (L : List TypeId) : Bool := L.all fun t => match P.underlying t with
 | some (.int _) | some .bool | some .string => true
 | some (.slice e) => L.contains e && decide (0 < P.cellsOf e)
 | some (.struct fs) => fs.toList.all (fun f => L.contains f.type) && wJ P 0 fs.toList (P.cellsOf t)
 | _ => false
inductive Shp (P : Program) : TypeId -> List PV -> Prop
 | int {t k n} : P.underlying t = some (.int k) -> (Lit.int k n).wf = true -> Shp P t [.int k n]
 | bool {t b} : P.underlying t = some .bool -> Shp P t [.bool b]
 | str {t s} : P.underlying t = some .string -> s.length <= reachBytes -> Shp P t [.str s]
 | sl {t e es} : P.underlying t = some (.slice e) -> es.length * P.bytesOf e <= reachBytes -> (∀ x, x ∈ es -> Shp P e x) -> Shp P t [.sl es]
 | struct {t fs} (xs : Nat -> List PV) : P.underlying t = some (.struct fs) -> (∀ i f, fs.toList[i]? = some f -> Shp P f.type (xs i)) -> Shp P t ((List.range fs.toList.length).flatMap xs)
theorem ka {α : Type} {p : Nat -> α -> Prop} : ∀ {n : Nat}, (∀ i, i < n -> ∃ x, p i x) -> ∃ l : List α, l.length = n /\ ∀ i x, l[i]? = some x -> p i x
 | 0, _ => ⟨[], rfl, fun i x h => by simp at h⟩
 | n + 1, h => by
  obtain ⟨l, h1, h2⟩ := ka (n := n) fun i hi => h i (by omega)
  obtain ⟨x, hx⟩ := h n (by omega)
  refine ⟨l ++ [x], by simp [h1], fun i y hy => ?_⟩
  rcases Nat.lt_or_ge i n with hi | hi
  ·rw [List.getElem?_append_left (by omega)] at hy; exact h2 i y hy
  ·rw [List.getElem?_append_right (by omega)] at hy
   have : i = n := by
    have := (List.getElem?_eq_some_iff.1 hy).1
    simp at this; omega
   subst this
   rw [h1, Nat.sub_self] at hy
   simp only [List.getElem?_cons_zero, Option.some.injEq] at hy
   subst hy; exact hx
theorem w6 {α : Type} [Inhabited α] {p : Nat -> α -> Prop} {n : Nat} (h : ∀ i, i < n -> ∃ x, p i x) : ∃ g : Nat -> α, ∀ i, i < n -> p i (g i) := by
 obtain ⟨l, h1, h2⟩ := ka h
 refine ⟨fun i => l[i]?.getD default, fun i hi => ?_⟩
 have : l[i]? = some l[i] := List.getElem?_eq_getElem (by omega)
 simp only [this, Option.getD_some]
 exact h2 i _ this
theorem qb {w : World} {base : Nat} {a : Addr} {n : Nat} {vs : List Value} (h : w.cells? base a n = some vs) : vs.length = n /\ ∀ j v, vs[j]? = some v -> w.cell? (a.add j) = some v := by
 unfold World.cells? at h
 split at h
 ·refine ⟨by simpa using mapM_some_length h, fun j v hj => ?_⟩
  have hlt : j < n := by
   have h1 := (List.getElem?_eq_some_iff.1 hj).1
   have h2 := mapM_some_length h
   simp at h2; omega
  have := mapM_some_get h j j (by simp [hlt])
  rw [this, hj]
 ·exact absurd h (by simp)
theorem tf {P : Program} {W : World} {M : ay} {cs : List Value} : ∀ {fs : List Field} {o n : Nat} {ys : Nat -> List PV}, wJ P o fs n = true -> cs.length = n →
  (∀ i f, fs[i]? = some f -> RepS W M (ys i) ((cs.drop f.offset).take (P.cellsOf f.type))) -> RepS W M ((List.range fs.length).flatMap ys) (cs.drop o)
 | [], o, n, ys, h, hl, _ => by
  simp only [wJ, beq_iff_eq] at h
  subst h
  rw [List.drop_of_length_le (by omega)]
  simp [RepS]
 | f :: r, o, n, ys, h, hl, hy => by
  simp only [wJ, Bool.and_eq_true, beq_iff_eq] at h
  obtain ⟨rfl, h⟩ := h
  rw [List.length_cons, List.range_succ_eq_map, List.flatMap_cons, List.flatMap_map]
  have ih := tf (ys := fun i => ys (i + 1)) h hl fun i g hg => hy (i + 1) g (by simpa using hg)
  have h0 := hy 0 f rfl
  have := RepS.append h0 ih
  rw [<- List.drop_drop, List.take_append_drop] at this
  exact this
theorem o6 {H : Type} {P : Program} {e : TypeId} : ∀ {l : List (DataW H)} {d : DataW H}, d ∈ l -> ∀ n ∈ d.weights P e, n ∈ DataW.weightsAll P e l
 | [], d, h, n, hn => by simp at h
 | y :: l, d, h, n, hn => by
  simp only [DataW.weightsAll, List.mem_append]
  rcases List.mem_cons.1 h with rfl | h
  ·exact .inl hn
  ·exact .inr (o6 h n hn)
theorem nr {H : Type} {enc : TypeId × Value -> H} {P : Program} {W : World} {spare : Nat -> Bool} {held : Bool} {L : List TypeId} (hL : tz P L = true) :
  ∀ (fuel : Nat) (t : TypeId) (cs : List Value) (x : DataW H × List MemPlace), t ∈ L -> DataW.trod enc P W 0 spare held fuel t cs = some x -> (∀ n ∈ x.1.weights P t, n <= reachBytes) -> ∃ xs, RepS W ep xs cs /\ Shp P t xs
 | 0, t, cs, x, _, h, hw => by simp [DataW.trod] at h
 | fuel + 1, t, cs, x, ht, h, hw => by
  have hc := List.all_eq_true.1 hL t ht
  split at hc
  ·rename_i k hu
   unfold DataW.trod at h
   rw [hu] at h
   split at h <;> simp_all
   obtain ⟨h1, h2⟩ := h
   obtain ⟨rfl, hwf⟩ := h1
   exact ⟨[.int _ _], by simp only [RepS, bp]; exact ⟨_, _, rfl, rfl, rfl, rfl⟩, .int hu hwf⟩
  ·rename_i hu
   unfold DataW.trod at h
   rw [hu] at h
   split at h <;> simp_all
   exact ⟨[.bool _], by simp only [RepS, bp]; exact ⟨_, _, rfl, rfl, rfl, rfl⟩, .bool hu⟩
  ·rename_i hu
   unfold DataW.trod at h
   rw [hu] at h
   split at h <;> simp_all
   rename_i s
   refine ⟨[.str s.data.toList], by simp only [RepS, bp]; exact ⟨_, _, rfl, rfl, by simp, rfl⟩, .str hu ?_⟩
   obtain ⟨_, rfl⟩ := h
   exact hw _ (by simp [DataW.weights])
  ·rename_i e hu
   simp only [Bool.and_eq_true, decide_eq_true_eq, List.contains_iff_mem] at hc
   obtain ⟨he, hpos⟩ := hc
   rcases DataW.trod_slice hu h with ⟨rfl, _⟩ | ⟨a, len, cap, elems, rest, n, hn, rfl, hx, _, hlc, hcm, hll, hel0, _, _⟩
   ·exact ⟨[.sl []], by simp only [RepS, bp]; exact ⟨_, _, rfl, rfl, ⟨none, 0, rfl, by simp, fun _ => rfl, by simp, 1, by simp [RepRow]⟩, rfl⟩, .sl hu (by simp) (by simp)⟩
   ·have hn' : n = fuel := by omega
    subst hn'
    subst hx
    have hw1 : (elems.length + rest.length) * P.bytesOf e <= reachBytes := by
     have := hw ((elems.length + rest.length) * P.bytesOf e) (by simp [DataW.weights, hu])
     exact this
    have hw2 : ∀ i (hi : i < elems.length), ∀ k ∈ elems[i].1.weights P e, k <= reachBytes := fun i hi k hk => by
     refine hw k ?_
     simp only [DataW.weights, hu, List.mem_cons, List.mem_append]
     exact .inr (.inl (o6 (List.mem_map.2 ⟨elems[i], List.getElem_mem hi, rfl⟩) k hk))
    have hel : ∀ i, i < len -> ∃ y : List PV × List Value, W.cells? 0 (a.add (i * P.cellsOf e)) (P.cellsOf e) = some y.2 /\ RepS W ep y.1 y.2 /\ Shp P e y.1 := by
     intro i hi
     have := hel0 i hi
     rw [List.getElem?_eq_getElem (by omega)] at this
     obtain ⟨vs, k1, k2⟩ := Option.bind_eq_some_iff.1 this
     obtain ⟨xs, k3, k4⟩ := nr hL n e vs _ he k2 (hw2 i (by omega))
     exact ⟨(xs, vs), k1, k3, k4⟩
    obtain ⟨l, l1, l2⟩ := ka hel
    refine ⟨[.sl (l.map (·.1))], ?_, .sl hu ?_ ?_⟩
    ·simp only [RepS, bp]
     have hsp : 0 < len -> a.spot = none := by
      intro h0
      obtain ⟨y, hy⟩ : ∃ y, l[0]? = some y := ⟨l[0], List.getElem?_eq_getElem (by omega)⟩
      obtain ⟨k1, _, _⟩ := l2 0 y hy
      obtain ⟨k2, k3⟩ := qb k1
      have := k3 0 y.2[0] (List.getElem?_eq_getElem (by omega))
      simp only [Nat.zero_mul] at this
      simpa [Addr.add] using World.cell?_spot this
     refine ⟨_, [], rfl, rfl, ⟨some a, cap, by simp [l1], by simp [l1]; omega, by simp, fun b hb hne => ?_, P.cellsOf e, RepRow.of fun j x hj => ?_⟩, rfl⟩
     ·simp only [Option.some.injEq] at hb; subst hb
      exact hsp (by rw [<- l1]; exact List.length_pos_iff.2 (by simpa using hne))
     ·rw [List.getElem?_map] at hj
      cases hy : l[j]? with
      | none => rw [hy] at hj; simp at hj
      | some y =>
       rw [hy] at hj; simp at hj; subst hj
       obtain ⟨k1, k2, k3⟩ := l2 j y hy
       obtain ⟨k4, k5⟩ := qb k1
       have hj' := (List.getElem?_eq_some_iff.1 hy).1
       have hs := hsp (by omega)
       obtain ⟨b, o, sp⟩ := a
       simp only at hs; subst hs
       refine ⟨_, y.2, rfl, by rw [<- k2.length, k4], k2, fun i c hi => ⟨?_, fun h => h⟩⟩
       have := k5 i c hi
       rw [dx, dx] at this
       simpa [at_] using this
    ·refine Nat.le_trans (Nat.mul_le_mul_right _ ?_) hw1
     simp only [List.length_map]; omega
    ·intro x hx
     obtain ⟨y, hy, rfl⟩ := List.mem_map.1 hx
     obtain ⟨j, hj⟩ := List.getElem?_of_mem hy
     exact (l2 j y hj).2.2
  ·rename_i fs hu
   simp only [Bool.and_eq_true, List.all_eq_true, List.contains_iff_mem] at hc
   obtain ⟨hf, htl⟩ := hc
   obtain ⟨ys, n, hn, hx, hlen, hys, hall⟩ := DataW.trod_struct hu h
   have hn' : n = fuel := by omega
   subst hn'
   subst hx
   have hw2 : ∀ i (hi : i < fs.toList.length) (hi2 : i < ys.length), ∀ k ∈ ys[i].1.weights P fs.toList[i].type, k <= reachBytes := fun i hi hi2 k hk => by
    refine hw k ?_
    simp only [DataW.weights, hu]
    exact DataW.weights_mem_each (j := i) (t := fs.toList[i].type) (d := ys[i].1) (by rw [List.getElem?_map, List.getElem?_eq_getElem hi]; rfl) (by rw [List.getElem?_map, List.getElem?_eq_getElem hi2]; rfl) k hk
   have hel : ∀ i, i < fs.toList.length -> ∃ x : List PV, ∀ f, fs.toList[i]? = some f -> RepS W ep x ((cs.drop f.offset).take (P.cellsOf f.type)) /\ Shp P f.type x := by
    intro i hi
    have hfi : fs.toList[i]? = some fs.toList[i] := List.getElem?_eq_getElem hi
    have hli : i < ys.length := by simp at hi; omega
    have := hall i fs.toList[i] (by simp)
    rw [List.getElem?_eq_getElem hli] at this
    obtain ⟨xs, k1, k2⟩ := nr hL n _ _ _ (hf _ (List.mem_of_getElem? hfi)) this (hw2 i hi hli)
    refine ⟨xs, fun f hf' => ?_⟩
    rw [hfi] at hf'; simp only [Option.some.injEq] at hf'; subst hf'
    exact ⟨k1, k2⟩
   obtain ⟨g, hg⟩ := w6 hel
   refine ⟨(List.range fs.toList.length).flatMap g, ?_, .struct g hu fun i f hif => (hg i (List.getElem?_eq_some_iff.1 hif).1 f hif).2⟩
   have := tf (ys := g) (W := W) (M := ep) htl hlen fun i f hif => (hg i (List.getElem?_eq_some_iff.1 hif).1 f hif).1
   exact this
  ·exact absurd hc (by simp)
theorem H1 {H : Type} {enc : TypeId × Value -> H} {P : Program} {W : World} {t e : TypeId} {a : Option Addr} {len cap : Nat} {spare : Nat -> Bool} {held : Bool} {d : DataW H} {ps : List MemPlace} (L : List TypeId) (hL : tz P L = true) (htL : L.contains t = true)
  (ht : P.underlying t = some (.slice e)) (h : DataW.Trod enc P W 0 spare held t (.slice a len cap) d ps) (hw : ∀ n ∈ d.weights P t, n <= reachBytes) : ∃ es : LP, bp W ep (.sl es) (.slice a len cap) /\ Shp P t [.sl es] := by
 obtain ⟨fuel, hf⟩ := h
 obtain ⟨xs, h1, h2⟩ := nr hL fuel t _ _ (by simpa using htL) hf hw
 have hcs : (Value.slice a len cap).cells.toList = [.slice a len cap] := rfl
 rw [hcs] at h1
 cases h2 with
 | int h => rw [h] at ht; simp at ht
 | bool h => rw [h] at ht; simp at ht
 | str h => rw [h] at ht; simp at ht
 | sl h1' h2' h3' =>
  simp only [RepS] at h1
  obtain ⟨c, r, e1, _, h4, _⟩ := h1
  simp only [List.cons.injEq] at e1
  obtain ⟨rfl, _⟩ := e1
  exact ⟨_, h4, .sl h1' h2' h3'⟩
 | struct xs h => rw [h] at ht; simp at ht
theorem FO {H : Type} {enc : TypeId × Value -> H} {P : Program} {W : World} {t : TypeId} {v : Value} {spare : Nat -> Bool} {held : Bool} {d : DataW H} {ps : List MemPlace} {cs : Array Value} (L : List TypeId) (hL : tz P L = true) (htL : L.contains t = true)
  (h : DataW.Trod enc P W 0 spare held t (.agg cs) d ps) (hw : ∀ n ∈ d.weights P t, n <= reachBytes) : ∃ xs : List PV, bp W ep (.agg xs) (.agg cs) /\ Shp P t xs := by
 obtain ⟨fuel, hf⟩ := h
 obtain ⟨xs, h1, h2⟩ := nr hL fuel t _ _ (by simpa using htL) hf hw
 exact ⟨xs, by simp only [bp]; exact ⟨cs, rfl, h1⟩, h2⟩
end Go.Proofs.YtcoikmicjbppmaaGreat.Vm
namespace Go.Proofs.YtcoikmicjbppmaaGreat.Vm
open Go Go.RowKit
set_option linter.unusedVariables false
set_option linter.unusedSimpArgs false
def cd : Specs := fun _ => none
theorem bM : aK C cd := by intro f g h; simp [cd] at h
theorem cz : du = 140737488355328 := rfl
theorem bN : bz = 9223372036854775807 := rfl
theorem oY {n : Int} (h : -9223372036854775808 <= n /\ n <= 9223372036854775807) : IntKind.wrap .i64 n = n := IntWalk.i64_in _ (by omega)
theorem dJ {i : Nat} (h : i < 9223372036854775807) : IntKind.wrap .i64 ((i : Int) + 1) = ((i + 1 : Nat) : Int) := by rw [oY (by omega)]; omega
theorem bh {C : Cx} {S : Specs} {f : FuncId} {ag : List TV} {R : RT} {h : H} {P : Prop} (hS : aK C S) (e : bq C S f ag (fun r => r = R) h = P) (k : P) : Ev C f ag R := JQ hS (e.mpr k)
theorem vo {C : Cx} {S : Specs} {f : FuncId} {ag : List TV} {Q : QT} {h : H} {P : Prop} (hS : aK C S) (e : bq C S f ag Q h = P) (k : P) : ∃ r, Ev C f ag r /\ Q r := vt hS (e.mpr k)
theorem cr {X : H -> Prop} {h : H} {P : Prop} (e : X h = P) (k : P) : ∃ h, X h := ⟨h, e.mpr k⟩
def wi (a n : Int) : Int := if Int.tmod a n < 0 then IntKind.wrap .i64 (Int.tmod a n + n) else Int.tmod a n
theorem nA {a : Int} {n : Nat} (hn : 0 < n) (hm : n < 2 ^ 62) : 0 <= wi a n /\ wi a n < n := by
 have h1 := Int.tmod_lt_of_pos a (show (0 : Int) < n by omega)
 have h2 : -(n : Int) < Int.tmod a n := by
  have := Int.lt_tmod_of_pos a (show (0 : Int) < n by omega)
  omega
 unfold wi
 split
 ·have hb : (2 : Nat) ^ 62 = 4611686018427387904 := by decide
  rw [IntWalk.i64_in _ (by omega)]
  omega
 ·omega
def iZ : List TV -> Option Alts
 | [.pv (.int .i64 a), .pv (.int .i64 m)] => one (¬ m = 0) ([.pv (.int .i64 (wi a m))], [])
 | _ => none
theorem iH {f : FuncId} (hf : ∀ a n : Int, ¬ n = 0 -> Ev C f [.pv (.int .i64 a), .pv (.int .i64 n)] ([.pv (.int .i64 (wi a n))], [])) : ∀ ag al, iZ ag = some al -> ∀ a ∈ al, a.1 -> Ev C f ag a.2 := by
 intro ag al hl x hx hp
 unfold iZ at hl
 split at hl
 ·have e := aD hl hx; subst e
  exact hf _ _ hp
 ·exact absurd hl (by simp)
end Go.Proofs.YtcoikmicjbppmaaGreat.Vm

namespace Go.Proofs.YtcoikmicjbppmaaGreat.Vm
open Go Go.RowKit
set_option linter.unusedVariables false
set_option linter.unusedSimpArgs false
set_option maxRecDepth 100000
inductive Tr where
 | nil
 | cons (n : BS) (k r : Tr)
def Tr.rows : Tr -> LP
 | .nil => []
 | .cons n k r => [.str n, .sl k.rows] :: r.rows
def Tr.nodes : Tr -> Nat
 | .nil => 0
 | .cons _ k r => k.nodes + r.nodes + 1
theorem rows_inj : ∀ {t u : Tr}, t.rows = u.rows -> t = u
 | .nil, .nil, _ => rfl
 | .nil, .cons _ _ _, h => by simp [Tr.rows] at h
 | .cons _ _ _, .nil, h => by simp [Tr.rows] at h
 | .cons n k r, .cons n' k' r', h => by
  simp only [Tr.rows, List.cons.injEq, PV.str.injEq, PV.sl.injEq, and_true] at h
  obtain ⟨⟨rfl, h1⟩, h2⟩ := h
  rw [rows_inj h1, rows_inj h2]
noncomputable def aH (a : LP) : Tr := @dite _ (∃ t : Tr, a = t.rows) (Classical.propDecidable _) (fun h => h.choose) (fun _ => .nil)
theorem aq (t : Tr) : aH t.rows = t := by
 unfold aH
 have h : ∃ u : Tr, t.rows = u.rows := ⟨t, rfl⟩
 rw [dif_pos h]
 exact (rows_inj h.choose_spec).symm
def iM (a : LP) : List (BS) := a.map fun r => match r with | [.str s] => s | _ => []
theorem bF (l : List (BS)) : iM (l.map ak) = l := by
 unfold iM
 rw [List.map_map]
 simp [Function.comp_def, ak]
def Tr.list : Tr -> List (BS × Tr)
 | .nil => []
 | .cons n k r => (n, k) :: r.list
def Tr.of : List (BS × Tr) -> Tr
 | [] => .nil
 | (n, k) :: r => .cons n k (Tr.of r)
def aE (e : BS × Tr) : List PV := [.str e.1, .sl e.2.rows]
theorem of_list : ∀ t : Tr, Tr.of t.list = t
 | .nil => rfl
 | .cons n k r => by simp [Tr.list, Tr.of, of_list r]
theorem list_of : ∀ l : List (BS × Tr), (Tr.of l).list = l
 | [] => rfl
 | (n, k) :: r => by simp [Tr.list, Tr.of, list_of r]
theorem rows_list : ∀ t : Tr, t.rows = t.list.map aE
 | .nil => rfl
 | .cons n k r => by simp [Tr.rows, Tr.list, aE, rows_list r]
theorem rows_len (t : Tr) : t.rows.length = t.list.length := by rw [rows_list, List.length_map]
theorem d5 : ∀ {t : Tr} {e : BS × Tr}, e ∈ t.list -> e.2.nodes < t.nodes
 | .nil, e, h => by simp [Tr.list] at h
 | .cons n k r, e, h => by
  simp only [Tr.list, List.mem_cons] at h
  simp only [Tr.nodes]
  rcases h with rfl | h
  ·simp only; omega
  ·have := d5 h; omega
theorem row_get (t : Tr) {i : Nat} (h : i < t.list.length) : t.rows[((i : Int)).toNat]? = some [.str t.list[i].1, .sl t.list[i].2.rows] := by
 rw [Int.toNat_natCast, rows_list, List.getElem?_map, List.getElem?_eq_getElem h]; rfl
end Go.Proofs.YtcoikmicjbppmaaGreat.Vm

namespace Go.Proofs.YtcoikmicjbppmaaGreat.Vm
open Go Go.RowKit
set_option linter.unusedVariables false
set_option linter.unusedSimpArgs false
set_option maxRecDepth 100000
noncomputable def bP (a b : LP) : Bool := @decide (a = b) (Classical.propDecidable _)
noncomputable def pt (N : Nat) : List TV -> Option Alts
 | [.pv (.sl a), .pv (.sl b)] => one (∃ t u : Tr, a = t.rows /\ b = u.rows /\ t.nodes < N /\ t.nodes <= 4000000) ([.pv (.bool (bP a b))], [])
 | _ => none
noncomputable def mq (N : Nat) : Specs := aZ [(14, pt N)]
theorem MH (c : Nat) (a b : LP) (Q : QT) : (bq C (mq c) 14 [.pv (.sl a), .pv (.sl b)] Q) (H.b H.auto H.auto) = (let d := (↑(List.length a) : Int) != (↑(List.length b) : Int); (d = true -> Q ([tB false], [])) /\ (d = false -> bd C 14 (d0 (u1 (d0 (u2 CP.top)))) (St.mk [(0, aS a), (1, aS b), (5, aI 0)] []) (cA (au 0 (aQ (bA C (mq c) 14 99997 (u3 CP.top)) (aU C 14 [tS a, tS b] Q)))))) := by kernel_rfl
def FY : CP := (d0 (u1 (d0 (u2 CP.top))))
def F0 (a b : LP) (c : Int) : St := (St.mk [(0, aS a), (1, aS b), (5, aI c)] [])
theorem Lj (d : Nat) (e f b c : LP) (a : Int)  (J0 : St -> Prop) (Q : QT) : (bA C (mq d) 14 1000 (FY.dn 0) (F0 b c a) (bO C 14 FY J0 (cA (au 0 (aQ (bA C (mq d) 14 99997 (u3 CP.top)) (aU C 14 [tS e, tS f] Q)))))) (H.b (H.s (H.s (H.s (H.s (H.b H.auto (H.n 2 (H.s (H.s (H.n 5 (H.s (H.s (H.n 5 (H.b H.auto H.auto))))))))))))) H.auto) = ((decide (a < (↑(List.length b) : Int)) = true -> (0 : Int) <= a /\ ∃ (s : BS) (es : LP), b[Int.toNat a]? = some [pT s, pS es] /\ (0 : Int) <= a /\ ∃ (s_1 : BS) (es : LP), c[Int.toNat a]? = some [pT s_1, pS es] /\ ((!s == s_1) = true -> ∃ (h : H), Q ([tB false], [])) /\ ((!s == s_1) = false -> (0 : Int) <= a /\ ∃ (s : BS) (es : LP), b[Int.toNat a]? = some [pT s, pS es] /\ (0 : Int) <= a /\ ∃ (s : BS) (es_1 : LP), c[Int.toNat a]? = some [pT s, pS es_1] /\ (∃ (t u : Tr), es = Tr.rows t /\ es_1 = Tr.rows u /\ Tr.nodes t < d /\ Tr.nodes t <= 4000000) /\ ((!bP es es_1) = true -> ∃ (h : H), Q ([tB false], [])) /\ ((!bP es es_1) = false -> J0 (St.mk [(0, aS b), (1, aS c), (5, aI (IntKind.wrap .i64 (a + 1)))] [])))) /\ (decide (a < (↑(List.length b) : Int)) = false -> ∃ (h : H), Q ([tB true], []))) := by kernel_rfl
noncomputable def uT (N : Nat) : Specs := aZ [(72, pt N)]
theorem MI (e : Nat) (d c : BS) (a b : LP) (Q : QT) : (bq C (uT e) 91 [.pv (.agg [.str d, .sl a]), .pv (.agg [.str c, .sl b])] Q) (H.b H.auto H.auto) = (((d == c) = true -> (∃ (t u : Tr), a = Tr.rows t /\ b = Tr.rows u /\ Tr.nodes t < e /\ Tr.nodes t <= 4000000) /\ Q ([tB (bP a b)], [])) /\ ((d == c) = false -> Q ([tB false], []))) := by kernel_rfl
noncomputable def J8 (N : Nat) : List TV -> Option Alts
 | [.pv (.agg [.str n, .sl a]), .pv (.agg [.str m, .sl b])] => one (∃ t u : Tr, a = t.rows /\ b = u.rows /\ t.nodes < N /\ t.nodes <= 4000000) ([.pv (.bool (n == m && bP a b))], [])
 | _ => none
noncomputable def rN (N : Nat) : Specs := aZ [(91, J8 N)]
theorem JP (c : Nat) (a b : LP) (Q : QT) : (bq C (rN c) 90 [.pv (.sl a), .pv (.sl b), .pv (.fn 91 [])] Q) (H.b H.auto H.auto) = (let d := (↑(List.length a) : Int) != (↑(List.length b) : Int); (d = true -> Q ([tB false], [])) /\ (d = false -> bd C 90 (d0 (u1 (d0 (u2 CP.top)))) (St.mk [(1, aS b), (2, AV.pv (PV.fn 91 [])), (15, aS a), (16, aI (↑(List.length a) : Int)), (17, aI 0)] []) (cA (au 0 (aQ (bA C (rN c) 90 99997 (u3 CP.top)) (aU C 90 [tS a, tS b, TV.pv (PV.fn 91 [])] Q)))))) := by kernel_rfl
def Ax : CP := (d0 (u1 (d0 (u2 CP.top))))
def Ay (a b : LP) (c d : Int) : St := (St.mk [(1, aS a), (2, AV.pv (PV.fn 91 [])), (15, aS b), (16, aI c), (17, aI d)] [])
theorem GL (c : Nat) (g i d e : LP) (b a : Int)  (J0 : St -> Prop) (Q : QT) : (bA C (rN c) 90 1000 (Ax.dn 0) (Ay d e b a) (bO C 90 Ax J0 (cA (au 0 (aQ (bA C (rN c) 90 99997 (u3 CP.top)) (aU C 90 [tS g, tS i, TV.pv (PV.fn 91 [])] Q)))))) (H.b (H.s (H.s (H.s (H.s (H.b H.auto H.auto))))) H.auto) = ((decide (a < b) = true -> (0 : Int) <= a /\ ∃ (s : BS) (es : LP), e[Int.toNat a]? = some [pT s, pS es] /\ (0 : Int) <= a /\ ∃ (s_1 : BS) (es_1 : LP), let f := !(s == s_1 && bP es es_1); d[Int.toNat a]? = some [pT s_1, pS es_1] /\ (∃ (t u : Tr), es = Tr.rows t /\ es_1 = Tr.rows u /\ Tr.nodes t < c /\ Tr.nodes t <= 4000000) /\ (f = true -> ∃ (h : H), Q ([tB false], [])) /\ (f = false -> J0 (St.mk [(1, aS d), (2, AV.pv (PV.fn 91 [])), (15, aS e), (16, aI b), (17, aI (IntKind.wrap .i64 (a + 1)))] []))) /\ (decide (a < b) = false -> ∃ (h : H), Q ([tB true], []))) := by kernel_rfl
noncomputable def Fz (N : Nat) : List TV -> Option Alts
 | [.pv (.sl a), .pv (.sl b), .pv (.fn f [])] => one (f = 91 /\ ∃ t u : Tr, a = t.rows /\ b = u.rows /\ t.nodes <= N /\ t.nodes <= 4000000) ([.pv (.bool (bP a b))], [])
 | _ => none
noncomputable def xZ (N : Nat) : Specs := aZ [(90, Fz N)]
theorem Mz (c : Nat) (a b : LP) (Q : QT) : (bq C (xZ c) 72 [.pv (.sl a), .pv (.sl b)] Q) (H.auto) = ((91 = 91 /\ ∃ (t u : Tr), a = Tr.rows t /\ b = Tr.rows u /\ Tr.nodes t <= c /\ Tr.nodes t <= 4000000) /\ Q ([tB (bP a b)], [])) := by kernel_rfl
theorem dE : ∀ t : Tr, t.list.length <= t.nodes
 | .nil => by simp [Tr.list]
 | .cons n k r => by
  have := dE r
  simp only [Tr.list, Tr.nodes, List.length_cons]; omega
theorem vS {t u : Tr} (h : t.list = u.list) : t = u := by rw [<- of_list t, <- of_list u, h]
theorem ja {a b : LP} (h : a = b) : bP a b = true := by simp [bP, h]
theorem wA {a b : LP} (h : ¬ a = b) : bP a b = false := by simp [bP, h]
theorem lp {t u : Tr} : bP t.rows u.rows = true ↔ t = u := by
 constructor
 ·intro h
  have : t.rows = u.rows := by simpa [bP] using h
  exact rows_inj this
 ·rintro rfl; exact ja rfl
theorem wB {t u : Tr} (h : ((↑t.rows.length : Int) != (↑u.rows.length : Int)) = true) : bP t.rows u.rows = false := by
 refine wA fun e => ?_
 rw [e] at h
 simp at h
theorem uv {t u : Tr} {i : Nat} (h1 : i < t.list.length) (h2 : i < u.list.length) (h : ¬ t.list[i] = u.list[i]) : bP t.rows u.rows = false := by
 refine wA fun e => h ?_
 have := rows_inj e
 subst this; rfl
theorem te {α : Type} {l m : List α} {i : Nat} (h1 : i < l.length) (h2 : i < m.length) (h : l.take i = m.take i) (he : l[i] = m[i]) : l.take (i + 1) = m.take (i + 1) := by
 rw [List.take_succ_eq_append_getElem h1, List.take_succ_eq_append_getElem h2, h, he]
theorem FZ : ∀ (N : Nat) (t u : Tr), t.nodes < N -> t.nodes <= 4000000 -> Ev C 14 [.pv (.sl t.rows), .pv (.sl u.rows)] ([.pv (.bool (bP t.rows u.rows))], [])
 | 0, t, u, h, _ => by omega
 | N + 1, t, u, h, hb => by
  have hS : aK C (mq N) := az (am (by
   intro ag al hl x hx hp
   unfold pt at hl
   split at hl
   ·have e := aD hl hx; subst e
    obtain ⟨t, u, rfl, rfl, h1, h2⟩ := hp
    exact FZ N t u h1 h2
   ·exact absurd hl (by simp)) ax)
  have hlt := rows_len t
  have hlu := rows_len u
  have hn := dE t
  refine bh hS (MH N t.rows u.rows _) ?_
  conv => zeta
  refine ⟨fun g => by rw [wB g], fun g => ?_⟩
  have hlen : t.list.length = u.list.length := by simp at g; omega
  refine aJ hS (by kernel_rfl) 1000 (fun k st => ∃ i : Nat, st = F0 t.rows u.rows i /\ i <= t.list.length /\ t.list.take i = u.list.take i /\ k = t.list.length - i) ?_ (n := t.list.length) ⟨0, rfl, by omega, by simp, rfl⟩
  rintro k st ⟨i, rfl, hi, he, rfl⟩
  refine cr (Lj ..) ⟨fun g2 => ?_, fun g2 => ?_⟩
  ·simp only [decide_eq_true_eq] at g2
   have hi1 : i < t.list.length := by omega
   have hi2 : i < u.list.length := by omega
   have w1 := dJ (i := i) (by omega)
   have hk := d5 (List.getElem_mem hi1)
   refine ⟨by omega, _, _, row_get t hi1, by omega, _, _, row_get u hi2, fun g3 => ⟨.auto, ?_⟩, fun g3 => ⟨by omega, _, _, row_get t hi1, by omega, _, _, row_get u hi2, ⟨_, _, rfl, rfl, by omega, by omega⟩, fun g4 => ⟨.auto, ?_⟩, fun g4 => ?_⟩⟩
   ·rw [uv hi1 hi2 (fun e => by rw [e] at g3; simp at g3)]
   ·rw [uv hi1 hi2 (fun e => by rw [e, ja rfl] at g4; simp at g4)]
   ·rw [w1]
    have e1 : t.list[i].1 = u.list[i].1 := by simpa using g3
    have e2 : t.list[i].2 = u.list[i].2 := lp.1 (by simpa using g4)
    exact ⟨t.list.length - (i + 1), by omega, i + 1, rfl, by omega, te hi1 hi2 he (Prod.ext e1 e2), rfl⟩
  ·simp only [decide_eq_false_iff_not] at g2
   have : t.list = u.list := by
    rw [List.take_of_length_le (by omega), List.take_of_length_le (by omega)] at he; exact he
   exact ⟨.auto, by rw [lp.2 (vS this)]⟩
theorem GK {N : Nat} (hS : aK C (rN N)) (t u : Tr) (h : t.nodes <= N) (hb : t.nodes <= 4000000) : Ev C 90 [.pv (.sl t.rows), .pv (.sl u.rows), .pv (.fn 91 [])] ([.pv (.bool (bP t.rows u.rows))], []) := by
 have hlt := rows_len t
 have hlu := rows_len u
 have hn := dE t
 refine bh hS (JP N t.rows u.rows _) ?_
 conv => zeta
 refine ⟨fun g => by rw [wB g], fun g => ?_⟩
 have hlen : t.list.length = u.list.length := by simp at g; omega
 refine aJ hS (by kernel_rfl) 1000 (fun k st => ∃ i : Nat, st = Ay u.rows t.rows t.list.length i /\ i <= t.list.length /\ t.list.take i = u.list.take i /\ k = t.list.length - i) ?_ (n := t.list.length) ⟨0, by rw [hlt]; rfl, by omega, by simp, rfl⟩
 rintro k st ⟨i, rfl, hi, he, rfl⟩
 refine cr (GL ..) ?_
 conv => zeta
 refine ⟨fun g2 => ?_, fun g2 => ?_⟩
 ·simp only [decide_eq_true_eq] at g2
  have hi1 : i < t.list.length := by omega
  have hi2 : i < u.list.length := by omega
  have w1 := dJ (i := i) (by omega)
  have hk := d5 (List.getElem_mem hi1)
  refine ⟨by omega, _, _, row_get t hi1, by omega, _, _, row_get u hi2, ⟨_, _, rfl, rfl, by omega, by omega⟩, fun g3 => ⟨.auto, ?_⟩, fun g3 => ?_⟩
  ·rw [uv hi1 hi2 (fun e => by rw [e, ja rfl] at g3; simp at g3)]
  ·rw [w1]
   have e3 : (t.list[i].1 == u.list[i].1) = true /\ bP t.list[i].2.rows u.list[i].2.rows = true := by simpa using g3
   have e1 : t.list[i].1 = u.list[i].1 := by simpa using e3.1
   exact ⟨t.list.length - (i + 1), by omega, i + 1, rfl, by omega, te hi1 hi2 he (Prod.ext e1 (lp.1 e3.2)), rfl⟩
 ·simp only [decide_eq_false_iff_not] at g2
  have : t.list = u.list := by
   rw [List.take_of_length_le (by omega), List.take_of_length_le (by omega)] at he; exact he
  exact ⟨.auto, by rw [lp.2 (vS this)]⟩
theorem FK : ∀ (N : Nat) (t u : Tr), t.nodes < N -> t.nodes <= 4000000 -> Ev C 72 [.pv (.sl t.rows), .pv (.sl u.rows)] ([.pv (.bool (bP t.rows u.rows))], [])
 | 0, t, u, h, _ => by omega
 | N + 1, t, u, h, hb => by
  have hS1 : aK C (uT N) := az (am (by
   intro ag al hl x hx hp
   unfold pt at hl
   split at hl
   ·have e := aD hl hx; subst e
    obtain ⟨t, u, rfl, rfl, h1, h2⟩ := hp
    exact FK N t u h1 h2
   ·exact absurd hl (by simp)) ax)
  have hS2 : aK C (rN N) := az (am (by
   intro ag al hl x hx hp
   unfold J8 at hl
   split at hl
   ·rename_i n a m b
    have e := aD hl hx; subst e
    obtain ⟨t, u, rfl, rfl, h1, h2⟩ := hp
    refine bh hS1 (MI N n m t.rows u.rows _) ⟨fun g => ⟨⟨t, u, rfl, rfl, h1, h2⟩, by rw [g]; rfl⟩, fun g => by rw [g]; rfl⟩
   ·exact absurd hl (by simp)) ax)
  have hS : aK C (xZ N) := az (am (by
   intro ag al hl x hx hp
   unfold Fz at hl
   split at hl
   ·rename_i a b f
    have e := aD hl hx; subst e
    obtain ⟨rfl, t, u, rfl, rfl, h1, h2⟩ := hp
    exact GK hS2 t u h1 h2
   ·exact absurd hl (by simp)) ax)
  exact bh hS (Mz N t.rows u.rows _) ⟨⟨rfl, t, u, rfl, rfl, by omega, hb⟩, rfl⟩
end Go.Proofs.YtcoikmicjbppmaaGreat.Vm

namespace Go.Proofs.YtcoikmicjbppmaaGreat.Vm
open Go Go.RowKit
set_option linter.unusedVariables false
set_option linter.unusedSimpArgs false
set_option maxRecDepth 100000
abbrev Edge := BS × Tr
def bX (l : List Edge) (n : BS) : Nat := (l.takeWhile fun e => Op.bytesLess e.1 n).length
def dK (l : List Edge) (n : BS) : Bool := match l[bX l n]? with | some e => e.1 == n | none => false
def bH (l : List Edge) (n : BS) (x : Tr) : List Edge := l.take (bX l n) ++ [(n, x)] ++ l.drop (if dK l n = true then bX l n + 1 else bX l n)
theorem LZ (a : LP) (b : BS) (Q : QT) : (bq C cd 30 [.pv (.sl a), .pv (.str b)] Q) (H.auto) = (bd C 30 (d0 (d0 (u2 CP.top))) (St.mk [(0, aS a), (1, aT b), (6, aI 0)] []) (cA (au 0 (aQ (bA C cd 30 99997 (u3 CP.top)) (aU C 30 [tS a, tT b] Q))))) := by kernel_rfl
def Fi : CP := (d0 (d0 (u2 CP.top)))
def Fj (a : LP) (b : BS) (c : Int) : St := (St.mk [(0, aS a), (1, aT b), (6, aI c)] [])
theorem Jn (f : LP) (g : BS) (c : LP) (d : BS) (a : Int)  (J0 : St -> Prop) (Q : QT) : (bA C cd 30 1000 (Fi.dn 0) (Fj c d a) (bO C 30 Fi J0 (cA (au 0 (aQ (bA C cd 30 99997 (u3 CP.top)) (aU C 30 [tS f, tT g] Q)))))) (H.b (H.n 2 (H.s (H.s (H.n 5 (H.b H.auto H.auto))))) H.auto) = (let h := au 0 (aQ (bA C cd 30 99997 (u3 CP.top)) (aU C 30 [tS f, tT g] Q)); let e := List.length c; let i := decide (a < (↑e : Int)); (decide (a < (↑e : Int)) = true -> (0 : Int) <= a /\ ∃ (s : BS) (es : LP), c[Int.toNat a]? = some [pT s, pS es] /\ (Op.bytesLess s d = true -> J0 (St.mk [(0, aS c), (1, aT d), (6, aI (IntKind.wrap .i64 (a + 1)))] [])) /\ (Op.bytesLess s d = false -> cA h (Ex.exit 0) (St.mk [(19, aB false), (18, aB (Op.bytesLess s d)), (17, aT d), (16, aT s), (15, AV.pv (PV.iptr [pT s, pS es])), (14, AV.pv (PV.iptr [pT s, pS es])), (13, aI a), (12, aS c), (11, aB true), (10, aB i), (9, aI (↑e : Int)), (8, aS c), (7, aI a), (0, aS c), (1, aT d), (6, aI a)] []))) /\ (decide (a < (↑e : Int)) = false -> cA h (Ex.exit 0) (St.mk [(19, aB false), (18, AV.tup []), (17, AV.tup []), (16, AV.tup []), (15, AV.tup []), (14, AV.tup []), (13, AV.tup []), (12, AV.tup []), (11, aB false), (10, aB i), (9, aI (↑e : Int)), (8, aS c), (7, aI a), (0, aS c), (1, aT d), (6, aI a)] []))) := by kernel_rfl
def Jo (l : Bool) (k j h : BS) (i : LP) (f : BS) (g : LP) (e : Int) (d : LP) (c : Bool) (p : Int) (o : LP) (n : Int) (a : LP) (b : BS) (m : Int) : St := (St.mk [(19, aB false), (18, aB l), (17, aT k), (16, aT j), (15, AV.pv (PV.iptr [pT h, pS i])), (14, AV.pv (PV.iptr [pT f, pS g])), (13, aI e), (12, aS d), (11, aB true), (10, aB c), (9, aI p), (8, aS o), (7, aI n), (0, aS a), (1, aT b), (6, aI m)] [])
def Jp (c : Bool) (g : Int) (f : LP) (e : Int) (a : LP) (b : BS) (d : Int) : St := (St.mk [(19, aB false), (18, AV.tup []), (17, AV.tup []), (16, AV.tup []), (15, AV.tup []), (14, AV.tup []), (13, AV.tup []), (12, AV.tup []), (11, aB false), (10, aB c), (9, aI g), (8, aS f), (7, aI e), (0, aS a), (1, aT b), (6, aI d)] [])
theorem Jq (e : LP) (f : BS) (q : Bool) (p o m : BS) (n : LP) (k : BS) (l : LP) (j : Int) (i : LP) (g : Bool) (u : Int) (t : LP) (r : Int) (c : LP) (d : BS) (a : Int)  (Q : QT) : (fun h => au 0 (aQ (bA C cd 30 99997 (u3 CP.top)) (aU C 30 [tS e, tT f] Q)) h (Ex.exit 0) (Jo q p o m n k l j i g u t r c d a)) (H.b (H.n 2 (H.s (H.s H.auto))) H.auto) = ((decide (a < (↑(List.length c) : Int)) = true -> (0 : Int) <= a /\ ∃ (s : BS) (es : LP), c[Int.toNat a]? = some [pT s, pS es] /\ Q ([tI a, tB (s == d)], [])) /\ (decide (a < (↑(List.length c) : Int)) = false -> Q ([tI a, tB false], []))) := by kernel_rfl
theorem Jr (e : LP) (f : BS) (g : Bool) (k : Int) (j : LP) (i : Int) (c : LP) (d : BS) (a : Int)  (Q : QT) : (fun h => au 0 (aQ (bA C cd 30 99997 (u3 CP.top)) (aU C 30 [tS e, tT f] Q)) h (Ex.exit 0) (Jp g k j i c d a)) (H.b (H.n 2 (H.s (H.s H.auto))) H.auto) = ((decide (a < (↑(List.length c) : Int)) = true -> (0 : Int) <= a /\ ∃ (s : BS) (es : LP), c[Int.toNat a]? = some [pT s, pS es] /\ Q ([tI a, tB (s == d)], [])) /\ (decide (a < (↑(List.length c) : Int)) = false -> Q ([tI a, tB false], []))) := by kernel_rfl
noncomputable def AF : List TV -> Option Alts
 | [.pv (.sl a), .pv (.str n)] => one (∃ t : Tr, a = t.rows /\ t.list.length <= 4000000) ([.pv (.int .i64 (bX (aH a).list n)), .pv (.bool (dK (aH a).list n))], [])
 | _ => none
noncomputable def Gi : Specs := aZ [(30, AF)]
theorem LH (a : LP) (e : BS) (g : LP) (Q : QT) : (bq C Gi 25 [.pv (.sl a), .pv (.str e), .pv (.sl g)] Q) (H.s (H.s (H.s (H.s (H.s (H.n 1 (H.b (H.s (H.s (H.s (H.s H.auto)))) (H.s (H.s (H.s (H.s H.auto))))))))))) = (let i := Tr.list (aH a); let d := bX i e; let c := List.length a; let j := (↑d : Int) + 1; let q := IntKind.wrap .i64 j; let t := Int.toNat (Int.ofNat c) - Int.toNat q; let p := List.drop (Int.toNat q) a; let l := List.take t p; let f := Int.toNat (↑d : Int) - 0; let r := Int.toNat (Int.ofNat c) - Int.toNat (↑d : Int); let o := List.drop (Int.toNat (↑d : Int)) a; let m := List.take r o; let h := [] ++ List.take f a ++ [[pT e, pS g]]; let k := List.take f a; (∃ (n : Tr), a = Tr.rows n /\ List.length (Tr.list n) <= 4000000) /\ cg 2 a = true /\ ((0 : Int) <= (0 : Int) /\ (0 : Int) <= (↑d : Int) /\ (↑d : Int) <= Int.ofNat c) /\ ((0 + List.length k) * 40 <= du /\ 0 + List.length k <= bz) /\ cg 2 k = true /\ ((List.length ([] ++ List.take f a) + 1) * 40 <= du /\ List.length ([] ++ List.take f a) + 1 <= bz) /\ (dK i e = true -> cg 2 a = true /\ ((0 : Int) <= IntKind.wrap .i64 j /\ IntKind.wrap .i64 j <= Int.ofNat c /\ Int.ofNat c <= Int.ofNat c) /\ ((List.length h + List.length l) * 40 <= du /\ List.length h + List.length l <= bz) /\ cg 2 l = true /\ Q ([TV.own 2 ([] ++ List.take f a ++ [[pT e, pS g]] ++ List.take t p)], [])) /\ (dK i e = false -> cg 2 a = true /\ ((0 : Int) <= (↑d : Int) /\ (↑d : Int) <= Int.ofNat c /\ Int.ofNat c <= Int.ofNat c) /\ ((List.length h + List.length m) * 40 <= du /\ List.length h + List.length m <= bz) /\ cg 2 m = true /\ Q ([TV.own 2 ([] ++ List.take f a ++ [[pT e, pS g]] ++ List.take r o)], []))) := by kernel_rfl
noncomputable def xg : List TV -> Option Alts
 | [.pv (.sl a), .pv (.str n), .pv (.sl x)] => one (∃ t u : Tr, a = t.rows /\ x = u.rows /\ t.list.length <= 4000000) ([.own 2 (Tr.of (bH (aH a).list n (aH x))).rows], [])
 | _ => none
theorem CY {α : Type} {p : α -> Bool} : ∀ {l : List α} {i : Nat} (h : i < l.length), i <= (l.takeWhile p).length -> p l[i] = true -> i + 1 <= (l.takeWhile p).length
 | [], i, h, _, _ => by simp at h
 | a :: l, 0, h, _, hp => by
  have hp : p a = true := hp
  simp [List.takeWhile, hp]
 | a :: l, i + 1, h, hi, hp => by
  cases ha : p a with
  | false => simp [List.takeWhile, ha] at hi
  | true =>
   simp only [List.takeWhile, ha, List.length_cons] at hi ⊢
   have := CY (p := p) (l := l) (i := i) (by simpa using h) (by omega) (by simpa using hp)
   omega
theorem CX {α : Type} {p : α -> Bool} : ∀ {l : List α} {i : Nat}, i <= (l.takeWhile p).length -> (∀ h : i < l.length, p l[i] = false) -> (l.takeWhile p).length = i
 | [], i, hi, _ => by simp at hi ⊢; omega
 | a :: l, 0, hi, hp => by
  have hp : p a = false := hp (by simp)
  simp [List.takeWhile, hp]
 | a :: l, i + 1, hi, hp => by
  cases ha : p a with
  | false => simp [List.takeWhile, ha] at hi
  | true =>
   simp only [List.takeWhile, ha, List.length_cons] at hi ⊢
   have := CX (p := p) (l := l) (i := i) (by omega) (fun h => by have := hp (by simpa using h); simpa using this)
   omega
theorem Ly {α : Type} (p : α -> Bool) (l : List α) : (l.takeWhile p).length <= l.length := by
 induction l with
 | nil => simp
 | cons a l ih => simp only [List.takeWhile]; split <;> simp; exact ih
theorem lM (l : List Edge) (n : BS) : bX l n <= l.length := Ly _ _
theorem jn {l : List Edge} {n : BS} (h : dK l n = true) : bX l n < l.length := by
 unfold dK at h
 split at h
 ·rename_i e he; exact (List.getElem?_eq_some_iff.1 he).1
 ·exact absurd h (by simp)
theorem bT (l : List Edge) : cg 2 (l.map aE) = true := by simp [cg, aE]
theorem Jm (t : Tr) (n : BS) (ht : t.list.length <= 4000000) : Ev C 30 [.pv (.sl t.rows), .pv (.str n)] ([.pv (.int .i64 (bX t.list n)), .pv (.bool (dK t.list n))], []) := by
 have hl := rows_len t
 refine bh bM (LZ t.rows n _) ?_
 refine aJ bM (by kernel_rfl) 1000 (fun m st => ∃ i : Nat, st = Fj t.rows n i /\ i <= t.list.length /\ i <= bX t.list n /\ m = t.list.length - i) ?_ (n := t.list.length) ⟨0, rfl, by omega, by omega, by omega⟩
 rintro m st ⟨i, rfl, hi, hk, rfl⟩
 refine cr (Jn ..) ?_
 conv => zeta
 refine ⟨fun h => ?_, fun h => ?_⟩
 ·simp only [decide_eq_true_eq] at h
  have hi' : i < t.list.length := by omega
  have w1 := dJ (i := i) (by omega)
  refine ⟨by omega, _, _, row_get t hi', fun h2 => ?_, fun h2 => ?_⟩
  ·rw [w1]
   exact ⟨t.list.length - (i + 1), by omega, i + 1, rfl, by omega, CY hi' hk h2, rfl⟩
  ·have hK : bX t.list n = i := CX hk fun _ => h2
   have hB : dK t.list n = (t.list[i].1 == n) := by
    unfold dK
    rw [hK, List.getElem?_eq_getElem hi']
   refine cr (Jq ..) ⟨fun _ => ⟨by omega, _, _, row_get t hi', ?_⟩, fun h3 => ?_⟩
   ·rw [hK, hB]
   ·simp only [decide_eq_false_iff_not] at h3; omega
 ·simp only [decide_eq_false_iff_not] at h
  have hK : bX t.list n = i := CX hk fun h => by omega
  have hB : dK t.list n = false := by
   unfold dK
   rw [hK, List.getElem?_eq_none (by omega)]
  refine cr (Jr ..) ⟨fun h3 => ?_, fun _ => ?_⟩
  ·simp only [decide_eq_true_eq] at h3; omega
  ·rw [hK, hB]
theorem zT : ∀ ag al, AF ag = some al -> ∀ a ∈ al, a.1 -> Ev C 30 ag a.2 := by
 intro ag al hl x hx hp
 unfold AF at hl
 split at hl
 ·have e := aD hl hx; subst e
  obtain ⟨t, rfl, h⟩ := hp
  rw [aq]
  exact Jm t _ h
 ·exact absurd hl (by simp)
theorem cG (l : List Edge) : (Tr.of l).rows = l.map aE := by rw [rows_list, list_of]
theorem yN (t : Tr) (n : BS) (x : Tr) (ht : t.list.length <= 4000000) : Ev C 25 [.pv (.sl t.rows), .pv (.str n), .pv (.sl x.rows)] ([.own 2 (Tr.of (bH t.list n x)).rows], []) := by
 have hr := cz
 have hm := bN
 refine bh (az (am zT ax)) (LH t.rows n x.rows _) ⟨⟨t, rfl, ht⟩, ?_⟩
 rw [aq, cG, rows_list]
 have hk := lM t.list n
 unfold bH
 have hB : dK t.list n = true -> bX t.list n < t.list.length := jn
 generalize t.list = L at *
 generalize bX L n = K at *
 have hx : [[PV.str n, PV.sl x.rows]] = [(n, x)].map aE := rfl
 rw [hx]
 simp only [Int.toNat_natCast, Int.ofNat_eq_natCast, Nat.sub_zero, List.nil_append, <- List.map_take, <- List.map_append, List.length_map, List.length_append, List.length_take, List.length_cons, List.length_nil]
 refine ⟨bT _, ⟨by omega, by omega, by omega⟩, ⟨by omega, by omega⟩, bT _, ⟨by omega, by omega⟩, fun h => ?_, fun h => ?_⟩
 ·have := hB h
  have w1 := dJ (i := K) (by omega)
  rw [w1, h, if_pos rfl]
  simp only [Int.toNat_natCast, <- List.map_drop, <- List.map_take, <- List.map_append, List.length_map, List.length_take, List.length_drop]
  refine ⟨bT _, ⟨by omega, by omega, by omega⟩, ⟨by omega, by omega⟩, bT _, ?_⟩
  rw [List.take_of_length_le (l := L.drop (K + 1)) (by simp)]
 ·rw [h, if_neg (by simp)]
  simp only [Int.toNat_natCast, <- List.map_drop, <- List.map_take, <- List.map_append, List.length_map, List.length_take, List.length_drop]
  refine ⟨bT _, ⟨by omega, by omega, by omega⟩, ⟨by omega, by omega⟩, bT _, ?_⟩
  rw [List.take_of_length_le (l := L.drop K) (by simp)]
theorem E7 : ∀ ag al, xg ag = some al -> ∀ a ∈ al, a.1 -> Ev C 25 ag a.2 := by
 intro ag al hl x hx hp
 unfold xg at hl
 split at hl
 ·have e := aD hl hx; subst e
  obtain ⟨t, u, rfl, rfl, h⟩ := hp
  rw [aq, aq]
  exact yN t _ u h
 ·exact absurd hl (by simp)
def Tr.lim (B : Nat) : Tr -> Prop
 | .nil => True
 | .cons n k r => n.length <= B /\ k.list.length <= B /\ k.lim B /\ r.lim B
theorem t8 {B : Nat} : ∀ {t : Tr} {e : Edge}, t.lim B -> e ∈ t.list -> e.1.length <= B /\ e.2.list.length <= B /\ e.2.lim B
 | .nil, e, _, h => by simp [Tr.list] at h
 | .cons n k r, e, h, he => by
  simp only [Tr.lim] at h
  simp only [Tr.list, List.mem_cons] at he
  rcases he with rfl | he
  ·exact ⟨h.1, h.2.1, h.2.2.1⟩
  ·exact t8 h.2.2.2 he
theorem tg (l : List Edge) (n : BS) (x : Tr) : (bH l n x).length <= l.length + 1 := by
 have := lM l n
 unfold bH
 simp only [List.length_append, List.length_take, List.length_drop, List.length_cons, List.length_nil]
 split <;> omega
noncomputable def x8 (N : Nat) (cf : LP -> Int -> Int) : List TV -> Option Alts
 | [.pv (.sl a), .pv (.int .i64 m)] => one (∃ l : Tr, a = l.rows /\ l.nodes < N /\ l.list.length <= 140737488351232 /\ l.lim 140737488351232 /\ m <= 4000) ([.pv (.int .i64 (cf a m))], [])
 | _ => none
noncomputable def mp (N : Nat) (cf : LP -> Int -> Int) : Specs := aZ [(20, x8 N cf)]
theorem L2 (c : Nat) (d : LP -> Int -> Int) (a : LP) (b : Int) (Q : QT) : (bq C (mp c d) 20 [.pv (.sl a), .pv (.int .i64 b)] Q) (H.auto) = (bd C 20 (d0 (u1 (d0 (u2 CP.top)))) (St.mk [(0, aS a), (1, aI b), (5, aI (↑(List.length a) : Int)), (6, aI 0)] []) (cA (au 0 (aQ (bA C (mp c d) 20 99997 (u3 CP.top)) (aU C 20 [tS a, tI b] Q))))) := by kernel_rfl
def Fl : CP := (d0 (u1 (d0 (u2 CP.top))))
def Fm (a : LP) (b c d : Int) : St := (St.mk [(0, aS a), (1, aI b), (5, aI c), (6, aI d)] [])
theorem Jz (g : Nat) (i : LP -> Int -> Int) (j : LP) (k : Int) (e : LP) (c a d : Int)  (J0 : St -> Prop) (Q : QT) : (bA C (mp g i) 20 1000 (Fl.dn 0) (Fm e c a d) (bO C 20 Fl J0 (cA (au 0 (aQ (bA C (mp g i) 20 99997 (u3 CP.top)) (aU C 20 [tS j, tI k] Q)))))) (H.b (H.n 3 (H.b (H.s (H.s H.auto)) H.auto)) H.auto) = ((decide (d < (↑(List.length e) : Int)) = true -> (decide (a < c) = true -> (0 : Int) <= d /\ ∃ (s : BS) (es : LP), e[Int.toNat d]? = some [pT s, pS es] /\ (∃ (f : Tr), es = Tr.rows f /\ Tr.nodes f < g /\ List.length (Tr.list f) <= 140737488351232 /\ Tr.lim 140737488351232 f /\ IntKind.wrap .i64 (c - a) <= (4000 : Int)) /\ J0 (St.mk [(0, aS e), (1, aI c), (5, aI (IntKind.wrap .i64 (a + i es (IntKind.wrap .i64 (c - a))))), (6, aI (IntKind.wrap .i64 (d + 1)))] [])) /\ (decide (a < c) = false -> ∃ (h : H), Q ([tI a], []))) /\ (decide (d < (↑(List.length e) : Int)) = false -> ∃ (h : H), Q ([tI a], []))) := by kernel_rfl
def qy (l : List Edge) : Nat := (l.map fun e => e.2.nodes).sum
theorem dY : ∀ t : Tr, t.nodes = t.list.length + qy t.list
 | .nil => rfl
 | .cons n k r => by
  have := dY r
  simp only [Tr.nodes, Tr.list, qy, List.map_cons, List.sum_cons, List.length_cons] at this ⊢
  omega
theorem xm {l : List Edge} {i : Nat} (h : i < l.length) : qy (l.take (i + 1)) = qy (l.take i) + l[i].2.nodes := by
 rw [List.take_succ_eq_append_getElem h]
 simp only [qy, List.map_append, List.sum_append, List.map_cons, List.map_nil, List.sum_cons, List.sum_nil, Nat.add_zero]
def nI (l : Tr) (m n : Int) : Prop := 0 <= n /\ (n <= 140737488351232 ∨ n <= 140737488351232 + m) /\ (n < m -> n = l.nodes)
noncomputable def ia (a : LP) (m : Int) : Int := @dite _ (∃ n : Int, Ev C 20 [.pv (.sl a), .pv (.int .i64 m)] ([.pv (.int .i64 n)], []) /\ ∀ l : Tr, a = l.rows -> nI l m n) (Classical.propDecidable _) (fun h => h.choose) (fun _ => 0)
theorem kS {l : Tr} {m : Int} (h : ∃ n : Int, Ev C 20 [.pv (.sl l.rows), .pv (.int .i64 m)] ([.pv (.int .i64 n)], []) /\ nI l m n) : Ev C 20 [.pv (.sl l.rows), .pv (.int .i64 m)] ([.pv (.int .i64 (ia l.rows m))], []) /\ nI l m (ia l.rows m) := by
 have h' : ∃ n : Int, Ev C 20 [.pv (.sl l.rows), .pv (.int .i64 m)] ([.pv (.int .i64 n)], []) /\ ∀ u : Tr, l.rows = u.rows -> nI u m n := by
  obtain ⟨n, h1, h2⟩ := h
  exact ⟨n, h1, fun u hu => rows_inj hu ▸ h2⟩
 have := h'.choose_spec
 unfold ia
 rw [dif_pos h']
 exact ⟨this.1, this.2 l rfl⟩
theorem mB : ∀ (N : Nat) (l : Tr) (m : Int), l.nodes < N -> l.list.length <= 140737488351232 -> l.lim 140737488351232 -> m <= 4000 -> ∃ n : Int, Ev C 20 [.pv (.sl l.rows), .pv (.int .i64 m)] ([.pv (.int .i64 n)], []) /\ nI l m n
 | 0, l, m, h, _, _, _ => by omega
 | N + 1, l, m, h, h1, h2, h3 => by
  have hS : aK C (mp N ia) := az (am (by
   intro ag al hl x hx hp
   unfold x8 at hl
   split at hl
   ·have e := aD hl hx; subst e
    obtain ⟨u, rfl, k1, k2, k3, k4⟩ := hp
    exact (kS (mB N u _ k1 k2 k3 k4)).1
   ·exact absurd hl (by simp)) ax)
  have hlen := rows_len l
  have hnl := dY l
  have key : ∃ r, Ev C 20 [.pv (.sl l.rows), .pv (.int .i64 m)] r /\ ∃ n : Int, r = ([.pv (.int .i64 n)], []) /\ nI l m n := by
   refine vo hS (L2 N ia l.rows m _) ?_
   refine aJ hS (by kernel_rfl) 1000 (fun k st => ∃ (i : Nat) (n : Int), st = Fm l.rows m n i /\ i <= l.list.length /\ 0 <= n /\ (n <= 140737488351232 ∨ n <= 140737488351232 + m) /\ (n < m -> n = l.list.length + qy (l.list.take i)) /\ k = l.list.length - i) ?_ (n := l.list.length) ⟨0, l.list.length, by rw [hlen]; rfl, by omega, by omega, .inl (by omega), fun _ => by simp [qy], by omega⟩
   rintro k st ⟨i, n, rfl, hi, n0, nb, ne, rfl⟩
   refine cr (Jz ..) ⟨fun g => ⟨fun g2 => ?_, fun g2 => ?_⟩, fun g => ?_⟩
   ·simp only [decide_eq_true_eq] at g g2
    have hi' : i < l.list.length := by omega
    have w1 := dJ (i := i) (by omega)
    obtain ⟨m1, m2, m3⟩ := t8 h2 (List.getElem_mem hi')
    have hn := d5 (List.getElem_mem hi')
    have w2 : IntKind.wrap .i64 (m - n) = m - n := oY (by omega)
    obtain ⟨_, c1, c2, c3⟩ := kS (mB N l.list[i].2 (m - n) (by omega) m2 m3 (by omega))
    refine ⟨by omega, _, _, row_get l hi', ?_⟩
    rw [w1, w2]
    have w3 : IntKind.wrap .i64 (n + ia l.list[i].2.rows (m - n)) = n + ia l.list[i].2.rows (m - n) := oY (by omega)
    rw [w3]
    refine ⟨⟨_, rfl, by omega, m2, m3, by omega⟩, l.list.length - (i + 1), by omega, i + 1, _, rfl, by omega, by omega, by omega, fun g3 => ?_, rfl⟩
    have := c3 (by omega)
    have := ne (by omega)
    rw [xm hi']
    omega
   ·simp only [decide_eq_false_iff_not] at g2
    exact ⟨.auto, n, rfl, n0, nb, fun g3 => by omega⟩
   ·simp only [decide_eq_false_iff_not] at g
    refine ⟨.auto, n, rfl, n0, nb, fun g3 => ?_⟩
    have := ne g3
    rw [List.take_of_length_le (by omega)] at this
    omega
  obtain ⟨r, k1, n, rfl, k2⟩ := key
  exact ⟨n, k1, k2⟩
noncomputable def vx : List TV -> Option Alts
 | [.pv (.sl a), .pv (.int .i64 m)] => one (∃ l : Tr, a = l.rows /\ l.list.length <= 140737488351232 /\ l.lim 140737488351232 /\ m <= 4000) ([.pv (.int .i64 (ia a m))], [])
 | _ => none
noncomputable def Fa : Specs := aZ [(20, vx)]
theorem Md (a : LP) (Q : QT) : (bq C Fa 6 [.pv (.sl a)] Q) (H.auto) = ((∃ (b : Tr), a = Tr.rows b /\ List.length (Tr.list b) <= 140737488351232 /\ Tr.lim 140737488351232 b /\ (200 : Int) <= (4000 : Int)) /\ Q ([tB (decide (ia a (200 : Int) <  200))], [])) := by kernel_rfl
noncomputable def tG (a : LP) : Bool := decide (ia a 200 < 200)
noncomputable def x9 : List TV -> Option Alts
 | [.pv (.sl a)] => one (∃ l : Tr, a = l.rows /\ l.list.length <= 140737488351232 /\ l.lim 140737488351232) ([.pv (.bool (tG a))], [])
 | _ => none
theorem Az : ∀ ag al, x9 ag = some al -> ∀ a ∈ al, a.1 -> Ev C 6 ag a.2 := by
 intro ag al hl x hx hp
 unfold x9 at hl
 split at hl
 ·have e := aD hl hx; subst e
  obtain ⟨l, rfl, h1, h2⟩ := hp
  have hS : aK C Fa := az (am (by
   intro ag al hl x hx hp
   unfold vx at hl
   split at hl
   ·have e := aD hl hx; subst e
    obtain ⟨u, rfl, k1, k2, k3⟩ := hp
    exact (kS (mB (u.nodes + 1) u _ (by omega) k1 k2 k3)).1
   ·exact absurd hl (by simp)) ax)
  exact bh hS (Md l.rows _) ⟨⟨l, rfl, h1, h2, by omega⟩, rfl⟩
 ·exact absurd hl (by simp)
theorem nP {l : Tr} (h1 : l.list.length <= 140737488351232) (h2 : l.lim 140737488351232) (h : tG l.rows = true) : l.nodes < 200 := by
 have h : ia l.rows 200 < 200 := by simpa [tG] using h
 have := (kS (mB (l.nodes + 1) l 200 (by omega) h1 h2 (by omega))).2
 obtain ⟨c1, c2, c3⟩ := this
 have := c3 h
 omega
end Go.Proofs.YtcoikmicjbppmaaGreat.Vm

namespace Go.Proofs.YtcoikmicjbppmaaGreat.Vm
open Go Go.RowKit
set_option linter.unusedVariables false
set_option linter.unusedSimpArgs false
set_option maxRecDepth 100000
def yx (P : Program) (T E : TypeId) : Bool := match P.underlying T, P.underlying E with
 | some (.slice e), some (.struct fs) => (match fs.toList with
  | [f0, f1] => (match P.underlying f0.type with | some .string => e == E && f1.type == T && decide (1 <= P.bytesOf E) | _ => false)
  | _ => false)
 | _, _ => false
theorem EO {P : Program} {t : TypeId} {xs : List PV} (h : Shp P t xs) (ht : P.underlying t = some .string) : ∃ s, xs = [.str s] /\ s.length <= reachBytes := by
 cases h with
 | int h => rw [h] at ht; simp at ht
 | bool h => rw [h] at ht; simp at ht
 | str h hb => exact ⟨_, rfl, hb⟩
 | sl h => rw [h] at ht; simp at ht
 | struct xs h => rw [h] at ht; simp at ht
theorem vk {B : Nat} : ∀ {es : LP}, (∀ x ∈ es, ∃ (n : BS) (k : Tr), x = [.str n, .sl k.rows] /\ n.length <= B /\ k.list.length <= B /\ k.lim B) -> ∃ u : Tr, es = u.rows /\ u.lim B
 | [], _ => ⟨.nil, rfl, trivial⟩
 | x :: es, h => by
  obtain ⟨n, k, rfl, h1, h2, h3⟩ := h x (by simp)
  obtain ⟨u, rfl, h4⟩ := vk (B := B) (es := es) fun y hy => h y (by simp [hy])
  exact ⟨.cons n k u, rfl, h1, h2, h3, h4⟩
theorem CG {P : Program} {T E : TypeId} (hok : yx P T E = true) : ∀ {t : TypeId} {xs : List PV}, Shp P t xs -> (t = T -> ∃ u : Tr, xs = [.sl u.rows] /\ u.list.length <= reachBytes /\ u.lim reachBytes) /\ (t = E -> ∃ (n : BS) (k : Tr), xs = [.str n, .sl k.rows] /\ n.length <= reachBytes /\ k.list.length <= reachBytes /\ k.lim reachBytes) := by
 unfold yx at hok
 split at hok
 ·rename_i e fs hT hE
  split at hok
  ·rename_i f0 f1 hfs
   split at hok
   ·rename_i h0
    simp only [Bool.and_eq_true, beq_iff_eq, decide_eq_true_eq] at hok
    obtain ⟨⟨rfl, h1⟩, hb⟩ := hok
    intro t xs h
    induction h with
    | int h => exact ⟨fun e => by subst e; rw [h] at hT; simp at hT, fun e => by subst e; rw [h] at hE; simp at hE⟩
    | bool h => exact ⟨fun e => by subst e; rw [h] at hT; simp at hT, fun e => by subst e; rw [h] at hE; simp at hE⟩
    | str h _ => exact ⟨fun e => by subst e; rw [h] at hT; simp at hT, fun e => by subst e; rw [h] at hE; simp at hE⟩
    | sl h hl hall ih =>
     refine ⟨fun ht => ?_, fun ht => by subst ht; rw [h] at hE; simp at hE⟩
     subst ht
     rw [hT] at h
     simp only [Option.some.injEq, TypeDesc.slice.injEq] at h
     subst h
     obtain ⟨u, rfl, h2⟩ := vk fun x hx => (ih x hx).2 rfl
     refine ⟨u, rfl, ?_, h2⟩
     rw [rows_len] at hl
     have : u.list.length * 1 <= u.list.length * P.bytesOf e := Nat.mul_le_mul_left _ hb
     omega
    | struct xs h hall ih =>
     refine ⟨fun ht => by subst ht; rw [h] at hT; simp at hT, fun ht => ?_⟩
     subst ht
     rw [hE] at h
     simp only [Option.some.injEq, TypeDesc.struct.injEq] at h
     subst h
     rw [hfs] at hall ih ⊢
     obtain ⟨s, hs, hs2⟩ := EO (hall 0 f0 rfl) h0
     obtain ⟨u, hu, h2, h3⟩ := (ih 1 f1 rfl).1 h1
     refine ⟨s, u, ?_, hs2, h2, h3⟩
     have e : (List.range [f0, f1].length).flatMap xs = xs 0 ++ xs 1 := by simp [List.range_succ]
     rw [e, hs, hu]; rfl
   ·exact absurd hok (by simp)
  ·exact absurd hok (by simp)
 ·exact absurd hok (by simp)
theorem B5 {P : Program} {T E : TypeId} (hok : yx P T E = true) {es : LP} (h : Shp P T [.sl es]) : ∃ u : Tr, es = u.rows /\ u.list.length <= 140737488351232 /\ u.lim 140737488351232 := by
 obtain ⟨u, h1, h2, h3⟩ := (CG hok h).1 rfl
 simp only [List.cons.injEq, PV.sl.injEq, and_true] at h1
 exact ⟨u, h1, h2, h3⟩
end Go.Proofs.YtcoikmicjbppmaaGreat.Vm

namespace Go.Proofs.YtcoikmicjbppmaaGreat.Vm
open Go Go.RowKit
set_option linter.unusedVariables false
set_option linter.unusedSimpArgs false
set_option maxRecDepth 100000
def rA : Option (BS) -> BS -> Bool
 | none, _ => false
 | some y, x => Op.bytesLess x y || x == y
def gm (n d : Int) (p : Option (BS)) (x : BS) : Int :=
 if 400 < n then 4 else if 12 < d then 11 else if 80 < x.length then 5 else if rA p x then 12 else 0
def Br (a : LP) : Option (BS) := match a.getLast? with
 | some [.str y, .sl _] => some y
 | _ => none
def w8 (n d : Int) (x : BS) (a : LP) : Int := gm n d (Br a) x
theorem HB (a : Int) (Q : QT) : (bq C cd 96 [.ptr [.pv (.int .i64 a), .pv (.int .i64 400)]] Q) (H.auto) = (Q ([tB (decide (IntKind.wrap .i64 (a + 1) <= (400 : Int)))], [TV.ptr [tI (IntKind.wrap .i64 (a + 1)), tI 400]])) := by kernel_rfl
def AY : List TV -> Option Alts
 | [.ptr [.pv (.int .i64 n), .pv (.int .i64 m)]] => one (m = 400) ([.pv (.bool (decide (IntKind.wrap .i64 (n + 1) <= 400)))], [.ptr [.pv (.int .i64 (IntKind.wrap .i64 (n + 1))), .pv (.int .i64 m)]])
 | _ => none
def Fb : Specs := aZ [(96, AY)]
theorem JW (g f : Int) (c : BS) (e : LP) (Q : QT) : (bq C Fb 80 [.ptr [.pv (.int .i64 g), .pv (.int .i64 400)], .pv (.int .i64 f), .pv (.str c), .pv (.sl e)] Q) (H.b H.auto (H.b H.auto (H.b H.auto (H.b (H.n 5 (H.s (H.s (H.n 4 (H.b H.auto H.auto))))) H.auto)))) = (let a := IntKind.wrap .i64 (g + 1); let h := !decide (IntKind.wrap .i64 (g + 1) <= (400 : Int)); let d := List.length e; (400 : Int) = (400 : Int) /\ (h = true -> Q ([tI 4], [TV.ptr [tI a, tI 400]])) /\ (h = false -> (decide (f >  12) = true -> Q ([tI 11], [TV.ptr [tI a, tI 400]])) /\ (decide (f >  12) = false -> (decide ((↑(List.length c) : Int) >  80) = true -> Q ([tI 5], [TV.ptr [tI a, tI 400]])) /\ (decide ((↑(List.length c) : Int) >  80) = false -> (decide ((↑d : Int) >  0) = true -> (0 : Int) <= IntKind.wrap .i64 ((↑d : Int) - 1) /\ ∃ (s : BS) (es : LP), let i := Op.bytesLess c s || c == s; e[Int.toNat (IntKind.wrap .i64 ((↑d : Int) - 1))]? = some [pT s, pS es] /\ (i = true -> Q ([tI 12], [TV.ptr [tI a, tI 400]])) /\ (i = false -> Q ([tI 0], [TV.ptr [tI a, tI 400]]))) /\ (decide ((↑d : Int) >  0) = false -> Q ([tI 0], [TV.ptr [tI a, tI 400]])))))) := by kernel_rfl
def AO : List TV -> Option Alts
 | [.ptr [.pv (.int .i64 n), .pv (.int .i64 m)], .pv (.int .i64 d), .pv (.str x), .pv (.sl a)] => one (m = 400 /\ (0 <= n /\ n <= 4000000000) /\ ∃ l : List Edge, a = l.map aE /\ l.length <= 4000000) ([.pv (.int .i64 (w8 (n + 1) d x a))], [.ptr [.pv (.int .i64 (n + 1)), .pv (.int .i64 m)]])
 | _ => none
def cq : Tr -> Option (BS) -> Int -> Int -> Int × Int
 | .nil, _, _, n => (n, 0)
 | .cons x k r, p, d, n => if gm (n + 1) d p x ≠ 0 then (n + 1, gm (n + 1) d p x) else if (cq k none (d + 1) (n + 1)).2 ≠ 0 then cq k none (d + 1) (n + 1) else cq r (some x) d (cq k none (d + 1) (n + 1)).1
noncomputable def tw (a : LP) (d n : Int) : Int := (cq (aH a) none d n).1
noncomputable def bf (a : LP) (d n : Int) : Int := (cq (aH a) none d n).2
noncomputable def vv (N : Nat) : List TV -> Option Alts
 | [.ptr [.pv (.int .i64 n), .pv (.int .i64 m)], .pv (.int .i64 d), .pv (.sl a)] => one (m = 400 /\ (0 <= n /\ n <= 400) /\ (0 <= d /\ d <= 13) /\ ∃ t : Tr, a = t.rows /\ t.nodes < N /\ t.nodes <= 4000000) ([.pv (.int .i64 (bf a d n))], [.ptr [.pv (.int .i64 (tw a d n)), .pv (.int .i64 m)]])
 | _ => none
noncomputable def uP (N : Nat) : Specs := aZ [(80, AO), (62, vv N)]
theorem Jx (d : Nat) (c b : Int) (a : LP) (Q : QT) : (bq C (uP d) 62 [.ptr [.pv (.int .i64 c), .pv (.int .i64 400)], .pv (.int .i64 b), .pv (.sl a)] Q) (H.auto) = (bd C 62 (d0 (u1 (d0 (u1 CP.top)))) (St.mk [(0, AV.addr 1 0 0), (1, aI b), (2, aS a), (11, aS a), (12, aI (↑(List.length a) : Int)), (13, aI 0)] [(1, Obj.box [aI c, aI 400])]) (cA (au 0 (aQ (bA C (uP d) 62 99998 (u2 CP.top)) (aU C 62 [TV.ptr [tI c, tI 400], tI b, tS a] Q))))) := by kernel_rfl
def Ai : CP := (d0 (u1 (d0 (u1 CP.top))))
def Al (c : Int) (g d : LP) (e f a b : Int) : St := (St.mk [(0, AV.addr 1 0 0), (1, aI c), (2, aS g), (11, aS d), (12, aI e), (13, aI f)] [(1, Obj.box [aI a, aI b])])
theorem GA (j : Nat) (r q : Int) (p : LP) (e : Int) (f l : LP) (i c a d : Int)  (J0 : St -> Prop) (Q : QT) : (bA C (uP j) 62 1000 (Ai.dn 0) (Al e f l i c a d) (bO C 62 Ai J0 (cA (au 0 (aQ (bA C (uP j) 62 99998 (u2 CP.top)) (aU C 62 [TV.ptr [tI r, tI 400], tI q, tS p] Q)))))) (H.b (H.s (H.s (H.s (H.s (H.b H.auto (H.b H.auto H.auto)))))) H.auto) = (let g := IntKind.wrap .i64 (e + 1); let n := List.take (Int.toNat c - 0) f; (decide (c < i) = true -> (0 : Int) <= c /\ ∃ (s : BS) (es : LP), let o := w8 (a + 1) e s n != 0; l[Int.toNat c]? = some [pT s, pS es] /\ cg 2 f = true /\ ((0 : Int) <= (0 : Int) /\ (0 : Int) <= c /\ c <= Int.ofNat (List.length f)) /\ (d = (400 : Int) /\ ((0 : Int) <= a /\ a <= (4000000000 : Int)) /\ ∃ (m : List Proofs.YtcoikmicjbppmaaGreat.Vm.Edge), List.take (Int.toNat c - 0) f = List.map aE m /\ List.length m <= 4000000) /\ (o = true -> ∃ (h : H), Q ([tI (w8 (a + 1) e s n)], [TV.ptr [tI (a + 1), tI d]])) /\ (o = false -> (d = (400 : Int) /\ ((0 : Int) <= a + 1 /\ a + 1 <= (400 : Int)) /\ ((0 : Int) <= IntKind.wrap .i64 (e + 1) /\ IntKind.wrap .i64 (e + 1) <= (13 : Int)) /\ ∃ (k : Tr), es = Tr.rows k /\ Tr.nodes k < j /\ Tr.nodes k <= 4000000) /\ ((bf es g (a + 1) != 0) = true -> ∃ (h : H), Q ([tI (bf es g (a + 1))], [TV.ptr [tI (tw es g (a + 1)), tI d]])) /\ ((bf es g (a + 1) != 0) = false -> J0 (St.mk [(0, AV.addr 1 0 0), (1, aI e), (2, aS f), (11, aS l), (12, aI i), (13, aI (IntKind.wrap .i64 (c + 1)))] [(1, Obj.box [aI (tw es g (a + 1)), aI d])])))) /\ (decide (c < i) = false -> ∃ (h : H), Q ([tI 0], [TV.ptr [tI a, tI d]]))) := by kernel_rfl
noncomputable def Ge : Specs := aZ [(62, vv 4000000)]
theorem Lx (a : LP) (Q : QT) : (bq C Ge 37 [.pv (.sl a)] Q) (H.auto) = (((400 : Int) = (400 : Int) /\ ((0 : Int) <= (0 : Int) /\ (0 : Int) <= (400 : Int)) /\ ((0 : Int) <= (1 : Int) /\ (1 : Int) <= (13 : Int)) /\ ∃ (b : Tr), a = Tr.rows b /\ Tr.nodes b < 4000000 /\ Tr.nodes b <= 4000000) /\ Q ([tI (bf a (1 : Int) (0 : Int))], [])) := by kernel_rfl
noncomputable def qr (N : Nat) : List TV -> Option Alts
 | [.ptr [.pv (.int .i64 n), .pv (.int .i64 e)], .pv (.sl a), .pv (.int .i64 d)] => one (e = 0 /\ (0 <= n /\ n <= 400) /\ (0 <= d /\ d <= 13) /\ ∃ t : Tr, a = t.rows /\ t.nodes < N /\ t.nodes <= 4000000) ([], [.ptr [.pv (.int .i64 (tw a d n)), .pv (.int .i64 (bf a d n))]])
 | _ => none
noncomputable def wS (N : Nat) : Specs := aZ [(77, qr N)]
theorem LI (d : Nat) (c b : Int) (a : LP) (Q : QT) : (bq C (wS d) 77 [.ptr [.pv (.int .i64 c), .pv (.int .i64 0)], .pv (.sl a), .pv (.int .i64 b)] Q) (H.auto) = (bd C 77 (d0 (u1 CP.top)) (St.mk [(0, AV.addr 1 0 0), (1, aS a), (2, aI b), (6, aI 0)] [(1, Obj.box [aI c, aI 0])]) (cA (au 0 (aU C 77 [TV.ptr [tI c, tI 0], tS a, tI b] Q)))) := by kernel_rfl
def Dn : CP := (d0 (u1 CP.top))
def oA (c : LP) (d e a b : Int) : St := (St.mk [(0, AV.addr 1 0 0), (1, aS c), (2, aI d), (6, aI e)] [(1, Obj.box [aI a, aI b])])
theorem IX (l : Nat) (r q : Int) (p c : LP) (d a e g : Int)  (J0 : St -> Prop) (Q : QT) : (bA C (wS l) 77 1000 (Dn.dn 0) (oA c d a e g) (bO C 77 Dn J0 (cA (au 0 (aU C 77 [TV.ptr [tI r, tI 0], tS p, tI q] Q))))) (H.b (H.n 5 (H.b (H.b H.auto (H.b H.auto (H.s (H.s (H.b H.auto (H.b (H.n 2 (H.s (H.s (H.n 6 (H.s (H.s (H.n 4 (H.b H.auto (H.s (H.s H.auto)))))))))) (H.n 13 (H.s (H.s H.auto))))))))) H.auto)) H.auto) = (let f := IntKind.wrap .i64 (e + 1); let j := IntKind.wrap .i64 (a + 1); let m := (0 : Int) <= IntKind.wrap .i64 (e + 1) /\ IntKind.wrap .i64 (e + 1) <= (400 : Int); let n := (0 : Int) <= IntKind.wrap .i64 (d + 1) /\ IntKind.wrap .i64 (d + 1) <= (13 : Int); let k := IntKind.wrap .i64 (d + 1); (decide (a < (↑(List.length c) : Int)) = true -> ((g == 0) = true -> (decide (IntKind.wrap .i64 (e + 1) >  400) = true -> J0 (St.mk [(0, AV.addr 1 0 0), (1, aS c), (2, aI d), (6, aI j)] [(1, Obj.box [aI f, aI 4])])) /\ (decide (IntKind.wrap .i64 (e + 1) >  400) = false -> (decide (d >  12) = true -> J0 (St.mk [(0, AV.addr 1 0 0), (1, aS c), (2, aI d), (6, aI j)] [(1, Obj.box [aI f, aI 11])])) /\ (decide (d >  12) = false -> (0 : Int) <= a /\ ∃ (s : BS) (es : LP), c[Int.toNat a]? = some [pT s, pS es] /\ (decide ((↑(List.length s) : Int) >  80) = true -> J0 (St.mk [(0, AV.addr 1 0 0), (1, aS c), (2, aI d), (6, aI j)] [(1, Obj.box [aI f, aI 5])])) /\ (decide ((↑(List.length s) : Int) >  80) = false -> (decide (a >  0) = true -> (0 : Int) <= a /\ ∃ (s : BS) (es : LP), c[Int.toNat a]? = some [pT s, pS es] /\ (0 : Int) <= IntKind.wrap .i64 (a - 1) /\ ∃ (s_1 : BS) (es : LP), let o := Op.bytesLess s s_1 || s == s_1; c[Int.toNat (IntKind.wrap .i64 (a - 1))]? = some [pT s_1, pS es] /\ (o = true -> J0 (St.mk [(0, AV.addr 1 0 0), (1, aS c), (2, aI d), (6, aI j)] [(1, Obj.box [aI f, aI 12])])) /\ (o = false -> (0 : Int) <= a /\ ∃ (s : BS) (es : LP), c[Int.toNat a]? = some [pT s, pS es] /\ (g = (0 : Int) /\ m /\ n /\ ∃ (i : Tr), es = Tr.rows i /\ Tr.nodes i < l /\ Tr.nodes i <= 4000000) /\ J0 (St.mk [(0, AV.addr 1 0 0), (1, aS c), (2, aI d), (6, aI j)] [(1, Obj.box [aI (tw es k f), aI (bf es k f)])]))) /\ (decide (a >  0) = false -> (0 : Int) <= a /\ ∃ (s : BS) (es : LP), c[Int.toNat a]? = some [pT s, pS es] /\ (g = (0 : Int) /\ m /\ n /\ ∃ (i : Tr), es = Tr.rows i /\ Tr.nodes i < l /\ Tr.nodes i <= 4000000) /\ J0 (St.mk [(0, AV.addr 1 0 0), (1, aS c), (2, aI d), (6, aI j)] [(1, Obj.box [aI (tw es k f), aI (bf es k f)])])))))) /\ ((g == 0) = false -> ∃ (h : H), Q ([], [TV.ptr [tI e, tI g]]))) /\ (decide (a < (↑(List.length c) : Int)) = false -> ∃ (h : H), Q ([], [TV.ptr [tI e, tI g]]))) := by kernel_rfl
noncomputable def DE : Specs := aZ [(77, qr 4000000)]
theorem K5 (a : LP) (Q : QT) : (bq C DE 55 [.pv (.sl a)] Q) (H.auto) = (((0 : Int) = (0 : Int) /\ ((0 : Int) <= (0 : Int) /\ (0 : Int) <= (400 : Int)) /\ ((0 : Int) <= (1 : Int) /\ (1 : Int) <= (13 : Int)) /\ ∃ (b : Tr), a = Tr.rows b /\ Tr.nodes b < 4000000 /\ Tr.nodes b <= 4000000) /\ Q ([tI (bf a (1 : Int) (0 : Int))], [])) := by kernel_rfl
theorem su (l : List Edge) : Br (l.map aE) = l.getLast?.map Prod.fst := by
 unfold Br
 rw [List.getLast?_map]
 cases l.getLast? with
 | none => rfl
 | some e => rfl
theorem kW {n d : Int} {p : Option (BS)} {x : BS} (h : gm n d p x = 0) : n <= 400 /\ d <= 12 /\ x.length <= 80 := by
 unfold gm at h
 split at h
 ·exact absurd h (by decide)
 ·split at h
  ·exact absurd h (by decide)
  ·split at h
   ·exact absurd h (by decide)
   ·omega
theorem fw : ∀ (t : Tr) (p : Option (BS)) (d n : Int), n <= 400 -> n <= (cq t p d n).1 /\ (cq t p d n).1 <= 401 /\ ((cq t p d n).2 = 0 -> (cq t p d n).1 <= 400)
 | .nil, p, d, n, h => by simp only [cq]; omega
 | .cons x k r, p, d, n, h => by
  simp only [cq]
  split
  ·simp only; omega
  ·rename_i h1
   have hz := kW (Decidable.not_not.1 h1)
   have hk := fw k none (d + 1) (n + 1) hz.1
   split
   ·omega
   ·rename_i h2
    have h3 := hk.2.2 (Decidable.not_not.1 h2)
    have hr := fw r (some x) d (cq k none (d + 1) (n + 1)).1 h3
    omega
def kp (l : List Edge) (i : Nat) : Option (BS) := (l.take i).getLast?.map Prod.fst
theorem lV {l : List Edge} {i : Nat} (h : i < l.length) : kp l (i + 1) = some l[i].1 := by
 rw [kp, List.take_succ_eq_append_getElem h, List.getLast?_concat]; rfl
theorem vg {l : List Edge} {i : Nat} (h : i < l.length) (p : Option (BS)) (d c : Int) : cq (Tr.of (l.drop i)) p d c = if gm (c + 1) d p l[i].1 ≠ 0 then (c + 1, gm (c + 1) d p l[i].1) else if (cq l[i].2 none (d + 1) (c + 1)).2 ≠ 0 then cq l[i].2 none (d + 1) (c + 1) else cq (Tr.of (l.drop (i + 1))) (some l[i].1) d (cq l[i].2 none (d + 1) (c + 1)).1 := by
 rw [List.drop_eq_getElem_cons h]
 rfl
theorem GO (n d : Int) (x : BS) (l : List Edge) (hn : 0 <= n /\ n <= 4000000000) (hl : l.length <= 4000000) : Ev C 80 [.ptr [.pv (.int .i64 n), .pv (.int .i64 400)], .pv (.int .i64 d), .pv (.str x), .pv (.sl (l.map aE))] ([.pv (.int .i64 (w8 (n + 1) d x (l.map aE)))], [.ptr [.pv (.int .i64 (n + 1)), .pv (.int .i64 400)]]) := by
 have hS : aK C Fb := az (am (by
  intro ag al hl x hx hp
  unfold AY at hl
  split at hl
  ·have e := aD hl hx; subst e
   have hp : _ = (400 : Int) := hp
   subst hp
   exact bh bM (HB _ _) rfl
  ·exact absurd hl (by simp)) ax)
 have w1 : IntKind.wrap .i64 (n + 1) = n + 1 := oY (by omega)
 have hlen : (l.map aE).length = l.length := List.length_map _
 rw [w8, su]
 refine bh hS (JW n d x (l.map aE) _) ?_
 conv => zeta
 rw [w1]
 refine ⟨rfl, fun h1 => ?_, fun h1 => ⟨fun h2 => ?_, fun h2 => ⟨fun h3 => ?_, fun h3 => ⟨fun h4 => ?_, fun h4 => ?_⟩⟩⟩⟩
 ·have : 400 < n + 1 := by simpa using h1
  rw [gm, if_pos this]
 all_goals have k1 : ¬ 400 < n + 1 := by simpa using h1
 ·have k2 : 12 < d := by simpa using h2
  rw [gm, if_neg k1, if_pos k2]
 all_goals have k2 : ¬ 12 < d := by simpa using h2
 ·simp only [gt_iff_lt, decide_eq_true_eq] at h3
  rw [gm, if_neg k1, if_neg k2, if_pos (by omega)]
 all_goals
  simp only [gt_iff_lt, decide_eq_false_iff_not] at h3
  have k3 : ¬ 80 < x.length := by omega
 ·simp only [gt_iff_lt, decide_eq_true_eq] at h4
  have hpos : 0 < l.length := by omega
  have w2 : IntKind.wrap .i64 (((l.map aE).length : Int) - 1) = ((l.length - 1 : Nat) : Int) := by rw [oY (by omega)]; omega
  have hi : l.length - 1 < l.length := by omega
  have eg : l.getLast? = some l[l.length - 1] := by rw [List.getLast?_eq_getElem?, List.getElem?_eq_getElem hi]
  rw [w2, eg]
  refine ⟨by omega, l[l.length - 1].1, l[l.length - 1].2.rows, by rw [Int.toNat_natCast, List.getElem?_map, List.getElem?_eq_getElem hi]; rfl, fun h5 => ?_, fun h5 => ?_⟩
  ·have eb : rA (Option.map Prod.fst (some l[l.length - 1])) x = (Op.bytesLess x l[l.length - 1].1 || x == l[l.length - 1].1) := rfl
   rw [gm, if_neg k1, if_neg k2, if_neg k3, eb, if_pos h5]
  ·have eb : rA (Option.map Prod.fst (some l[l.length - 1])) x = (Op.bytesLess x l[l.length - 1].1 || x == l[l.length - 1].1) := rfl
   rw [gm, if_neg k1, if_neg k2, if_neg k3, eb, if_neg (by rw [h5]; simp)]
 ·simp only [gt_iff_lt, decide_eq_false_iff_not] at h4
  have : l = [] := List.eq_nil_of_length_eq_zero (by omega)
  subst this
  rw [gm, if_neg k1, if_neg k2, if_neg k3]; rfl
theorem GP : ∀ ag al, AO ag = some al -> ∀ a ∈ al, a.1 -> Ev C 80 ag a.2 := by
 intro ag al hl x hx hp
 unfold AO at hl
 split at hl
 ·have e := aD hl hx; subst e
  obtain ⟨rfl, h1, l, rfl, h2⟩ := hp
  exact GO _ _ _ _ h1 h2
 ·exact absurd hl (by simp)
theorem gN (t : Tr) (d n : Int) : tw t.rows d n = (cq t none d n).1 := by rw [tw, aq]
theorem aW (t : Tr) (d n : Int) : bf t.rows d n = (cq t none d n).2 := by rw [bf, aq]
theorem sV (t : Tr) (i : Nat) : t.rows.take i = (t.list.take i).map aE := by rw [rows_list, List.map_take]
theorem Aj : ∀ (N : Nat) (t : Tr), t.nodes < N -> t.nodes <= 4000000 -> ∀ n d : Int, (0 <= n /\ n <= 400) -> (0 <= d /\ d <= 13) -> Ev C 62 [.ptr [.pv (.int .i64 n), .pv (.int .i64 400)], .pv (.int .i64 d), .pv (.sl t.rows)] ([.pv (.int .i64 (cq t none d n).2)], [.ptr [.pv (.int .i64 (cq t none d n).1), .pv (.int .i64 400)]])
 | 0, t, h, _, _, _, _, _ => by omega
 | N + 1, t, h, hb, n, d, hn, hd => by
  have hS : aK C (uP N) := az (am GP (am (by
   intro ag al hl x hx hp
   unfold vv at hl
   split at hl
   ·have e := aD hl hx; subst e
    obtain ⟨rfl, h1, h2, t, rfl, h3, h4⟩ := hp
    rw [gN, aW]
    exact Aj N t h3 h4 _ _ h1 h2
   ·exact absurd hl (by simp)) ax))
  have hlt := rows_len t
  have hnl := dE t
  refine bh hS (Jx N n d t.rows _) ?_
  refine aJ hS (by kernel_rfl) 1000 (fun k st => ∃ (i : Nat) (c : Int), st = Al d t.rows t.rows t.list.length i c 400 /\ i <= t.list.length /\ (0 <= c /\ c <= 400) /\ cq t none d n = cq (Tr.of (t.list.drop i)) (kp t.list i) d c /\ k = t.list.length - i) ?_ (n := t.list.length) ⟨0, n, by rw [hlt]; rfl, by omega, hn, by rw [List.drop_zero, of_list]; rfl, rfl⟩
  rintro k st ⟨i, c, rfl, hi, hc, he, rfl⟩
  refine cr (GA ..) ?_
  conv => zeta
  refine ⟨fun g => ?_, fun g => ?_⟩
  ·simp only [decide_eq_true_eq] at g
   have hi' : i < t.list.length := by omega
   have w1 := dJ (i := i) (by omega)
   have w2 : IntKind.wrap .i64 (d + 1) = d + 1 := oY (by omega)
   have hk := d5 (List.getElem_mem hi')
   rw [vg hi'] at he
   have ef : w8 (c + 1) d t.list[i].1 (List.take (Int.toNat (i : Int) - 0) t.rows) = gm (c + 1) d (kp t.list i) t.list[i].1 := by
    rw [Int.toNat_natCast, Nat.sub_zero, sV, w8, su]; rfl
   refine ⟨by omega, t.list[i].1, t.list[i].2.rows, row_get t hi', by rw [rows_list]; exact bT _, ⟨by omega, by omega, by simp only [Int.ofNat_eq_natCast]; omega⟩, ⟨rfl, by omega, t.list.take i, by rw [Int.toNat_natCast, Nat.sub_zero, sV], by rw [List.length_take]; omega⟩, ?_⟩
   rw [ef, w2, aW, gN]
   refine ⟨fun g2 => ⟨.auto, ?_⟩, fun g2 => ?_⟩
   ·have g2 := bne_iff_ne.1 g2
    rw [he, if_pos g2]
   ·have g2 : gm (c + 1) d (kp t.list i) t.list[i].1 = 0 := by simpa using g2
    have hz := kW g2
    rw [if_neg (by simpa using g2)] at he
    refine ⟨⟨rfl, ⟨by omega, by omega⟩, ⟨by omega, by omega⟩, t.list[i].2, rfl, by omega, by omega⟩, fun g3 => ⟨.auto, ?_⟩, fun g3 => ?_⟩
    ·have g3 := bne_iff_ne.1 g3
     rw [he, if_pos g3]
    ·have g3 : (cq t.list[i].2 none (d + 1) (c + 1)).2 = 0 := by simpa using g3
     have hcnt := fw t.list[i].2 none (d + 1) (c + 1) hz.1
     rw [if_neg (by simpa using g3)] at he
     rw [w1]
     exact ⟨t.list.length - (i + 1), by omega, i + 1, _, rfl, by omega, ⟨by omega, hcnt.2.2 g3⟩, by rw [lV hi']; exact he, rfl⟩
  ·simp only [decide_eq_false_iff_not] at g
   have : i = t.list.length := by omega
   subst this
   rw [List.drop_length] at he
   refine ⟨.auto, ?_⟩
   rw [he]; rfl
theorem Dp : ∀ (N : Nat) (t : Tr), t.nodes < N -> t.nodes <= 4000000 -> ∀ n d : Int, (0 <= n /\ n <= 400) -> (0 <= d /\ d <= 13) -> Ev C 77 [.ptr [.pv (.int .i64 n), .pv (.int .i64 0)], .pv (.sl t.rows), .pv (.int .i64 d)] ([], [.ptr [.pv (.int .i64 (cq t none d n).1), .pv (.int .i64 (cq t none d n).2)]])
 | 0, t, h, _, _, _, _, _ => by omega
 | N + 1, t, h, hb, n, d, hn, hd => by
  have hS : aK C (wS N) := az (am (by
   intro ag al hl x hx hp
   unfold qr at hl
   split at hl
   ·have e := aD hl hx; subst e
    obtain ⟨rfl, h1, h2, t, rfl, h3, h4⟩ := hp
    rw [gN, aW]
    exact Dp N t h3 h4 _ _ h1 h2
   ·exact absurd hl (by simp)) ax)
  have hlt := rows_len t
  have hnl := dE t
  refine bh hS (LI N n d t.rows _) ?_
  refine aJ hS (by kernel_rfl) 1000 (fun k st => ∃ (i : Nat) (c e : Int), st = oA t.rows d i c e /\ i <= t.list.length /\ (0 <= c /\ c <= 401) /\ ((e = 0 /\ c <= 400 /\ cq t none d n = cq (Tr.of (t.list.drop i)) (kp t.list i) d c) ∨ (e ≠ 0 /\ cq t none d n = (c, e))) /\ k = t.list.length - i) ?_ (n := t.list.length) ⟨0, n, 0, rfl, by omega, by omega, .inl ⟨rfl, by omega, by rw [List.drop_zero, of_list]; rfl⟩, rfl⟩
  rintro k st ⟨i, c, e, rfl, hi, hc, he, rfl⟩
  refine cr (IX ..) ?_
  conv => zeta
  refine ⟨fun g => ⟨fun g1 => ?_, fun g1 => ?_⟩, fun g => ?_⟩
  ·simp only [decide_eq_true_eq] at g
   have g1 := beq_iff_eq.1 g1
   subst g1
   obtain ⟨hc4, he⟩ : c <= 400 /\ cq t none d n = cq (Tr.of (t.list.drop i)) (kp t.list i) d c := by
    rcases he with ⟨_, hc4, he⟩ | ⟨hne, _⟩
    ·exact ⟨hc4, he⟩
    ·exact absurd rfl hne
   have hi' : i < t.list.length := by omega
   have w1 := dJ (i := i) (by omega)
   have w2 : IntKind.wrap .i64 (d + 1) = d + 1 := oY (by omega)
   have w3 : IntKind.wrap .i64 (c + 1) = c + 1 := oY (by omega)
   have hk := d5 (List.getElem_mem hi')
   rw [vg hi'] at he
   have bad : ∀ v : Int, gm (c + 1) d (kp t.list i) t.list[i].1 = v -> v ≠ 0 -> ∃ m, m < t.list.length - i /\ ∃ (i' : Nat) (c' e' : Int), oA t.rows d ((i + 1 : Nat) : Int) (c + 1) v = oA t.rows d i' c' e' /\ i' <= t.list.length /\ (0 <= c' /\ c' <= 401) /\ ((e' = 0 /\ c' <= 400 /\ cq t none d n = cq (Tr.of (t.list.drop i')) (kp t.list i') d c') ∨ (e' ≠ 0 /\ cq t none d n = (c', e'))) /\ m = t.list.length - i' := by
    intro v hv hv0
    rw [hv, if_pos hv0] at he
    exact ⟨t.list.length - (i + 1), by omega, i + 1, c + 1, v, rfl, by omega, by omega, .inr ⟨hv0, he⟩, rfl⟩
   have good' : gm (c + 1) d (kp t.list i) t.list[i].1 = 0 -> (∃ (s : BS) (es : LP), t.rows[Int.toNat (i : Int)]? = some [PV.str s, PV.sl es] /\ (True /\ (0 <= c + 1 /\ c + 1 <= 400) /\ (0 <= d + 1 /\ d + 1 <= 13) /\ ∃ u : Tr, es = u.rows /\ u.nodes < N /\ u.nodes <= 4000000) /\ ∃ m, m < t.list.length - i /\ ∃ (i' : Nat) (c' e' : Int), oA t.rows d ((i + 1 : Nat) : Int) (tw es (d + 1) (c + 1)) (bf es (d + 1) (c + 1)) = oA t.rows d i' c' e' /\ i' <= t.list.length /\ (0 <= c' /\ c' <= 401) /\ ((e' = 0 /\ c' <= 400 /\ cq t none d n = cq (Tr.of (t.list.drop i')) (kp t.list i') d c') ∨ (e' ≠ 0 /\ cq t none d n = (c', e'))) /\ m = t.list.length - i') := by
    intro hz0
    have hz := kW hz0
    rw [if_neg (by simpa using hz0)] at he
    refine ⟨t.list[i].1, t.list[i].2.rows, row_get t hi', ⟨trivial, ⟨by omega, by omega⟩, ⟨by omega, by omega⟩, t.list[i].2, rfl, by omega, by omega⟩, ?_⟩
    rw [gN, aW]
    have hcnt := fw t.list[i].2 none (d + 1) (c + 1) hz.1
    refine ⟨t.list.length - (i + 1), by omega, i + 1, _, _, rfl, by omega, ⟨by omega, by omega⟩, ?_, rfl⟩
    by_cases g3 : (cq t.list[i].2 none (d + 1) (c + 1)).2 = 0
    ·rw [if_neg (by simpa using g3)] at he
     exact .inl ⟨g3, hcnt.2.2 g3, by rw [lV hi']; exact he⟩
    ·rw [if_pos g3] at he
     exact .inr ⟨g3, he⟩
   simp only [w1, w2, w3]
   refine ⟨fun g2 => ?_, fun g2 => ⟨fun g3 => ?_, fun g3 => ?_⟩⟩
   ·exact bad 4 (by rw [gm, if_pos (by simpa using g2)]) (by decide)
   all_goals have k1 : ¬ 400 < c + 1 := by simpa using g2
   ·exact bad 11 (by rw [gm, if_neg k1, if_pos (by simpa using g3)]) (by decide)
   have k2 : ¬ 12 < d := by simpa using g3
   refine ⟨by omega, _, _, row_get t hi', fun g4 => ?_, fun g4 => ?_⟩
   ·simp only [gt_iff_lt, decide_eq_true_eq] at g4
    exact bad 5 (by rw [gm, if_neg k1, if_neg k2, if_pos (by omega)]) (by decide)
   simp only [gt_iff_lt, decide_eq_false_iff_not] at g4
   have k3 : ¬ 80 < t.list[i].1.length := by omega
   refine ⟨fun g5 => ?_, fun g5 => ?_⟩
   ·simp only [gt_iff_lt, decide_eq_true_eq] at g5
    obtain ⟨j, rfl⟩ : ∃ j, i = j + 1 := ⟨i - 1, by omega⟩
    have hj : j < t.list.length := by omega
    have w4 : IntKind.wrap .i64 (((j + 1 : Nat) : Int) - 1) = ((j : Nat) : Int) := by rw [oY (by omega)]; omega
    rw [w4]
    have hl := lV hj
    refine ⟨by omega, _, _, row_get t hi', by omega, _, _, row_get t hj, fun g6 => ?_, fun g6 => ?_⟩
    ·have eb : rA (some t.list[j].1) t.list[j + 1].1 = (Op.bytesLess t.list[j + 1].1 t.list[j].1 || t.list[j + 1].1 == t.list[j].1) := rfl
     exact bad 12 (by rw [gm, if_neg k1, if_neg k2, if_neg k3, hl, eb, if_pos g6]) (by decide)
    ·have eb : rA (some t.list[j].1) t.list[j + 1].1 = (Op.bytesLess t.list[j + 1].1 t.list[j].1 || t.list[j + 1].1 == t.list[j].1) := rfl
     exact ⟨by omega, good' (by rw [gm, if_neg k1, if_neg k2, if_neg k3, hl, eb, if_neg (by rw [g6]; simp)])⟩
   ·simp only [gt_iff_lt, decide_eq_false_iff_not] at g5
    have : i = 0 := by omega
    subst this
    exact ⟨by omega, good' (by rw [gm, if_neg k1, if_neg k2, if_neg k3]; rfl)⟩
  ·have g1 : e ≠ 0 := by simpa using g1
   rcases he with ⟨h0, _⟩ | ⟨_, he⟩
   ·exact absurd h0 g1
   ·exact ⟨.auto, by rw [he]⟩
  ·simp only [decide_eq_false_iff_not] at g
   have : i = t.list.length := by omega
   subst this
   refine ⟨.auto, ?_⟩
   rcases he with ⟨rfl, _, he⟩ | ⟨_, he⟩
   ·rw [List.drop_length] at he; rw [he]; rfl
   ·rw [he]
theorem DK {N : Nat} : ∀ ag al, vv N ag = some al -> ∀ a ∈ al, a.1 -> Ev C 62 ag a.2 := by
 intro ag al hl x hx hp
 unfold vv at hl
 split at hl
 ·have e := aD hl hx; subst e
  obtain ⟨rfl, h1, h2, t, rfl, h3, h4⟩ := hp
  rw [gN, aW]
  exact Aj N t h3 h4 _ _ h1 h2
 ·exact absurd hl (by simp)
theorem E8 {N : Nat} : ∀ ag al, qr N ag = some al -> ∀ a ∈ al, a.1 -> Ev C 77 ag a.2 := by
 intro ag al hl x hx hp
 unfold qr at hl
 split at hl
 ·have e := aD hl hx; subst e
  obtain ⟨rfl, h1, h2, t, rfl, h3, h4⟩ := hp
  rw [gN, aW]
  exact Dp N t h3 h4 _ _ h1 h2
 ·exact absurd hl (by simp)
noncomputable def pr : List TV -> Option Alts
 | [.pv (.sl a)] => one (∃ t : Tr, a = t.rows /\ t.nodes < 4000000) ([.pv (.int .i64 (bf a 1 0))], [])
 | _ => none
theorem Ah : ∀ ag al, pr ag = some al -> ∀ a ∈ al, a.1 -> Ev C 37 ag a.2 := by
 intro ag al hl x hx hp
 unfold pr at hl
 split at hl
 ·have e := aD hl hx; subst e
  obtain ⟨t, rfl, h⟩ := hp
  exact bh (az (am DK ax)) (Lx t.rows _) ⟨⟨rfl, by omega, by omega, t, rfl, h, by omega⟩, rfl⟩
 ·exact absurd hl (by simp)
theorem zo : ∀ ag al, pr ag = some al -> ∀ a ∈ al, a.1 -> Ev C 55 ag a.2 := by
 intro ag al hl x hx hp
 unfold pr at hl
 split at hl
 ·have e := aD hl hx; subst e
  obtain ⟨t, rfl, h⟩ := hp
  exact bh (az (am E8 ax)) (K5 t.rows _) ⟨⟨rfl, by omega, by omega, t, rfl, h, by omega⟩, rfl⟩
 ·exact absurd hl (by simp)
end Go.Proofs.YtcoikmicjbppmaaGreat.Vm

namespace Go.Proofs.YtcoikmicjbppmaaGreat.Vm
open Go Go.RowKit
set_option linter.unusedVariables false
set_option linter.unusedSimpArgs false
set_option maxRecDepth 100000
theorem nX : ∀ {x y : BS}, Op.bytesLess x y = true -> (Op.bytesLess y x || y == x) = false
 | _, [], h => by simp [Op.bytesLess] at h
 | [], b :: y, _ => by simp [Op.bytesLess]
 | a :: x, b :: y, h => by
  simp only [Op.bytesLess, Bool.or_eq_true, decide_eq_true_eq, Bool.and_eq_true, beq_iff_eq] at h
  rcases h with h | ⟨rfl, h⟩
  ·have h1 : ¬ b < a := fun h2 => by have := UInt8.lt_iff_toNat_lt.1 h; have := UInt8.lt_iff_toNat_lt.1 h2; omega
   have h2 : ¬ b = a := fun e => by subst e; have := UInt8.lt_iff_toNat_lt.1 h; omega
   simp [Op.bytesLess, h1, h2]
  ·have ih := nX h
   simp only [Bool.or_eq_false_iff, beq_eq_false_iff_ne] at ih
   have h1 : ¬ a < a := fun h2 => by have := UInt8.lt_iff_toNat_lt.1 h2; omega
   simp [Op.bytesLess, h1, ih.1, ih.2]
def dI : Option (BS) -> List Edge -> Prop
 | _, [] => True
 | p, e :: l => rA p e.1 = false /\ dI (some e.1) l
theorem jz : ∀ {x y : BS}, Op.bytesLess x y = false -> x ≠ y -> Op.bytesLess y x = true
 | [], [], _, h => absurd rfl h
 | a :: x, [], _, _ => by simp [Op.bytesLess]
 | [], b :: y, h, _ => by simp [Op.bytesLess] at h
 | a :: x, b :: y, h, hn => by
  simp only [Op.bytesLess, Bool.or_eq_false_iff, decide_eq_false_iff_not, Bool.and_eq_false_iff, beq_eq_false_iff_ne] at h
  simp only [Op.bytesLess, Bool.or_eq_true, decide_eq_true_eq, Bool.and_eq_true, beq_iff_eq]
  by_cases e : a = b
  ·subst e
   right
   refine ⟨rfl, jz ?_ fun e => hn (by rw [e])⟩
   rcases h.2 with h | h
   ·exact absurd rfl h
   ·exact h
  ·left
   have h1 := h.1
   have h2 : a.toNat ≠ b.toNat := fun q => e (UInt8.toNat_inj.1 q)
   rw [UInt8.lt_iff_toNat_lt] at h1 ⊢
   omega
theorem mg : ∀ {l : List Edge} {p : Option (BS)} (n : BS) (x : Tr), dI p l -> rA p n = false -> dI p (bH l n x)
 | [], p, n, x, _, h => by simp [bH, bX, dK, dI, h]
 | e :: l, p, n, x, hs, h => by
  obtain ⟨h1, h2⟩ := hs
  by_cases hl : Op.bytesLess e.1 n = true
  ·have ih := mg (l := l) (p := some e.1) n x h2 (nX hl)
   have ek : bX (e :: l) n = bX l n + 1 := by simp [bX, hl]
   have eb : dK (e :: l) n = dK l n := by simp [dK, ek]
   have : bH (e :: l) n x = e :: bH l n x := by
    simp only [bH, ek, eb, List.take_succ_cons, List.cons_append]
    split <;> simp
   rw [this]
   exact ⟨h1, ih⟩
  ·have hl : Op.bytesLess e.1 n = false := by simpa using hl
   have ek : bX (e :: l) n = 0 := by simp [bX, hl]
   by_cases he : e.1 = n
   ·have eb : dK (e :: l) n = true := by simp [dK, ek, he]
    have : bH (e :: l) n x = (n, x) :: l := by simp [bH, ek, eb]
    rw [this]
    exact ⟨h, by rw [<- he]; exact h2⟩
   ·have eb : dK (e :: l) n = false := by simp [dK, ek, he]
    have : bH (e :: l) n x = (n, x) :: e :: l := by simp [bH, ek, eb]
    rw [this]
    exact ⟨h, nX (jz hl he), h2⟩
def Tr.sound : Tr -> Option (BS) -> Int -> Prop
 | .nil, _, _ => True
 | .cons x k r, p, d => d <= 12 /\ x.length <= 80 /\ rA p x = false /\ k.sound none (d + 1) /\ r.sound (some x) d
theorem ri {d : Int} (hd : d <= 12) : ∀ {l : List Edge} {p : Option (BS)}, dI p l -> (∀ e ∈ l, e.1.length <= 80 /\ e.2.sound none (d + 1)) -> (Tr.of l).sound p d
 | [], p, _, _ => trivial
 | (x, k) :: l, p, hs, h => ⟨hd, (h (x, k) (by simp)).1, hs.1, (h (x, k) (by simp)).2, ri hd hs.2 fun e he => h e (by simp [he])⟩
end Go.Proofs.YtcoikmicjbppmaaGreat.Vm

namespace Go.Proofs.YtcoikmicjbppmaaGreat.Vm
open Go Go.RowKit
set_option linter.unusedVariables false
set_option linter.unusedSimpArgs false
set_option maxRecDepth 100000
theorem jL : ∀ (x y : BS), Op.bytesLess x y = decide (x < y)
 | [], [] => by simp [Op.bytesLess]
 | _ :: _, [] => by simp [Op.bytesLess]
 | [], _ :: _ => by simp [Op.bytesLess]
 | a :: x, b :: y => by
  rw [Op.bytesLess, jL x y]
  simp only [List.cons_lt_cons_iff]
  by_cases h1 : a < b <;> by_cases h2 : a = b <;> by_cases h3 : x < y <;> simp [h1, h2, h3]
theorem nn (a b c : BS) (h : a <= b) (k : b <= c) : a <= c := List.le_trans h k
theorem nk (a b : BS) : a <= b ∨ b <= a := List.le_total a b
theorem oV {a b : BS} (h : a <= b) (k : b <= a) : a = b := List.le_antisymm h k
theorem fo {a b c : BS} (h : a < b) (k : b < c) : a < c := List.lt_trans h k
theorem bS (a : BS) : ¬ a < a := List.lt_irrefl a
theorem tb {a b : BS} (h : a <= b) (k : a ≠ b) : a < b := by
 rcases Classical.em (a < b) with h1 | h1
 ·exact h1
 ·exact absurd (oV h (List.not_lt.1 h1)) k
theorem zw {a b : BS} (h : a < b) : a <= b := by
 rcases nk a b with h1 | h1
 ·exact h1
 ·exact absurd h (List.not_lt.2 h1)
def iT (l : List (BS)) : List (BS) := Lib.compact (eN l)
theorem pV {L : List (BS)} {j : Nat} (h : j < L.length) : L.toArray[j]! = L[j] := by
 rw [getElem!_pos _ j (by simpa using h)]; simp
theorem vj (L : List (BS)) (hs : L.Pairwise (· <= ·)) : ∀ m, m <= L.length -> (Lib.compactUpTo L.toArray m).Pairwise (· < ·) /\ ∀ x, x ∈ Lib.compactUpTo L.toArray m ↔ ∃ j, j < m /\ L[j]? = some x
 | 0, _ => ⟨by simp [Lib.compactUpTo], by simp [Lib.compactUpTo]⟩
 | m + 1, h => by
  obtain ⟨h1, h2⟩ := vj L hs m (by omega)
  have hm : m < L.length := by omega
  rw [Lib.compactUpTo_succ, pV hm]
  by_cases hk : Lib.keeps L.toArray m = true
  ·rw [if_pos hk]
   simp only [Lib.keeps, decide_eq_true_eq] at hk
   refine ⟨List.pairwise_append.2 ⟨h1, by simp, fun x hx y hy => ?_⟩, fun x => ?_⟩
   ·simp only [List.mem_singleton] at hy
    subst hy
    obtain ⟨j, hj, hjx⟩ := (h2 x).1 hx
    have hjl : j < L.length := by omega
    rw [List.getElem?_eq_getElem hjl] at hjx
    simp only [Option.some.injEq] at hjx
    subst hjx
    have hp := List.pairwise_iff_getElem.1 hs
    have hle : L[j] <= L[m] := hp j m hjl hm hj
    refine tb hle fun e => ?_
    rcases hk with h0 | h0
    ·omega
    ·rw [pV hm, pV (by omega : m - 1 < L.length)] at h0
     have h3 : L[m - 1] <= L[m] := hp (m - 1) m (by omega) hm (by omega)
     have h4 : L[j] <= L[m - 1] := by
      rcases Nat.lt_or_ge j (m - 1) with h5 | h5
      ·exact hp j (m - 1) hjl (by omega) h5
      ·have : j = m - 1 := by omega
       subst this; exact List.le_refl _
     exact h0 (oV (e ▸ h4) h3)
   ·rw [List.mem_append, h2 x, List.mem_singleton]
    constructor
    ·rintro (⟨j, hj, hx⟩ | rfl)
     ·exact ⟨j, by omega, hx⟩
     ·exact ⟨m, by omega, List.getElem?_eq_getElem hm⟩
    ·rintro ⟨j, hj, hx⟩
     rcases Nat.lt_or_ge j m with h5 | h5
     ·exact .inl ⟨j, h5, hx⟩
     ·have : j = m := by omega
      subst this
      rw [List.getElem?_eq_getElem hm] at hx
      exact .inr (by simpa using hx.symm)
  ·rw [if_neg hk]
   simp only [Lib.keeps, decide_eq_true_eq, not_or, Decidable.not_not] at hk
   rw [List.append_nil]
   refine ⟨h1, fun x => ?_⟩
   rw [h2 x]
   constructor
   ·rintro ⟨j, hj, hx⟩
    exact ⟨j, by omega, hx⟩
   ·rintro ⟨j, hj, hx⟩
    rcases Nat.lt_or_ge j m with h5 | h5
    ·exact ⟨j, h5, hx⟩
    ·have : j = m := by omega
     subst this
     have h6 := hk.2
     rw [pV hm, pV (by omega : j - 1 < L.length)] at h6
     refine ⟨j - 1, by omega, ?_⟩
     rw [List.getElem?_eq_getElem (by omega), <- h6, <- List.getElem?_eq_getElem hm]
     exact hx
theorem CJ (l : List (BS)) : (eN l).Pairwise (· <= ·) := by
 have := List.pairwise_mergeSort (le := fun x y : BS => decide (x <= y)) (fun a b c h k => by
  simp only [decide_eq_true_eq] at *
  exact nn a b c h k) (fun a b => by
  simp only [Bool.or_eq_true, decide_eq_true_eq]
  exact nk a b) l
 exact this.imp fun h => by simpa using h
theorem xt (l : List (BS)) (x : BS) : x ∈ iT l ↔ x ∈ l := by
 unfold iT Lib.compact
 rw [(vj (eN l) (CJ l) _ (Nat.le_refl _)).2 x, <- (List.mergeSort_perm l fun x y => decide (x <= y)).mem_iff]
 constructor
 ·rintro ⟨j, _, hx⟩
  exact List.mem_of_getElem? hx
 ·intro hx
  obtain ⟨j, hj, rfl⟩ := List.getElem_of_mem hx
  exact ⟨j, hj, List.getElem?_eq_getElem hj⟩
theorem qI (l : List (BS)) : (iT l).length <= l.length := by
 unfold iT Lib.compact Lib.compactUpTo
 rw [List.length_map]
 refine Nat.le_trans (List.length_filter_le _ _) ?_
 simp [eN]
theorem qJ {l : List (BS)} (h : l.Pairwise (· < ·)) : l.Nodup :=
 List.nodup_iff_pairwise_ne.2 (h.imp fun h e => by subst e; exact bS _ h)
theorem DH {x y : BS} (h : rA (some y) x = false) : y < x := by
 have h : (Op.bytesLess x y || x == y) = false := h
 rw [Bool.or_eq_false_iff] at h
 have h1 := jz (x := x) (y := y) h.1 (by simpa using h.2)
 rw [jL] at h1
 simpa using h1
theorem iv : ∀ {l : List Edge} {p : Option (BS)}, dI p l -> (l.map Prod.fst).Pairwise (· < ·) /\ ∀ y, p = some y -> ∀ x ∈ l.map Prod.fst, y < x
 | [], p, _ => ⟨by simp, by simp⟩
 | e :: l, p, h => by
  obtain ⟨h1, h2⟩ := h
  obtain ⟨h3, h4⟩ := iv h2
  refine ⟨by rw [List.map_cons]; exact List.pairwise_cons.2 ⟨fun x hx => h4 e.1 rfl x hx, h3⟩, fun y hy x hx => ?_⟩
  subst hy
  have hb := DH h1
  rw [List.map_cons, List.mem_cons] at hx
  rcases hx with rfl | hx
  ·exact hb
  ·exact fo hb (h4 e.1 rfl x hx)
theorem x3 : ∀ {l : List Edge} {p : Option (BS)} {n : BS}, dI p l -> n ∈ l.map Prod.fst -> dK l n = true
 | [], p, n, _, h => by simp at h
 | e :: l, p, n, hs, h => by
  obtain ⟨h1, h2⟩ := hs
  rw [List.map_cons, List.mem_cons] at h
  by_cases hl : Op.bytesLess e.1 n = true
  ·have hne : n ≠ e.1 := by
    rintro rfl
    rw [jL] at hl
    simp only [decide_eq_true_eq] at hl
    exact bS _ hl
   have ih := x3 h2 (h.resolve_left hne)
   have ek : bX (e :: l) n = bX l n + 1 := by simp [bX, hl]
   simpa [dK, ek] using ih
  ·have hl : Op.bytesLess e.1 n = false := by simpa using hl
   have ek : bX (e :: l) n = 0 := by simp [bX, hl]
   rcases h with rfl | h
   ·simp [dK, ek]
   ·have := (iv h2).2 e.1 rfl n h
    rw [jL] at hl
    simp only [decide_eq_false_iff_not] at hl
    exact absurd this hl
end Go.Proofs.YtcoikmicjbppmaaGreat.Vm

namespace Go.Proofs.YtcoikmicjbppmaaGreat.Vm
open Go Go.RowKit
set_option linter.unusedVariables false
set_option linter.unusedSimpArgs false
set_option maxRecDepth 100000
theorem oy {l : List Edge} {n : BS} {x : Tr} {e : Edge} (h : e ∈ bH l n x) : e ∈ l ∨ e = (n, x) := by
 simp only [bH, List.mem_append, List.mem_singleton] at h
 rcases h with (h | h) | h
 ·exact .inl (List.mem_of_mem_take h)
 ·exact .inr h
 ·exact .inl (List.mem_of_mem_drop h)
def cQ (l : List Edge) : Nat := (l.map fun e => e.2.nodes + 1).sum
theorem ed (l : List Edge) : (Tr.of l).nodes = cQ l := by
 induction l with
 | nil => rfl
 | cons e l ih => simp only [Tr.of, Tr.nodes, cQ, List.map_cons, List.sum_cons] at ih ⊢; omega
theorem jf (a b : List Edge) : cQ (a ++ b) = cQ a + cQ b := by simp [cQ]
theorem td (l : List Edge) (i j : Nat) (h : i <= j) : cQ (l.take i) + cQ (l.drop j) <= cQ l := by
 have h1 : cQ l = cQ (l.take i) + cQ (l.drop i) := by rw [<- jf, List.take_append_drop]
 have h2 : cQ (l.drop i) = cQ ((l.drop i).take (j - i)) + cQ ((l.drop i).drop (j - i)) := by rw [<- jf, List.take_append_drop]
 rw [List.drop_drop, show i + (j - i) = j by omega] at h2
 omega
theorem oz (l : List Edge) (n : BS) (x : Tr) : cQ (bH l n x) <= cQ l + x.nodes + 1 := by
 unfold bH
 rw [jf, jf]
 have h1 : cQ [(n, x)] = x.nodes + 1 := by simp [cQ]
 rw [h1]
 have := td l (bX l n) (if dK l n = true then bX l n + 1 else bX l n) (by split <;> omega)
 omega
end Go.Proofs.YtcoikmicjbppmaaGreat.Vm

namespace Go.Proofs.YtcoikmicjbppmaaGreat.Vm
open Go Go.RowKit
set_option linter.unusedVariables false
set_option linter.unusedSimpArgs false
set_option maxRecDepth 100000
noncomputable def bG (a : LP) (n : BS) : LP := match (aH a).list[bX (aH a).list n]? with
 | some e => if dK (aH a).list n = true then e.2.rows else []
 | none => []
noncomputable def Fc : Specs := aZ [(30, AF)]
theorem Km (a : LP) (c : BS) (Q : QT) : (bq C Fc 12 [.pv (.sl a), .pv (.str c)] Q) (H.b H.auto (H.n 1 (H.s H.auto))) = (let d := Tr.list (aH a); (∃ (e : Tr), a = Tr.rows e /\ List.length (Tr.list e) <= 4000000) /\ ((!dK d c) = true -> Q ([tS [], tB false], [])) /\ ((!dK d c) = false -> ∃ (s : BS) (es : LP), a[Int.toNat (↑(bX d c) : Int)]? = some [pT s, pS es] /\ Q ([tS es, tB true], []))) := by kernel_rfl
noncomputable def FA : List TV -> Option Alts
 | [.pv (.sl a), .pv (.str n)] => one (∃ t : Tr, a = t.rows /\ t.list.length <= 4000000) ([.pv (.sl (bG a n)), .pv (.bool (dK (aH a).list n))], [])
 | _ => none
theorem i9 (l : List (BS)) : cg 1 (l.map ak) = true := by simp [cg, ak]
theorem Kl : aK C Fc := az (am zT ax)
theorem Hq (t : Tr) (n : BS) (ht : t.list.length <= 4000000) : Ev C 12 [.pv (.sl t.rows), .pv (.str n)] ([.pv (.sl (bG t.rows n)), .pv (.bool (dK t.list n))], []) := by
 refine bh Kl (Km t.rows n _) ?_
 conv => zeta
 unfold bG
 rw [aq]
 refine ⟨⟨t, rfl, ht⟩, fun h => ?_, fun h => ?_⟩
 ·have h : dK t.list n = false := by simpa using h
  rw [h]
  cases t.list[bX t.list n]? <;> simp
 ·have h : dK t.list n = true := by simpa using h
  have hk := jn h
  refine ⟨_, _, row_get t hk, ?_⟩
  rw [h, List.getElem?_eq_getElem hk]
  simp
theorem Hr : ∀ ag al, FA ag = some al -> ∀ a ∈ al, a.1 -> Ev C 12 ag a.2 := by
 intro ag al hl x hx hp
 unfold FA at hl
 split at hl
 ·have e := aD hl hx; subst e
  obtain ⟨t, rfl, ht⟩ := hp
  rw [aq]
  exact Hq t _ ht
 ·exact absurd hl (by simp)
theorem EU (l : List (BS)) {i : Nat} (h : i < l.length) : (l.map ak)[((i : Int)).toNat]? = some (ak l[i]) := by
 rw [Int.toNat_natCast, List.getElem?_map, List.getElem?_eq_getElem h]; rfl
end Go.Proofs.YtcoikmicjbppmaaGreat.Vm

namespace Go.Proofs.YtcoikmicjbppmaaGreat.Vm
open Go Go.RowKit
set_option linter.unusedVariables false
set_option linter.unusedSimpArgs false
set_option maxRecDepth 100000
def bE (t : Tr) (n : BS) : Tr := match t.list[bX t.list n]? with
 | some e => if dK t.list n = true then e.2 else .nil
 | none => .nil
def tW : Tr -> List (BS) -> Tr
 | t, [] => t
 | t, n :: p => if dK t.list n = true then tW (bE t n) p else .nil
def lI : Tr -> List (BS) -> Bool
 | t, [] => true
 | t, n :: p => if dK t.list n = true then lI (bE t n) p else false
def kz : Tr -> List (BS) -> Tr -> Tr
 | t, [], x => x
 | t, n :: p, x => Tr.of (bH t.list n (kz (bE t n) p x))
def dB (l : List Edge) (n : BS) : List Edge := l.take (bX l n) ++ l.drop (bX l n + 1)
def gz : Tr -> List (BS) -> Tr
 | t, [] => .nil
 | t, [n] => if dK t.list n = true then Tr.of (dB t.list n) else t
 | t, n :: m :: p => if dK t.list n = true then Tr.of (bH t.list n (gz (bE t n) (m :: p))) else t
def iB : Option (BS) -> Tr -> Prop
 | _, .nil => True
 | p, .cons n k r => rA p n = false /\ iB none k /\ iB (some n) r
theorem je : ∀ {t : Tr} {p : Option (BS)}, iB p t ↔ dI p t.list /\ ∀ e ∈ t.list, iB none e.2
 | .nil, p => by simp [iB, Tr.list, dI]
 | .cons n k r, p => by
  have ih := je (t := r) (p := some n)
  simp only [iB, Tr.list, dI, List.mem_cons, forall_eq_or_imp]
  rw [ih]
  constructor
  ·rintro ⟨h1, h2, h3, h4⟩; exact ⟨⟨h1, h3⟩, h2, h4⟩
  ·rintro ⟨⟨h1, h3⟩, h2, h4⟩; exact ⟨h1, h2, h3, h4⟩
theorem ET {l : List Edge} {p : Option (BS)} (h1 : dI p l) (h2 : ∀ e ∈ l, iB none e.2) : iB p (Tr.of l) := by
 rw [je, list_of]; exact ⟨h1, h2⟩
theorem pi {l : List Edge} {n : BS} (h : dK l n = true) : ∃ x, l[bX l n]? = some (n, x) := by
 have hk := jn h
 unfold dK at h
 rw [List.getElem?_eq_getElem hk] at h ⊢
 simp only at h
 generalize l[bX l n] = e at h
 obtain ⟨a, b⟩ := e
 have : a = n := by simpa using h
 exact ⟨b, by rw [this]⟩
theorem ld {t : Tr} {n : BS} (h : dK t.list n = true) : t.list[bX t.list n]? = some (n, bE t n) := by
 obtain ⟨x, hx⟩ := pi h
 rw [hx]
 unfold bE
 rw [hx]
 simp [h]
theorem qx {t : Tr} {n : BS} (h : dK t.list n = false) : bE t n = .nil := by
 unfold bE
 cases t.list[bX t.list n]? <;> simp [h]
theorem pu {t : Tr} {n : BS} (h : iB none t) : iB none (bE t n) := by
 cases hb : dK t.list n with
 | false => rw [qx hb]; trivial
 | true => exact (je.1 h).2 _ (List.mem_of_getElem? (ld hb))
theorem nW (t : Tr) (n : BS) : (bE t n).nodes <= t.nodes := by
 cases hb : dK t.list n with
 | false => rw [qx hb]; simp [Tr.nodes]
 | true => exact Nat.le_of_lt (d5 (List.mem_of_getElem? (ld hb)))
theorem yJ {α : Type} (p : α -> Bool) : ∀ l : List α, l.take (l.takeWhile p).length = l.takeWhile p
 | [] => rfl
 | a :: l => by
  simp only [List.takeWhile]
  cases p a <;> simp [yJ p l]
theorem CW {α : Type} {p : α -> Bool} : ∀ {l m : List α}, (∀ x ∈ l, p x = true) -> (∀ x, m.head? = some x -> p x = false) -> ((l ++ m).takeWhile p).length = l.length
 | [], [], _, _ => rfl
 | [], a :: m, _, h => by have := h a rfl; simp [List.takeWhile, this]
 | a :: l, m, h1, h2 => by
  have ha := h1 a (by simp)
  have ih := CW (l := l) (m := m) (fun x hx => h1 x (List.mem_cons_of_mem _ hx)) h2
  simp [List.takeWhile, ha, ih]
theorem CZ {α : Type} {p : α -> Bool} : ∀ {l : List α} {x : α}, x ∈ l.takeWhile p -> p x = true
 | [], x, h => by simp at h
 | a :: l, x, h => by
  simp only [List.takeWhile] at h
  cases ha : p a with
  | false => rw [ha] at h; simp at h
  | true =>
   rw [ha] at h
   simp only [List.mem_cons] at h
   rcases h with rfl | h
   ·exact ha
   ·exact CZ h
theorem zf (n : BS) : Op.bytesLess n n = false := by
 rw [jL]; simp [bS]
theorem x4 {l : List Edge} {n : BS} {e : Edge} (h : e ∈ l.take (bX l n)) : Op.bytesLess e.1 n = true := by
 unfold bX at h
 rw [yJ] at h
 exact CZ (p := fun e : Edge => Op.bytesLess e.1 n) h
theorem jh (l : List Edge) (n : BS) : (l.take (bX l n)).length = bX l n := by
 rw [List.length_take]; have := lM l n; omega
theorem zS (l : List Edge) (n : BS) (x : Tr) : bX (bH l n x) n = bX l n := by
 have := CW (p := fun e : Edge => Op.bytesLess e.1 n) (l := l.take (bX l n)) (m := [(n, x)] ++ l.drop (if dK l n = true then bX l n + 1 else bX l n)) (fun e he => x4 he) (fun e he => by
  simp only [List.cons_append, List.nil_append, List.head?_cons, Option.some.injEq] at he
  subst he
  exact zf n)
 rw [jh] at this
 unfold bH
 rw [List.append_assoc]
 exact this
theorem Dl (l : List Edge) (n : BS) (x : Tr) : (bH l n x)[bX (bH l n x) n]? = some (n, x) := by
 rw [zS]
 unfold bH
 rw [List.append_assoc, List.getElem?_append_right (by rw [jh]; exact Nat.le_refl _), jh, Nat.sub_self]
 rfl
theorem ro {l : List Edge} {n : BS} (x : Tr) {k : Nat} {b : Bool} (hk : bX l n = k) (hb : dK l n = b) : bH l n x = l.take k ++ [(n, x)] ++ l.drop (if b = true then k + 1 else k) := by
 subst hk; subst hb; rfl
theorem ta {l : List Edge} {p : Option (BS)} (h : dI p l) : (l.map Prod.fst).Pairwise (· < ·) := (iv h).1
theorem IA {l : List Edge} {p : Option (BS)} (h : dI p l) {i j : Nat} {n : BS} {x y : Tr} (hi : l[i]? = some (n, x)) (hj : l[j]? = some (n, y)) : i = j := by
 have hp := List.pairwise_iff_getElem.1 (ta h)
 obtain ⟨h1, h2⟩ := List.getElem?_eq_some_iff.1 hi
 obtain ⟨k1, k2⟩ := List.getElem?_eq_some_iff.1 hj
 rcases Nat.lt_trichotomy i j with hl | hl | hl
 ·have := hp i j (by simpa using h1) (by simpa using k1) hl
  simp only [List.getElem_map, h2, k2] at this
  exact absurd this (bS _)
 ·exact hl
 ·have := hp j i (by simpa using k1) (by simpa using h1) hl
  simp only [List.getElem_map, h2, k2] at this
  exact absurd this (bS _)
theorem yE {l : List Edge} {p : Option (BS)} (h : dI p l) {n : BS} {x : Tr} (hm : (n, x) ∈ l) : dK l n = true /\ l[bX l n]? = some (n, x) := by
 have hb := x3 h (List.mem_map.2 ⟨_, hm, rfl⟩)
 obtain ⟨y, hy⟩ := pi hb
 obtain ⟨i, hi⟩ := List.mem_iff_getElem?.1 hm
 have := IA h hi hy
 rw [<- this]; exact ⟨hb, hi⟩
theorem Gn {l : List Edge} {p : Option (BS)} (h : dI p l) (n : BS) : dK l n = true ↔ ∃ x, (n, x) ∈ l := by
 constructor
 ·intro hb
  obtain ⟨x, hx⟩ := pi hb
  exact ⟨x, List.mem_of_getElem? hx⟩
 ·rintro ⟨x, hx⟩
  exact (yE h hx).1
theorem BF {l : List Edge} {n m : BS} (hn : m ≠ n) (x y : Tr) : (m, y) ∈ bH l n x ↔ (m, y) ∈ l := by
 have hsplit : ∀ i, ((m, y) ∈ l.take i ∨ (m, y) ∈ l.drop i) ↔ (m, y) ∈ l := fun i => by
  rw [<- List.mem_append, List.take_append_drop]
 unfold bH
 simp only [List.mem_append, List.mem_singleton, Prod.mk.injEq, hn, false_and, or_false]
 split
 ·rename_i hb
  obtain ⟨z, hz⟩ := pi hb
  have hk := jn hb
  rw [<- hsplit (bX l n + 1), List.take_succ_eq_append_getElem hk]
  rw [List.getElem?_eq_getElem hk] at hz
  simp only [Option.some.injEq] at hz
  rw [hz]
  simp [hn]
 ·exact hsplit _
theorem CK {l m : List Edge} (h : l.Sublist m) : ∀ {p : Option (BS)}, dI p m -> dI p l := by
 have key : ∀ {m : List Edge} {p : Option (BS)}, dI p m ↔ (m.map Prod.fst).Pairwise (· < ·) /\ ∀ y, p = some y -> ∀ x ∈ m.map Prod.fst, y < x := by
  intro m
  induction m with
  | nil => intro p; simp [dI]
  | cons e m ih =>
   intro p
   refine ⟨iv, fun ⟨k1, k2⟩ => ?_⟩
   rw [List.map_cons, List.pairwise_cons] at k1
   refine ⟨?_, ih.2 ⟨k1.2, fun y hy x hx => ?_⟩⟩
   ·cases p with
    | none => rfl
    | some y =>
     have hlt := k2 y rfl e.1 (by simp)
     show (Op.bytesLess e.1 y || e.1 == y) = false
     rw [jL, Bool.or_eq_false_iff]
     refine ⟨?_, ?_⟩
     ·simp only [decide_eq_false_iff_not]
      exact fun h => bS _ (fo h hlt)
     ·simp only [beq_eq_false_iff_ne]
      intro e1; rw [e1] at hlt; exact bS _ hlt
   ·simp only [Option.some.injEq] at hy
    subst hy
    exact k1.1 x hx
 intro p hm
 obtain ⟨k1, k2⟩ := key.1 hm
 exact key.2 ⟨k1.sublist (h.map _), fun y hy x hx => k2 y hy x ((h.map _).subset hx)⟩
theorem nC (l : List Edge) (n : BS) : (dB l n).Sublist l := by
 unfold dB
 conv => rhs; rw [<- List.take_append_drop (bX l n) l]
 refine List.Sublist.append (List.Sublist.refl _) ?_
 rw [<- List.drop_drop]
 exact List.drop_sublist _ _
theorem Dq {t : Tr} {n : BS} (h : iB none t) : iB none (Tr.of (dB t.list n)) := by
 obtain ⟨h1, h2⟩ := je.1 h
 exact ET (CK (nC _ _) h1) fun e he => h2 e ((nC _ _).subset he)
end Go.Proofs.YtcoikmicjbppmaaGreat.Vm

namespace Go.Proofs.YtcoikmicjbppmaaGreat.Vm
open Go Go.RowKit
set_option linter.unusedVariables false
set_option linter.unusedSimpArgs false
set_option maxRecDepth 100000
def cN (a : LP) : LP := a
noncomputable def jO (N : Nat) : List TV -> Option Alts
 | [.pv (.sl a)] => one (∃ t : Tr, a = t.rows /\ t.nodes < N) ([.own 2 (cN a)], [])
 | _ => none
def vw : List TV -> Option Alts
 | [.pv (.sl es)] => one (es.length * 40 <= du /\ es.length <= bz /\ cg 2 es = true) ([.own 2 es], [])
 | _ => none
theorem yB (t : Tr) {i : Nat} (h : i < t.list.length) {k : Nat} (hk : k = i) : (t.rows.take k ++ List.replicate (t.list.length - k) [PV.str [], PV.sl []]).set i (PV.str t.list[i].1 :: PV.sl t.list[i].2.rows :: List.drop 2 [PV.str [], PV.sl []]) = t.rows.take (k + 1) ++ List.replicate (t.list.length - (k + 1)) [PV.str [], PV.sl []] := by
 subst hk
 have hl := rows_len t
 have e1 : (t.rows.take k).length = k := by rw [List.length_take]; omega
 rw [List.set_append_right _ _ (by omega), e1, Nat.sub_self, show t.list.length - k = (t.list.length - (k + 1)) + 1 by omega, List.replicate_succ, List.set_cons_zero]
 have e2 := row_get t h
 rw [Int.toNat_natCast] at e2
 rw [List.take_succ_eq_append_getElem (by omega : k < t.rows.length)]
 rw [List.getElem?_eq_getElem (by omega)] at e2
 simp only [Option.some.injEq] at e2
 rw [e2]
 simp
theorem wX : ∀ ag al, vw ag = some al -> ∀ a ∈ al, a.1 -> Ev C 70 ag a.2 := by
 intro ag al hl a ha hp
 unfold vw at hl
 split at hl
 ·have e := aD hl ha; subst e
  refine lN (g := iW Tryz.prog 47) (by kernel_rfl) ?_
  simp only [iW, nN, kG]
  rw [if_pos hp]
 ·exact absurd hl (by simp)
end Go.Proofs.YtcoikmicjbppmaaGreat.Vm

namespace Go.Proofs.YtcoikmicjbppmaaGreat.Vm
open Go Go.RowKit
set_option linter.unusedVariables false
set_option linter.unusedSimpArgs false
set_option maxRecDepth 100000
noncomputable def vC (a p : LP) : LP := (tW (aH a) (iM p)).rows
noncomputable def jR (a p : LP) : Bool := lI (aH a) (iM p)
noncomputable def lD (a p x : LP) : LP := (kz (aH a) (iM p) (aH x)).rows
noncomputable def ic (a p : LP) : LP := (gz (aH a) (iM p)).rows
def nG (a : LP) : Prop := ∃ t : Tr, a = t.rows /\ t.nodes <= 2000000 /\ iB none t
def gB (p : LP) (N : Nat) : Prop := ∃ q : List (BS), p = q.map ak /\ q.length < N /\ q.length <= 1000
theorem Jt (a : LP) (b : BS) (Q : QT) : (bq C cd 81 [.pv (.sl a), .pv (.str b), .pv (.fn 82 [])] Q) (H.auto) = (bd C 81 (d0 (d0 (u3 CP.top))) (St.mk [(0, aS a), (1, aT b), (2, AV.pv (PV.fn 82 [])), (8, aI (↑(List.length a) : Int)), (9, aI 0), (10, aI (↑(List.length a) : Int))] []) (cA (au 0 (aQ (bA C cd 81 99996 (u4 CP.top)) (aU C 81 [tS a, tT b, TV.pv (PV.fn 82 [])] Q))))) := by kernel_rfl
def zX : CP := (d0 (d0 (u3 CP.top)))
def zY (a : LP) (b : BS) (d e c : Int) : St := (St.mk [(0, aS a), (1, aT b), (2, AV.pv (PV.fn 82 [])), (8, aI d), (9, aI e), (10, aI c)] [])
theorem Gq (h : LP) (i : BS) (e : LP) (d : BS) (f c a : Int)  (J0 : St -> Prop) (Q : QT) : (bA C cd 81 1000 (zX.dn 0) (zY e d f c a) (bO C 81 zX J0 (cA (au 0 (aQ (bA C cd 81 99996 (u4 CP.top)) (aU C 81 [tS h, tT i, TV.pv (PV.fn 82 [])] Q)))))) (H.b (H.n 1 (H.s (H.s (H.b H.auto H.auto)))) H.auto) = (let g := Int.fdiv (IntKind.wrap IntKind.u64 (IntKind.wrap .i64 (c + a))) (2 : Int); (decide (c < a) = true -> (0 : Int) <= IntKind.wrap .i64 g /\ ∃ (s : BS) (es : LP), e[Int.toNat (IntKind.wrap .i64 g)]? = some [pT s, pS es] /\ (decide (Lib.compareBytes s d <  0) = true -> J0 (St.mk [(0, aS e), (1, aT d), (2, AV.pv (PV.fn 82 [])), (8, aI f), (9, aI (IntKind.wrap .i64 (IntKind.wrap .i64 g + 1))), (10, aI a)] [])) /\ (decide (Lib.compareBytes s d <  0) = false -> J0 (St.mk [(0, aS e), (1, aT d), (2, AV.pv (PV.fn 82 [])), (8, aI f), (9, aI c), (10, aI (IntKind.wrap .i64 g))] []))) /\ (decide (c < a) = false -> cA (au 0 (aQ (bA C cd 81 99996 (u4 CP.top)) (aU C 81 [tS h, tT i, TV.pv (PV.fn 82 [])] Q))) (Ex.exit 0) (St.mk [(17, aB false), (16, aI a), (15, aI c), (0, aS e), (1, aT d), (2, AV.pv (PV.fn 82 [])), (8, aI f), (9, aI c), (10, aI a)] []))) := by kernel_rfl
def Gs (e d : Int) (a : LP) (b : BS) (f g c : Int) : St := (St.mk [(17, aB false), (16, aI e), (15, aI d), (0, aS a), (1, aT b), (2, AV.pv (PV.fn 82 [])), (8, aI f), (9, aI g), (10, aI c)] [])
theorem Gt (f : LP) (g : BS) (k j : Int) (d : LP) (e : BS) (c a i : Int)  (Q : QT) : (fun h => au 0 (aQ (bA C cd 81 99996 (u4 CP.top)) (aU C 81 [tS f, tT g, TV.pv (PV.fn 82 [])] Q)) h (Ex.exit 0) (Gs k j d e c a i)) (H.b (H.n 3 (H.s (H.s H.auto))) H.auto) = ((decide (a < c) = true -> (0 : Int) <= a /\ ∃ (s : BS) (es : LP), d[Int.toNat a]? = some [pT s, pS es] /\ Q ([tI a, tB (Lib.compareBytes s e == 0)], [])) /\ (decide (a < c) = false -> Q ([tI a, tB false], []))) := by kernel_rfl
noncomputable def AH : List TV -> Option Alts
 | [.pv (.sl a), .pv (.str n), .pv (.fn f [])] => one (f = 82 /\ nG a) ([.pv (.int .i64 (bX (aH a).list n)), .pv (.bool (dK (aH a).list n))], [])
 | _ => none
noncomputable def I7 : Specs := aZ [(81, AH)]
theorem JX (a : LP) (b : BS) (Q : QT) : (bq C I7 63 [.pv (.sl a), .pv (.str b)] Q) (H.auto) = ((82 = 82 /\ nG a) /\ Q ([tI (↑(bX (Tr.list (aH a)) b) : Int), tB (dK (Tr.list (aH a)) b)], [])) := by kernel_rfl
noncomputable def vy : List TV -> Option Alts
 | [.pv (.sl a), .pv (.str n)] => one (nG a) ([.pv (.int .i64 (bX (aH a).list n)), .pv (.bool (dK (aH a).list n))], [])
 | _ => none
noncomputable def uS (N : Nat) : Specs := aZ [(64, jO N)]
theorem KO (c : Nat) (b : LP) (Q : QT) : (bq C (uS c) 64 [.pv (.sl b)] Q) (H.s H.auto) = (let a := List.length b; ((0 : Int) <= (↑a : Int) /\ (↑a : Int) <= (↑a : Int) /\ (↑a : Int) <= (9223372036854775807 : Int) /\ (↑a : Int) * 40 <= (140737488355328 : Int)) /\ bd C 64 (d0 (u1 (d0 (u2 CP.top)))) (St.mk [(3, AV.own 6), (9, aS b), (10, aI (↑a : Int)), (11, aI 0)] [(6, Obj.buf 2 (List.replicate (Int.toNat (↑a : Int)) [pT [], pS []]))]) (cA (au 0 (aQ (bA C (uS c) 64 99997 (u3 CP.top)) (aU C 64 [tS b] Q))))) := by kernel_rfl
def BV : CP := (d0 (u1 (d0 (u2 CP.top))))
def xx (d : LP) (b c : Int) (a : LP) : St := (St.mk [(3, AV.own 6), (9, aS d), (10, aI b), (11, aI c)] [(6, Obj.buf 2 a)])
theorem HT (e : Nat) (k g : LP) (d a : Int) (c : LP)  (J0 : St -> Prop) (Q : QT) : (bA C (uS e) 64 1000 (BV.dn 0) (xx g d a c) (bO C 64 BV J0 (cA (au 0 (aQ (bA C (uS e) 64 99997 (u3 CP.top)) (aU C 64 [tS k] Q)))))) (H.b (H.s (H.s (H.s (H.s (H.s (H.s (H.s H.auto))))))) H.auto) = (let l := Int.toNat a; (decide (a < d) = true -> (0 : Int) <= a /\ ∃ (s : BS) (es : LP), g[Int.toNat a]? = some [pT s, pS es] /\ (∃ (j : Tr), es = Tr.rows j /\ Tr.nodes j < e) /\ ((0 : Int) <= a /\ a < (↑(List.length c) : Int)) /\ ∃ (f : List PV), let i := List.set c l (pT s :: pS (cN es) :: List.drop 2 f); c[Int.toNat a]? = some f /\ 2 <= List.length f /\ List.length i = List.length c /\ List.length i = List.length c /\ J0 (St.mk [(3, AV.own 6), (9, aS g), (10, aI d), (11, aI (IntKind.wrap .i64 (a + 1)))] [(6, Obj.buf 2 i)])) /\ (decide (a < d) = false -> ∃ (h : H), Q ([TV.own 2 c], []))) := by kernel_rfl
def AR : List TV -> Option Alts
 | [.own 2 es, .pv (.int .i64 i), .pv (.sl [v])] => one (0 <= i /\ i.toNat <= es.length /\ es.length <= 4000000 /\ v.length = 2) ([.own 2 (es.take i.toNat ++ [v] ++ es.drop i.toNat)], [])
 | _ => none
def AN : List TV -> Option Alts
 | [.own 2 es, .pv (.int .i64 i), .pv (.int .i64 j)] => one (0 <= i /\ i.toNat < es.length /\ es.length <= 4000000 /\ j = i + 1) ([.own 2 (es.take i.toNat ++ es.drop (i.toNat + 1))], [])
 | _ => none
noncomputable def uR : Specs := aZ [(63, vy), (64, jO 4000000)]
theorem J9 (b a : LP) (Q : QT) : (bq C uR 38 [.pv (.sl b), .pv (.sl a)] Q) (H.auto) = (bd C 38 (d0 (u1 (d0 (u1 CP.top)))) (St.mk [(0, aS b), (10, aS a), (11, aI (↑(List.length a) : Int)), (12, aI 0)] []) (cA (au 0 (aQ (bA C uR 38 99998 (u2 CP.top)) (aU C 38 [tS b, tS a] Q))))) := by kernel_rfl
def Be : CP := (d0 (u1 (d0 (u1 CP.top))))
def Bf (a b : LP) (c d : Int) : St := (St.mk [(0, aS a), (10, aS b), (11, aI c), (12, aI d)] [])
theorem Hg (j k c g : LP) (f d : Int)  (J0 : St -> Prop) (Q : QT) : (bA C uR 38 1000 (Be.dn 0) (Bf c g f d) (bO C 38 Be J0 (cA (au 0 (aQ (bA C uR 38 99998 (u2 CP.top)) (aU C 38 [tS j, tS k] Q)))))) (H.b (H.s (H.s (H.b H.auto (H.n 1 (H.s H.auto))))) H.auto) = (let i := Tr.list (aH c); (decide (d < f) = true -> (0 : Int) <= d /\ ∃ (e : BS), g[Int.toNat d]? = some [pT e] /\ (∃ (a : Tr), c = Tr.rows a /\ Tr.nodes a <= 2000000 /\ iB none a) /\ ((!dK i e) = true -> ∃ (h : H), Q ([tS [], tB false], [])) /\ ((!dK i e) = false -> ∃ (s_1 : BS) (es : LP), c[Int.toNat (↑(bX i e) : Int)]? = some [pT s_1, pS es] /\ J0 (St.mk [(0, aS es), (10, aS g), (11, aI f), (12, aI (IntKind.wrap .i64 (d + 1)))] []))) /\ (decide (d < f) = false -> ∃ (h : H), (∃ (a : Tr), c = Tr.rows a /\ Tr.nodes a < 4000000) /\ Q ([TV.own 2 (cN c), tB true], []))) := by kernel_rfl
noncomputable def ya (N : Nat) : List TV -> Option Alts
 | [.pv (.sl a), .pv (.sl p), .pv (.sl x)] => one (nG a /\ gB p N /\ nG x) ([.own 2 (lD a p x)], [])
 | _ => none
noncomputable def Fe (N : Nat) : Specs := aZ [(63, vy), (64, jO 4000000), (66, ya N), (86, AR), (70, vw)]
theorem KX (r : Nat) (e j i : LP) (Q : QT) : (bq C (Fe r) 66 [.pv (.sl e), .pv (.sl j), .pv (.sl i)] Q) (H.b H.auto (H.n 1 (H.s (H.n 1 (H.b (H.n 1 (H.s (H.b (H.s (H.s (H.s (H.s (H.s (H.s (H.s (H.s (H.s (H.b H.auto H.auto)))))))))) (H.s (H.s (H.s (H.s (H.s (H.s (H.s (H.s (H.s (H.b H.auto H.auto))))))))))))) (H.s (H.s (H.s (H.s (H.s (H.s (H.s (H.s (H.s (H.b H.auto H.auto))))))))))))))) = (let d := Tr.list (aH (cN e)); let p := List.length j; let o := List.take (Int.toNat (Int.ofNat p) - 1) (List.drop 1 j); let t := (0 : Int) <= (1 : Int) /\ (1 : Int) <= Int.ofNat p /\ Int.ofNat p <= Int.ofNat p; (((↑p : Int) == 0) = true -> (∃ (h : Tr), i = Tr.rows h /\ Tr.nodes h < 4000000) /\ Q ([TV.own 2 (cN i)], [])) /\ (((↑p : Int) == 0) = false -> (∃ (h : Tr), e = Tr.rows h /\ Tr.nodes h < 4000000) /\ ∃ (c : BS), let q := Int.toNat (↑(bX d c) : Int); let y := (0 : Int) <= (↑(bX d c) : Int) /\ (↑(bX d c) : Int) < (↑(List.length (cN e)) : Int); j[0]? = some [pT c] /\ (∃ (h : Tr), cN e = Tr.rows h /\ Tr.nodes h <= 2000000 /\ iB none h) /\ ((!dK d c) = true -> ∃ (u : BS), let f := List.take q (cN e) ++ [[pT u, pS []]] ++ List.drop q (cN e); let s := (0 : Int) <= (↑(bX d c) : Int) /\ (↑(bX d c) : Int) < (↑(List.length f) : Int); let z := flatTVs [TV.own 2 f] && true; j[0]? = some [pT u] /\ ((0 : Int) <= (↑(bX d c) : Int) /\ Int.toNat (↑(bX d c) : Int) <= List.length (cN e) /\ List.length (cN e) <= 4000000 /\ 2 = 2) /\ (z = true -> s /\ ∃ (a : List PV), f[Int.toNat (↑(bX d c) : Int)]? = some a /\ 2 <= List.length a /\ ∃ (g : LP), let A := lD g o i; List.take 1 (List.drop 1 a) = [pS g] /\ cg 1 j = true /\ t /\ (nG g /\ gB o r /\ nG i) /\ s /\ ∃ (a : List PV), let k := List.set f q (setFrom 1 [pS A] a); let v := flatTVs [TV.own 2 k] && true; f[Int.toNat (↑(bX d c) : Int)]? = some a /\ 2 <= List.length a /\ List.length k = List.length f /\ List.length k = List.length f /\ (List.length k * 40 <= du /\ List.length k <= bz /\ cg 2 k = true) /\ (v = true -> Q ([TV.own 2 k], [])) /\ (v = false -> Q ([TV.own 2 k], []))) /\ (z = false -> s /\ ∃ (a : List PV), f[Int.toNat (↑(bX d c) : Int)]? = some a /\ 2 <= List.length a /\ ∃ (g : LP), let B := lD g o i; List.take 1 (List.drop 1 a) = [pS g] /\ cg 1 j = true /\ t /\ (nG g /\ gB o r /\ nG i) /\ s /\ ∃ (a : List PV), let l := List.set f q (setFrom 1 [pS B] a); let w := flatTVs [TV.own 2 l] && true; f[Int.toNat (↑(bX d c) : Int)]? = some a /\ 2 <= List.length a /\ List.length l = List.length f /\ List.length l = List.length f /\ (List.length l * 40 <= du /\ List.length l <= bz /\ cg 2 l = true) /\ (w = true -> Q ([TV.own 2 l], [])) /\ (w = false -> Q ([TV.own 2 l], [])))) /\ ((!dK d c) = false -> y /\ ∃ (a : List PV), (cN e)[Int.toNat (↑(bX d c) : Int)]? = some a /\ 2 <= List.length a /\ ∃ (g : LP), let D := lD g o i; List.take 1 (List.drop 1 a) = [pS g] /\ cg 1 j = true /\ t /\ (nG g /\ gB o r /\ nG i) /\ y /\ ∃ (a : List PV), let m := List.set (cN e) q (setFrom 1 [pS D] a); let x := flatTVs [TV.own 2 m] && true; (cN e)[Int.toNat (↑(bX d c) : Int)]? = some a /\ 2 <= List.length a /\ List.length m = List.length (cN e) /\ List.length m = List.length (cN e) /\ (List.length m * 40 <= du /\ List.length m <= bz /\ cg 2 m = true) /\ (x = true -> Q ([TV.own 2 m], [])) /\ (x = false -> Q ([TV.own 2 m], []))))) := by kernel_rfl
noncomputable def tN (N : Nat) : List TV -> Option Alts
 | [.pv (.sl a), .pv (.sl p)] => some [((nG a /\ gB p N) /\ p = [], [.pv (.sl [])], []), ((nG a /\ gB p N) /\ p ≠ [], [.own 2 (ic a p)], [])]
 | _ => none
noncomputable def zI (N : Nat) : Specs := aZ [(63, vy), (64, jO 4000000), (67, tN N), (87, AN), (70, vw)]
theorem Fp (u : Nat) (a i : LP) (Q : QT) : (bq C (zI u) 67 [.pv (.sl a), .pv (.sl i)] Q) (H.b H.auto (H.n 1 (H.s (H.n 1 (H.b (H.b H.auto H.auto) (H.b (H.b H.auto H.auto) (H.s (H.s (H.s (H.s (H.b (H.s (H.s (H.s (H.s (H.s (H.b H.auto H.auto)))))) (H.b (H.s (H.s (H.s (H.s (H.s (H.b H.auto H.auto)))))) H.auto)))))))))))) = (let d := Tr.list (aH (cN a)); let f := List.length i; let t := Int.toNat (Int.ofNat f) - 1; let o := List.drop 1 i; let y := List.take t o; let r := Int.toNat (Int.ofNat f) - Int.toNat (1 : Int); let s := List.drop (Int.toNat (1 : Int)) i; let A := List.take r s; let B := List.length (cN a); let z := flatTVs [TV.own 2 (cN a)] && true; (((↑f : Int) == 0) = true -> Q ([tS []], [])) /\ (((↑f : Int) == 0) = false -> (∃ (j : Tr), a = Tr.rows j /\ Tr.nodes j < 4000000) /\ ∃ (c : BS), let p := Int.toNat (↑(bX d c) : Int); let k := List.take p (cN a) ++ List.drop (Int.toNat (↑(bX d c) : Int) + 1) (cN a); let q := (0 : Int) <= (↑(bX d c) : Int) /\ (↑(bX d c) : Int) < (↑B : Int); let v := flatTVs [TV.own 2 k] && true; i[0]? = some [pT c] /\ (∃ (j : Tr), cN a = Tr.rows j /\ Tr.nodes j <= 2000000 /\ iB none j) /\ ((!dK d c) = true -> (List.length (cN a) * 40 <= du /\ List.length (cN a) <= bz /\ cg 2 (cN a) = true) /\ (z = true -> Q ([TV.own 2 (cN a)], [])) /\ (z = false -> Q ([TV.own 2 (cN a)], []))) /\ ((!dK d c) = false -> (((↑f : Int) == 1) = true -> ((0 : Int) <= (↑(bX d c) : Int) /\ Int.toNat (↑(bX d c) : Int) < List.length (cN a) /\ List.length (cN a) <= 4000000 /\ IntKind.wrap .i64 ((↑(bX d c) : Int) + 1) = (↑(bX d c) : Int) + 1) /\ (List.length k * 40 <= du /\ List.length k <= bz /\ cg 2 k = true) /\ (v = true -> Q ([TV.own 2 k], [])) /\ (v = false -> Q ([TV.own 2 k], []))) /\ (((↑f : Int) == 1) = false -> q /\ ∃ (e : List PV), (cN a)[Int.toNat (↑(bX d c) : Int)]? = some e /\ 2 <= List.length e /\ ∃ (l : LP), let m := nG l /\ gB A u; List.take 1 (List.drop 1 e) = [pS l] /\ cg 1 i = true /\ ((0 : Int) <= (1 : Int) /\ (1 : Int) <= Int.ofNat f /\ Int.ofNat f <= Int.ofNat f) /\ aA [(m /\ List.take r s = [], [tS []], []), (m /\ List.take r s ≠ [], [TV.own 2 (ic l y)], [])] /\ (m /\ List.take t o = [] -> q /\ ∃ (e : List PV), let g := List.set (cN a) p (setFrom 1 [pS []] e); let w := flatTVs [TV.own 2 g] && true; (cN a)[Int.toNat (↑(bX d c) : Int)]? = some e /\ 2 <= List.length e /\ List.length g = List.length (cN a) /\ List.length g = List.length (cN a) /\ (List.length g * 40 <= du /\ List.length g <= bz /\ cg 2 g = true) /\ (w = true -> Q ([TV.own 2 g], [])) /\ (w = false -> Q ([TV.own 2 g], []))) /\ (m /\ List.take t o ≠ [] -> q /\ ∃ (e : List PV), let h := List.set (cN a) p (setFrom 1 [pS (ic l y)] e); let x := flatTVs [TV.own 2 h] && true; (cN a)[Int.toNat (↑(bX d c) : Int)]? = some e /\ 2 <= List.length e /\ List.length h = List.length (cN a) /\ List.length h = List.length (cN a) /\ (List.length h * 40 <= du /\ List.length h <= bz /\ cg 2 h = true) /\ (x = true -> Q ([TV.own 2 h], [])) /\ (x = false -> Q ([TV.own 2 h], []))) /\ True)))) := by kernel_rfl
theorem mA : ∀ a b : BS, (Lib.compareBytes a b < 0 ↔ a < b) /\ (Lib.compareBytes a b = 0 ↔ a = b)
 | [], [] => by simp [Lib.compareBytes]
 | [], _ :: _ => by simp [Lib.compareBytes]
 | _ :: _, [] => by simp [Lib.compareBytes]
 | a :: x, b :: y => by
  have ih := mA x y
  rw [Lib.compareBytes]
  by_cases h1 : a < b
  ·have : a ≠ b := fun e => by subst e; have := UInt8.lt_iff_toNat_lt.1 h1; omega
   simp [h1, this, List.cons_lt_cons_iff]
  ·by_cases h2 : b < a
   ·have : a ≠ b := fun e => by subst e; have := UInt8.lt_iff_toNat_lt.1 h2; omega
    simp [h1, h2, this, List.cons_lt_cons_iff]
   ·have : a = b := by
     have h3 : ¬ a.toNat < b.toNat := fun h => h1 (UInt8.lt_iff_toNat_lt.2 h)
     have h4 : ¬ b.toNat < a.toNat := fun h => h2 (UInt8.lt_iff_toNat_lt.2 h)
     exact UInt8.toNat_inj.1 (by omega)
    subst this
    simp only [h1, if_false, List.cons_lt_cons_iff, false_or, true_and, List.cons.injEq]
    exact ih
theorem Eh {i j : Nat} (h : i + j <= 100000000) : IntKind.wrap .i64 (Int.fdiv (IntKind.wrap .u64 (IntKind.wrap .i64 ((i : Int) + j))) 2) = (((i + j) / 2 : Nat) : Int) := by
 rw [IntWalk.i64_in ((i : Int) + j) (by omega), IntWalk.u64_in ((i : Int) + j) (by omega), Int.fdiv_eq_ediv_of_nonneg _ (by omega), IntWalk.i64_in _ (by omega)]
 omega
theorem wH {l : List Edge} {p : Option (BS)} (h : dI p l) {n : BS} {i : Nat} (hi : i < l.length) : l[i].1 < n ↔ i < bX l n := by
 constructor
 ·intro hl
  rcases Nat.lt_or_ge i (bX l n) with h1 | h1
  ·exact h1
  ·
   have hk : bX l n < l.length := by omega
   have hnot : ¬ l[bX l n].1 < n := by
    intro h2
    have := CY (p := fun e : Edge => Op.bytesLess e.1 n) hk (Nat.le_refl _) (by rw [jL]; simpa using h2)
    have e : (l.takeWhile fun e : Edge => Op.bytesLess e.1 n).length = bX l n := rfl
    omega
   rcases Nat.lt_or_ge (bX l n) i with h2 | h2
   ·have := List.pairwise_iff_getElem.1 (ta h) (bX l n) i (by simpa using hk) (by simpa using hi) h2
    simp only [List.getElem_map] at this
    exact absurd (fo this hl) hnot
   ·have : bX l n = i := by omega
    simp only [this] at hnot
    exact absurd hl hnot
 ·intro hl
  have : l[i] ∈ l.take (bX l n) := by
   rw [List.mem_take_iff_getElem]
   exact ⟨i, by omega, rfl⟩
  have := x4 this
  rw [jL] at this
  simpa using this
theorem Gp (t : Tr) (n : BS) (ht : t.nodes <= 2000000) (hs : iB none t) : Ev C 81 [.pv (.sl t.rows), .pv (.str n), .pv (.fn 82 [])] ([.pv (.int .i64 (bX t.list n)), .pv (.bool (dK t.list n))], []) := by
 have hl := rows_len t
 have hn := dY t
 have hk := lM t.list n
 have hso := (je.1 hs).1
 refine bh bM (Jt t.rows n _) ?_
 refine aJ bM (by kernel_rfl) 1000 (fun m st => ∃ i j : Nat, st = zY t.rows n t.list.length i j /\ i <= bX t.list n /\ bX t.list n <= j /\ j <= t.list.length /\ m = j - i) ?_ (n := t.list.length) ⟨0, t.list.length, by rw [hl]; rfl, by omega, by omega, by omega, by omega⟩
 rintro m st ⟨i, j, rfl, hi, hj, hjl, rfl⟩
 refine cr (Gq ..) ?_
 conv => zeta
 refine ⟨fun h => ?_, fun h => ?_⟩
 ·simp only [decide_eq_true_eq] at h
  rw [Eh (by omega)]
  have hm : (i + j) / 2 < t.list.length := by omega
  refine ⟨by omega, _, _, row_get t hm, fun h2 => ?_, fun h2 => ?_⟩
  ·simp only [decide_eq_true_eq, (mA _ _).1, wH hso hm] at h2
   rw [dJ (by omega)]
   exact ⟨j - ((i + j) / 2 + 1), by omega, (i + j) / 2 + 1, j, rfl, by omega, hj, hjl, rfl⟩
  ·simp only [decide_eq_false_iff_not, (mA _ _).1, wH hso hm] at h2
   exact ⟨(i + j) / 2 - i, by omega, i, (i + j) / 2, rfl, hi, by omega, by omega, rfl⟩
 ·simp only [decide_eq_false_iff_not] at h
  have hik : i = bX t.list n := by omega
  subst hik
  refine cr (Gt ..) ⟨fun h2 => ?_, fun h2 => ?_⟩
  ·simp only [decide_eq_true_eq] at h2
   have h2 : bX t.list n < t.list.length := by omega
   refine ⟨by omega, _, _, row_get t h2, ?_⟩
   have : (Lib.compareBytes t.list[bX t.list n].1 n == 0) = dK t.list n := by
    unfold dK
    rw [List.getElem?_eq_getElem h2]
    simp only
    rw [Bool.eq_iff_iff, beq_iff_eq, beq_iff_eq]
    exact (mA _ _).2
   rw [this]
  ·simp only [decide_eq_false_iff_not] at h2
   have : dK t.list n = false := by
    unfold dK
    rw [List.getElem?_eq_none (by omega)]
   rw [this]
theorem Gr : ∀ ag al, AH ag = some al -> ∀ a ∈ al, a.1 -> Ev C 81 ag a.2 := by
 intro ag al hl x hx hp
 unfold AH at hl
 split at hl
 ·have e := aD hl hx; subst e
  obtain ⟨rfl, t, rfl, h1, h2⟩ := hp
  rw [aq]
  exact Gp t _ h1 h2
 ·exact absurd hl (by simp)
theorem pY {t : Tr} (h1 : t.nodes <= 2000000) (h2 : iB none t) : nG t.rows := ⟨t, rfl, h1, h2⟩
theorem xa : ∀ ag al, vy ag = some al -> ∀ a ∈ al, a.1 -> Ev C 63 ag a.2 := by
 intro ag al hl x hx hp
 unfold vy at hl
 split at hl
 ·have e := aD hl hx; subst e
  obtain ⟨t, rfl, h1, h2⟩ := hp
  exact bh (az (am Gr ax)) (JX t.rows _ _) ⟨⟨rfl, t, rfl, h1, h2⟩, rfl⟩
 ·exact absurd hl (by simp)
theorem HS {N : Nat} (hS : aK C (uS N)) (t : Tr) (h : t.nodes <= N) (hb : t.nodes < 4000000) : Ev C 64 [.pv (.sl t.rows)] ([.own 2 t.rows], []) := by
 have hl := rows_len t
 have hn := dY t
 refine bh hS (KO N t.rows _) ?_
 conv => zeta
 rw [hl, Int.toNat_natCast]
 refine ⟨⟨by omega, by omega, by omega, by omega⟩, ?_⟩
 refine aJ hS (by kernel_rfl) 1000 (fun m st => ∃ i : Nat, st = xx t.rows t.list.length i (t.rows.take i ++ List.replicate (t.list.length - i) [PV.str [], PV.sl []]) /\ i <= t.list.length /\ m = t.list.length - i) ?_ (n := t.list.length) ⟨0, by simp [xx], by omega, by omega⟩
 rintro m st ⟨i, rfl, hi, rfl⟩
 have hlen : (t.rows.take i ++ List.replicate (t.list.length - i) [PV.str [], PV.sl []]).length = t.list.length := by
  rw [List.length_append, List.length_take, List.length_replicate]; omega
 refine cr (HT ..) ?_
 conv => zeta
 refine ⟨fun h2 => ?_, fun h2 => ?_⟩
 ·simp only [decide_eq_true_eq] at h2
  have hi' : i < t.list.length := by omega
  have hmem := d5 (List.getElem_mem hi')
  rw [hlen]
  refine ⟨by omega, _, _, row_get t hi', ⟨_, rfl, by omega⟩, ⟨by omega, by omega⟩, [PV.str [], PV.sl []], ?_, by simp, ?_⟩
  ·rw [Int.toNat_natCast, List.getElem?_append_right (by rw [List.length_take]; omega), List.getElem?_replicate, if_pos (by rw [List.length_take]; omega)]
  ·simp only [cN]
   rw [List.length_set, hlen, dJ (by omega), Int.toNat_natCast, yB t hi' rfl]
   exact ⟨rfl, rfl, t.list.length - (i + 1), by omega, i + 1, rfl, by omega, rfl⟩
 ·simp only [decide_eq_false_iff_not] at h2
  have : i = t.list.length := by omega
  subst this
  refine ⟨.auto, ?_⟩
  rw [Nat.sub_self, List.replicate_zero, List.append_nil, List.take_of_length_le (by omega)]
theorem ul : ∀ N, N <= 4000000 -> ∀ ag al, jO N ag = some al -> ∀ a ∈ al, a.1 -> Ev C 64 ag a.2
 | 0, _, ag, al, hl, x, hx, hp => by
  unfold jO at hl
  split at hl
  ·have e := aD hl hx; subst e
   obtain ⟨t, _, h⟩ := hp
   exact absurd h (by omega)
  ·exact absurd hl (by simp)
 | N + 1, hN, ag, al, hl, x, hx, hp => by
  unfold jO at hl
  split at hl
  ·have e := aD hl hx; subst e
   obtain ⟨t, rfl, h⟩ := hp
   exact HS (az (am (ul N (by omega)) ax)) t (by omega) (by omega)
  ·exact absurd hl (by simp)
theorem Hi : ∀ ag al, AR ag = some al -> ∀ a ∈ al, a.1 -> Ev C 86 ag a.2 := by
 intro ag al hl a ha hp
 unfold AR at hl
 split at hl
 ·have e := aD hl ha; subst e
  refine lN (g := nF) (by kernel_rfl) ?_
  simp only [nF]
  rw [if_pos hp]
 ·exact absurd hl (by simp)
theorem GI : ∀ ag al, AN ag = some al -> ∀ a ∈ al, a.1 -> Ev C 87 ag a.2 := by
 intro ag al hl a ha hp
 unfold AN at hl
 split at hl
 ·have e := aD hl ha; subst e
  refine lN (g := nE) (by kernel_rfl) ?_
  simp only [nE]
  rw [if_pos hp]
 ·exact absurd hl (by simp)
theorem jg (n : BS) (q : List (BS)) : List.take (Int.toNat (Int.ofNat ((n :: q).map ak).length) - 1) (List.drop 1 ((n :: q).map ak)) = q.map ak := by
 simp only [List.map_cons, List.drop_succ_cons, List.drop_zero, List.length_cons, List.length_map, Int.ofNat_eq_natCast, Int.toNat_natCast, Nat.add_sub_cancel]
 exact List.take_of_length_le (by simp)
theorem l9 {n : BS} {q : List (BS)} {N : Nat} (h : (n :: q).length < N + 1) (h2 : (n :: q).length <= 1000) : gB (q.map ak) N := ⟨q, rfl, by simp only [List.length_cons] at h; omega, by simp only [List.length_cons] at h2; omega⟩
theorem ir (l : List Edge) : cg 2 (l.map aE) = true := bT l
theorem sU (t : Tr) {K : Nat} (e : BS × Tr) (hK : t.list[K]? = some e) : t.rows = (t.list.take K).map aE ++ [aE e] ++ (t.list.drop (K + 1)).map aE := by
 obtain ⟨h1, h2⟩ := List.getElem?_eq_some_iff.1 hK
 have : t.list = t.list.take K ++ [e] ++ t.list.drop (K + 1) := by
  have := List.take_succ_eq_append_getElem h1
  rw [h2] at this
  rw [<- this, List.take_append_drop]
 rw [rows_list]
 conv => lhs; rw [this]
 rw [List.map_append, List.map_append]; rfl
theorem EN {α : Type} (A B : List α) (x y : α) (K : Nat) (hA : A.length = K) : (A ++ [x] ++ B).set K y = A ++ [y] ++ B := by
 subst hA
 rw [List.append_assoc, List.set_append_right _ _ (Nat.le_refl _), Nat.sub_self]
 simp
theorem DZ {α : Type} (A B : List α) (x : α) (K : Nat) (hA : A.length = K) : (A ++ [x] ++ B)[K]? = some x := by
 subst hA
 rw [List.append_assoc, List.getElem?_append_right (Nat.le_refl _), Nat.sub_self]; rfl
theorem uc {A B : List Edge} {n : BS} {y z : Tr} {K : Nat} (hA : A.length = K) : (A.map aE ++ [aE (n, y)] ++ B.map aE)[K]? = some (aE (n, y)) /\ (A.map aE ++ [aE (n, y)] ++ B.map aE).set K (setFrom 1 [PV.sl z.rows] (aE (n, y))) = (A ++ [(n, z)] ++ B).map aE := by
 have hA' : (A.map aE).length = K := by rw [List.length_map]; exact hA
 refine ⟨DZ _ _ _ _ hA', ?_⟩
 rw [EN _ _ _ _ _ hA', List.map_append, List.map_append]; rfl
theorem yI : ∀ N, ∀ ag al, ya N ag = some al -> ∀ a ∈ al, a.1 -> Ev C 66 ag a.2
 | 0, ag, al, hl, x, hx, hp => by
  unfold ya at hl
  split at hl
  ·have e := aD hl hx; subst e
   obtain ⟨_, ⟨q, _, h, _⟩, _⟩ := hp
   exact absurd h (by omega)
  ·exact absurd hl (by simp)
 | N + 1, ag, al, hl, y, hy, hp => by
  have hr := cz
  have hm := bN
  unfold ya at hl
  split at hl
  ·have e := aD hl hy; subst e
   obtain ⟨⟨t, rfl, t1, t2⟩, ⟨q, rfl, q1, q2⟩, ⟨x, rfl, x1, x2⟩⟩ := hp
   have hS : aK C (Fe N) := az (am xa (am (ul 4000000 (Nat.le_refl _)) (am (yI N) (am Hi (am wX ax)))))
   refine bh hS (KX N t.rows (q.map ak) x.rows _) ?_
   conv => zeta
   have eR : lD t.rows (q.map ak) x.rows = (kz t q x).rows := by unfold lD; rw [aq, aq, bF]
   rw [eR]
   simp only [cN, aq]
   have hrl := rows_len t
   have hn := dY t
   have hk0 := lM t.list
   refine ⟨fun h => ?_, fun h => ?_⟩
   ·cases q with
    | nil => exact ⟨⟨x, rfl, by omega⟩, rfl⟩
    | cons n q => simp at h; omega
   ·cases q with
    | nil => simp at h
    | cons n q =>
     have hk := hk0 n
     refine ⟨⟨t, rfl, by omega⟩, n, rfl, ⟨t, rfl, t1, t2⟩, fun hb => ?_, fun hb => ?_⟩
     ·have hb : dK t.list n = false := by simpa using hb
      rw [jg]
      simp only [Int.toNat_natCast]
      have hI : t.rows.take (bX t.list n) ++ [[PV.str n, PV.sl []]] ++ t.rows.drop (bX t.list n) = (t.list.take (bX t.list n)).map aE ++ [aE (n, .nil)] ++ (t.list.drop (bX t.list n)).map aE := by
       rw [rows_list, <- List.map_take, <- List.map_drop]; rfl
      have hw : kz t (n :: q) x = Tr.of (t.list.take (bX t.list n) ++ [(n, kz (bE t n) q x)] ++ t.list.drop (bX t.list n)) := by
       rw [kz, ro _ rfl hb, if_neg (by simp)]
      rw [hw, cG, qx hb]
      obtain ⟨m1, m2⟩ := uc (A := t.list.take (bX t.list n)) (B := t.list.drop (bX t.list n)) (n := n) (y := .nil) (z := kz .nil q x) (K := bX t.list n) (jh _ _)
      have e1 : lD (Tr.nil.rows) (q.map ak) x.rows = (kz .nil q x).rows := by unfold lD; rw [aq, aq, bF]
      have hlen : ((t.list.take (bX t.list n)).map aE ++ [aE (n, .nil)] ++ (t.list.drop (bX t.list n)).map aE).length = t.list.length + 1 := by simp; omega
      have hlen2 : ((t.list.take (bX t.list n) ++ [(n, kz .nil q x)] ++ t.list.drop (bX t.list n)).map aE).length = t.list.length + 1 := by simp; omega
      have fin : (0 <= ((bX t.list n : Nat) : Int) /\ ((bX t.list n : Nat) : Int) < ((((t.list.take (bX t.list n)).map aE ++ [aE (n, .nil)] ++ (t.list.drop (bX t.list n)).map aE).length : Nat) : Int)) := ⟨by omega, by rw [hlen]; omega⟩
      refine ⟨n, rfl, ⟨by omega, by omega, by omega, trivial⟩, ?_, ?_⟩
      all_goals
       intro _
       rw [hI]
       refine ⟨fin, _, m1, by simp [aE], Tr.nil.rows, rfl, i9 _, ⟨by omega, by simp; omega, by omega⟩, ⟨pY (by simp [Tr.nodes]) trivial, l9 q1 q2, pY x1 x2⟩, fin, _, m1, by simp [aE], ?_⟩
       rw [e1, m2, hlen, hlen2]
       exact ⟨rfl, rfl, ⟨by omega, by omega, ir _⟩, fun _ => rfl, fun _ => rfl⟩
     ·have hb : dK t.list n = true := by simpa using hb
      have hkl := jn hb
      have hkid := ld hb
      have hkn := d5 (List.mem_of_getElem? hkid)
      rw [jg]
      simp only [Int.toNat_natCast]
      have hI := sU t _ hkid
      have hw : kz t (n :: q) x = Tr.of (t.list.take (bX t.list n) ++ [(n, kz (bE t n) q x)] ++ t.list.drop (bX t.list n + 1)) := by
       rw [kz, ro _ rfl hb, if_pos rfl]
      rw [hw, cG]
      obtain ⟨m1, m2⟩ := uc (A := t.list.take (bX t.list n)) (B := t.list.drop (bX t.list n + 1)) (n := n) (y := bE t n) (z := kz (bE t n) q x) (K := bX t.list n) (jh _ _)
      have e1 : lD ((bE t n).rows) (q.map ak) x.rows = (kz (bE t n) q x).rows := by unfold lD; rw [aq, aq, bF]
      have hlen2 : ((t.list.take (bX t.list n) ++ [(n, kz (bE t n) q x)] ++ t.list.drop (bX t.list n + 1)).map aE).length = t.list.length := by simp; omega
      rw [<- hI] at m1 m2
      have fin : (0 <= ((bX t.list n : Nat) : Int) /\ ((bX t.list n : Nat) : Int) < ((t.rows.length : Nat) : Int)) := ⟨by omega, by rw [hrl]; omega⟩
      refine ⟨fin, _, m1, by simp [aE], (bE t n).rows, rfl, i9 _, ⟨by omega, by simp; omega, by omega⟩, ⟨pY (by have : (bE t n).nodes < t.nodes := hkn; omega) (pu t2), l9 q1 q2, pY x1 x2⟩, fin, _, m1, by simp [aE], ?_⟩
      rw [e1, m2, hrl, hlen2]
      exact ⟨rfl, rfl, ⟨by omega, by omega, ir _⟩, fun _ => rfl, fun _ => rfl⟩
  ·exact absurd hl (by simp)
theorem wI : ∀ N, ∀ ag al, tN N ag = some al -> ∀ a ∈ al, a.1 -> Ev C 67 ag a.2
 | 0, ag, al, hl, x, hx, hp => by
  unfold tN at hl
  split at hl
  ·simp only [Option.some.injEq] at hl; subst hl
   simp only [List.mem_cons, List.not_mem_nil, or_false] at hx
   rcases hx with rfl | rfl
   ·obtain ⟨⟨_, q, _, h, _⟩, _⟩ := hp
    exact absurd h (by omega)
   ·obtain ⟨⟨_, q, _, h, _⟩, _⟩ := hp
    exact absurd h (by omega)
  ·exact absurd hl (by simp)
 | N + 1, ag, al, hl, y, hy, hp => by
  have hr := cz
  have hm := bN
  have hS : aK C (zI N) := az (am xa (am (ul 4000000 (Nat.le_refl _)) (am (wI N) (am GI (am wX ax)))))
  unfold tN at hl
  split at hl
  ·simp only [Option.some.injEq] at hl; subst hl
   simp only [List.mem_cons, List.not_mem_nil, or_false] at hy
   rcases hy with rfl | rfl
   ·obtain ⟨⟨_, q, _, h, _⟩, rfl⟩ := hp
    refine bh hS (Fp N ..) ?_
    conv => zeta
    refine ⟨fun _ => rfl, fun h => ?_⟩
    simp at h
   ·obtain ⟨⟨⟨t, rfl, t1, t2⟩, q, rfl, q1, q2⟩, hne⟩ := hp
    have eR : ic t.rows (q.map ak) = (gz t q).rows := by unfold ic; rw [aq, bF]
    refine bh hS (Fp N t.rows (q.map ak) _) ?_
    conv => zeta
    rw [eR]
    simp only [cN, aq]
    have hrl := rows_len t
    have hn := dY t
    have hk0 := lM t.list
    refine ⟨fun h => ?_, fun h => ?_⟩
    ·cases q with
     | nil => exact absurd rfl hne
     | cons n q => simp at h; omega
    ·cases q with
     | nil => simp at h
     | cons n q =>
      have hk := hk0 n
      refine ⟨⟨t, rfl, by omega⟩, n, rfl, ⟨t, rfl, t1, t2⟩, fun hb => ?_, fun hb => ?_⟩
      ·have hb : dK t.list n = false := by simpa using hb
       have hw : gz t (n :: q) = t := by
        cases q with
        | nil => rw [gz, hb]; rfl
        | cons m q => rw [gz, hb]; rfl
       rw [hw, hrl]
       refine ⟨⟨by omega, by omega, by rw [rows_list]; exact ir _⟩, fun _ => rfl, fun _ => rfl⟩
      ·have hb : dK t.list n = true := by simpa using hb
       have hkl := jn hb
       have hkid := ld hb
       have hkn := d5 (List.mem_of_getElem? hkid)
       simp only [Int.toNat_natCast]
       refine ⟨fun h1 => ?_, fun h1 => ?_⟩
       ·have hq : q = [] := by
         simp at h1
         exact List.length_eq_zero_iff.1 (by omega)
        subst hq
        have hw : gz t [n] = Tr.of (dB t.list n) := by rw [gz, if_pos hb]
        have e2 : t.rows.take (bX t.list n) ++ t.rows.drop (bX t.list n + 1) = (dB t.list n).map aE := by
         rw [rows_list, <- List.map_take, <- List.map_drop, <- List.map_append]; rfl
        have hlw : (dB t.list n).length <= t.list.length := (nC _ _).length_le
        rw [hw, cG, e2, List.length_map, hrl]
        exact ⟨⟨by omega, by omega, by omega, oY (by omega)⟩, ⟨by omega, by omega, ir _⟩, fun _ => rfl, fun _ => rfl⟩
       ·cases q with
        | nil => simp at h1
        | cons m q =>
         have hI := sU t _ hkid
         have hw : gz t (n :: m :: q) = Tr.of (t.list.take (bX t.list n) ++ [(n, gz (bE t n) (m :: q))] ++ t.list.drop (bX t.list n + 1)) := by
          rw [gz, if_pos hb, ro _ rfl hb, if_pos rfl]
         rw [hw, cG]
         obtain ⟨m1, m2⟩ := uc (A := t.list.take (bX t.list n)) (B := t.list.drop (bX t.list n + 1)) (n := n) (y := bE t n) (z := gz (bE t n) (m :: q)) (K := bX t.list n) (jh _ _)
         have e1 : ic ((bE t n).rows) ((m :: q).map ak) = (gz (bE t n) (m :: q)).rows := by unfold ic; rw [aq, bF]
         have hlen2 : ((t.list.take (bX t.list n) ++ [(n, gz (bE t n) (m :: q))] ++ t.list.drop (bX t.list n + 1)).map aE).length = t.list.length := by simp; omega
         rw [<- hI] at m1 m2
         have fin : (0 <= ((bX t.list n : Nat) : Int) /\ ((bX t.list n : Nat) : Int) < ((t.rows.length : Nat) : Int)) := ⟨by omega, by rw [hrl]; omega⟩
         have e3 : List.take (Int.toNat (Int.ofNat ((n :: m :: q).map ak).length) - Int.toNat 1) (List.drop (Int.toNat 1) ((n :: m :: q).map ak)) = (m :: q).map ak := jg n (m :: q)
         have hat : nG (bE t n).rows := pY (by have : (bE t n).nodes < t.nodes := hkn; omega) (pu t2)
         refine ⟨fin, _, m1, by simp [aE], (bE t n).rows, rfl, i9 _, ⟨by omega, by simp; omega, by omega⟩, ?_, fun hc => ?_, fun hc => ?_, trivial⟩
         ·rw [e3]
          exact .inr ⟨⟨hat, l9 q1 q2⟩, by simp⟩
         ·rw [jg] at hc
          exact absurd hc.2 (by simp)
         ·refine ⟨fin, _, m1, by simp [aE], ?_⟩
          rw [jg, e1, m2, hrl, hlen2]
          exact ⟨rfl, rfl, ⟨by omega, by omega, ir _⟩, fun _ => rfl, fun _ => rfl⟩
  ·exact absurd hl (by simp)
theorem c8 (t : Tr) (n : BS) : bG t.rows n = (bE t n).rows := by
 unfold bG bE
 rw [aq]
 cases t.list[bX t.list n]? with
 | none => rfl
 | some e => cases dK t.list n <;> rfl
theorem Bg {t : Tr} {q : List (BS)} {i : Nat} (h : i < q.length) : lI t (q.drop i) = (if dK t.list q[i] = true then lI (bE t q[i]) (q.drop (i + 1)) else false) /\ tW t (q.drop i) = (if dK t.list q[i] = true then tW (bE t q[i]) (q.drop (i + 1)) else .nil) := by
 rw [List.drop_eq_getElem_cons h]
 exact ⟨rfl, rfl⟩
def y9 (t : Tr) (q : List (BS)) : RT := if lI t q = true then ([.own 2 (tW t q).rows, .pv (.bool true)], []) else ([.pv (.sl []), .pv (.bool false)], [])
theorem uD (t : Tr) (q : List (BS)) (t1 : t.nodes <= 2000000) (t2 : iB none t) (hq : q.length <= 1000) : Ev C 38 [.pv (.sl t.rows), .pv (.sl (q.map ak))] (y9 t q) := by
 have hS : aK C uR := az (am xa (am (ul 4000000 (Nat.le_refl _)) ax))
 have hlq : (q.map ak).length = q.length := List.length_map ..
 refine bh hS (J9 t.rows (q.map ak) _) ?_
 refine aJ hS (by kernel_rfl) 1000 (fun m st => ∃ (i : Nat) (u : Tr), st = Bf u.rows (q.map ak) q.length i /\ i <= q.length /\ u.nodes <= 2000000 /\ iB none u /\ lI t q = lI u (q.drop i) /\ tW t q = tW u (q.drop i) /\ m = q.length - i) ?_ (n := q.length) ⟨0, t, by rw [hlq]; rfl, by omega, t1, t2, rfl, rfl, rfl⟩
 rintro m st ⟨i, u, rfl, hi, u1, u2, g1, g2, rfl⟩
 refine cr (Hg ..) ?_
 conv => zeta
 refine ⟨fun h => ?_, fun h => ?_⟩
 ·simp only [decide_eq_true_eq] at h
  have hi' : i < q.length := by omega
  obtain ⟨k1, k2⟩ := Bg (t := u) hi'
  refine ⟨by omega, q[i], by rw [EU q hi']; rfl, ⟨u, rfl, u1, u2⟩, fun hb => ?_, fun hb => ?_⟩
  ·have hb : dK u.list q[i] = false := by simpa [aq] using hb
   refine ⟨.auto, ?_⟩
   unfold y9
   rw [g1, k1, hb]; rfl
  ·have hb : dK u.list q[i] = true := by simpa [aq] using hb
   have hkid := ld hb
   rw [aq]
   refine ⟨q[i], (bE u q[i]).rows, ?_, q.length - (i + 1), by omega, i + 1, bE u q[i], by rw [dJ (by omega)]; rfl, by omega, ?_, pu u2, ?_, ?_, rfl⟩
   ·have := row_get u (jn hb)
    rw [List.getElem?_eq_getElem (jn hb)] at hkid
    simp only [Option.some.injEq] at hkid
    rw [hkid] at this; exact this
   ·have := nW u q[i]; omega
   ·rw [g1, k1, if_pos hb]
   ·rw [g2, k2, if_pos hb]
 ·simp only [decide_eq_false_iff_not] at h
  have : i = q.length := by omega
  subst this
  rw [List.drop_length] at g1 g2
  refine ⟨.auto, ⟨u, rfl, by omega⟩, ?_⟩
  unfold y9
  rw [g1, g2]; rfl
end Go.Proofs.YtcoikmicjbppmaaGreat.Vm
