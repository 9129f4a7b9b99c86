/-
  Trees in which something is found, put, dropped: plain laws.
-/
import Derived.Test.YtmjkdghcfihfiaaSayNamesLaw
import Derived.Test.YtmjkdghcfihfiaaSayTreePlain
namespace Go.Proofs.Ytmjkdghcfihfiaa.Vm
open Go Go.RowKit
set_option linter.unusedVariables false
set_option linter.unusedSimpArgs false
set_option maxRecDepth 100000

/-! ### What they compute -/
def kidT (t : Tr) (n : List UInt8) : Tr := match t.list[atK t.list n]? with
  | some e => if atB t.list n = true then e.2 else .nil
  | none => .nil
def getT : Tr → List (List UInt8) → Tr
  | t, [] => t
  | t, n :: p => if atB t.list n = true then getT (kidT t n) p else .nil
def getB1 : Tr → List (List UInt8) → Bool
  | t, [] => true
  | t, n :: p => if atB t.list n = true then getB1 (kidT t n) p else false
def putT : Tr → List (List UInt8) → Tr → Tr
  | t, [], x => x
  | t, n :: p, x => Tr.of (withE t.list n (putT (kidT t n) p x))
/-- Without a name's edge. -/
def woutE (l : List Edge) (n : List UInt8) : List Edge := l.take (atK l n) ++ l.drop (atK l n + 1)
def dropT : Tr → List (List UInt8) → Tr
  | t, [] => .nil
  | t, [n] => if atB t.list n = true then Tr.of (woutE t.list n) else t
  | t, n :: m :: p => if atB t.list n = true then Tr.of (withE t.list n (dropT (kidT t n) (m :: p))) else t

/-- In order, at every level. -/
def srtP : Option (List UInt8) → Tr → Prop
  | _, .nil => True
  | p, .cons n k r => badP p n = false ∧ srtP none k ∧ srtP (some n) r

theorem srtP_list : ∀ {t : Tr} {p : Option (List UInt8)}, srtP p t ↔ sortE p t.list ∧ ∀ e ∈ t.list, srtP none e.2
  | .nil, p => by simp [srtP, Tr.list, sortE]
  | .cons n k r, p => by
    have ih := srtP_list (t := r) (p := some n)
    simp only [srtP, Tr.list, sortE, List.mem_cons, forall_eq_or_imp]
    rw [ih]
    constructor
    · rintro ⟨h1, h2, h3, h4⟩; exact ⟨⟨h1, h3⟩, h2, h4⟩
    · rintro ⟨⟨h1, h3⟩, h2, h4⟩; exact ⟨h1, h2, h3, h4⟩
theorem srtP_of {l : List Edge} {p : Option (List UInt8)} (h1 : sortE p l) (h2 : ∀ e ∈ l, srtP none e.2) : srtP p (Tr.of l) := by
  rw [srtP_list, list_of]; exact ⟨h1, h2⟩

theorem atB_get {l : List Edge} {n : List UInt8} (h : atB l n = true) : ∃ x, l[atK l n]? = some (n, x) := by
  have hk := atB_lt h
  unfold atB at h
  rw [List.getElem?_eq_getElem hk] at h ⊢
  simp only at h
  generalize l[atK l n] = e at h
  obtain ⟨a, b⟩ := e
  have : a = n := by simpa using h
  exact ⟨b, by rw [this]⟩
theorem kid_get {t : Tr} {n : List UInt8} (h : atB t.list n = true) : t.list[atK t.list n]? = some (n, kidT t n) := by
  obtain ⟨x, hx⟩ := atB_get h
  rw [hx]
  unfold kidT
  rw [hx]
  simp [h]
theorem kid_none {t : Tr} {n : List UInt8} (h : atB t.list n = false) : kidT t n = .nil := by
  unfold kidT
  cases t.list[atK t.list n]? <;> simp [h]
theorem kid_srt {t : Tr} {n : List UInt8} (h : srtP none t) : srtP none (kidT t n) := by
  cases hb : atB t.list n with
  | false => rw [kid_none hb]; trivial
  | true => exact (srtP_list.1 h).2 _ (List.mem_of_getElem? (kid_get hb))
theorem kid_nodes (t : Tr) (n : List UInt8) : (kidT t n).nodes ≤ t.nodes := by
  cases hb : atB t.list n with
  | false => rw [kid_none hb]; simp [Tr.nodes]
  | true => exact Nat.le_of_lt (nodes_lt (List.mem_of_getElem? (kid_get hb)))

/-! ### One edge -/
theorem tw_take {α : Type} (p : α → Bool) : ∀ l : List α, l.take (l.takeWhile p).length = l.takeWhile p
  | [] => rfl
  | a :: l => by
    simp only [List.takeWhile]
    cases p a <;> simp [tw_take p l]
theorem tw_app {α : Type} {p : α → Bool} : ∀ {l m : List α}, (∀ x ∈ l, p x = true) → (∀ x, m.head? = some x → p x = false) → ((l ++ m).takeWhile p).length = l.length
  | [], [], _, _ => rfl
  | [], a :: m, _, h => by have := h a rfl; simp [List.takeWhile, this]
  | a :: l, m, h1, h2 => by
    have ha := h1 a (by simp)
    have ih := tw_app (l := l) (m := m) (fun x hx => h1 x (List.mem_cons_of_mem _ hx)) h2
    simp [List.takeWhile, ha, ih]
theorem tw_mem {α : Type} {p : α → Bool} : ∀ {l : List α} {x : α}, x ∈ l.takeWhile p → p x = true
  | [], x, h => by simp at h
  | a :: l, x, h => by
    simp only [List.takeWhile] at h
    cases ha : p a with
    | false => rw [ha] at h; simp at h
    | true =>
      rw [ha] at h
      simp only [List.mem_cons] at h
      rcases h with rfl | h
      · exact ha
      · exact tw_mem h
theorem less_self (n : List UInt8) : Op.bytesLess n n = false := by
  rw [bl_eq]; simp [str_lt_irrefl]
theorem atK_pre {l : List Edge} {n : List UInt8} {e : Edge} (h : e ∈ l.take (atK l n)) : Op.bytesLess e.1 n = true := by
  unfold atK at h
  rw [tw_take] at h
  exact tw_mem (p := fun e : Edge => Op.bytesLess e.1 n) h
theorem take_len (l : List Edge) (n : List UInt8) : (l.take (atK l n)).length = atK l n := by
  rw [List.length_take]; have := atK_le l n; omega
theorem atK_with (l : List Edge) (n : List UInt8) (x : Tr) : atK (withE l n x) n = atK l n := by
  have := tw_app (p := fun e : Edge => Op.bytesLess e.1 n) (l := l.take (atK l n)) (m := [(n, x)] ++ l.drop (if atB l n = true then atK l n + 1 else atK l n)) (fun e he => atK_pre he) (fun e he => by
    simp only [List.cons_append, List.nil_append, List.head?_cons, Option.some.injEq] at he
    subst he
    exact less_self n)
  rw [take_len] at this
  unfold withE
  rw [List.append_assoc]
  exact this
theorem with_get (l : List Edge) (n : List UInt8) (x : Tr) : (withE l n x)[atK (withE l n x) n]? = some (n, x) := by
  rw [atK_with]
  unfold withE
  rw [List.append_assoc, List.getElem?_append_right (by rw [take_len]; exact Nat.le_refl _), take_len, Nat.sub_self]
  rfl
theorem atB_with (l : List Edge) (n : List UInt8) (x : Tr) : atB (withE l n x) n = true := by
  unfold atB
  rw [with_get]; simp
theorem kid_with (l : List Edge) (n : List UInt8) (x : Tr) : kidT (Tr.of (withE l n x)) n = x := by
  unfold kidT
  rw [list_of, with_get, atB_with]; rfl
theorem with_same {l : List Edge} {n : List UInt8} {x : Tr} (h : atB l n = true) (hx : l[atK l n]? = some (n, x)) : withE l n x = l := by
  unfold withE
  rw [h, if_pos rfl]
  have hk := atB_lt h
  have e : l.take (atK l n) ++ [(n, x)] = l.take (atK l n + 1) := by
    rw [List.take_succ_eq_append_getElem hk]
    rw [List.getElem?_eq_getElem hk] at hx
    simp only [Option.some.injEq] at hx
    rw [hx]
  rw [e, List.take_append_drop]
theorem withE_eq {l : List Edge} {n : List UInt8} (x : Tr) {k : Nat} {b : Bool} (hk : atK l n = k) (hb : atB l n = b) : withE l n x = l.take k ++ [(n, x)] ++ l.drop (if b = true then k + 1 else k) := by
  subst hk; subst hb; rfl
theorem with_with (l : List Edge) (n : List UInt8) (x y : Tr) : withE (withE l n x) n y = withE l n y := by
  have h1 := atK_with l n x
  have h2 := atB_with l n x
  rw [withE_eq y h1 h2, if_pos rfl]
  have e1 : (withE l n x).take (atK l n) = l.take (atK l n) := by
    unfold withE
    rw [List.append_assoc]
    exact List.take_left' (take_len l n)
  have e2 : (withE l n x).drop (atK l n + 1) = l.drop (if atB l n = true then atK l n + 1 else atK l n) := by
    unfold withE
    exact List.drop_left' (by rw [List.length_append, take_len]; rfl)
  rw [e1, e2]
  rfl

/-! ### Order -/
theorem srt_names {l : List Edge} {p : Option (List UInt8)} (h : sortE p l) : (l.map Prod.fst).Pairwise (· < ·) := (sortE_pair h).1
theorem srt_eq {l : List Edge} {p : Option (List UInt8)} (h : sortE p l) {i j : Nat} {n : List UInt8} {x y : Tr} (hi : l[i]? = some (n, x)) (hj : l[j]? = some (n, y)) : i = j := by
  have hp := List.pairwise_iff_getElem.1 (srt_names h)
  obtain ⟨h1, h2⟩ := List.getElem?_eq_some_iff.1 hi
  obtain ⟨k1, k2⟩ := List.getElem?_eq_some_iff.1 hj
  rcases Nat.lt_trichotomy i j with hl | hl | hl
  · have := hp i j (by simpa using h1) (by simpa using k1) hl
    simp only [List.getElem_map, h2, k2] at this
    exact absurd this (str_lt_irrefl _)
  · exact hl
  · have := hp j i (by simpa using k1) (by simpa using h1) hl
    simp only [List.getElem_map, h2, k2] at this
    exact absurd this (str_lt_irrefl _)
theorem srt_mem {l : List Edge} {p : Option (List UInt8)} (h : sortE p l) {n : List UInt8} {x : Tr} (hm : (n, x) ∈ l) : atB l n = true ∧ l[atK l n]? = some (n, x) := by
  have hb := atB_mem h (List.mem_map.2 ⟨_, hm, rfl⟩)
  obtain ⟨y, hy⟩ := atB_get hb
  obtain ⟨i, hi⟩ := List.mem_iff_getElem?.1 hm
  have := srt_eq h hi hy
  rw [← this]; exact ⟨hb, hi⟩
theorem at_iff {l : List Edge} {p : Option (List UInt8)} (h : sortE p l) (n : List UInt8) : atB l n = true ↔ ∃ x, (n, x) ∈ l := by
  constructor
  · intro hb
    obtain ⟨x, hx⟩ := atB_get hb
    exact ⟨x, List.mem_of_getElem? hx⟩
  · rintro ⟨x, hx⟩
    exact (srt_mem h hx).1
/-- A lookup is told by what is there. -/
theorem look_eq {l m : List Edge} {p q : Option (List UInt8)} (hl : sortE p l) (hm : sortE q m) {n : List UInt8} (h : ∀ x, (n, x) ∈ l ↔ (n, x) ∈ m) : atB l n = atB m n ∧ kidT (Tr.of l) n = kidT (Tr.of m) n := by
  cases hb : atB l n with
  | true =>
    obtain ⟨x, hx⟩ := atB_get hb
    have h1 := srt_mem hm ((h x).1 (List.mem_of_getElem? hx))
    refine ⟨h1.1.symm, ?_⟩
    unfold kidT
    rw [list_of, list_of, hx, h1.2, hb, h1.1]
  | false =>
    have hb2 : atB m n = false := by
      cases hc : atB m n with
      | false => rfl
      | true =>
        obtain ⟨x, hx⟩ := (at_iff hm n).1 hc
        rw [(srt_mem hl ((h x).2 hx)).1] at hb
        exact absurd hb (by simp)
    refine ⟨hb2.symm, ?_⟩
    rw [kid_none (by rw [list_of]; exact hb), kid_none (by rw [list_of]; exact hb2)]
theorem mem_with {l : List Edge} {n m : List UInt8} (hn : m ≠ n) (x y : Tr) : (m, y) ∈ withE l n x ↔ (m, y) ∈ l := by
  have hsplit : ∀ i, ((m, y) ∈ l.take i ∨ (m, y) ∈ l.drop i) ↔ (m, y) ∈ l := fun i => by
    rw [← List.mem_append, List.take_append_drop]
  unfold withE
  simp only [List.mem_append, List.mem_singleton, Prod.mk.injEq, hn, false_and, or_false]
  split
  · rename_i hb
    obtain ⟨z, hz⟩ := atB_get hb
    have hk := atB_lt hb
    rw [← hsplit (atK l n + 1), List.take_succ_eq_append_getElem hk]
    rw [List.getElem?_eq_getElem hk] at hz
    simp only [Option.some.injEq] at hz
    rw [hz]
    simp [hn]
  · exact hsplit _
theorem with_other {t : Tr} (h : srtP none t) {n m : List UInt8} (hn : m ≠ n) (x : Tr) : atB (withE t.list n x) m = atB t.list m ∧ kidT (Tr.of (withE t.list n x)) m = kidT t m := by
  have h1 := (srtP_list.1 h).1
  have := look_eq (sortE_drop n x h1 rfl) h1 (n := m) fun y => mem_with hn x y
  rw [of_list] at this
  exact this

theorem with_srt {t x : Tr} {n : List UInt8} (h : srtP none t) (hx : srtP none x) : srtP none (Tr.of (withE t.list n x)) := by
  obtain ⟨h1, h2⟩ := srtP_list.1 h
  refine srtP_of (sortE_drop n x h1 rfl) fun e he => ?_
  unfold withE at he
  simp only [List.mem_append, List.mem_singleton] at he
  rcases he with (he | rfl) | he
  · exact h2 e (List.mem_of_mem_take he)
  · exact hx
  · exact h2 e (List.mem_of_mem_drop he)
theorem sort_sub {l m : List Edge} (h : l.Sublist m) : ∀ {p : Option (List UInt8)}, sortE p m → sortE p l := by
  have key : ∀ {m : List Edge} {p : Option (List UInt8)}, sortE p m ↔ (m.map Prod.fst).Pairwise (· < ·) ∧ ∀ y, p = some y → ∀ x ∈ m.map Prod.fst, y < x := by
    intro m
    induction m with
    | nil => intro p; simp [sortE]
    | cons e m ih =>
      intro p
      refine ⟨sortE_pair, fun ⟨k1, k2⟩ => ?_⟩
      rw [List.map_cons, List.pairwise_cons] at k1
      refine ⟨?_, ih.2 ⟨k1.2, fun y hy x hx => ?_⟩⟩
      · cases p with
        | none => rfl
        | some y =>
          have hlt := k2 y rfl e.1 (by simp)
          show (Op.bytesLess e.1 y || e.1 == y) = false
          rw [bl_eq, Bool.or_eq_false_iff]
          refine ⟨?_, ?_⟩
          · simp only [decide_eq_false_iff_not]
            exact fun h => str_lt_irrefl _ (str_lt_trans h hlt)
          · simp only [beq_eq_false_iff_ne]
            intro e1; rw [e1] at hlt; exact str_lt_irrefl _ hlt
      · simp only [Option.some.injEq] at hy
        subst hy
        exact k1.1 x hx
  intro p hm
  obtain ⟨k1, k2⟩ := key.1 hm
  exact key.2 ⟨k1.sublist (h.map _), fun y hy x hx => k2 y hy x ((h.map _).subset hx)⟩
theorem wout_sub (l : List Edge) (n : List UInt8) : (woutE l n).Sublist l := by
  unfold woutE
  conv => rhs; rw [← List.take_append_drop (atK l n) l]
  refine List.Sublist.append (List.Sublist.refl _) ?_
  rw [← List.drop_drop]
  exact List.drop_sublist _ _
theorem wout_srt {t : Tr} {n : List UInt8} (h : srtP none t) : srtP none (Tr.of (woutE t.list n)) := by
  obtain ⟨h1, h2⟩ := srtP_list.1 h
  exact srtP_of (sort_sub (wout_sub _ _) h1) fun e he => h2 e ((wout_sub _ _).subset he)
theorem wout_not {l : List Edge} {p : Option (List UInt8)} (h : sortE p l) {n : List UInt8} (hb : atB l n = true) : atB (woutE l n) n = false := by
  cases hc : atB (woutE l n) n with
  | false => rfl
  | true =>
    obtain ⟨x, hx⟩ := (at_iff (sort_sub (wout_sub l n) h) n).1 hc
    obtain ⟨y, hy⟩ := atB_get hb
    have hk := atB_lt hb
    unfold woutE at hx
    rw [List.mem_append] at hx
    rcases hx with hx | hx
    · have := atK_pre hx
      simp only at this
      rw [less_self] at this
      exact absurd this (by simp)
    · obtain ⟨i, hi⟩ := List.mem_iff_getElem?.1 hx
      rw [List.getElem?_drop] at hi
      have := srt_eq h hy hi
      omega
theorem wout_at {l : List Edge} {p : Option (List UInt8)} (h : sortE p l) {n : List UInt8} (hb : atB l n = true) : atK (woutE l n) n = atK l n := by
  have := tw_app (p := fun e : Edge => Op.bytesLess e.1 n) (l := l.take (atK l n)) (m := l.drop (atK l n + 1)) (fun e he => atK_pre he) (fun e he => by
    obtain ⟨y, hy⟩ := atB_get hb
    rw [List.head?_drop] at he
    obtain ⟨h1, h2⟩ := List.getElem?_eq_some_iff.1 hy
    obtain ⟨k1, k2⟩ := List.getElem?_eq_some_iff.1 he
    have hlt := List.pairwise_iff_getElem.1 (srt_names h) (atK l n) (atK l n + 1) (by simpa using h1) (by simpa using k1) (by omega)
    simp only [List.getElem_map, h2, k2] at hlt
    rw [bl_eq]
    simp only [decide_eq_false_iff_not]
    exact fun h => str_lt_irrefl _ (str_lt_trans h hlt))
  rw [take_len] at this
  exact this
theorem with_wout {l : List Edge} {p : Option (List UInt8)} (h : sortE p l) {n : List UInt8} {x : Tr} (hb : atB l n = true) (hx : l[atK l n]? = some (n, x)) : withE (woutE l n) n x = l := by
  rw [withE_eq x (wout_at h hb) (wout_not h hb), if_neg (by simp)]
  have e1 : (woutE l n).take (atK l n) = l.take (atK l n) := by unfold woutE; exact List.take_left' (take_len l n)
  have e2 : (woutE l n).drop (atK l n) = l.drop (atK l n + 1) := by unfold woutE; exact List.drop_left' (take_len l n)
  rw [e1, e2]
  have := with_same hb hx
  unfold withE at this
  rwa [hb, if_pos rfl] at this

/-! ### Paths -/
theorem put_srt : ∀ {p : List (List UInt8)} {t x : Tr}, srtP none t → srtP none x → srtP none (putT t p x)
  | [], t, x, _, hx => hx
  | n :: p, t, x, ht, hx => with_srt ht (put_srt (kid_srt ht) hx)
theorem drop_srt : ∀ {p : List (List UInt8)} {t : Tr}, srtP none t → srtP none (dropT t p)
  | [], t, _ => trivial
  | [n], t, ht => by
    unfold dropT
    split
    · exact wout_srt ht
    · exact ht
  | n :: m :: p, t, ht => by
    unfold dropT
    split
    · exact with_srt ht (drop_srt (kid_srt ht))
    · exact ht
theorem get_srt : ∀ {p : List (List UInt8)} {t : Tr}, srtP none t → srtP none (getT t p)
  | [], t, h => h
  | n :: p, t, h => by
    unfold getT
    split
    · exact get_srt (kid_srt h)
    · trivial
theorem put_nodes : ∀ (p : List (List UInt8)) (t x : Tr), (putT t p x).nodes ≤ (p.length + 1) * (t.nodes + x.nodes + 1)
  | [], t, x => by simp only [putT, List.length_nil]; omega
  | n :: p, t, x => by
    have h1 := withE_sum t.list n (putT (kidT t n) p x)
    have h2 := put_nodes p (kidT t n) x
    have h3 := kid_nodes t n
    have h4 : sumN t.list = t.nodes := by rw [← nodes_sum, of_list]
    have h5 : (p.length + 1) * ((kidT t n).nodes + x.nodes + 1) ≤ (p.length + 1) * (t.nodes + x.nodes + 1) := Nat.mul_le_mul_left _ (by omega)
    rw [putT, nodes_sum, List.length_cons, Nat.add_mul (p.length + 1) 1]
    omega
theorem drop_nodes : ∀ (p : List (List UInt8)) (t : Tr), (dropT t p).nodes ≤ (p.length + 1) * (t.nodes + 1)
  | [], t => by simp [dropT, Tr.nodes]
  | [n], t => by
    unfold dropT
    split
    · rw [nodes_sum]
      unfold woutE
      rw [sumN_app]
      have h1 := sumN_drop t.list (atK t.list n) (atK t.list n + 1) (by omega)
      have h4 : sumN t.list = t.nodes := by rw [← nodes_sum, of_list]
      simp only [List.length_cons, List.length_nil]; omega
    · simp only [List.length_cons, List.length_nil]; omega
  | n :: m :: p, t => by
    unfold dropT
    have h2 := drop_nodes (m :: p) (kidT t n)
    have h3 := kid_nodes t n
    have h5 : ((m :: p).length + 1) * ((kidT t n).nodes + 1) ≤ ((m :: p).length + 1) * (t.nodes + 1) := Nat.mul_le_mul_left _ (by omega)
    have h6 : ((n :: m :: p).length + 1) * (t.nodes + 1) = ((m :: p).length + 1) * (t.nodes + 1) + (t.nodes + 1) := by rw [List.length_cons, Nat.add_mul]; simp
    split
    · have h1 := withE_sum t.list n (dropT (kidT t n) (m :: p))
      have h4 : sumN t.list = t.nodes := by rw [← nodes_sum, of_list]
      rw [nodes_sum]
      omega
    · omega
theorem get_nodes : ∀ (p : List (List UInt8)) (t : Tr), (getT t p).nodes ≤ t.nodes
  | [], t => Nat.le_refl _
  | n :: p, t => by
    unfold getT
    split
    · exact Nat.le_trans (get_nodes p _) (kid_nodes t n)
    · simp [Tr.nodes]

theorem pget_ok : ∀ (p : List (List UInt8)) (t x : Tr), getB1 (putT t p x) p = true ∧ getT (putT t p x) p = x
  | [], t, x => ⟨rfl, rfl⟩
  | n :: p, t, x => by
    have h1 : atB (Tr.of (withE t.list n (putT (kidT t n) p x))).list n = true := by rw [list_of]; exact atB_with _ _ _
    simp only [putT, getB1, getT, h1, if_true]
    rw [kid_with]
    exact pget_ok p _ x
theorem put_other {t : Tr} (h : srtP none t) {n m : List UInt8} (hn : m ≠ n) (p q : List (List UInt8)) (x : Tr) : getB1 (putT t (n :: p) x) (m :: q) = getB1 t (m :: q) ∧ getT (putT t (n :: p) x) (m :: q) = getT t (m :: q) := by
  obtain ⟨h1, h2⟩ := with_other h hn (putT (kidT t n) p x)
  simp only [putT, getB1, getT, list_of, h1, h2]
  exact ⟨trivial, trivial⟩
theorem drop_gone : ∀ {p : List (List UInt8)} {t : Tr}, srtP none t → p ≠ [] → getB1 t p = true → getB1 (dropT t p) p = false
  | [], t, _, h, _ => absurd rfl h
  | [n], t, ht, _, hg => by
    have hb : atB t.list n = true := by
      unfold getB1 at hg
      split at hg
      · rename_i h; exact h
      · exact absurd hg (by simp)
    simp only [dropT, hb, if_true, getB1, list_of, wout_not (srtP_list.1 ht).1 hb]
    simp
  | n :: m :: p, t, ht, _, hg => by
    unfold getB1 at hg
    split at hg
    · rename_i hb
      rw [dropT, if_pos hb, getB1, list_of, atB_with, if_pos rfl, kid_with]
      exact drop_gone (kid_srt ht) (by simp) hg
    · exact absurd hg (by simp)
theorem drop_put : ∀ {p : List (List UInt8)} {t : Tr}, srtP none t → getB1 t p = true → putT (dropT t p) p (getT t p) = t
  | [], t, _, _ => rfl
  | [n], t, ht, hg => by
    have hb : atB t.list n = true := by
      unfold getB1 at hg
      split at hg
      · rename_i h; exact h
      · exact absurd hg (by simp)
    rw [dropT, if_pos hb, getT, if_pos hb]
    simp only [putT, getT]
    rw [list_of, with_wout (srtP_list.1 ht).1 hb (kid_get hb), of_list]
  | n :: m :: p, t, ht, hg => by
    unfold getB1 at hg
    split at hg
    · rename_i hb
      rw [dropT, if_pos hb, getT, if_pos hb, putT, list_of, kid_with, drop_put (kid_srt ht) hg, with_with, with_same hb (kid_get hb), of_list]
    · exact absurd hg (by simp)
theorem drop_same : ∀ {p : List (List UInt8)} {t : Tr}, getB1 t p = false → dropT t p = t
  | [], t, h => by simp [getB1] at h
  | [n], t, h => by
    unfold getB1 at h
    split at h
    · simp [getB1] at h
    · rename_i hb; rw [dropT, if_neg hb]
  | n :: m :: p, t, h => by
    unfold getB1 at h
    split at h
    · rename_i hb
      rw [dropT, if_pos hb, drop_same h, with_same hb (kid_get hb), of_list]
    · rename_i hb; rw [dropT, if_neg hb]

theorem make_srt (w : Nat) : ∀ (d : Nat) (l : Tr), srtP none (makeF w d l)
  | 0, l => trivial
  | d + 1, l => by
    have key : ∀ (m acc : List Edge), srtP none (Tr.of acc) → srtP none (Tr.of (m.foldl (makeS w d) acc)) := by
      intro m
      induction m with
      | nil => intro acc h; exact h
      | cons e m ih =>
        intro acc h
        rw [List.foldl_cons]
        refine ih _ ?_
        have := with_srt (n := e.1.take 30) h (make_srt w d e.2)
        rw [list_of] at this
        exact this
    rw [makeF_succ]
    exact key _ [] trivial

end Go.Proofs.Ytmjkdghcfihfiaa.Vm
