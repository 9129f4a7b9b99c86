/-
  Bytes read as trees: plain laws.
-/
import Derived.Test.YtmjkdghcfihfiaaSayTreeCheck
namespace Go.Proofs.Ytmjkdghcfihfiaa.Vm
open Go Go.RowKit
set_option linter.unusedVariables false
set_option linter.unusedSimpArgs false
set_option maxRecDepth 100000

/-- A text, its length ahead, and what is behind it. -/
def readN : List UInt8 → Option (List UInt8 × List UInt8)
  | a :: b :: l => if a.toNat + 256 * b.toNat ≤ l.length then some (l.take (a.toNat + 256 * b.toNat), l.drop (a.toNat + 256 * b.toNat)) else none
  | _ => none

abbrev PRes (α : Type) := Except Int (α × List UInt8 × Int)

/-- So many edges, behind that of a name; what is below each is read by 'kid'. -/
def parseL (kid : List UInt8 → Int → PRes Tr) (d : Int) : Nat → Option (List UInt8) → List UInt8 → Int → PRes (List Edge)
  | 0, _, l, c => .ok ([], l, c)
  | k + 1, p, l, c => match readN l with
    | none => .error 8
    | some (x, l1) => if fitV (c + 1) d p x ≠ 0 then .error (fitV (c + 1) d p x) else match kid l1 (c + 1) with
      | .error e => .error e
      | .ok (t, l2, c2) => match parseL kid d k (some x) l2 c2 with
        | .error e => .error e
        | .ok (es, l3, c3) => .ok ((x, t) :: es, l3, c3)

def parseT (kid : List UInt8 → Int → PRes Tr) (d : Int) (l : List UInt8) (c : Int) : PRes Tr := match l with
  | a :: b :: l => match parseL kid d (a.toNat + 256 * b.toNat) none l c with
    | .error e => .error e
    | .ok (es, l3, c3) => .ok (Tr.of es, l3, c3)
  | _ => .error 8

/-- A tree, so deep, with so many levels below it. -/
def parseD : Nat → Int → List UInt8 → Int → PRes Tr
  | 0, d => parseT (fun _ _ => .error 1) d
  | f + 1, d => parseT (parseD f (d + 1)) d

/-- What a reader of trees answers. -/
def parseB (l : List UInt8) : Except Int Tr := match parseD 12 1 l 0 with
  | .error e => .error e
  | .ok (t, [], _) => .ok t
  | .ok (_, _ :: _, _) => .error 9

def isErr (e : Int) : Prop := e = 4 ∨ e = 5 ∨ e = 8 ∨ e = 11 ∨ e = 12

theorem fitV_err {n d : Int} {p : Option (List UInt8)} {x : List UInt8} (h : fitV n d p x ≠ 0) : isErr (fitV n d p x) := by
  unfold fitV at *
  unfold isErr
  split
  · simp
  · split
    · simp
    · split
      · simp
      · split
        · simp
        · simp_all

/-- What is known of an answer. -/
def PGood (c : Int) : PRes Tr → Prop
  | .error e => isErr e
  | .ok (t, _, c2) => c2 = c + t.nodes ∧ c2 ≤ 400

def PGoodL (c : Int) : PRes (List Edge) → Prop
  | .error e => isErr e
  | .ok (es, _, c2) => c2 = c + sumN es ∧ c2 ≤ 400

theorem parseL_good {kid : List UInt8 → Int → PRes Tr} {d : Int} (hk : d ≤ 12 → ∀ l c, c ≤ 400 → PGood c (kid l c)) : ∀ (k : Nat) (p : Option (List UInt8)) (l : List UInt8) (c : Int), c ≤ 400 → PGoodL c (parseL kid d k p l c)
  | 0, p, l, c, h => by simp [parseL, PGoodL, sumN]; exact h
  | k + 1, p, l, c, h => by
    rw [parseL]
    split
    · simp [PGoodL, isErr]
    · rename_i x l1 _
      split
      · rename_i h1; exact fitV_err h1
      · rename_i h1
        have hz := fitV_zero (Decidable.not_not.1 h1)
        have hg := hk hz.2.1 l1 (c + 1) hz.1
        split
        · rename_i e he; rw [he] at hg; exact hg
        · rename_i t l2 c2 he
          rw [he] at hg
          obtain ⟨g1, g2⟩ := hg
          have ih := parseL_good hk k (some x) l2 c2 g2
          split
          · rename_i e he; rw [he] at ih; exact ih
          · rename_i es l3 c3 he
            rw [he] at ih
            obtain ⟨g3, g4⟩ := ih
            refine ⟨?_, g4⟩
            simp only [sumN, List.map_cons, List.sum_cons] at g3 ⊢
            omega

theorem parseD_good : ∀ (f : Nat) (d : Int) (l : List UInt8) (c : Int), d + f = 13 → c ≤ 400 → PGood c (parseD f d l c)
  | 0, d, l, c, hd, h => by
    rw [parseD]
    match l with
    | [] => simp [parseT, PGood, isErr]
    | [a] => simp [parseT, PGood, isErr]
    | a :: b :: l =>
      rw [parseT]
      have hL := parseL_good (kid := fun _ _ => .error 1) (d := d) (fun hd' => by omega) (a.toNat + 256 * b.toNat) none l c h
      split
      · rename_i e he; rw [he] at hL; exact hL
      · rename_i es l3 c3 he
        rw [he] at hL
        exact ⟨by rw [nodes_sum]; exact hL.1, hL.2⟩
  | f + 1, d, l, c, hd, h => by
    rw [parseD]
    match l with
    | [] => simp [parseT, PGood, isErr]
    | [a] => simp [parseT, PGood, isErr]
    | a :: b :: l =>
      rw [parseT]
      have hL := parseL_good (kid := parseD f (d + 1)) (d := d) (fun hd' l c hc => parseD_good f (d + 1) l c (by omega) hc) (a.toNat + 256 * b.toNat) none l c h
      split
      · rename_i e he; rw [he] at hL; exact hL
      · rename_i es l3 c3 he
        rw [he] at hL
        exact ⟨by rw [nodes_sum]; exact hL.1, hL.2⟩

/-! ### What was written is read -/
theorem le2_cons (v : Nat) (h : v < 65536) (r : List UInt8) : ∃ a b : UInt8, le 2 v ++ r = a :: b :: r ∧ a.toNat + 256 * b.toNat = v := by
  refine ⟨UInt8.ofNat v, UInt8.ofNat (v / 256), by rw [le_two]; rfl, ?_⟩
  simp only [UInt8.toNat_ofNat']
  omega

theorem readN_txB {x : List UInt8} (h : x.length ≤ 65535) (r : List UInt8) : readN (txB x ++ r) = some (x, r) := by
  unfold txB
  rw [List.take_of_length_le h, Nat.min_eq_left h, List.append_assoc]
  obtain ⟨a, b, e, hv⟩ := le2_cons x.length (by omega) (x ++ r)
  rw [e, readN, hv, if_pos (by simp)]
  simp

/-- The levels of a tree. -/
def Tr.deep : Tr → Nat
  | .nil => 0
  | .cons _ k r => max (k.deep + 1) r.deep

theorem parse_bin : ∀ (t : Tr) (f : Nat) (d : Int) (p : Option (List UInt8)) (r : List UInt8) (c m : Int), d + f = 13 → t.lim 65535 → chkF t p d c = (m, 0) →
    parseL (match f with | 0 => fun _ _ => .error 1 | f + 1 => parseD f (d + 1)) d t.list.length p (t.bts ++ r) c = .ok (t.list, r, m)
  | .nil, f, d, p, r, c, m, hd, hl, h => by
    simp only [chkF, Prod.mk.injEq, and_true] at h
    subst h
    simp [Tr.list, parseL, Tr.bts]
  | .cons x k q, f, d, p, r, c, m, hd, hl, h => by
    simp only [Tr.lim] at hl
    rw [chkF] at h
    split at h
    · rename_i h1; simp only [Prod.mk.injEq] at h; exact absurd h.2 h1
    · rename_i h1
      have h1 := Decidable.not_not.1 h1
      have hz := fitV_zero h1
      split at h
      · rename_i h2; rw [h] at h2; exact absurd rfl h2
      · rename_i h2
        have h2 := Decidable.not_not.1 h2
        obtain ⟨f, rfl⟩ : ∃ g, f = g + 1 := ⟨f - 1, by omega⟩
        simp only [Tr.list, List.length_cons, Tr.bts, List.append_assoc]
        rw [parseL, readN_txB hl.1]
        simp only
        rw [if_neg (by rw [h1]; simp)]
        obtain ⟨a, b, e, hv⟩ := le2_cons k.list.length (by omega) (k.bts ++ (q.bts ++ r))
        rw [e]
        have hk := parse_bin k f (d + 1) none (q.bts ++ r) (c + 1) (chkF k none (d + 1) (c + 1)).1 (by omega) hl.2.2.1 (Prod.ext rfl h2)
        have ek : parseD f (d + 1) (a :: b :: (k.bts ++ (q.bts ++ r))) (c + 1) = .ok (k, q.bts ++ r, (chkF k none (d + 1) (c + 1)).1) := by
          cases f with
          | zero => rw [parseD, parseT, hv, hk]; simp only; rw [of_list]
          | succ f => rw [parseD, parseT, hv, hk]; simp only; rw [of_list]
        rw [ek]
        simp only
        have hq := parse_bin q (f + 1) d (some x) r (chkF k none (d + 1) (c + 1)).1 m hd hl.2.2.2 h
        simp only at hq
        rw [hq]

theorem parseB_bin {t : Tr} {m : Int} (hl : t.lim 65535) (hw : t.list.length ≤ 65535) (h : chkF t none 1 0 = (m, 0)) : parseB (binT t) = .ok t := by
  unfold parseB binT
  obtain ⟨a, b, e, hv⟩ := le2_cons t.list.length (by omega) t.bts
  have hk := parse_bin t 12 1 none [] 0 m (by omega) hl h
  rw [List.append_nil] at hk
  rw [e, parseD, parseT, hv, hk]
  simp only
  rw [of_list]

/-! ### Made trees are in order -/
theorem less_asym : ∀ {x y : List UInt8}, Op.bytesLess x y = true → (Op.bytesLess y x || y == x) = false
  | _, [], h => by simp [Op.bytesLess] at h
  | [], b :: y, _ => by simp [Op.bytesLess]
  | a :: x, b :: y, h => by
    simp only [Op.bytesLess, Bool.or_eq_true, decide_eq_true_eq, Bool.and_eq_true, beq_iff_eq] at h
    rcases h with h | ⟨rfl, h⟩
    · have h1 : ¬ b < a := fun h2 => by have := UInt8.lt_iff_toNat_lt.1 h; have := UInt8.lt_iff_toNat_lt.1 h2; omega
      have h2 : ¬ b = a := fun e => by subst e; have := UInt8.lt_iff_toNat_lt.1 h; omega
      simp [Op.bytesLess, h1, h2]
    · have ih := less_asym h
      simp only [Bool.or_eq_false_iff, beq_eq_false_iff_ne] at ih
      have h1 : ¬ a < a := fun h2 => by have := UInt8.lt_iff_toNat_lt.1 h2; omega
      simp [Op.bytesLess, h1, ih.1, ih.2]

/-- In order, behind a name. -/
def sortE : Option (List UInt8) → List Edge → Prop
  | _, [] => True
  | p, e :: l => badP p e.1 = false ∧ sortE (some e.1) l

theorem less_total : ∀ {x y : List UInt8}, Op.bytesLess x y = false → x ≠ y → Op.bytesLess y x = true
  | [], [], _, h => absurd rfl h
  | a :: x, [], _, _ => by simp [Op.bytesLess]
  | [], b :: y, h, _ => by simp [Op.bytesLess] at h
  | a :: x, b :: y, h, hn => by
    simp only [Op.bytesLess, Bool.or_eq_false_iff, decide_eq_false_iff_not, Bool.and_eq_false_iff, beq_eq_false_iff_ne] at h
    simp only [Op.bytesLess, Bool.or_eq_true, decide_eq_true_eq, Bool.and_eq_true, beq_iff_eq]
    by_cases e : a = b
    · subst e
      right
      refine ⟨rfl, less_total ?_ fun e => hn (by rw [e])⟩
      rcases h.2 with h | h
      · exact absurd rfl h
      · exact h
    · left
      have h1 := h.1
      have h2 : a.toNat ≠ b.toNat := fun q => e (UInt8.toNat_inj.1 q)
      rw [UInt8.lt_iff_toNat_lt] at h1 ⊢
      omega

theorem sortE_drop : ∀ {l : List Edge} {p : Option (List UInt8)} (n : List UInt8) (x : Tr), sortE p l → badP p n = false → sortE p (withE l n x)
  | [], p, n, x, _, h => by simp [withE, atK, atB, sortE, h]
  | e :: l, p, n, x, hs, h => by
    obtain ⟨h1, h2⟩ := hs
    by_cases hl : Op.bytesLess e.1 n = true
    · have ih := sortE_drop (l := l) (p := some e.1) n x h2 (less_asym hl)
      have ek : atK (e :: l) n = atK l n + 1 := by simp [atK, hl]
      have eb : atB (e :: l) n = atB l n := by simp [atB, ek]
      have : withE (e :: l) n x = e :: withE l n x := by
        simp only [withE, ek, eb, List.take_succ_cons, List.cons_append]
        split <;> simp
      rw [this]
      exact ⟨h1, ih⟩
    · have hl : Op.bytesLess e.1 n = false := by simpa using hl
      have ek : atK (e :: l) n = 0 := by simp [atK, hl]
      by_cases he : e.1 = n
      · have eb : atB (e :: l) n = true := by simp [atB, ek, he]
        have : withE (e :: l) n x = (n, x) :: l := by simp [withE, ek, eb]
        rw [this]
        exact ⟨h, by rw [← he]; exact h2⟩
      · have eb : atB (e :: l) n = false := by simp [atB, ek, he]
        have : withE (e :: l) n x = (n, x) :: e :: l := by simp [withE, ek, eb]
        rw [this]
        exact ⟨h, less_asym (less_total hl he), h2⟩

theorem sortE_fold {w d : Nat} : ∀ {l acc : List Edge}, sortE none acc → sortE none (l.foldl (makeS w d) acc)
  | [], acc, h => h
  | e :: l, acc, h => sortE_fold (l := l) (sortE_drop _ _ h rfl)

/-- Sound: in order everywhere, names and levels within bounds. -/
def Tr.sound : Tr → Option (List UInt8) → Int → Prop
  | .nil, _, _ => True
  | .cons x k r, p, d => d ≤ 12 ∧ x.length ≤ 80 ∧ badP p x = false ∧ k.sound none (d + 1) ∧ r.sound (some x) d

theorem sound_of {d : Int} (hd : d ≤ 12) : ∀ {l : List Edge} {p : Option (List UInt8)}, sortE p l → (∀ e ∈ l, e.1.length ≤ 80 ∧ e.2.sound none (d + 1)) → (Tr.of l).sound p d
  | [], p, _, _ => trivial
  | (x, k) :: l, p, hs, h => ⟨hd, (h (x, k) (by simp)).1, hs.1, (h (x, k) (by simp)).2, sound_of hd hs.2 fun e he => h e (by simp [he])⟩

theorem chk_sound : ∀ (t : Tr) (p : Option (List UInt8)) (d n : Int), t.sound p d → n + t.nodes ≤ 400 → chkF t p d n = (n + t.nodes, 0)
  | .nil, p, d, n, _, _ => by simp [chkF, Tr.nodes]
  | .cons x k r, p, d, n, hs, h => by
    obtain ⟨h1, h2, h3, h4, h5⟩ := hs
    simp only [Tr.nodes] at h
    have hz : fitV (n + 1) d p x = 0 := by
      rw [fitV, if_neg (by omega), if_neg (by omega), if_neg (by omega), h3]; rfl
    have hk := chk_sound k none (d + 1) (n + 1) h4 (by omega)
    have hr := chk_sound r (some x) d (n + 1 + k.nodes) h5 (by omega)
    rw [chkF, if_neg (by rw [hz]; simp), hk, if_neg (by simp), hr]
    simp only [Tr.nodes, Prod.mk.injEq, and_true]
    omega

theorem make_sound (w : Nat) : ∀ (d : Nat) (l : Tr) (e : Int), e + d ≤ 13 → (makeF w d l).sound none e
  | 0, l, e, _ => trivial
  | d + 1, l, e, h => by
    rw [makeF_succ]
    refine sound_of (by omega) (sortE_fold trivial) ?_
    exact foldl_mem (fun e' => e'.1.length ≤ 80 ∧ e'.2.sound none (e + 1)) (by simp) fun y hy => ⟨by rw [List.length_take]; omega, make_sound w d y.2 (e + 1) (by omega)⟩

theorem make_chk (w d : Nat) (l : Tr) (h : d ≤ 12) (hn : (makeF w d l).nodes ≤ 400) : chkF (makeF w d l) none 1 0 = (((makeF w d l).nodes : Int), 0) := by
  rw [chk_sound _ _ _ _ (make_sound w d l 1 (by omega)) (by omega)]
  simp

end Go.Proofs.Ytmjkdghcfihfiaa.Vm
