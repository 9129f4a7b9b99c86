/-
  Trees' texts and bytes: plain laws.
-/
import Derived.Test.YtmjkdghcfihfiaaSayQuoteLaw
import Derived.Test.YtmjkdghcfihfiaaSayTreeMake
import Derived.Test.YtmjkdghcfihfiaaSayTreeBytes
import Derived.Test.YtmjkdghcfihfiaaSayTreeSame
namespace Go.Proofs.Ytmjkdghcfihfiaa.Vm
open Go Go.RowKit
set_option linter.unusedVariables false
set_option linter.unusedSimpArgs false
set_option maxRecDepth 100000

/-! ### Texts -/
/-- Behind an edge: the others, and the end. -/
def Tr.tl : Tr → List UInt8
  | .nil => [125]
  | .cons n k r => [44, 32] ++ quoF n ++ [58, 32] ++ textT k ++ r.tl
theorem tl_eq : ∀ t : Tr, Lib.joinTail [44, 32] t.items ++ [125] = t.tl
  | .nil => rfl
  | .cons n k r => by
    have := tl_eq r
    simp only [Tr.items, Tr.tl, Lib.joinTail, List.map_cons, List.flatten_cons, List.append_assoc] at this ⊢
    rw [← this]
    simp [textT]
theorem text_nil : textT .nil = [123, 125] := rfl
theorem text_cons (n : List UInt8) (k r : Tr) : textT (.cons n k r) = 123 :: (quoF n ++ [58, 32] ++ textT k ++ r.tl) := by
  rw [← tl_eq r]
  simp only [textT, Tr.items, Lib.join_cons]
  simp
theorem text_both : ∀ a : Tr, (∀ b x y, textT a ++ x = textT b ++ y → a = b ∧ x = y) ∧ (∀ b x y, a.tl ++ x = Tr.tl b ++ y → a = b ∧ x = y)
  | .nil => by
    refine ⟨fun b x y h => ?_, fun b x y h => ?_⟩
    · cases b with
      | nil => simp [text_nil] at h; exact ⟨rfl, h⟩
      | cons n k r => rw [text_nil, text_cons] at h; simp [quoF] at h
    · cases b with
      | nil => simp [Tr.tl] at h; exact ⟨rfl, h⟩
      | cons n k r => simp [Tr.tl] at h
  | .cons n k r => by
    have hk := text_both k
    have hr := text_both r
    have key : ∀ n' k' r' x y, quoF n ++ [58, 32] ++ textT k ++ r.tl ++ x = quoF n' ++ [58, 32] ++ textT k' ++ Tr.tl r' ++ y → Tr.cons n k r = .cons n' k' r' ∧ x = y := by
      intro n' k' r' x y h
      simp only [List.append_assoc] at h
      obtain ⟨rfl, h2⟩ := quoF_inj h
      simp only [List.cons_append, List.nil_append, List.cons.injEq, true_and] at h2
      obtain ⟨rfl, h3⟩ := hk.1 _ _ _ h2
      obtain ⟨rfl, h4⟩ := hr.2 _ _ _ h3
      exact ⟨rfl, h4⟩
    refine ⟨fun b x y h => ?_, fun b x y h => ?_⟩
    · cases b with
      | nil => rw [text_nil, text_cons] at h; simp [quoF] at h
      | cons n' k' r' =>
        rw [text_cons, text_cons] at h
        simp only [List.cons_append, List.cons.injEq, true_and] at h
        exact key _ _ _ _ _ h
    · cases b with
      | nil => simp [Tr.tl] at h
      | cons n' k' r' =>
        simp only [Tr.tl, List.append_assoc, List.cons_append, List.nil_append, List.cons.injEq, true_and] at h
        refine key n' k' r' x y ?_
        simp only [List.append_assoc, List.cons_append, List.nil_append]
        exact h
theorem text_inj {a b : Tr} (h : textT a = textT b) : a = b := ((text_both a).1 b [] [] (by rw [h])).1

theorem text_size (B : Nat) : ∀ t : Tr, t.lim B → (textT t).length ≤ 2 + (4 * B + 8) * t.nodes ∧ t.tl.length ≤ 1 + (4 * B + 8) * t.nodes
  | .nil, _ => by simp [text_nil, Tr.tl, Tr.nodes]
  | .cons n k r, h => by
    simp only [Tr.lim] at h
    have hk := text_size B k h.2.2.1
    have hr := text_size B r h.2.2.2
    have hq := quoF_le n
    have e : (4 * B + 8) * (k.nodes + r.nodes + 1) = (4 * B + 8) * k.nodes + (4 * B + 8) * r.nodes + (4 * B + 8) := by rw [Nat.mul_add, Nat.mul_add, Nat.mul_one]
    rw [text_cons]
    simp only [Tr.tl, Tr.nodes, List.length_append, List.length_cons, List.length_nil, e]
    omega

/-! ### Bytes -/
theorem le2_inj {a b : Nat} (ha : a < 65536) (hb : b < 65536) {x y : List UInt8} (h : le 2 a ++ x = le 2 b ++ y) : a = b ∧ x = y := by
  rw [le_two, le_two] at h
  simp only [List.cons_append, List.nil_append, List.cons.injEq] at h
  obtain ⟨h1, h2, h3⟩ := h
  have e1 := congrArg UInt8.toNat h1
  have e2 := congrArg UInt8.toNat h2
  simp at e1 e2
  exact ⟨by omega, h3⟩
theorem txB_inj {a b x y : List UInt8} (ha : a.length ≤ 65535) (hb : b.length ≤ 65535) (h : txB a ++ x = txB b ++ y) : a = b ∧ x = y := by
  unfold txB at h
  rw [List.take_of_length_le ha, List.take_of_length_le hb, Nat.min_eq_left ha, Nat.min_eq_left hb, List.append_assoc, List.append_assoc] at h
  obtain ⟨h1, h2⟩ := le2_inj (by omega) (by omega) h
  exact List.append_inj h2 h1
theorem bts_inj : ∀ (a b : Tr) (x y : List UInt8), a.lim 65535 → b.lim 65535 → a.list.length = b.list.length → a.bts ++ x = b.bts ++ y → a = b ∧ x = y
  | .nil, .nil, x, y, _, _, _, h => ⟨rfl, by simpa [Tr.bts] using h⟩
  | .nil, .cons n k r, x, y, _, _, hl, _ => by simp [Tr.list] at hl
  | .cons n k r, .nil, x, y, _, _, hl, _ => by simp [Tr.list] at hl
  | .cons n k r, .cons n' k' r', x, y, ha, hb, hl, h => by
    simp only [Tr.lim] at ha hb
    simp only [Tr.list, List.length_cons, Nat.add_right_cancel_iff] at hl
    simp only [Tr.bts, List.append_assoc] at h
    obtain ⟨rfl, h2⟩ := txB_inj ha.1 hb.1 h
    obtain ⟨h1, h3⟩ := le2_inj (by omega) (by omega) h2
    obtain ⟨rfl, h4⟩ := bts_inj k k' _ _ ha.2.2.1 hb.2.2.1 h1 h3
    obtain ⟨rfl, h5⟩ := bts_inj r r' x y ha.2.2.2 hb.2.2.2 hl h4
    exact ⟨rfl, h5⟩
theorem bin_inj {a b : Tr} {x y : List UInt8} (ha : a.lim 65535) (hb : b.lim 65535) (la : a.list.length ≤ 65535) (lb : b.list.length ≤ 65535) (h : binT a ++ x = binT b ++ y) : a = b ∧ x = y := by
  simp only [binT, List.append_assoc] at h
  obtain ⟨h1, h⟩ := le2_inj (by omega) (by omega) h
  exact bts_inj a b x y ha hb h1 h
theorem bin_size (B : Nat) : ∀ t : Tr, t.lim B → t.bts.length ≤ (B + 4) * t.nodes
  | .nil, _ => by simp [Tr.bts]
  | .cons n k r, h => by
    simp only [Tr.lim] at h
    have hk := bin_size B k h.2.2.1
    have hr := bin_size B r h.2.2.2
    have e : (B + 4) * (k.nodes + r.nodes + 1) = (B + 4) * k.nodes + (B + 4) * r.nodes + (B + 4) := by rw [Nat.mul_add, Nat.mul_add, Nat.mul_one]
    simp only [Tr.bts, Tr.nodes, txB, List.length_append, le_len, List.length_take, e]
    omega

/-! ### Trees made of raw edges -/
theorem lim_of {B : Nat} : ∀ {l : List Edge}, (∀ e ∈ l, e.1.length ≤ B ∧ e.2.list.length ≤ B ∧ e.2.lim B) → (Tr.of l).lim B
  | [], _ => trivial
  | (n, k) :: l, h => by
    obtain ⟨h1, h2, h3⟩ := h (n, k) (by simp)
    exact ⟨h1, h2, h3, lim_of fun e he => h e (by simp [he])⟩
theorem withE_mem {l : List Edge} {n : List UInt8} {x : Tr} {e : Edge} (h : e ∈ withE l n x) : e ∈ l ∨ e = (n, x) := by
  simp only [withE, List.mem_append, List.mem_singleton] at h
  rcases h with (h | h) | h
  · exact .inl (List.mem_of_mem_take h)
  · exact .inr h
  · exact .inl (List.mem_of_mem_drop h)
theorem foldl_mem {w d : Nat} (P : Edge → Prop) : ∀ {l : List Edge} {acc : List Edge}, (∀ e ∈ acc, P e) → (∀ e ∈ l, P (e.1.take 30, makeF w d e.2)) → ∀ e ∈ l.foldl (makeS w d) acc, P e
  | [], acc, h, _ => h
  | a :: l, acc, h, hl => by
    rw [List.foldl_cons]
    refine foldl_mem P (l := l) (acc := makeS w d acc a) (fun e he => ?_) (fun e he => hl e (by simp [he]))
    rcases withE_mem he with he | rfl
    · exact h e he
    · exact hl a (by simp)
theorem make_wide (w : Nat) (l : Tr) : ∀ d, (makeF w d l).list.length ≤ w
  | 0 => by simp [makeF, Tr.list]
  | d + 1 => by
    rw [makeF_succ, list_of]
    have := makeS_len w d (l.list.take w) []
    simp only [List.length_nil, List.length_take] at this
    omega
theorem make_lim (w B : Nat) (hw : w ≤ B) (hB : 30 ≤ B) : ∀ (d : Nat) (l : Tr), (makeF w d l).lim B
  | 0, l => trivial
  | d + 1, l => by
    rw [makeF_succ]
    refine lim_of (foldl_mem (fun e => e.1.length ≤ B ∧ e.2.list.length ≤ B ∧ e.2.lim B) (by simp) fun e he => ⟨by simp only [List.length_take]; omega, Nat.le_trans (make_wide w e.2 d) hw, make_lim w B hw hB d e.2⟩)
def sumN (l : List Edge) : Nat := (l.map fun e => e.2.nodes + 1).sum
theorem nodes_sum (l : List Edge) : (Tr.of l).nodes = sumN l := by
  induction l with
  | nil => rfl
  | cons e l ih => simp only [Tr.of, Tr.nodes, sumN, List.map_cons, List.sum_cons] at ih ⊢; omega
theorem sumN_app (a b : List Edge) : sumN (a ++ b) = sumN a + sumN b := by simp [sumN]
theorem sumN_drop (l : List Edge) (i j : Nat) (h : i ≤ j) : sumN (l.take i) + sumN (l.drop j) ≤ sumN l := by
  have h1 : sumN l = sumN (l.take i) + sumN (l.drop i) := by rw [← sumN_app, List.take_append_drop]
  have h2 : sumN (l.drop i) = sumN ((l.drop i).take (j - i)) + sumN ((l.drop i).drop (j - i)) := by rw [← sumN_app, List.take_append_drop]
  rw [List.drop_drop, show i + (j - i) = j by omega] at h2
  omega
theorem withE_sum (l : List Edge) (n : List UInt8) (x : Tr) : sumN (withE l n x) ≤ sumN l + x.nodes + 1 := by
  unfold withE
  rw [sumN_app, sumN_app]
  have h1 : sumN [(n, x)] = x.nodes + 1 := by simp [sumN]
  rw [h1]
  have := sumN_drop l (atK l n) (if atB l n = true then atK l n + 1 else atK l n) (by split <;> omega)
  omega
theorem make_nodes (w : Nat) : ∀ (d : Nat) (l : Tr), (makeF w d l).nodes ≤ l.nodes
  | 0, l => by simp [makeF, Tr.nodes]
  | d + 1, l => by
    have key : ∀ (m acc : List Edge), sumN (m.foldl (makeS w d) acc) ≤ sumN acc + sumN m := by
      intro m
      induction m with
      | nil => intro acc; simp [sumN]
      | cons e m ih =>
        intro acc
        have h1 := ih (makeS w d acc e)
        have h2 := withE_sum acc (e.1.take 30) (makeF w d e.2)
        have h3 := make_nodes w d e.2
        have h4 : sumN (e :: m) = e.2.nodes + 1 + sumN m := by simp [sumN]
        simp only [List.foldl_cons]
        unfold makeS at h1 ⊢
        omega
    rw [makeF_succ, nodes_sum]
    have h1 := key (l.list.take w) []
    have h2 : sumN l.list = sumN (l.list.take w) + sumN (l.list.drop w) := by rw [← sumN_app, List.take_append_drop]
    have h3 : l.nodes = sumN l.list := by rw [← nodes_sum, of_list]
    have h4 : sumN ([] : List Edge) = 0 := rfl
    omega
