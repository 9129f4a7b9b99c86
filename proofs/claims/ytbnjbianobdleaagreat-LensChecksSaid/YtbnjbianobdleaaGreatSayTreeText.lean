/-
  Trees, and their texts, in the machine.
-/
import Derived.Test.YtbnjbianobdleaaGreatVmCommon
namespace Go.Proofs.YtbnjbianobdleaaGreat.Vm
open Go Go.RowKit
set_option linter.unusedVariables false
set_option linter.unusedSimpArgs false
set_option maxRecDepth 100000

/-- A tree: its first edge's name, what is below it, the edges behind it. -/
inductive Tr where
  | nil
  | cons (n : List UInt8) (k r : Tr)

def Tr.rows : Tr → List (List PV)
  | .nil => []
  | .cons n k r => [.str n, .sl k.rows] :: r.rows
def Tr.nodes : Tr → Nat
  | .nil => 0
  | .cons _ k r => k.nodes + r.nodes + 1

theorem rows_inj : ∀ {t u : Tr}, t.rows = u.rows → t = u
  | .nil, .nil, _ => rfl
  | .nil, .cons _ _ _, h => by simp [Tr.rows] at h
  | .cons _ _ _, .nil, h => by simp [Tr.rows] at h
  | .cons n k r, .cons n' k' r', h => by
    simp only [Tr.rows, List.cons.injEq, PV.str.injEq, PV.sl.injEq, and_true] at h
    obtain ⟨⟨rfl, h1⟩, h2⟩ := h
    rw [rows_inj h1, rows_inj h2]

/-- The tree of these rows. -/
noncomputable def unrow (a : List (List PV)) : Tr := @dite _ (∃ t : Tr, a = t.rows) (Classical.propDecidable _) (fun h => h.choose) (fun _ => .nil)

theorem unrow_rows (t : Tr) : unrow t.rows = t := by
  unfold unrow
  have h : ∃ u : Tr, t.rows = u.rows := ⟨t, rfl⟩
  rw [dif_pos h]
  exact (rows_inj h.choose_spec).symm

def unstr (a : List (List PV)) : List (List UInt8) := a.map fun r => match r with | [.str s] => s | _ => []

theorem unstr_map (l : List (List UInt8)) : unstr (l.map strRow) = l := by
  unfold unstr
  rw [List.map_map]
  simp [Function.comp_def, strRow]


/-! ### Edges, as a list -/
def Tr.list : Tr → List (List UInt8 × Tr)
  | .nil => []
  | .cons n k r => (n, k) :: r.list

def Tr.of : List (List UInt8 × Tr) → Tr
  | [] => .nil
  | (n, k) :: r => .cons n k (Tr.of r)

def rowE (e : List UInt8 × Tr) : List PV := [.str e.1, .sl e.2.rows]

theorem of_list : ∀ t : Tr, Tr.of t.list = t
  | .nil => rfl
  | .cons n k r => by simp [Tr.list, Tr.of, of_list r]
theorem list_of : ∀ l : List (List UInt8 × Tr), (Tr.of l).list = l
  | [] => rfl
  | (n, k) :: r => by simp [Tr.list, Tr.of, list_of r]
theorem rows_list : ∀ t : Tr, t.rows = t.list.map rowE
  | .nil => rfl
  | .cons n k r => by simp [Tr.rows, Tr.list, rowE, rows_list r]
theorem rows_len (t : Tr) : t.rows.length = t.list.length := by rw [rows_list, List.length_map]

theorem nodes_lt : ∀ {t : Tr} {e : List UInt8 × Tr}, e ∈ t.list → e.2.nodes < t.nodes
  | .nil, e, h => by simp [Tr.list] at h
  | .cons n k r, e, h => by
    simp only [Tr.list, List.mem_cons] at h
    simp only [Tr.nodes]
    rcases h with rfl | h
    · simp only; omega
    · have := nodes_lt h; omega
theorem row_get (t : Tr) {i : Nat} (h : i < t.list.length) : t.rows[((i : Int)).toNat]? = some [.str t.list[i].1, .sl t.list[i].2.rows] := by
  rw [Int.toNat_natCast, rows_list, List.getElem?_map, List.getElem?_eq_getElem h]; rfl


end Go.Proofs.YtbnjbianobdleaaGreat.Vm
