/-
  Raw lenses that are handed in.
-/
import Derived.Test.YtbnjbianobdleaaGreatSayLensMade
import Derived.Test.YtbnjbianobdleaaGreatSayNamesShp
import Derived.Test.YtbnjbianobdleaaGreatSayRaw
namespace Go.Proofs.YtbnjbianobdleaaGreat.Vm
open Go Go.RowKit
set_option linter.unusedVariables false
set_option linter.unusedSimpArgs false
set_option maxRecDepth 100000

def isI64 (P : Program) (t : TypeId) : Bool := match P.underlying t with
  | some (.int .i64) => true
  | _ => false
theorem shp_i64 {P : Program} {t : TypeId} {xs : List PV} (h : Shp P t xs) (ht : isI64 P t = true) : ∃ n, xs = [.int .i64 n] := by
  unfold isI64 at ht
  split at ht
  · rename_i h2
    cases h with
    | int h => rw [h] at h2; simp only [Option.some.injEq, TypeDesc.int.injEq] at h2; subst h2; exact ⟨_, rfl⟩
    | bool h => rw [h] at h2; simp at h2
    | str h hb => rw [h] at h2; simp at h2
    | sl h => rw [h] at h2; simp at h2
    | struct xs h => rw [h] at h2; simp at h2
  · exact absurd ht (by simp)
/-- Is R such a raw lens, KS a slice of such, T a slice of raw edges? -/
def rawLOK (P : Program) (R KS T E : TypeId) : Bool := match P.underlying KS, P.underlying R with
  | some (.slice e), some (.struct fs) => (match fs.toList with
    | [f0, f1, f2, f3, f4, f5, f6] => e == R && f6.type == KS && f5.type == T && isI64 P f0.type && isI64 P f1.type && isI64 P f2.type && namesOK P f3.type && namesOK P f4.type && rawOK P T E && decide (1 ≤ P.bytesOf R)
    | _ => false)
  | _, _ => false
theorem rs_of : ∀ {es : List (List PV)}, (∀ x ∈ es, ∃ (d : RD) (k : Rs), x = d.row k.rows ∧ (Rs.cons d k .nil).lim) → ∃ r : Rs, es = r.rows ∧ r.lim
  | [], _ => ⟨.nil, rfl, trivial⟩
  | x :: es, h => by
    obtain ⟨d, k, rfl, h1⟩ := h x (by simp)
    obtain ⟨r, rfl, h2⟩ := rs_of (es := es) fun y hy => h y (by simp [hy])
    exact ⟨.cons d k r, rfl, h1.1, h1.2.1, h2⟩

theorem shp_rawL {P : Program} {R KS T E : TypeId} (hok : rawLOK P R KS T E = true) : ∀ {t : TypeId} {xs : List PV}, Shp P t xs → (t = KS → ∃ r : Rs, xs = [.sl r.rows] ∧ r.len ≤ 140737488351232 ∧ r.lim) ∧ (t = R → ∃ (d : RD) (k : Rs), xs = d.row k.rows ∧ (Rs.cons d k .nil).lim) := by
  unfold rawLOK at hok
  split at hok
  · rename_i e fs hT hE
    split at hok
    · rename_i f0 f1 f2 f3 f4 f5 f6 hfs
      simp only [Bool.and_eq_true, beq_iff_eq, decide_eq_true_eq] at hok
      obtain ⟨⟨⟨⟨⟨⟨⟨⟨⟨rfl, t6⟩, t5⟩, t0⟩, t1⟩, t2⟩, t3⟩, t4⟩, tr⟩, hb⟩ := hok
      intro t xs h
      induction h with
      | int h => exact ⟨fun e => by subst e; rw [h] at hT; simp at hT, fun e => by subst e; rw [h] at hE; simp at hE⟩
      | bool h => exact ⟨fun e => by subst e; rw [h] at hT; simp at hT, fun e => by subst e; rw [h] at hE; simp at hE⟩
      | str h _ => exact ⟨fun e => by subst e; rw [h] at hT; simp at hT, fun e => by subst e; rw [h] at hE; simp at hE⟩
      | sl h hl hall ih =>
        refine ⟨fun ht => ?_, fun ht => by subst ht; rw [h] at hE; simp at hE⟩
        subst ht
        rw [hT] at h
        simp only [Option.some.injEq, TypeDesc.slice.injEq] at h
        subst h
        obtain ⟨r, rfl, h2⟩ := rs_of fun x hx => (ih x hx).2 rfl
        refine ⟨r, rfl, ?_, h2⟩
        rw [Rs.rows_len] at hl
        have : r.len * 1 ≤ r.len * P.bytesOf e := Nat.mul_le_mul_left _ hb
        have hr : reachBytes = 140737488351232 := rfl
        omega
      | struct xs h hall ih =>
        refine ⟨fun ht => by subst ht; rw [h] at hT; simp at hT, fun ht => ?_⟩
        subst ht
        rw [hE] at h
        simp only [Option.some.injEq, TypeDesc.struct.injEq] at h
        subst h
        rw [hfs] at hall ih ⊢
        obtain ⟨o, e0⟩ := shp_i64 (hall 0 f0 rfl) t0
        obtain ⟨a, e1⟩ := shp_i64 (hall 1 f1 rfl) t1
        obtain ⟨b, e2⟩ := shp_i64 (hall 2 f2 rfl) t2
        obtain ⟨n, nl, e3, l3⟩ := names_of t3 (hall 3 f3 rfl)
        obtain ⟨m, ml, e4, l4⟩ := names_of t4 (hall 4 f4 rfl)
        obtain ⟨u, e5, l5, l6⟩ := (shp_tr tr (hall 5 f5 rfl)).1 t5
        obtain ⟨r, e6, l7, l8⟩ := (ih 6 f6 rfl).1 t6
        have hr : reachBytes = 140737488351232 := rfl
        rw [hr] at l5 l6
        refine ⟨⟨o, a, b, n, nl, m, ml, u⟩, r, ?_, ⟨l3, l4, l5, l6, l7⟩, l8, trivial⟩
        have e : (List.range [f0, f1, f2, f3, f4, f5, f6].length).flatMap xs = xs 0 ++ (xs 1 ++ (xs 2 ++ (xs 3 ++ (xs 4 ++ (xs 5 ++ xs 6))))) := by simp [List.range_succ]
        rw [e, e0, e1, e2, e3, e4, e5, e6]; rfl
    · exact absurd hok (by simp)
  · exact absurd hok (by simp)
theorem rawL_of {P : Program} {R KS T E : TypeId} (hok : rawLOK P R KS T E = true) {xs : List PV} (h : Shp P R xs) : ∃ (d : RD) (k : Rs), xs = d.row k.rows ∧ (Rs.cons d k .nil).lim := (shp_rawL hok h).2 rfl

end Go.Proofs.YtbnjbianobdleaaGreat.Vm
