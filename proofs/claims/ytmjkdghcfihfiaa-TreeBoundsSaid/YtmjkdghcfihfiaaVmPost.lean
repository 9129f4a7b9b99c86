/-
  What an operation that writes leaves behind: how the new state stands to the new world.
-/
import Derived.Test.YtmjkdghcfihfiaaVmQ
namespace Go.Proofs.Ytmjkdghcfihfiaa.Vm
open Go
set_option linter.unusedVariables false
set_option linter.unusedSimpArgs false

/-- A change elsewhere leaves an object as it was. -/
theorem ObjR.mono {β β' : Nat → Loc} {w w' : World} {M M' : Cells} {l : Loc} (hk : ∀ b o v, at_ w b o = some v → ¬ M b o → at_ w' b o = some v ∧ ¬ M' b o)
    (hF : ∀ b j v, l.F b j → at_ w b j = some v → at_ w' b j = some v ∧ frz_ w' b j = frz_ w b j) (hs : ∀ b T, w.shape? b = some T → w'.shape? b = some T) (hg : ∀ g, g < w.heap.size → (∀ j v, at_ w g j = some v → l.F g j) → w'.heap[g]? = w.heap[g]?) : ∀ {o : Obj}, (∀ i ∈ o.refs, (β i).same (β' i)) → ObjR β w M l o → ObjR β' w' M' l o
  | .box cs, hb, h => by
    obtain ⟨b, o, h1, h2, h3, h4⟩ := h
    refine ⟨b, o, h1, h2, h3, fun j v hj => ?_⟩
    obtain ⟨c, k1, k2, k3, k4⟩ := h4 j v hj
    have hlt := (List.getElem?_eq_some_iff.1 hj).1
    have kk := hF b (o + j) c (.inl ⟨o, h1, by omega, by omega⟩) k1
    exact ⟨c, kk.1, kk.2.trans k2, k3, AVR.mono hk _ _ (fun i hi => hb i (by simp only [Obj.refs]; exact refsL_mem.2 ⟨v, List.mem_of_getElem? hj, hi⟩)) k4⟩
  | .buf sz es, hb, h => by
    obtain ⟨h1, h2, h3, h4, h5, h6, h7, h8, h9⟩ := h
    refine ⟨h1, h2, h3, h4, h5, h6, h7, h8, fun b o hb' => ?_⟩
    obtain ⟨k1, k2⟩ := h9 b o hb'
    refine ⟨fun j hj => ?_, fun i e he => ?_⟩
    · obtain ⟨⟨c, hc⟩, hz⟩ := k1 j hj
      have kk := hF b (o + j) c (.inl ⟨o, hb', by omega, by omega⟩) hc
      exact ⟨⟨c, kk.1⟩, kk.2.trans hz⟩
    · obtain ⟨vs, hr, hc⟩ := k2 i e he
      refine ⟨vs, RepS.mono hk _ _ hr, fun j c hj => ?_⟩
      have hj' : j < sz := by
        have := (List.getElem?_eq_some_iff.1 hj).1
        rw [hr.length, h8 e (List.mem_of_getElem? he)] at this; exact this
      have hi := (List.getElem?_eq_some_iff.1 he).1
      have : (i + 1) * sz ≤ l.cap * sz := Nat.mul_le_mul_right _ (by omega)
      rw [Nat.add_mul] at this
      exact (hF b (o + i * sz + j) c (.inl ⟨o, hb', by omega, by omega⟩) (hc j c hj)).1
  | .bld bs, hb, h => by
    obtain ⟨b, o, A, cap, p, h1, h2, h3, h4, h5, h6, h7, h8⟩ := h
    have k1 := hF b o p (.inl ⟨o, h1, by omega, by have := h2.1; omega⟩) h3
    have k2 := hF b (o + 1) _ (.inl ⟨o, h1, by omega, by have := h2.1; omega⟩) h6
    obtain ⟨h2, h2', h2''⟩ := h2
    refine ⟨b, o, A, cap, p, h1, ⟨h2, h2', hs _ _ h2''⟩, k1.1, k1.2.trans h4, h5, k2.1, k2.2.trans h7, ?_⟩
    rcases h8 with h8 | ⟨g, g1, g2, g3, g4, g5, g6⟩
    · exact .inl h8
    · have hx : ∀ j v, j < cap → at_ w g j = some v → at_ w' g j = some v ∧ frz_ w' g j = frz_ w g j := fun j v hj hv => hF g j v (.inr ⟨cap, g2, hj⟩) hv
      have hgl : g < w.heap.size := by
        obtain ⟨n, hn⟩ := g4 0 g3.2.1
        exact at_lt hn
      have hgs : w'.heap[g]? = w.heap[g]? := hg g hgl (fun j v hv => by
        obtain ⟨_, cur, lo, hi, hh, hc, _⟩ := g3.2
        refine .inr ⟨cap, g2, ?_⟩
        simp only [at_, World.cell?, hh] at hv
        have := (Array.getElem?_eq_some_iff.1 hv).1
        omega)
      refine .inr ⟨g, g1, g2, ⟨g3.1, by unfold Rng; rw [hgs]; exact g3.2⟩, fun j hj => ?_, fun j hj hj' => ?_, fun j c hj => ?_⟩
      · obtain ⟨n, hn⟩ := g4 j hj; exact ⟨n, (hx j _ hj hn).1⟩
      · obtain ⟨n, hn⟩ := g4 j hj'; exact (hx j _ hj' hn).2.trans (g5 j hj hj')
      · have := (List.getElem?_eq_some_iff.1 hj).1
        exact (hx j _ (by omega) (g6 j c hj)).1

/-- Which cells a patch may change. -/
def Patch.touch (l : Loc) : Patch → Cells
  | .box _ off cells => fun b j => ∃ o, l.base = some (b, o) ∧ o + off ≤ j ∧ j < o + off + cells.length
  | _ => l.F

def Dm (β : Nat → Loc) (dom : Nat → Prop) (m : Made) : Cells :=
  fun b j => (∃ g ∈ m.dels ++ m.use, dom g ∧ (β g).F b j) ∨ ∃ p ∈ m.ws, dom p.id ∧ p.touch (β p.id) b j

/-- Cells that need not stay anybody's: of what is gone, of a Builder that is written. -/
def Gone (β : Nat → Loc) (dom : Nat → Prop) (m : Made) : Cells :=
  fun b j => (∃ g ∈ m.dels ++ m.use, dom g ∧ (β g).F b j) ∨ ∃ id bs, Patch.bld id bs ∈ m.ws ∧ (β id).F b j

/-- What a patch leaves. -/
def PatchR (β β' : Nat → Loc) (G : Cells) (w w' : World) (M' : Cells) : Patch → Prop
  | .box id off cells => β' id = β id ∧ ∃ b o, (β id).base = some (b, o) ∧ ∀ (j : Nat) (v : AV), cells[j]? = some v → ∃ c, at_ w' b (o + off + j) = some c ∧ frz_ w' b (o + off + j) = false ∧ c.oneCell' = true ∧ AVR β' w' M' v c
  | .buf id sz es => β' id = β id ∧ ObjR β' w' M' (β' id) (.buf sz es)
  | .bld id bs => ObjR β' w' M' (β' id) (.bld bs) ∧ ∀ b j, (β' id).F b j → M' b j ∧ (w.heap.size ≤ b ∨ G b j)

/-- What an operation leaves behind. M: cells that may be written, the frozen ones' left out. -/
structure Post (M : Cells) (β : Nat → Loc) (w : World) (dom : Nat → Prop) (m : Made) (M' : Cells) (β' : Nat → Loc) (w' : World) (c : Value) : Prop where
  same : ∀ id, id ∉ m.os.map (·.1) → (β id).same (β' id)
  keep : ∀ id, id ∉ m.os.map (·.1) → id ∉ m.ws.map Patch.id → β' id = β id
  kept : ∀ b j, M b j → M' b j ∨ Gone β dom m b j
  only : ∀ b j, M' b j → M b j ∨ w.heap.size ≤ b
  old : ∀ b j, M' b j → b < w'.heap.size
  new : ∀ p ∈ m.os, ObjR β' w' M' (β' p.1) p.2 ∧ ∀ b j, (β' p.1).F b j → M' b j ∧ (w.heap.size ≤ b ∨ Gone β dom m b j)
  patch : ∀ p ∈ m.ws, PatchR β β' (Gone β dom m) w w' M' p
  nd : (m.ws.map Patch.id).Nodup
  disj : ∀ id id', (id ∈ m.os.map (·.1) ∨ ∃ bs, Patch.bld id bs ∈ m.ws) → (id' ∈ m.os.map (·.1) ∨ ∃ bs, Patch.bld id' bs ∈ m.ws) → id ≠ id' → ∀ b j, (β' id).F b j → ¬ (β' id').F b j
  fr : Fr (Dm β dom m) w w'
  val : AVR β' w' M' m.v c

def patched (ws : List Patch) (id : Nat) (o : Option Obj) : Option Obj := ws.foldl (fun o p => if p.id = id then p.on o else o) o

theorem patched_other {id : Nat} : ∀ {ws : List Patch} {o : Option Obj}, id ∉ ws.map Patch.id → patched ws id o = o
  | [], o, _ => rfl
  | p :: ws, o, h => by
    simp only [List.map_cons, List.mem_cons, not_or] at h
    simp only [patched, List.foldl_cons]
    rw [if_neg (fun e => h.1 e.symm)]
    exact patched_other h.2
theorem patched_at {p : Patch} : ∀ {ws : List Patch} {o : Option Obj}, (ws.map Patch.id).Nodup → p ∈ ws → patched ws p.id o = p.on o
  | [], o, _, h => by simp at h
  | q :: ws, o, hn, h => by
    simp only [List.map_cons, List.nodup_cons] at hn
    simp only [patched, List.foldl_cons]
    rcases List.mem_cons.1 h with rfl | h
    · rw [if_pos rfl]; exact patched_other hn.1
    · have : ¬ q.id = p.id := fun e => hn.1 (e ▸ List.mem_map_of_mem (f := Patch.id) h)
      rw [if_neg this]
      exact patched_at hn.2 h

theorem lkp_of_mem {α : Type} {n : Nat} {a : α} : ∀ {l : List (Nat × α)}, (l.map (·.1)).Nodup → (n, a) ∈ l → lkp n l = some a
  | [], _, h => by simp at h
  | (m, b) :: r, hn, h => by
    simp only [List.map_cons, List.nodup_cons] at hn
    simp only [lkp]
    rcases List.mem_cons.1 h with h | h
    · injection h with h1 h2; subst h1; subst h2; rw [if_pos rfl]
    · have : ¬ n = m := fun e => hn.1 (e ▸ List.mem_map_of_mem (f := (·.1)) h)
      rw [if_neg this]; exact lkp_of_mem hn.2 h

theorem Patch.touch_F {p : Patch} {l : Loc} {b j : Nat} (h : p.touch l b j) (hp : ∀ id off cells, p = .box id off cells → off + cells.length ≤ l.k) : l.F b j := by
  cases p with
  | box id off cells =>
    obtain ⟨o, h1, h2, h3⟩ := h
    exact .inl ⟨o, h1, by omega, by have := hp id off cells rfl; omega⟩
  | buf _ _ _ => exact h
  | bld _ _ => exact h

/-- The new view stands to the new world. -/
theorem Post.view {M0 M : Cells} {β : Nat → Loc} {V0 V1 : View} {tm tm' : Array Value} {w : World} {dom : Nat → Prop} {m : Made} {M' : Cells} {β' : Nat → Loc} {w' : World} {c : Value} {R : Nat → Prop}
    (hV : VR M0 M β V0 tm w) (hP : Post M β w dom m M' β' w' c) (hR : ClosedIn R V0) (hos : ∀ id ∈ m.os.map (·.1), ¬ R id) (hon : (m.os.map (·.1)).Nodup)
    (hg : ∀ g ∈ m.dels ++ m.use, dom g → (∀ b j, (β g).F b j → M b j ∧ ¬ M0 b j) ∧ ∀ id o, V0.obj id = some o → ∀ b j, (β g).F b j → ¬ (β id).F b j)
    (hw : ∀ p ∈ m.ws, ∃ o o', V0.obj p.id = some o ∧ p.on (some o) = some o')
    {d : Option Nat} (h1 : ∀ t, V1.get t = if d = some t then m.v else V0.get t) (h2 : ∀ id, V1.obj id = match lkp id m.os with | some o => some o | none => patched m.ws id (V0.obj id))
    (htm : ∀ t, tm'.getD t undef = if d = some t then c else tm.getD t undef) : VR M0 M' β' V1 tm' w' := by
  have hbox : ∀ p ∈ m.ws, ∀ id off cells, p = .box id off cells → off + cells.length ≤ (β p.id).k := by
    intro p hp id off cells he
    subst he
    obtain ⟨o, o', ho, hon⟩ := hw _ hp
    cases o <;> simp only [Patch.on] at hon <;> try (cases hon; done)
    obtain ⟨b0, o0, q1, q2, q3, q4⟩ := hV.objs _ _ ho
    split at hon
    · rw [q2]; assumption
    · exact absurd hon (by simp)
  have htouch : ∀ p ∈ m.ws, ∀ b j, p.touch (β p.id) b j → (β p.id).F b j := fun p hp b j h => Patch.touch_F h (hbox p hp)
  have hDM : ∀ b j, Dm β dom m b j → M b j := by
    rintro b j (⟨g, hgm, hgd, hgf⟩ | ⟨p, hp, hpd, hpt⟩)
    · exact ((hg g hgm hgd).1 b j hgf).1
    · obtain ⟨o, _, ho, _⟩ := hw p hp
      exact (hV.own _ _ ho b j (htouch p hp b j hpt)).1
  have hk : ∀ b o v, at_ w b o = some v → ¬ M b o → at_ w' b o = some v ∧ ¬ M' b o := by
    intro b o v hv hm
    refine ⟨(hP.fr.keeps hv (fun h => hm (hDM b o h))).1, fun h => ?_⟩
    rcases hP.only b o h with h | h
    · exact hm h
    · have := at_lt hv; omega
  have hsame : ∀ i, R i → (β i).same (β' i) := fun i hi => hP.same i (fun h => hos i h hi)
  -- cells of an object that is there and is not patched here
  have hout : ∀ id o, V0.obj id = some o → ∀ b j, (β id).F b j → (∀ p ∈ m.ws, p.id = id → ¬ p.touch (β id) b j) → ¬ Dm β dom m b j := by
    rintro id o ho b j hF hn (⟨g, hgm, hgd, hgf⟩ | ⟨p, hp, hpd, hpt⟩)
    · exact (hg g hgm hgd).2 id o ho b j hgf hF
    · by_cases e : p.id = id
      · exact hn p hp e (e ▸ hpt)
      · obtain ⟨o', _, ho', _⟩ := hw p hp
        exact hV.disj _ _ _ _ ho' ho e b j (htouch p hp b j hpt) hF
  have hfr : ∀ id o, V0.obj id = some o → ∀ b j v, (β id).F b j → at_ w b j = some v → (∀ p ∈ m.ws, p.id = id → ¬ p.touch (β id) b j) → at_ w' b j = some v ∧ frz_ w' b j = frz_ w b j :=
    fun id o ho b j v hF hv hn => hP.fr.keeps hv (hout id o ho b j hF hn)
  have hGM0 : ∀ b j, Gone β dom m b j → M b j ∧ ¬ M0 b j := by
    rintro b j (⟨g, hgm, hgd, hgf⟩ | ⟨id, bs, hm, hf⟩)
    · exact (hg g hgm hgd).1 b j hgf
    · obtain ⟨o, _, ho, _⟩ := hw _ hm
      exact hV.own id o ho b j hf
  have hGd : ∀ id o, V0.obj id = some o → (∀ bs, Patch.bld id bs ∉ m.ws) → ∀ b j, (β id).F b j → ¬ Gone β dom m b j := by
    rintro id o ho hnb b j hF (⟨g, hgm, hgd, hgf⟩ | ⟨i, bs, hm, hf⟩)
    · exact (hg g hgm hgd).2 id o ho b j hgf hF
    · obtain ⟨o', _, ho', _⟩ := hw _ hm
      exact hV.disj i id o' o ho' ho (fun e => hnb bs (e ▸ hm)) b j hf hF
  have hMM : ∀ id o, V0.obj id = some o → (∀ bs, Patch.bld id bs ∉ m.ws) → ∀ b j, (β id).F b j → M' b j := by
    intro id o ho hnb b j hF
    rcases hP.kept b j (hV.own id o ho b j hF).1 with h | h
    · exact h
    · exact absurd h (hGd id o ho hnb b j hF)
  have hone : ∀ p ∈ m.ws, ∀ q ∈ m.ws, p.id = q.id → p = q := by
    intro p hp q hq he
    obtain ⟨k, hk⟩ := List.mem_iff_getElem?.1 hp
    obtain ⟨k', hk'⟩ := List.mem_iff_getElem?.1 hq
    have n1 : (m.ws.map Patch.id)[k]? = some p.id := by rw [List.getElem?_map, hk]; rfl
    have n2 : (m.ws.map Patch.id)[k']? = some p.id := by rw [List.getElem?_map, hk', he]; rfl
    have hkk := (List.getElem?_inj (List.getElem?_eq_some_iff.1 n1).1 hP.nd).1 (n1.trans n2.symm)
    subst hkk
    rw [hk] at hk'; injection hk' 
  -- an object of the new view: a new one, or one that was there
  have cases1 : ∀ id o, V1.obj id = some o → ((id, o) ∈ m.os ∧ id ∈ m.os.map (·.1)) ∨ (id ∉ m.os.map (·.1) ∧ ∃ o0, V0.obj id = some o0 ∧ ((∃ p ∈ m.ws, p.id = id ∧ p.on (some o0) = some o) ∨ (id ∉ m.ws.map Patch.id ∧ o = o0))) := by
    intro id o ho
    rw [h2] at ho
    split at ho
    · rename_i o1 hl
      injection ho with ho; subst ho
      exact .inl ⟨lkp_mem hl, List.mem_map_of_mem (f := (·.1)) (lkp_mem hl)⟩
    · rename_i hl
      refine .inr ⟨lkp_none hl, ?_⟩
      by_cases hid : id ∈ m.ws.map Patch.id
      · obtain ⟨p, hp, rfl⟩ := List.mem_map.1 hid
        rw [patched_at hP.nd hp] at ho
        obtain ⟨o0, o1, ho0, _⟩ := hw p hp
        rw [ho0] at ho
        exact ⟨o0, ho0, .inl ⟨p, hp, rfl, ho⟩⟩
      · rw [patched_other hid] at ho
        exact ⟨o, ho, .inr ⟨hid, rfl⟩⟩
  -- where its cells lie
  have cells1 : ∀ id o, V1.obj id = some o → (∀ b j, (β' id).F b j → M' b j ∧ ¬ M0 b j) ∧
      ((id ∈ m.os.map (·.1) ∨ ∃ bs, Patch.bld id bs ∈ m.ws) ∨ (β' id = β id ∧ (∀ bs, Patch.bld id bs ∉ m.ws) ∧ ∃ o0, V0.obj id = some o0)) ∧
      ∀ b j, (β' id).F b j → w.heap.size ≤ b ∨ Gone β dom m b j ∨ ((β id).F b j ∧ ∃ o0, V0.obj id = some o0) := by
    intro id o ho
    rcases cases1 id o ho with ⟨hm, hid⟩ | ⟨hid, o0, ho0, hh⟩
    · have hn := (hP.new _ hm).2
      refine ⟨fun b j hF => ⟨(hn b j hF).1, fun h0 => ?_⟩, .inl (.inl hid), fun b j hF => ?_⟩
      · rcases (hn b j hF).2 with h | h
        · have := hV.old b j (hV.sup b j h0); omega
        · exact (hGM0 b j h).2 h0
      · rcases (hn b j hF).2 with h | h
        · exact .inl h
        · exact .inr (.inl h)
    · have plain : β' id = β id → (∀ bs, Patch.bld id bs ∉ m.ws) → (∀ b j, (β' id).F b j → M' b j ∧ ¬ M0 b j) ∧
          ((id ∈ m.os.map (·.1) ∨ ∃ bs, Patch.bld id bs ∈ m.ws) ∨ (β' id = β id ∧ (∀ bs, Patch.bld id bs ∉ m.ws) ∧ ∃ o0, V0.obj id = some o0)) ∧
          ∀ b j, (β' id).F b j → w.heap.size ≤ b ∨ Gone β dom m b j ∨ ((β id).F b j ∧ ∃ o0, V0.obj id = some o0) := by
        intro e hnb
        rw [e]
        exact ⟨fun b j hF => ⟨hMM id o0 ho0 hnb b j hF, (hV.own id o0 ho0 b j hF).2⟩, .inr ⟨rfl, hnb, o0, ho0⟩, fun b j hF => .inr (.inr ⟨hF, o0, ho0⟩)⟩
      rcases hh with ⟨p, hp, hpid, hpo⟩ | ⟨hnw, _⟩
      · have hpr := hP.patch p hp
        cases p with
        | box i off cs => simp only [Patch.id] at hpid; subst hpid; exact plain hpr.1 (fun bs hb => by have := hone _ hp _ hb rfl; cases this)
        | buf i sz es => simp only [Patch.id] at hpid; subst hpid; exact plain hpr.1 (fun bs hb => by have := hone _ hp _ hb rfl; cases this)
        | bld i bs =>
          simp only [Patch.id] at hpid; subst hpid
          refine ⟨fun b j hF => ⟨(hpr.2 b j hF).1, fun h0 => ?_⟩, .inl (.inr ⟨bs, hp⟩), fun b j hF => ?_⟩
          · rcases (hpr.2 b j hF).2 with h | h
            · have := hV.old b j (hV.sup b j h0); omega
            · exact (hGM0 b j h).2 h0
          · rcases (hpr.2 b j hF).2 with h | h
            · exact .inl h
            · exact .inr (.inl h)
      · exact plain (hP.keep id hid hnw) (fun bs hb => hnw (List.mem_map_of_mem (f := Patch.id) hb))
  refine ⟨fun b j h0 => ?_, hP.old, fun t => ?_, fun id o ho => ?_, fun id o ho => (cells1 id o ho).1, fun id id' o o' ho ho' hne b j hF hF' => ?_⟩
  · rcases hP.kept b j (hV.sup b j h0) with h | h
    · exact h
    · exact absurd h0 (hGM0 b j h).2
  · rw [h1, htm]
    split
    · exact hP.val
    · exact AVR.mono hk _ _ (fun i hi => hsame i (hR.1 t i hi)) (hV.slots t)
  · rcases cases1 id o ho with ⟨hm, hid⟩ | ⟨hid, o0, ho0, hh⟩
    · exact (hP.new _ hm).1
    · rcases hh with ⟨p, hp, hpid, hpo⟩ | ⟨hnw, rfl⟩
      · have hpr := hP.patch p hp
        cases p with
        | box i off cs =>
          simp only [Patch.id] at hpid; subst hpid
          obtain ⟨hb, b0, p0, hbase, hcells⟩ := hpr
          cases o0 <;> simp only [Patch.on] at hpo <;> try (cases hpo; done)
          rename_i cs0
          split at hpo
          · rename_i hle
            injection hpo with hpo; subst hpo
            rw [hb]
            obtain ⟨b1, o1, q1, q2, q3, q4⟩ := hV.objs _ _ ho0
            rw [hbase] at q1; injection q1 with q1; injection q1 with e1 e2; subst e1; subst e2
            refine ⟨b0, p0, hbase, by rw [setFrom_length _ _ _ hle]; exact q2, q3, fun j v hj => ?_⟩
            rw [setFrom_get _ _ _ hle] at hj
            split at hj
            · rename_i hr
              obtain ⟨cc, k1, k2, k3, k4⟩ := hcells _ v hj
              rw [show p0 + off + (j - off) = p0 + j by omega] at k1 k2
              exact ⟨cc, k1, k2, k3, k4⟩
            · rename_i hr
              obtain ⟨cc, k1, k2, k3, k4⟩ := q4 j v hj
              have hlt := (List.getElem?_eq_some_iff.1 hj).1
              have kk := hfr i _ ho0 b0 (p0 + j) cc (.inl ⟨p0, hbase, by omega, by omega⟩) k1 (fun p' hp' he ht => by
                have : p' = .box i off cs := hone _ hp' _ hp he
                subst this
                obtain ⟨o', t1, t2, t3⟩ := ht
                rw [hbase] at t1; injection t1 with t1; injection t1 with _ t1; subst t1
                exact hr ⟨by omega, by omega⟩)
              exact ⟨cc, kk.1, kk.2.trans k2, k3, AVR.mono hk _ _ (fun i' hi' => hsame i' ((hR.2 _ _ ho0).2 i' (by simp only [Obj.refs]; exact refsL_mem.2 ⟨v, List.mem_of_getElem? hj, hi'⟩))) k4⟩
          · exact absurd hpo (by simp)
        | buf i sz es =>
          simp only [Patch.id] at hpid; subst hpid
          cases o0 <;> simp only [Patch.on] at hpo <;> try (cases hpo; done)
          split at hpo
          · injection hpo with hpo; subst hpo
            exact hpr.2
          · exact absurd hpo (by simp)
        | bld i bs =>
          simp only [Patch.id] at hpid; subst hpid
          cases o0 <;> simp only [Patch.on] at hpo <;> try (cases hpo; done)
          injection hpo with hpo; subst hpo
          exact hpr.1
      · have e := hP.keep id hid hnw
        rw [e]
        refine ObjR.mono hk (fun b j v hF hv => hfr id _ ho0 b j v hF hv (fun p hp he _ => hnw (he ▸ List.mem_map_of_mem (f := Patch.id) hp))) hP.fr.shape (fun g hg hF => hP.fr.block g hg (fun j v hv => hout id _ ho0 g j (hF j v hv) (fun p hp he _ => hnw (he ▸ List.mem_map_of_mem (f := Patch.id) hp)))) (fun i hi => hsame i ((hR.2 _ _ ho0).2 i hi)) (hV.objs id _ ho0)
  · obtain ⟨a1, a2, a3⟩ := cells1 id o ho
    obtain ⟨b1, b2, b3⟩ := cells1 id' o' ho'
    have apart : ∀ {x y : Nat}, (β' x = β x ∧ (∀ bs, Patch.bld x bs ∉ m.ws) ∧ ∃ o0, V0.obj x = some o0) → (β' x).F b j → x ≠ y →
        (w.heap.size ≤ b ∨ Gone β dom m b j ∨ ((β y).F b j ∧ ∃ o0, V0.obj y = some o0)) → False := by
      rintro x y ⟨e, hnb, o0, ho0⟩ hx hxy hy
      rw [e] at hx
      rcases hy with h | h | ⟨h, o1, ho1⟩
      · have := hV.old b j (hV.own x o0 ho0 b j hx).1; omega
      · exact hGd x o0 ho0 hnb b j hx h
      · exact hV.disj x y o0 o1 ho0 ho1 hxy b j hx h
    rcases a2 with a2 | a2
    · rcases b2 with b2 | b2
      · exact hP.disj id id' a2 b2 hne b j hF hF'
      · exact apart b2 hF' (fun e => hne e.symm) (a3 b j hF)
    · exact apart a2 hF hne (b3 b j hF')

end Go.Proofs.Ytmjkdghcfihfiaa.Vm
