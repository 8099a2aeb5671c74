/- The abstract machine, part 7: operations that make memory. -/
import Derived.Test.YtbhgeilmhknnaaaGreatDoorAmMore
import Derived.Great.BuildSlice
import Derived.Great.FillDense
import Derived.Laws.Tables
import Derived.Laws.BytesArg
namespace Go.Am
section
variable {P : Program} {G : Gh} {h : List Box} {w : World}

/-! ### build -/
def places (P : Program) (t : TypeId) : Option (List (Nat × Nat)) :=
  match P.underlying t with
  | some (.struct fs) => fs.toList.mapM fun f => (P.info? f.type).map fun i => (f.offset, i.size)
  | some (.array n e) => (P.info? e).map fun ie => (List.range n).map fun i => (i * ie.size, ie.size)
  | _ => none
def evFill (pl : List (Nat × Nat)) : AV → List (Nat × AV) → Option AV
  | z, [] => some z
  | z, (i, v) :: r =>
    match pl[i]? with
    | some (o, s) => if v.size = s ∧ v.solid = true then (z.set_ o v).bind fun y => evFill pl y r else none
    | none => none

theorem foldl_splice (off : Nat) (vs : List Value) (cs : Array Value) (h : off + vs.length ≤ cs.size) :
    (vs.toArray.zipIdx.foldl (fun cs (x : Value × Nat) => cs.setIfInBounds (off + x.2) x.1) cs) = (splice cs.toList off vs).toArray := by
  have h0 : (vs.toArray.zipIdx.foldl (fun cs (x : Value × Nat) => cs.setIfInBounds (off + x.2) x.1) cs) = ((vs.zipIdx 0).foldl (fun cs (x : Value × Nat) => cs.setIfInBounds (off + x.2) x.1) cs) := by
    rw [← Array.foldl_toList]
    simp
  rw [h0]
  obtain ⟨h1, h2⟩ := Go.Great.foldl_set off vs 0 cs
  apply Array.ext_getElem?
  intro k
  have hr : (splice cs.toList off vs).toArray[k]? = (List.take off cs.toList ++ vs ++ List.drop (off + vs.length) cs.toList)[k]? := by
    simp only [splice, List.getElem?_toArray]
  rw [h2 k, hr]
  simp only [Nat.add_zero]
  by_cases hk : off ≤ k ∧ k < off + vs.length ∧ k < cs.size
  · rw [if_pos hk, List.append_assoc, List.getElem?_append_right (by simp; omega), List.getElem?_append_left (by simp; omega)]
    congr 1
    simp
    omega
  · rw [if_neg hk]
    by_cases hlt : k < off
    · rw [List.append_assoc, List.getElem?_append_left (by simp; omega), List.getElem?_take_of_lt hlt]
      simp
    · have hlen : (List.take off cs.toList ++ vs).length = off + vs.length := by
        rw [List.length_append, List.length_take, Nat.min_eq_left (by simp; omega)]
      rw [List.getElem?_append_right (by omega), List.getElem?_drop, hlen]
      have : off + vs.length + (k - (off + vs.length)) = k ∨ cs.size ≤ k := by omega
      rcases this with h3 | h3
      · rw [h3]; simp
      · rw [Array.getElem?_eq_none h3, List.getElem?_eq_none (by simp; omega)]

/-- The parts of a literal, and their values. -/
inductive Parts (G : Gh) : List (Nat × AV) → List (Nat × Value) → Prop where
  | nil : Parts G [] []
  | cons {i : Nat} {x : AV} {c : Value} {ps : List (Nat × AV)} {qs : List (Nat × Value)} (h : OccV G x c) (t : Parts G ps qs) : Parts G ((i, x) :: ps) ((i, c) :: qs)

theorem fill_ok {pl : List (Nat × Nat)} {F : Nat → Option (Nat × Nat)} (hF : ∀ (i : Nat) (p : Nat × Nat), pl[i]? = some p → F i = some p) : ∀ {parts : List (Nat × AV)} {vals : List (Nat × Value)} {z v : AV} {cs : Array Value},
    OccA G z cs.toList → Parts G parts vals → evFill pl z parts = some v → ∃ ds, Instr.fill F cs vals = some ds ∧ OccA G v ds.toList ∧ v.size = z.size := by
  intro parts
  induction parts with
  | nil =>
    intro vals z v cs hz hp e
    cases hp
    simp only [evFill, Option.some.injEq] at e
    subst e
    exact ⟨cs, rfl, hz, rfl⟩
  | cons p parts ih =>
    intro vals z v cs hz hp e
    obtain ⟨i, x⟩ := p
    cases hp with
    | cons hpq hp =>
      rename_i c vals
      have hxc := hpq
      simp only [evFill] at e
      split at e
      · rename_i o s hpl
        split at e
        · rename_i hs
          obtain ⟨y, hy, e⟩ := Option.bind_eq_some_iff.1 e
          have hcells := occV_cells hxc hs.2
          obtain ⟨h1, h2, h3⟩ := occA_set z hz hcells hy
          have hn : c.cells.size = s := by rw [← Array.length_toList, (occA_size hcells).1]; exact hs.1
          have hfit : o + c.cells.size ≤ cs.size := by simpa using h3
          have hsp := foldl_splice o c.cells.toList cs (by simpa using h3)
          simp only [Array.toArray_toList] at hsp
          obtain ⟨ds, k1, k2, k3⟩ := ih (cs := (splice cs.toList o c.cells.toList).toArray) h1 hp e
          refine ⟨ds, ?_, k2, k3.trans h2⟩
          simp only [Instr.fill, hF i _ hpl]
          rw [if_neg (by simp [hn]; omega)]
          rw [← k1, ← hsp]
        · cases e
      · cases e

def evBuild (P : Program) (Z : Zeros P) (t : TypeId) (parts : List (Nat × AV)) : Option AV :=
  match Z.z t, places P t with
  | some z, some pl => if z.isAgg = true then (evFill pl z parts).bind fun v => if v.isAgg = true then some v else none else none
  | _, _ => none

theorem build_okay {Z : Zeros P} {t : TypeId} {parts : List (Nat × AV)} {vals : Array (Nat × Value)} {v : AV} (hp : Parts G parts vals.toList) (e : evBuild P Z t parts = some v) :
    ∃ u, (Instr.build t vals).run P w = .ok u w ∧ OccV G v u := by
  unfold evBuild at e
  split at e
  · rename_i z pl hz hpl
    split at e
    · rename_i hza
      obtain ⟨v', hv', e⟩ := Option.bind_eq_some_iff.1 e
      split at e
      · rename_i hva
        cases e
        obtain ⟨i, c, hi, hiz, hzc, _⟩ := Z.ok t z hz
        obtain ⟨cs, rfl, hcs⟩ := occV_aggA (hzc G) hza
        have key : ∃ ds, P.built t vals.toList = some ds ∧ OccA G v ds.toList := by
          unfold places at hpl
          unfold Program.built
          split at hpl
          · rename_i fs hu
            simp only [hi, hu, hiz, hpl]
            obtain ⟨ds, k1, k2, _⟩ := fill_ok (G := G) (F := fun i => pl.toArray[i]?) (fun i p h => by simpa using h) (cs := cs.toArray) hcs hp hv'
            exact ⟨ds, k1, k2⟩
          · rename_i n el hu
            obtain ⟨ie, hie, rfl⟩ := Option.map_eq_some_iff.1 hpl
            simp only [hi, hu, hiz, hie]
            obtain ⟨ds, k1, k2, _⟩ := fill_ok (G := G) (F := fun i => some (i * ie.size, ie.size)) (fun i p h => by
              simp only [List.getElem?_map] at h
              obtain ⟨j, hj, rfl⟩ := Option.map_eq_some_iff.1 h
              rw [List.getElem?_range (by have := (List.getElem?_eq_some_iff.1 hj).1; simpa using this)] at hj
              cases hj
              rfl) (cs := cs.toArray) hcs hp hv'
            exact ⟨ds, k1, k2⟩
          · cases hpl
        obtain ⟨ds, k1, k2⟩ := key
        exact ⟨_, run_build w t vals ds k1, by simpa using (OccV.agg hva k2 : OccV G v (.agg ds.toList.toArray))⟩
      · cases e
    · cases e
  · cases e

/-! ### slices by literals -/
def allD : List (Nat × AV) → Nat → Option (List D)
  | [], _ => some []
  | (j, v) :: r, i => if j = i then (v.toD).bind fun x => (allD r (i + 1)).map (x :: ·) else none
def allPtr : List (Nat × AV) → Nat → Option (List (Nat × Nat))
  | [], _ => some []
  | (j, .ptr b o) :: r, i => if j = i then (allPtr r (i + 1)).map ((b, o) :: ·) else none
  | _ :: _, _ => none
def evBuildSlice (P : Program) (t : TypeId) (len : Nat) (parts : List (Nat × AV)) : Option AV :=
  match sle P t with
  | some (s, _, _) =>
    if parts.length = len ∧ len * s ≤ 16777216 then
      match allD parts 0 with
      | some l => if l.all (fun x => decide (x.size = s)) = true then some (.full l) else none
      | none => if s = 1 ∧ len ≠ 0 then (allPtr parts 0).map .ptrs else none
    else none
  | none => none

theorem allD_ok : ∀ {parts : List (Nat × AV)} {vals : List (Nat × Value)} {i : Nat} {l : List D}, Parts G parts vals → allD parts i = some l →
    ∃ vs : List Value, vals = (vs.zipIdx i).map (fun x => (x.2, x.1)) ∧ OccL G.K l (vs.flatMap fun v => v.cells.toList) ∧ l.length = parts.length ∧ vs.length = parts.length ∧ ∀ sz, (∀ x ∈ l, x.size = sz) → ∀ v ∈ vs, v.cells.size = sz
  | [], _, i, l, .nil, e => by
    simp only [allD, Option.some.injEq] at e
    subst e
    exact ⟨[], rfl, .nil, rfl, rfl, by simp⟩
  | (j, x) :: parts, (_, c) :: vals, i, l, .cons h t, e => by
    simp only [allD] at e
    split at e
    · rename_i hji
      subst hji
      obtain ⟨y, hy, e⟩ := Option.bind_eq_some_iff.1 e
      obtain ⟨m, hm, rfl⟩ := Option.map_eq_some_iff.1 e
      obtain ⟨vs, h1, h2, h3, h4, h5⟩ := allD_ok t hm
      have hx := h
      have hxc := occV_toD hx hy
      refine ⟨c :: vs, by simp [h1], .cons hxc h2, by simp [h3], by simp [h4], fun sz hsz v hv => ?_⟩
      rcases List.mem_cons.1 hv with rfl | hv
      · rw [← Array.length_toList, (occ_size hxc).1]
        exact hsz y (by simp)
      · exact h5 sz (fun z hz => hsz z (by simp [hz])) v hv
    · cases e
theorem allPtr_ok : ∀ {parts : List (Nat × AV)} {vals : List (Nat × Value)} {i : Nat} {l : List (Nat × Nat)}, Parts G parts vals → allPtr parts i = some l →
    ∃ vs : List Value, vals = (vs.zipIdx i).map (fun x => (x.2, x.1)) ∧ l.length = parts.length ∧ vs.length = parts.length ∧ (∀ v ∈ vs, v.cells = #[v]) ∧
      ∀ (j : Nat) (p : Nat × Nat), l[j]? = some p → ∃ blk, G.mu[p.1]? = some (some blk) ∧ vs[j]? = some (.pointer (some ⟨blk, p.2, none⟩))
  | [], _, i, l, .nil, e => by
    simp only [allPtr, Option.some.injEq] at e
    subst e
    exact ⟨[], rfl, rfl, rfl, by simp, by simp⟩
  | (j, x) :: parts, (_, c) :: vals, i, l, .cons h t, e => by
    cases x <;> simp only [allPtr] at e <;> try (cases e; done)
    rename_i b o
    split at e
    · rename_i hji
      subst hji
      obtain ⟨m, hm, rfl⟩ := Option.map_eq_some_iff.1 e
      obtain ⟨vs, h1, h3, h4, h5, h6⟩ := allPtr_ok t hm
      have hx := h
      cases occV_leaf hx rfl rfl with
      | ptr hmu =>
        rename_i blk
        refine ⟨.pointer (some ⟨blk, o, none⟩) :: vs, by simp [h1], by simp [h3], by simp [h4], fun v hv => ?_, fun k p hp => ?_⟩
        · rcases List.mem_cons.1 hv with rfl | hv
          · rfl
          · exact h5 v hv
        · cases k with
          | zero =>
            simp only [List.getElem?_cons_zero, Option.some.injEq] at hp
            subst hp
            exact ⟨blk, hmu, rfl⟩
          | succ k =>
            obtain ⟨bl, g1, g2⟩ := h6 k p (by simpa using hp)
            exact ⟨bl, g1, by simpa using g2⟩
    · cases e

/-- The zero value of an element is wanted where there are elements. -/
def elemZero (P : Program) (t : TypeId) : Prop := ∃ e ie z, P.underlying t = some (.slice e) ∧ P.info? e = some ie ∧ ie.zero = some z ∧ z.cells.size = ie.size

theorem buildSlice_okay {t : TypeId} {len : Nat} {parts : List (Nat × AV)} {vals : Array (Nat × Value)} {v : AV} (hh : HeapOK G h w) (hz : elemZero P t)
    (hp : Parts G parts vals.toList) (e : evBuildSlice P t len parts = some v) : Okay P (do pure (.value (← Instr.buildSlice t len vals))) G h w (.val v) := by
  unfold evBuildSlice at e
  split at e
  · rename_i s a by_ hs
    obtain ⟨el, hu, hl, hs0, _⟩ := sle_spec hs
    obtain ⟨el', ie, z, hu', hie, hzz, hzs⟩ := hz
    rw [hu] at hu'
    injection hu' with hu'
    injection hu' with hu'
    subst hu'
    have hies : ie.size = s := by
      have h5 := (lay_spec hl w).1
      simp [sizeOf, typeInfo, hie] at h5
      exact h5
    subst hies
    split at e
    · rename_i hc
      obtain ⟨hlen, hsm⟩ := hc
      have hnone : ∀ cs : List Value, len = 0 → (Instr.buildSlice t len vals).run P w = .ok (.slice (some ⟨w.heap.size, 0, none⟩) 0 0) (w.alloc (.cells #[] el)) := by
        intro cs h0
        have hpe : parts = [] := List.eq_nil_of_length_eq_zero (by omega)
        subst hpe
        have hv0 : vals.toList = [] := by
          generalize vals.toList = l at hp
          cases hp
          rfl
        subst h0
        simp [Instr.buildSlice, run_underlying hu, sizeOf, typeInfo, hie, hv0, Instr.fill, newRow]
        congr 2
        exact Array.eq_empty_of_size_eq_zero (by simp)
      split at e
      · rename_i l hl'
        split at e
        · rename_i hall
          cases e
          obtain ⟨vs, h1, h2, h3, h4, h5⟩ := allD_ok hp hl'
          have hall' : ∀ x ∈ l, x.size = ie.size := by simpa using hall
          obtain ⟨k1, k2⟩ := alloc_known hh (vs.flatMap fun v => v.cells.toList) (vs.flatMap fun v => v.cells.toList).toArray el (fun j u hj => by simpa using hj)
          have hrow : OccR (G.K.put w.heap.size 0 (vs.flatMap fun v => v.cells.toList)) l w.heap.size 0 ie.size :=
            occR_of (occL_mono k2.le.K h2) hall' (fun j u hj => Kn.put_in G.K w.heap.size 0 _ hj)
          have hll : l.length = len := h3.trans hlen
          by_cases h0 : len = 0
          · have hl0 : l = [] := List.eq_nil_of_length_eq_zero (by omega)
            have hv0 : vs = [] := List.eq_nil_of_length_eq_zero (by omega)
            subst hl0
            subst hv0
            exact ⟨_, _, _, _, by simp [hnone [] h0], .inl rfl, k1, rfl, k2, .one rfl (.full (by omega) hrow)⟩
          · have hfill := Go.Great.fill_whole (s := ie.size) (by omega) vs ((Array.range (len * ie.size)).map (z.cells[· % z.cells.size]!)) (h5 _ hall') (by rw [Array.size_map, Array.size_range, h4, hlen])
            have hrun := run_buildSlice (P := P) w t el len vals _ ie z hu hie hzz (by omega) (Nat.mul_ne_zero h0 hs0) (by rw [h1]; exact hfill)
            refine ⟨_, _, _, _, by simp only [Sem.run_bind, hrun, Result.andThen_ok, Sem.run_pure]; first | done | rfl, .inl rfl, k1, rfl, k2, .one rfl ?_⟩
            rw [← hll]
            exact .full (by omega) hrow
        · cases e
      · split at e
        · rename_i hc1
          obtain ⟨hs1, h0⟩ := hc1
          obtain ⟨l, hl', rfl⟩ := Option.map_eq_some_iff.1 e
          obtain ⟨vs, h1, h3, h4, h5, h6⟩ := allPtr_ok hp hl'
          have hflat : (vs.flatMap fun v => v.cells.toList) = vs := by
            clear h1 h3 h4 h6 hl'
            induction vs with
            | nil => rfl
            | cons v vs ih =>
              rw [List.flatMap_cons, ih (fun u hu => h5 u (by simp [hu])), h5 v (by simp)]
              rfl
          obtain ⟨k1, k2⟩ := alloc_known hh vs vs.toArray el (fun j u hj => by simpa using hj)
          have hfill := Go.Great.fill_whole (s := ie.size) (by omega) vs ((Array.range (len * ie.size)).map (z.cells[· % z.cells.size]!)) (fun v hv => by rw [h5 v hv, hs1]; rfl) (by rw [Array.size_map, Array.size_range, h4, hlen])
          rw [hflat] at hfill
          have hrun := run_buildSlice (P := P) w t el len vals _ ie z hu hie hzz (by omega) (Nat.mul_ne_zero h0 hs0) (by rw [h1]; exact hfill)
          refine ⟨_, _, _, _, by simp only [Sem.run_bind, hrun, Result.andThen_ok, Sem.run_pure]; first | done | rfl, .inl rfl, k1, rfl, k2, .one rfl ?_⟩
          have hll : l.length = len := h3.trans hlen
          rw [← hll]
          refine .ptrs (fun j p hj => ?_)
          obtain ⟨blk, g1, g2⟩ := h6 j p hj
          exact ⟨blk, g1, by rw [Nat.zero_add]; have := Kn.put_in G.K w.heap.size 0 vs g2; rwa [Nat.zero_add] at this⟩
        · cases e
    · cases e
  · cases e
end
end Go.Am
