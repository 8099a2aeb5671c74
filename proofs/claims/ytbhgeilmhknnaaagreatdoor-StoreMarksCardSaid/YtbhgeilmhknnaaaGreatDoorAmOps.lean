/- The abstract machine, part 4: what each operation does to an abstract state; and that it does. -/
import Derived.Test.YtbhgeilmhknnaaaGreatDoorAmHeap
import Derived.Laws.StructEq
import Derived.ChangeKeysEq
namespace Go.Am

/-! ### layouts -/
/-- How many cells, and whether it is an aggregate. -/
def lay (P : Program) (t : TypeId) : Option (Nat × Bool) :=
  match P.info? t, P.underlying t with
  | some i, some d => some (i.size, match d with | .struct _ | .array _ _ => true | _ => false)
  | _, _ => none
/-- A struct's field: its offset, its size, whether it is an aggregate. -/
def fld (P : Program) (t : TypeId) (i : Nat) : Option (Nat × Nat × Bool) :=
  match P.underlying t with
  | some (.struct fs) =>
    match fs[i]? with
    | some f => match lay P f.type with
      | some (s, a) => if s = 0 then none else some (f.offset, s, a)
      | none => none
    | none => none
  | _ => none
/-- An array: its length, an element's size, whether this is an aggregate. -/
def arr (P : Program) (t : TypeId) : Option (Nat × Nat × Bool) :=
  match P.underlying t with
  | some (.array n e) => (lay P e).map fun p => (n, p.1, p.2)
  | _ => none
/-- A slice type: an element's size, whether it is an aggregate, its bytes. -/
def sle (P : Program) (t : TypeId) : Option (Nat × Bool × Nat) :=
  match P.underlying t with
  | some (.slice e) => (lay P e).bind fun p => if p.1 = 0 then none else some (p.1, p.2, P.bytesOf e)
  | _ => none

theorem lay_spec {P : Program} {t : TypeId} {s : Nat} {a : Bool} (h : lay P t = some (s, a)) (w : World) : (sizeOf t).run P w = .ok s w ∧ (isAgg t).run P w = .ok a w := by
  unfold lay at h
  split at h
  · rename_i i d hi hd
    simp only [Option.some.injEq, Prod.mk.injEq] at h
    obtain ⟨rfl, rfl⟩ := h
    constructor
    · simp [sizeOf, typeInfo, hi]
    · cases d <;> simp [isAgg, run_underlying hd]
  · cases h

theorem loadVar_ok {P : Program} {G : Gh} {t : TypeId} {s : Nat} {ag : Bool} {v : AV} {cs : List Value} {b o : Nat} {w : World} (hl : lay P t = some (s, ag)) (hv : OccA G v cs) (hs : v.size = s) (ha : v.isAgg = ag)
    (hc : ∀ (j : Nat) (c : Value), cs[j]? = some c → w.cell? ⟨b, o + j, none⟩ = some c) : ∃ c, (loadVar t ⟨b, o, none⟩).run P w = .ok c w ∧ OccV G v c := by
  obtain ⟨h1, h2⟩ := lay_spec hl w
  have hn : cs.length = s := (occA_size hv).1.trans hs
  have hadd : ∀ j, (⟨b, o, none⟩ : Addr).add j = ⟨b, o + j, none⟩ := fun j => by unfold Addr.add; split <;> simp_all
  cases ag with
  | true =>
    refine ⟨.agg cs.toArray, ?_, .agg ha hv⟩
    have := run_loadCells_list (P := P) w ⟨b, o, none⟩ cs (fun j c hj => by rw [hadd]; exact hc j c hj)
    rw [hn] at this
    simp [loadVar, h1, h2, this]
  | false =>
    cases v with
    | d x =>
      have h3 : ∃ c, cs = [c] := by
        cases hv with
        | d hx => cases hx <;> first | exact ⟨_, rfl⟩ | simp [AV.isAgg, D.isAgg] at ha
      obtain ⟨c, rfl⟩ := h3
      refine ⟨c, ?_, .one ha hv⟩
      have := hc 0 c rfl
      rw [Nat.add_zero] at this
      simp [loadVar, h2, this]
    | agg l => simp [AV.isAgg] at ha
    | any => cases hv
    | tup l => cases hv
    | _ =>
      have h3 : ∃ c, cs = [c] := by cases hv <;> exact ⟨_, rfl⟩
      obtain ⟨c, rfl⟩ := h3
      refine ⟨c, ?_, .one ha hv⟩
      have := hc 0 c rfl
      rw [Nat.add_zero] at this
      simp [loadVar, h2, this]

theorem storeVar_ok {P : Program} {t : TypeId} {s : Nat} {ag : Bool} {c : Value} {b o : Nat} {w : World} {cur : Array Value} {ty : TypeId} (hl : lay P t = some (s, ag)) (hs : c.cells.size = s) (h1 : ∀ v ∈ c.cells.toList, v.oneCell' = true)
    (hw : w.heap[b]? = some (.cells cur ty (0, 0))) (hfit : o + s ≤ cur.size) : (storeVar t ⟨b, o, none⟩ c).run P w = .ok () (w.setRow b (splice cur.toList o c.cells.toList).toArray) := by
  have h2 := (lay_spec hl w).1
  have := run_storeCells_at (P := P) b o ty c.cells.toList 0 cur w hw (by simpa [hs] using hfit) h1
  simp only [Nat.add_zero] at this
  have h3 : (storeCells ⟨b, o, none⟩ c.cells.toList).run P w = .ok () (w.setRow b (splice cur.toList o c.cells.toList).toArray) := this
  simp [storeVar, h2, hs, h3]

theorem occV_leaf {G : Gh} {v : AV} {c : Value} (h : OccV G v c) (ha : v.isAgg = false) (hs : v.solid = true) : OccA G v [c] := by
  cases h with
  | any => simp [AV.solid] at hs
  | one _ h => exact h
  | agg h1 _ => rw [ha] at h1; cases h1
  | tup h => simp [AV.solid] at hs

/-! ### what an operation comes to -/
inductive OR where
  | val (v : AV)
  | box (b : Nat) (x : Box) (v : AV)
  | tok (t n : Nat) (v : AV)
def OR.v : OR → AV
  | .val v | .box _ _ v | .tok _ _ v => v
def OR.h (h : List Box) : OR → List Box
  | .box b x _ => h.set b x
  | _ => h
def OR.k (k : List (Option Nat)) : OR → List (Option Nat)
  | .tok t n _ => k.set t (some n)
  | _ => k

def Okay (P : Program) (m : Sem Next) (G : Gh) (h : List Box) (w : World) (r : OR) : Prop :=
  ∃ nx w' G' v, m.run P w = .ok nx w' ∧ (nx = .value v ∨ (nx = .skip ∧ v = undef)) ∧ HeapOK G' (r.h h) w' ∧ G'.k = r.k G.k ∧ Ext G G' w w' ∧ OccV G' r.v v

theorem okay_val {P : Program} {m : Sem Next} {G : Gh} {h : List Box} {w : World} {x : AV} {v : Value} (hh : HeapOK G h w) (hr : m.run P w = .ok (.value v) w) (hv : OccV G x v) : Okay P m G h w (.val x) :=
  ⟨_, _, G, v, hr, .inl rfl, hh, rfl, .refl G w, hv⟩

section
variable {P : Program} {G : Gh} {h : List Box} {w : World}

/-! ### new boxes -/
/-- Zero values, as trees: a table of the seat's own. -/
structure Zeros (P : Program) where
  z : TypeId → Option AV
  ok : ∀ t v, z t = some v → ∃ i c, P.info? t = some i ∧ i.zero = some c ∧ (∀ G : Gh, OccV G v c) ∧ v.solid = true

def evNew (nb : Nat) (v : AV) (h : List Box) : Option OR :=
  match h[nb]?, v.solid with
  | some .hole, true => some (.box nb (.var v) (.ptr nb 0))
  | _, _ => none

theorem new_okay {m : Sem Next} {nb : Nat} {v : AV} {r : OR} {c : Value} {t : TypeId} (hh : HeapOK G h w) (e : evNew nb v h = some r) (hv : OccV G v c)
    (hm : m.run P w = .ok (.value (.pointer (some ⟨w.heap.size, 0, none⟩))) (w.alloc (.cells c.cells t))) : Okay P m G h w r := by
  unfold evNew at e
  split at e
  · rename_i hnb hs
    cases e
    have hc := occV_cells hv hs
    have hle : G.le { G with mu := G.mu.set nb (some w.heap.size) } := by
      refine ⟨fun _ _ _ e => e, fun b blk e => ?_, fun _ n e => ⟨n, e, Nat.le_refl _, fun _ => rfl, fun tk h => ⟨tk, h⟩⟩⟩
      show (G.mu.set nb _)[b]? = _
      rw [List.getElem?_set_ne (fun hb => by subst hb; have := hh.boxes _ _ hnb; simp only [boxOK] at this; rw [this] at e; cases e)]
      exact e
    have hlt : nb < G.mu.length := by rw [hh.mulen]; exact (List.getElem?_eq_some_iff.1 hnb).1
    obtain ⟨h1, h2⟩ := alloc_box hh nb c.cells t (.var v) hnb
      ⟨w.heap.size, c.cells, t, by simp [hlt], heap_alloc_at, occA_le hle hc, fun o => hh.knew (Nat.le_refl _)⟩
    exact ⟨_, _, _, _, hm, .inl rfl, h1, rfl, h2, .one rfl (.ptr (by simp [hlt]))⟩
  · cases e

/-! ### loads and stores -/
def evLoad (P : Program) (t : TypeId) (a : AV) (h : List Box) : Option AV :=
  match lay P t with
  | none => none
  | some (s, ag) =>
    match a with
    | .ptr b o => match h[b]? with
      | some (.var v) => v.at_ o s ag
      | some (.fz x) => (x.at_ o s ag).map .d
      | _ => none
    | .eptr b i sz => match h[b]? with
      | some (.row l sz') => if sz' = sz then match l[i]? with
        | some x => if x.size = s ∧ x.isAgg = ag then some (.d x) else none
        | none => none else none
      | _ => none
    | .kp x => (x.at_ 0 s ag).map .d
    | .kpp b o => if s = 1 ∧ ag = false then some (.ptr b o) else none
    | _ => none

theorem sureAddr_ptr (a : Addr) (w : World) : (Instr.sureAddr (.pointer (some a))).run P w = .ok a w := rfl

theorem row_cells {K : Kn} {sz : Nat} : ∀ {l : List D} {cs : List Value}, OccL K l cs → (∀ x ∈ l, x.size = sz) → ∀ {i : Nat} {x : D}, l[i]? = some x → Occ K x ((cs.drop (i * sz)).take sz) ∧ i * sz + sz ≤ cs.length
  | [], _, _, _, i, x, hx => by simp at hx
  | y :: l, _, .cons (cs := cs) (ds := ds) h t, hs, i, x, hx => by
    have hn : cs.length = sz := (occ_size h).1.trans (hs y (by simp))
    cases i with
    | zero =>
      simp only [List.getElem?_cons_zero, Option.some.injEq] at hx
      subst hx
      rw [Nat.zero_mul]
      refine ⟨?_, by simp; omega⟩
      rw [List.drop_zero, List.take_append_of_le_length (by omega), List.take_of_length_le (by omega)]
      exact h
    | succ i =>
      obtain ⟨h1, h2⟩ := row_cells t (fun z hz => hs z (by simp [hz])) (i := i) (by simpa using hx)
      have hm : (i + 1) * sz = i * sz + sz := Nat.succ_mul i sz
      refine ⟨?_, by simp; omega⟩
      rw [take_drop_app (by omega), hn, show (i + 1) * sz - sz = i * sz by omega]
      exact h1
theorem row_set {K : Kn} {sz : Nat} : ∀ {l : List D} {cs : List Value}, OccL K l cs → (∀ x ∈ l, x.size = sz) → ∀ {i : Nat} {y : D} {vs : List Value}, i < l.length → Occ K y vs → y.size = sz → OccL K (l.set i y) (splice cs (i * sz) vs)
  | [], _, _, _, i, x, _, hx, _, _ => by simp at hx
  | z :: l, _, .cons (cs := cs) (ds := ds) h t, hs, i, y, vs, hi, hy, hys => by
    have hn : cs.length = sz := (occ_size h).1.trans (hs z (by simp))
    have hv : vs.length = sz := (occ_size hy).1.trans hys
    cases i with
    | zero =>
      rw [Nat.zero_mul, splice_left (by omega), splice_all (by omega), List.set_cons_zero]
      exact .cons hy t
    | succ i =>
      have hm : (i + 1) * sz = i * sz + sz := Nat.succ_mul i sz
      rw [splice_right (by omega), hn, show (i + 1) * sz - sz = i * sz by omega, List.set_cons_succ]
      exact .cons h (row_set t (fun x hx => hs x (by simp [hx])) (by simpa using hi) hy hys)

theorem take_get {α : Type} {l : List α} {n i : Nat} {x : α} (h : (l.take n)[i]? = some x) : l[i]? = some x := by
  rw [List.getElem?_take] at h
  split at h
  · exact h
  · cases h
theorem row_len {K : Kn} {sz : Nat} : ∀ {l : List D} {cs : List Value}, OccL K l cs → (∀ x ∈ l, x.size = sz) → cs.length = l.length * sz
  | [], _, .nil, _ => by simp
  | x :: l, _, .cons (cs := cs) (ds := ds) h t, hs => by
    have h1 := (occ_size h).1.trans (hs x (by simp))
    have h2 := row_len t (fun z hz => hs z (by simp [hz]))
    rw [List.length_append, h1, h2, List.length_cons, Nat.succ_mul]
    omega
theorem load_okay {t : TypeId} {a : AV} {c : Value} {v : AV} (hh : HeapOK G h w) (ha : OccV G a c) (e : evLoad P t a h = some v) : Okay P (do pure (.value (← Instr.loadAt t c))) G h w (.val v) := by
  unfold evLoad at e
  split at e
  · cases e
  · rename_i s ag hl
    have fin : ∀ (b o : Nat) (cs : List Value), c = .pointer (some ⟨b, o, none⟩) → OccA G v cs → v.size = s → v.isAgg = ag →
        (∀ (j : Nat) (u : Value), cs[j]? = some u → w.cell? ⟨b, o + j, none⟩ = some u) → Okay P (do pure (.value (← Instr.loadAt t c))) G h w (.val v) := by
      intro b o cs hc hv hs hag hcell
      obtain ⟨u, hu, hov⟩ := loadVar_ok hl hv hs hag hcell
      exact okay_val hh (by subst hc; simp [Instr.loadAt, Instr.sureAddr, hu]) hov
    split at e
    · rename_i b o
      cases occV_leaf ha rfl rfl with
        | ptr hmu =>
          rename_i blk
          split at e
          · rename_i u hb
            obtain ⟨blk', cs, ty, h1, h2, h3, h4⟩ := hh.boxes b _ hb
            rw [hmu] at h1
            injection h1 with h1
            injection h1 with h1
            subst h1
            obtain ⟨g1, g2, g3, g4⟩ := occA_at u h3 e
            refine fin blk o _ rfl g1 g2 g3 (fun j z hj => ?_)
            rw [cell_cells h2]
            rw [List.getElem?_take, List.getElem?_drop] at hj
            split at hj
            · simpa using hj
            · cases hj
          · rename_i x hb
            obtain ⟨blk', cs, h1, h3, h4⟩ := hh.boxes b _ hb
            rw [hmu] at h1
            injection h1 with h1
            injection h1 with h1
            subst h1
            obtain ⟨y, hy, rfl⟩ := Option.map_eq_some_iff.1 e
            obtain ⟨g1, g2, g3, g4⟩ := occ_at x h3 hy
            refine fin blk o _ rfl (.d g1) g2 g3 (fun j z hj => ?_)
            rw [List.getElem?_take, List.getElem?_drop] at hj
            split at hj
            · exact hh.know _ _ _ (h4 _ _ hj)
            · cases hj
          · cases e
    · rename_i b i sz
      cases occV_leaf ha rfl rfl with
        | eptr hmu =>
          rename_i blk
          split at e
          · rename_i l sz' hb
            split at e
            · rename_i hsz
              subst hsz
              obtain ⟨blk', cs, ty, h1, h2, h3, h4, h5, h6⟩ := hh.boxes b _ hb
              rw [hmu] at h1
              injection h1 with h1
              injection h1 with h1
              subst h1
              split at e
              · rename_i x hx
                split at e
                · rename_i hc
                  cases e
                  obtain ⟨g1, g2⟩ := row_cells h3 h4 hx
                  refine fin blk (i * sz') _ rfl (.d g1) hc.1 hc.2 (fun j z hj => ?_)
                  rw [cell_cells h2]
                  rw [List.getElem?_take, List.getElem?_drop] at hj
                  split at hj
                  · simpa using take_get hj
                  · cases hj
                · cases e
              · cases e
            · cases e
          · cases e
    · rename_i x
      cases occV_leaf ha rfl rfl with
        | kp hx hk =>
          rename_i b o cs
          obtain ⟨y, hy, rfl⟩ := Option.map_eq_some_iff.1 e
          obtain ⟨g1, g2, g3, g4⟩ := occ_at x hx hy
          refine fin b o _ rfl (.d g1) g2 g3 (fun j z hj => ?_)
          rw [List.getElem?_take, List.getElem?_drop, Nat.zero_add] at hj
          split at hj
          · exact hh.know _ _ _ (hk _ _ hj)
          · cases hj
    · rename_i b o
      split at e
      · rename_i hc
        cases e
        cases occV_leaf ha rfl rfl with
        | kpp hmu hk =>
          refine fin _ _ _ rfl (.ptr hmu) hc.1.symm hc.2.symm (fun j z hj => ?_)
          cases j with
          | zero =>
            simp only [List.getElem?_cons_zero, Option.some.injEq] at hj
            subst hj
            exact hh.know _ _ _ hk
          | succ j => simp at hj
      · cases e
    · cases e

def evStore (P : Program) (t : TypeId) (a x : AV) (h : List Box) : Option OR :=
  match lay P t with
  | none => none
  | some (s, _) =>
    if x.size = s ∧ x.solid = true then
      match a with
      | .ptr b o => match h[b]? with
        | some (.var v) => (v.set_ o x).map fun y => .box b (.var y) .any
        | _ => none
      | .eptr b i sz => match h[b]?, x.toD with
        | some (.row l sz'), some y => if sz' = sz ∧ i < l.length ∧ s = sz then some (.box b (.row (l.set i y) sz) .any) else none
        | _, _ => none
      | _ => none
    else none

theorem store_okay {t : TypeId} {a x : AV} {c cx : Value} {r : OR} (hh : HeapOK G h w) (ha : OccV G a c) (hx : OccV G x cx) (e : evStore P t a x h = some r) : Okay P (do Instr.storeAt t c cx; pure .skip) G h w r := by
  unfold evStore at e
  split at e
  · cases e
  · rename_i s ag hl
    split at e
    · rename_i hs
      have hxc := occV_cells hx hs.2
      obtain ⟨hn, h1c⟩ := occA_size hxc
      have hcs : cx.cells.size = s := by rw [← Array.length_toList, hn]; exact hs.1
      split at e
      · rename_i b o
        cases occV_leaf ha rfl rfl with
          | ptr hmu =>
            rename_i blk
            split at e
            · rename_i v hb
              obtain ⟨y, hy, rfl⟩ := Option.map_eq_some_iff.1 e
              obtain ⟨blk', cs, ty, h1, h2, h3, h4⟩ := hh.boxes b _ hb
              rw [hmu] at h1
              injection h1 with h1
              injection h1 with h1
              subst h1
              obtain ⟨g1, g2, g3⟩ := occA_set v h3 hxc hy
              have hrun := storeVar_ok (P := P) (b := blk) (o := o) (w := w) hl hcs h1c h2 (by rw [hn] at g3; simpa [hs.1] using g3)
              obtain ⟨k1, k2⟩ := store_box hh hb hmu h4 (cs' := (splice cs.toList o cx.cells.toList).toArray) (y := .var y) ⟨blk, _, ty, hmu, setRow_heap w blk cs _ ty (0, 0) h2, g1, h4⟩
              exact ⟨.skip, _, G, undef, by simp [Instr.storeAt, Instr.sureAddr, hrun], .inr ⟨rfl, rfl⟩, k1, rfl, k2, .any _⟩
            · cases e
      · rename_i b i sz
        cases occV_leaf ha rfl rfl with
          | eptr hmu =>
            rename_i blk
            split at e
            · rename_i l sz' y hb hy
              split at e
              · rename_i hc
                obtain ⟨rfl, hi, rfl⟩ := hc
                cases e
                obtain ⟨blk', cs, ty, h1, h2, h3, h4, h5, h6⟩ := hh.boxes b _ hb
                rw [hmu] at h1
                injection h1 with h1
                injection h1 with h1
                subst h1
                have hyc := occA_toD x hxc hy
                have hys : y.size = s := (toD_size x hy).1.trans hs.1
                obtain ⟨z, hz⟩ : ∃ z, l[i]? = some z := ⟨_, List.getElem?_eq_getElem hi⟩
                have hfit0 := (row_cells h3 h4 hz).2
                have hfit : i * s + s ≤ cs.toList.length := by
                  rw [List.length_take] at hfit0
                  exact Nat.le_trans hfit0 (Nat.min_le_right _ _)
                have hrun := storeVar_ok (P := P) (b := blk) (o := i * s) (w := w) hl hcs h1c h2 (by simpa using hfit)
                have hset0 := row_set h3 h4 hi hyc hys
                have hset : OccL G.K (l.set i y) ((splice cs.toList (i * s) cx.cells.toList).toArray.toList.take ((l.set i y).length * s)) := by
                  have hA := row_len h3 h4
                  have h8 : splice cs.toList (i * s) cx.cells.toList = splice (cs.toList.take (l.length * s)) (i * s) cx.cells.toList ++ cs.toList.drop (l.length * s) := by
                    conv => lhs; rw [← List.take_append_drop (l.length * s) cs.toList]
                    exact splice_left (by
                      have := (occ_size hyc).1
                      omega)
                  rw [h8, List.length_set, List.take_append_of_le_length, List.take_of_length_le]
                  · exact hset0
                  · rw [row_len hset0 (fun u hu => by
                      rcases List.mem_or_eq_of_mem_set hu with h7 | rfl
                      · exact h4 u h7
                      · exact hys), List.length_set]
                    exact Nat.le_refl _
                  · rw [row_len hset0 (fun u hu => by
                      rcases List.mem_or_eq_of_mem_set hu with h7 | rfl
                      · exact h4 u h7
                      · exact hys), List.length_set]
                    exact Nat.le_refl _
                obtain ⟨k1, k2⟩ := store_box hh hb hmu h6 (cs' := (splice cs.toList (i * s) cx.cells.toList).toArray) (y := .row (l.set i y) s)
                  ⟨blk, _, ty, hmu, setRow_heap w blk cs _ ty (0, 0) h2, hset, fun u hu => by
                    rcases List.mem_or_eq_of_mem_set hu with h7 | rfl
                    · exact h4 u h7
                    · exact hys, h5, h6⟩
                exact ⟨.skip, _, G, undef, by simp [Instr.storeAt, Instr.sureAddr, hrun], .inr ⟨rfl, rfl⟩, k1, rfl, k2, .any _⟩
              · cases e
            · cases e
      · cases e
    · cases e
end
end Go.Am
