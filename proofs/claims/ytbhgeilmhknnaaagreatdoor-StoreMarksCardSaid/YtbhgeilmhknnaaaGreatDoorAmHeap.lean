/- The abstract machine, part 3: how boxes, rows and tokens lie in memory; what a step may turn. -/
import Derived.Test.YtbhgeilmhknnaaaGreatDoorAmState
import Derived.Deep.AppendSrc
import Derived.Room.Entries
import Derived.Laws.CopyRow
namespace Go.Am

def Tk.ok (G : Gh) (tk : Tk) (n : Nat) (w : World) : Prop :=
  match tk.base with
  | none => n = 0
  | some (b, o) => (0 < tk.sz ∧ (n = 0 → tk.cap = 0)) ∧ n ≤ tk.cap ∧ (n < tk.cap → ∃ cs ty, w.heap[b]? = some (.cells cs ty (0, 0)) ∧ o + tk.cap * tk.sz ≤ cs.size ∧
      (∀ j, n * tk.sz ≤ j → j < tk.cap * tk.sz → G.K b (o + j) = none) ∧ ∀ i : Nat, G.mu[i]? ≠ some (some b))

def boxOK (G : Gh) (w : World) (b : Nat) : Box → Prop
  | .hole => G.mu[b]? = some none
  | .var v => ∃ blk cs ty, G.mu[b]? = some (some blk) ∧ w.heap[blk]? = some (.cells cs ty (0, 0)) ∧ OccA G v cs.toList ∧ ∀ o, G.K blk o = none
  | .row l sz => ∃ blk cs ty, G.mu[b]? = some (some blk) ∧ w.heap[blk]? = some (.cells cs ty (0, 0)) ∧ OccL G.K l (cs.toList.take (l.length * sz)) ∧ (∀ x ∈ l, x.size = sz) ∧ 0 < sz ∧ ∀ o, G.K blk o = none
  | .fz x => ∃ blk cs, G.mu[b]? = some (some blk) ∧ Occ G.K x cs ∧ ∀ j v, cs[j]? = some v → G.K blk j = some v

structure HeapOK (G : Gh) (h : List Box) (w : World) : Prop where
  mulen : G.mu.length = h.length
  tklen : G.tk.length = G.k.length
  inj : ∀ b b' blk : Nat, G.mu[b]? = some (some blk) → G.mu[b']? = some (some blk) → b = b'
  lt : ∀ b blk : Nat, G.mu[b]? = some (some blk) → blk < w.heap.size
  boxes : ∀ b x, h[b]? = some x → boxOK G w b x
  know : ∀ b o v, G.K b o = some v → w.cell? ⟨b, o, none⟩ = some v
  tok : ∀ (t : Nat) (tk : Tk) (n : Nat), G.tk[t]? = some tk → G.k[t]? = some (some n) → tk.ok G n w
  tokinj : ∀ (t t' : Nat) (tk tk' : Tk) (n n' b o o' : Nat), t ≠ t' → G.tk[t]? = some tk → G.tk[t']? = some tk' → G.k[t]? = some (some n) → G.k[t']? = some (some n') →
    tk.base = some (b, o) → tk'.base = some (b, o') → n = tk.cap ∨ n' = tk'.cap

/-- Which blocks may be written by who holds G: its boxes, and those behind whose slices there is room. -/
def Gh.owns (G : Gh) (blk : Nat) : Prop :=
  (∃ b : Nat, G.mu[b]? = some (some blk)) ∨ ∃ (t : Nat) (tk : Tk) (n o : Nat), G.tk[t]? = some tk ∧ G.k[t]? = some (some n) ∧ tk.base = some (blk, o) ∧ n < tk.cap

structure Ext (G G' : Gh) (w w' : World) : Prop where
  le : G.le G'
  os : w'.os = w.os
  tape : w'.tape = w.tape
  output : w'.output = w.output
  size : w.heap.size ≤ w'.heap.size
  frame : ∀ blk, blk < w.heap.size → ¬ G.owns blk → w'.heap[blk]? = w.heap[blk]?
  newK : ∀ b o, b < w.heap.size → ¬ G.owns b → G'.K b o = G.K b o
  owns : ∀ blk, blk < w.heap.size → G'.owns blk → G.owns blk
  newmu : ∀ b blk : Nat, G'.mu[b]? = some (some blk) → G.mu[b]? = some (some blk) ∨ w.heap.size ≤ blk

theorem Ext.refl (G : Gh) (w : World) : Ext G G w w := ⟨.refl G, rfl, rfl, rfl, Nat.le_refl _, fun _ _ _ => rfl, fun _ _ _ _ => rfl, fun _ _ h => h, fun _ _ h => .inl h⟩
theorem Ext.trans {A B C : Gh} {u v w : World} (h : Ext A B u v) (g : Ext B C v w) : Ext A C u w := by
  refine ⟨h.le.trans g.le, g.os.trans h.os, g.tape.trans h.tape, g.output.trans h.output, Nat.le_trans h.size g.size, fun blk hb ho => ?_, fun b o hb ho => ?_, fun blk hb ho => ?_, fun b blk hb => ?_⟩
  · rw [g.frame blk (Nat.lt_of_lt_of_le hb h.size) (fun hB => ho (h.owns blk hb hB)), h.frame blk hb ho]
  · rw [g.newK b o (Nat.lt_of_lt_of_le hb h.size) (fun hB => ho (h.owns b hb hB)), h.newK b o hb ho]
  · exact h.owns blk hb (g.owns blk (Nat.lt_of_lt_of_le hb h.size) ho)
  · rcases g.newmu b blk hb with h1 | h1
    · exact h.newmu b blk h1
    · exact .inr (Nat.le_trans h.size h1)

/-- Worlds with one heap are one to all that is said here. -/
theorem HeapOK.heap {G : Gh} {h : List Box} {w w' : World} (hh : HeapOK G h w) (e : w'.heap = w.heap) : HeapOK G h w' where
  mulen := hh.mulen
  tklen := hh.tklen
  inj := hh.inj
  lt := by rw [e]; exact hh.lt
  boxes := fun b x hb => by
    have := hh.boxes b x hb
    cases x <;> simp only [boxOK, e] at this ⊢ <;> exact this
  know := fun b o v hk => by
    have := hh.know b o v hk
    simpa [World.cell?, e] using this
  tok := fun t tk n ht hk => by
    have := hh.tok t tk n ht hk
    unfold Tk.ok at this ⊢
    rw [e]
    exact this
  tokinj := hh.tokinj
theorem Ext.heap {G : Gh} {w w' : World} (e : w'.heap = w.heap) (h1 : w'.os = w.os) (h2 : w'.tape = w.tape) (h3 : w'.output = w.output) : Ext G G w w' :=
  ⟨.refl G, h1, h2, h3, by rw [e]; exact Nat.le_refl _, fun _ _ _ => by rw [e], fun _ _ _ _ => rfl, fun _ _ h => h, fun _ _ h => .inl h⟩

theorem HeapOK.klt {G : Gh} {h : List Box} {w : World} (hh : HeapOK G h w) {b o : Nat} {v : Value} (e : G.K b o = some v) : b < w.heap.size := by
  have := hh.know b o v e
  unfold World.cell? at this
  split at this
  · rename_i h1
    exact (Array.getElem?_eq_some_iff.1 h1).1
  · cases this
theorem HeapOK.knew {G : Gh} {h : List Box} {w : World} (hh : HeapOK G h w) {b o : Nat} (e : w.heap.size ≤ b) : G.K b o = none := by
  cases hk : G.K b o with
  | none => rfl
  | some v => exact absurd (hh.klt hk) (by omega)

theorem cell_cells {w : World} {b : Nat} {cs : Array Value} {ty : TypeId} {fr : Nat × Nat} (h : w.heap[b]? = some (.cells cs ty fr)) (o : Nat) : w.cell? ⟨b, o, none⟩ = cs[o]? := by simp [World.cell?, h]
theorem cell_heap {w w' : World} {b : Nat} (h : w'.heap[b]? = w.heap[b]?) (o : Nat) : w'.cell? ⟨b, o, none⟩ = w.cell? ⟨b, o, none⟩ := by simp [World.cell?, h]

/-! ### a new block -/
theorem heap_alloc_lt {w : World} {o : Obj} {k : Nat} (h : k < w.heap.size) : (w.alloc o).heap[k]? = w.heap[k]? := Go.RowKit.Below.heap_alloc w o k h
theorem heap_alloc_at {w : World} {o : Obj} : (w.alloc o).heap[w.heap.size]? = some o := by
  show (w.heap.push o)[w.heap.size]? = some o
  rw [Array.getElem?_push]
  simp
theorem size_alloc {w : World} {o : Obj} : (w.alloc o).heap.size = w.heap.size + 1 := by
  show (w.heap.push o).size = _
  simp

/-- What is known, and some cells of one block. -/
def Kn.put (K : Kn) (blk lo : Nat) (cs : List Value) : Kn := fun b o => if b = blk ∧ lo ≤ o ∧ o < lo + cs.length then cs[o - lo]? else K b o
theorem Kn.put_in (K : Kn) (blk lo : Nat) (cs : List Value) {j : Nat} {v : Value} (h : cs[j]? = some v) : K.put blk lo cs blk (lo + j) = some v := by
  have : j < cs.length := (List.getElem?_eq_some_iff.1 h).1
  simp only [Kn.put]
  rw [if_pos ⟨trivial, by omega, by omega⟩, Nat.add_sub_cancel_left, h]
theorem Kn.put_ne (K : Kn) (blk lo : Nat) (cs : List Value) {b o : Nat} (h : b ≠ blk) : K.put blk lo cs b o = K b o := by
  simp only [Kn.put]
  rw [if_neg (fun hc => h hc.1)]
theorem Kn.put_out (K : Kn) (blk lo : Nat) (cs : List Value) {b o : Nat} (h : o < lo ∨ lo + cs.length ≤ o) : K.put blk lo cs b o = K b o := by
  simp only [Kn.put]
  rw [if_neg (fun hc => by omega)]
theorem Kn.put_le (K : Kn) (blk lo : Nat) (cs : List Value) (h : ∀ j, j < cs.length → K blk (lo + j) = none) : ∀ b o v, K b o = some v → K.put blk lo cs b o = some v := by
  intro b o v e
  simp only [Kn.put]
  split
  · rename_i hc
    obtain ⟨rfl, h1, h2⟩ := hc
    have := h (o - lo) (by omega)
    rw [show lo + (o - lo) = o by omega, e] at this
    cases this
  · exact e

/-- A new block whose cells are data, and known from now on. -/
theorem alloc_known {G : Gh} {h : List Box} {w : World} (hh : HeapOK G h w) (cs : List Value) (all : Array Value) (ty : TypeId) (hall : ∀ (j : Nat) (v : Value), cs[j]? = some v → all[j]? = some v) :
    HeapOK { G with K := G.K.put w.heap.size 0 cs } h (w.alloc (.cells all ty)) ∧ Ext G { G with K := G.K.put w.heap.size 0 cs } w (w.alloc (.cells all ty)) := by
  have hle : G.le { G with K := G.K.put w.heap.size 0 cs } :=
    ⟨Kn.put_le _ _ _ _ fun j _ => hh.knew (Nat.le_refl _), fun _ _ e => e, fun _ n e => ⟨n, e, Nat.le_refl _, fun _ => rfl, fun tk h => ⟨tk, h⟩⟩⟩
  refine ⟨⟨hh.mulen, hh.tklen, hh.inj, fun b blk e => by rw [size_alloc]; have := hh.lt b blk e; omega, fun b x hb => ?_, fun b o v e => ?_, fun t tk n ht hk => ?_, hh.tokinj⟩,
    ⟨hle, rfl, rfl, rfl, by rw [size_alloc]; omega, fun blk hb _ => heap_alloc_lt hb, fun b o hb _ => Kn.put_ne _ _ _ _ (by omega), fun _ _ h => h, fun _ _ h => .inl h⟩⟩
  · have hx := hh.boxes b x hb
    cases x with
    | hole => exact hx
    | var v =>
      obtain ⟨blk, c, t, h1, h2, h3, h4⟩ := hx
      have hlt := hh.lt b blk h1
      exact ⟨blk, c, t, h1, by rw [heap_alloc_lt hlt]; exact h2, occA_le hle h3, fun o => (Kn.put_ne _ _ _ _ (by omega)).trans (h4 o)⟩
    | row l sz =>
      obtain ⟨blk, c, t, h1, h2, h3, h4, h5, h6⟩ := hx
      have hlt := hh.lt b blk h1
      exact ⟨blk, c, t, h1, by rw [heap_alloc_lt hlt]; exact h2, occL_mono hle.K h3, h4, h5, fun o => (Kn.put_ne _ _ _ _ (by omega)).trans (h6 o)⟩
    | fz x =>
      obtain ⟨blk, c, h1, h2, h3⟩ := hx
      exact ⟨blk, c, h1, occ_mono hle.K h2, fun j v hj => hle.K _ _ _ (h3 j v hj)⟩
  · change G.K.put w.heap.size 0 cs b o = some v at e
    by_cases hb : b = w.heap.size
    · subst hb
      rw [cell_cells heap_alloc_at]
      simp only [Kn.put] at e
      split at e
      · simpa using hall _ _ e
      · rw [hh.knew (Nat.le_refl _)] at e
        cases e
    · rw [Kn.put_ne _ _ _ _ hb] at e
      rw [cell_heap (heap_alloc_lt (hh.klt e))]
      exact hh.know b o v e
  · have := hh.tok t tk n ht hk
    unfold Tk.ok at this ⊢
    split
    · rename_i he
      simpa [he] using this
    · rename_i b o he
      simp only [he] at this
      refine ⟨this.1, this.2.1, fun hn => ?_⟩
      obtain ⟨c, ty', h1, h2, h3, h4⟩ := this.2.2 hn
      have hlt : b < w.heap.size := (Array.getElem?_eq_some_iff.1 h1).1
      exact ⟨c, ty', by rw [heap_alloc_lt hlt]; exact h1, h2, fun j hj1 hj2 => (Kn.put_ne _ _ _ _ (by omega)).trans (h3 j hj1 hj2), h4⟩

/-- A new block that is a box. -/
theorem alloc_box {G : Gh} {h : List Box} {w : World} (hh : HeapOK G h w) (nb : Nat) (all : Array Value) (ty : TypeId) (x : Box) (hnb : h[nb]? = some .hole)
    (hx : boxOK { G with mu := G.mu.set nb (some w.heap.size) } (w.alloc (.cells all ty)) nb x) :
    HeapOK { G with mu := G.mu.set nb (some w.heap.size) } (h.set nb x) (w.alloc (.cells all ty)) ∧ Ext G { G with mu := G.mu.set nb (some w.heap.size) } w (w.alloc (.cells all ty)) := by
  have hhole : G.mu[nb]? = some none := hh.boxes nb _ hnb
  have hlt : nb < G.mu.length := (List.getElem?_eq_some_iff.1 hhole).1
  have hmu : ∀ b blk : Nat, (G.mu.set nb (some w.heap.size))[b]? = some (some blk) → (b = nb ∧ blk = w.heap.size) ∨ (b ≠ nb ∧ G.mu[b]? = some (some blk)) := by
    intro b blk e
    by_cases hb : nb = b
    · subst hb
      rw [List.getElem?_set_self hlt] at e
      exact .inl ⟨rfl, by injection e with e; injection e with e; exact e.symm⟩
    · rw [List.getElem?_set_ne hb] at e
      exact .inr ⟨fun h => hb h.symm, e⟩
  have hmu' : ∀ b blk : Nat, G.mu[b]? = some (some blk) → (G.mu.set nb (some w.heap.size))[b]? = some (some blk) := by
    intro b blk e
    rw [List.getElem?_set_ne (fun hb => by subst hb; rw [hhole] at e; cases e)]
    exact e
  have hle : G.le { G with mu := G.mu.set nb (some w.heap.size) } :=
    ⟨fun _ _ _ e => e, hmu', fun _ n e => ⟨n, e, Nat.le_refl _, fun _ => rfl, fun tk h => ⟨tk, h⟩⟩⟩
  refine ⟨⟨by simp [hh.mulen], hh.tklen, fun b b' blk e e' => ?_, fun b blk e => ?_, fun b y hb => ?_, fun b o v e => ?_, fun t tk n ht hk => ?_, hh.tokinj⟩,
    ⟨hle, rfl, rfl, rfl, by rw [size_alloc]; omega, fun blk hb _ => heap_alloc_lt hb, fun _ _ _ _ => rfl, fun blk hb ho => ?_, fun b blk e => ?_⟩⟩
  · rcases hmu _ _ e with ⟨rfl, rfl⟩ | ⟨h1, h2⟩ <;> rcases hmu _ _ e' with ⟨h3, h4⟩ | ⟨h3, h4⟩
    · exact h3.symm
    · have := hh.lt _ _ h4; omega
    · have := hh.lt _ _ h2; omega
    · exact hh.inj _ _ _ h2 h4
  · rw [size_alloc]
    rcases hmu _ _ e with ⟨_, rfl⟩ | ⟨_, h2⟩
    · omega
    · have := hh.lt _ _ h2; omega
  · by_cases hbn : nb = b
    · subst hbn
      rw [List.getElem?_set_self (by rw [← hh.mulen]; exact hlt)] at hb
      cases hb
      exact hx
    · rw [List.getElem?_set_ne hbn] at hb
      have hy := hh.boxes b y hb
      cases y with
      | hole => show (G.mu.set nb _)[b]? = _; rw [List.getElem?_set_ne hbn]; exact hy
      | var v =>
        obtain ⟨blk, c, t, h1, h2, h3, h4⟩ := hy
        exact ⟨blk, c, t, hmu' _ _ h1, by rw [heap_alloc_lt (hh.lt b blk h1)]; exact h2, occA_le hle h3, h4⟩
      | row l sz =>
        obtain ⟨blk, c, t, h1, h2, h3, h4, h5, h6⟩ := hy
        exact ⟨blk, c, t, hmu' _ _ h1, by rw [heap_alloc_lt (hh.lt b blk h1)]; exact h2, h3, h4, h5, h6⟩
      | fz x =>
        obtain ⟨blk, c, h1, h2, h3⟩ := hy
        exact ⟨blk, c, hmu' _ _ h1, h2, h3⟩
  · rw [cell_heap (heap_alloc_lt (hh.klt e))]
    exact hh.know b o v e
  · have := hh.tok t tk n ht hk
    unfold Tk.ok at this ⊢
    split
    · rename_i he
      simpa [he] using this
    · rename_i b o he
      simp only [he] at this
      refine ⟨this.1, this.2.1, fun hn => ?_⟩
      obtain ⟨c, ty', h1, h2, h3, h4⟩ := this.2.2 hn
      have hlt : b < w.heap.size := (Array.getElem?_eq_some_iff.1 h1).1
      refine ⟨c, ty', by rw [heap_alloc_lt hlt]; exact h1, h2, h3, fun i e => ?_⟩
      rcases hmu _ _ e with ⟨_, h5⟩ | ⟨_, h5⟩
      · omega
      · exact h4 i h5
  · rcases ho with ⟨b, e⟩ | ho
    · rcases hmu _ _ e with ⟨_, h5⟩ | ⟨_, h5⟩
      · omega
      · exact .inl ⟨b, h5⟩
    · exact .inr ho
  · rcases hmu _ _ e with ⟨_, h5⟩ | ⟨_, h5⟩
    · exact .inr (by omega)
    · exact .inl h5

/-! ### a row of cells that is written -/
theorem setRow_other {w : World} {g k : Nat} {cs : Array Value} (h : k ≠ g) : (w.setRow g cs).heap[k]? = w.heap[k]? := by
  simp only [World.setRow, Array.getElem?_modify]
  rw [if_neg (fun e => h e.symm)]
theorem setRow_size {w : World} {g : Nat} {cs : Array Value} : (w.setRow g cs).heap.size = w.heap.size := by simp [World.setRow]
theorem splice_toArray (cur : Array Value) (o : Nat) (vs : List Value) : (cur.toList.take o ++ vs ++ cur.toList.drop (o + vs.length)) = splice cur.toList o vs := rfl

/-- A box is written. -/
theorem store_box {G : Gh} {h : List Box} {w : World} (hh : HeapOK G h w) {b blk : Nat} {x : Box} {cs' : Array Value} (hb : h[b]? = some x) (hm : G.mu[b]? = some (some blk))
    (hK : ∀ o, G.K blk o = none) {y : Box} (hy : boxOK G (w.setRow blk cs') b y) : HeapOK G (h.set b y) (w.setRow blk cs') ∧ Ext G G w (w.setRow blk cs') := by
  have hbl : b < h.length := (List.getElem?_eq_some_iff.1 hb).1
  refine ⟨⟨by simp [hh.mulen], hh.tklen, hh.inj, fun c k e => by rw [setRow_size]; exact hh.lt c k e, fun c z hc => ?_, fun c o v e => ?_, fun t tk n ht hk => ?_, hh.tokinj⟩,
    ⟨.refl G, rfl, rfl, rfl, by rw [setRow_size]; exact Nat.le_refl _, fun k _ ho => setRow_other (fun e => ho (.inl ⟨b, e ▸ hm⟩)), fun _ _ _ _ => rfl, fun _ _ h => h, fun _ _ h => .inl h⟩⟩
  · by_cases hcb : b = c
    · subst hcb
      rw [List.getElem?_set_self hbl] at hc
      cases hc
      exact hy
    · rw [List.getElem?_set_ne hcb] at hc
      have hz := hh.boxes c z hc
      have hne : ∀ k, G.mu[c]? = some (some k) → k ≠ blk := fun k e1 e2 => hcb (hh.inj b c blk hm (e2 ▸ e1))
      cases z with
      | hole => exact hz
      | var v =>
        obtain ⟨k, c', t, h1, h2, h3, h4⟩ := hz
        exact ⟨k, c', t, h1, by rw [setRow_other (hne k h1)]; exact h2, h3, h4⟩
      | row l sz =>
        obtain ⟨k, c', t, h1, h2, h3, h4, h5, h6⟩ := hz
        exact ⟨k, c', t, h1, by rw [setRow_other (hne k h1)]; exact h2, h3, h4, h5, h6⟩
      | fz x => exact hz
  · have hne : c ≠ blk := fun e' => by rw [e', hK] at e; cases e
    rw [cell_heap (setRow_other hne)]
    exact hh.know c o v e
  · have := hh.tok t tk n ht hk
    unfold Tk.ok at this ⊢
    split
    · rename_i he
      simpa [he] using this
    · rename_i c o he
      simp only [he] at this
      refine ⟨this.1, this.2.1, fun hn => ?_⟩
      obtain ⟨d, ty', h1, h2, h3, h4⟩ := this.2.2 hn
      exact ⟨d, ty', by rw [setRow_other (fun e => h4 b (by rw [e]; exact hm))]; exact h1, h2, h3, h4⟩

/-! ### tokens -/
def Gh.setTok (G : Gh) (t : Nat) (tk : Tk) (n : Nat) : Gh := { G with tk := G.tk.set t tk, k := G.k.set t (some n) }

theorem set_tok {G : Gh} {h : List Box} {w : World} (hh : HeapOK G h w) {t : Nat} {tk : Tk} {n : Nat} (htl : t < G.k.length) (hok : tk.ok G n w)
    (hlt : ∀ m, G.k[t]? = some (some m) → m < n ∨ (m = n ∧ G.tk[t]? = some tk))
    (hinj : ∀ (t' : Nat) (tk' : Tk) (n' b o o' : Nat), t' ≠ t → G.tk[t']? = some tk' → G.k[t']? = some (some n') → tk.base = some (b, o) → tk'.base = some (b, o') → n = tk.cap ∨ n' = tk'.cap) :
    HeapOK (G.setTok t tk n) h w ∧ G.le (G.setTok t tk n) := by
  have htl' : t < G.tk.length := by rw [hh.tklen]; exact htl
  have hle : G.le (G.setTok t tk n) := by
    refine ⟨fun _ _ _ e => e, fun _ _ e => e, fun u m e => ?_⟩
    by_cases hu : t = u
    · subst hu
      refine ⟨n, by simp [Gh.setTok, htl], ?_, fun hmn => ?_, fun tk' _ => ⟨tk, by simp [Gh.setTok, htl']⟩⟩
      · rcases hlt m e with h1 | ⟨h1, _⟩ <;> omega
      · rcases hlt m e with h1 | ⟨_, h2⟩
        · omega
        · simp only [Gh.setTok]
          rw [List.getElem?_set_self htl', h2]
    · exact ⟨m, by simp [Gh.setTok, List.getElem?_set_ne hu, e], Nat.le_refl _, fun _ => by simp [Gh.setTok, List.getElem?_set_ne hu], fun tk' h => ⟨tk', by simp [Gh.setTok, List.getElem?_set_ne hu, h]⟩⟩
  have hget : ∀ (u : Nat) (tk' : Tk) (n' : Nat), (G.setTok t tk n).tk[u]? = some tk' → (G.setTok t tk n).k[u]? = some (some n') → (u = t ∧ tk' = tk ∧ n' = n) ∨ (u ≠ t ∧ G.tk[u]? = some tk' ∧ G.k[u]? = some (some n')) := by
    intro u tk' n' e1 e2
    by_cases hu : t = u
    · subst hu
      simp only [Gh.setTok] at e1 e2
      rw [List.getElem?_set_self htl'] at e1
      rw [List.getElem?_set_self htl] at e2
      injection e1 with e1
      injection e2 with e2
      injection e2 with e2
      exact .inl ⟨rfl, e1.symm, e2.symm⟩
    · simp only [Gh.setTok] at e1 e2
      rw [List.getElem?_set_ne hu] at e1 e2
      exact .inr ⟨fun h => hu h.symm, e1, e2⟩
  refine ⟨⟨hh.mulen, by simp [Gh.setTok, hh.tklen], hh.inj, hh.lt, fun b x hb => ?_, hh.know, fun u tk' n' e1 e2 => ?_, fun u u' tk1 tk2 n1 n2 b o o' hne e1 e2 e3 e4 e5 e6 => ?_⟩, hle⟩
  · have hx := hh.boxes b x hb
    cases x with
    | hole => exact hx
    | var v =>
      obtain ⟨blk, c, ty, h1, h2, h3, h4⟩ := hx
      exact ⟨blk, c, ty, h1, h2, occA_le hle h3, h4⟩
    | row l sz => exact hx
    | fz x => exact hx
  · rcases hget u tk' n' e1 e2 with ⟨_, rfl, rfl⟩ | ⟨_, h2, h3⟩
    · exact hok
    · exact hh.tok u tk' n' h2 h3
  · rcases hget u tk1 n1 e1 e3 with ⟨rfl, rfl, rfl⟩ | ⟨h1, h2, h3⟩ <;> rcases hget u' tk2 n2 e2 e4 with ⟨rfl, rfl, rfl⟩ | ⟨h4, h5, h6⟩
    · exact absurd rfl hne
    · exact hinj u' tk2 n2 b o o' h4 h5 h6 e5 e6
    · exact (hinj u tk1 n1 b o' o h1 h2 h3 e6 e5).symm
    · exact hh.tokinj u u' tk1 tk2 n1 n2 b o o' hne h2 h5 h3 h6 e5 e6

theorem tok_lt {G : Gh} {h : List Box} {w : World} (hh : HeapOK G h w) {t : Nat} {tk : Tk} {n b o : Nat} (e1 : G.tk[t]? = some tk) (e2 : G.k[t]? = some (some n)) (e3 : tk.base = some (b, o)) (hb : w.heap.size ≤ b) : n = tk.cap := by
  have := hh.tok t tk n e1 e2
  simp only [Tk.ok, e3] at this
  rcases Nat.lt_or_ge n tk.cap with hlt | hge
  · obtain ⟨c, ty, h1, _⟩ := this.2.2 hlt
    have := (Array.getElem?_eq_some_iff.1 h1).1
    omega
  · omega

/-- append where there is no room: a new row, whose first cells are known; the token goes with it. -/
theorem append_grow {G : Gh} {h : List Box} {w : World} (hh : HeapOK G h w) (cs : List Value) (all : Array Value) (ty : TypeId) (t n cap sz : Nat) (htl : t < G.k.length) (hsz : 0 < sz) (hn0 : 0 < n) (hn : n ≤ cap)
    (hcs : cs.length = n * sz) (hall : ∀ (j : Nat) (v : Value), cs[j]? = some v → all[j]? = some v) (hsize : cap * sz ≤ all.size) (hlt : ∀ m, G.k[t]? = some (some m) → m < n) :
    let G' := ({ G with K := G.K.put w.heap.size 0 cs } : Gh).setTok t ⟨some (w.heap.size, 0), cap, sz⟩ n
    HeapOK G' h (w.alloc (.cells all ty)) ∧ Ext G G' w (w.alloc (.cells all ty)) := by
  intro G'
  obtain ⟨h1, h2⟩ := alloc_known hh cs all ty hall
  obtain ⟨h3, h4⟩ := set_tok h1 (t := t) (tk := ⟨some (w.heap.size, 0), cap, sz⟩) (n := n) htl
    (by
      refine ⟨⟨hsz, fun h => by omega⟩, hn, fun hlt' => ⟨all, ty, heap_alloc_at, by simpa using hsize, fun j hj _ => ?_, fun i e => ?_⟩⟩
      · show G.K.put w.heap.size 0 cs w.heap.size (0 + j) = none
        rw [Kn.put_out _ _ _ _ (by right; simp only at hj; omega)]
        exact hh.knew (Nat.le_refl _)
      · have := hh.lt i _ e
        omega)
    (fun m e => .inl (hlt m e))
    (fun t' tk' n' b o o' hne e1 e2 e3 e4 => by
      simp only [Option.some.injEq, Prod.mk.injEq] at e3
      exact .inr (tok_lt hh e1 e2 e4 (by omega)))
  refine ⟨h3, h2.le.trans h4, h2.os, h2.tape, h2.output, h2.size, h2.frame, h2.newK, fun blk hb ho => ?_, h2.newmu⟩
  rcases ho with ⟨b, e⟩ | ⟨u, tk, m, o, e1, e2, e3, e4⟩
  · exact .inl ⟨b, e⟩
  · by_cases hu : t = u
    · subst hu
      simp only [G', Gh.setTok] at e1
      rw [List.getElem?_set_self (by rw [show ({ G with K := G.K.put w.heap.size 0 cs } : Gh).tk = G.tk from rfl, hh.tklen]; exact htl)] at e1
      injection e1 with e1
      subst e1
      simp only [Option.some.injEq, Prod.mk.injEq] at e3
      omega
    · simp only [G', Gh.setTok] at e1 e2
      rw [List.getElem?_set_ne hu] at e1 e2
      exact .inr ⟨u, tk, m, o, e1, e2, e3, e4⟩

/-- Cells that nobody leans on are written, and known from now on. -/
theorem write_known {G : Gh} {h : List Box} {w : World} (hh : HeapOK G h w) {b lo : Nat} {cs : Array Value} {ty : TypeId} {vs : List Value} (hw : w.heap[b]? = some (.cells cs ty (0, 0))) (hfit : lo + vs.length ≤ cs.size)
    (hnone : ∀ j, j < vs.length → G.K b (lo + j) = none) (hmu : ∀ i : Nat, G.mu[i]? ≠ some (some b))
    (htok : ∀ (u : Nat) (tk : Tk) (n p : Nat), G.tk[u]? = some tk → G.k[u]? = some (some n) → tk.base = some (b, p) → n < tk.cap → lo + vs.length ≤ p + n * tk.sz) :
    HeapOK { G with K := G.K.put b lo vs } h (w.setRow b (splice cs.toList lo vs).toArray) ∧ G.le { G with K := G.K.put b lo vs } := by
  have hle : G.le { G with K := G.K.put b lo vs } :=
    ⟨Kn.put_le _ _ _ _ hnone, fun _ _ e => e, fun _ n e => ⟨n, e, Nat.le_refl _, fun _ => rfl, fun tk h => ⟨tk, h⟩⟩⟩
  have hrow : (w.setRow b (splice cs.toList lo vs).toArray).heap[b]? = some (.cells (splice cs.toList lo vs).toArray ty (0, 0)) := setRow_heap w b cs _ ty (0, 0) hw
  refine ⟨⟨hh.mulen, hh.tklen, hh.inj, fun c blk e => by rw [setRow_size]; exact hh.lt c blk e, fun c x hc => ?_, fun c u v e => ?_, fun u tk1 n1 e1 e2 => ?_, hh.tokinj⟩, hle⟩
  · have hx := hh.boxes c x hc
    have hne : ∀ k, G.mu[c]? = some (some k) → k ≠ b := fun k e1 e2 => hmu c (e2 ▸ e1)
    cases x with
    | hole => exact hx
    | var v =>
      obtain ⟨k, c', t, h1, h2, h3, h4⟩ := hx
      exact ⟨k, c', t, h1, by rw [setRow_other (hne k h1)]; exact h2, occA_le hle h3, fun o => (Kn.put_ne _ _ _ _ (hne k h1)).trans (h4 o)⟩
    | row l sz =>
      obtain ⟨k, c', t, h1, h2, h3, h4, h5, h6⟩ := hx
      exact ⟨k, c', t, h1, by rw [setRow_other (hne k h1)]; exact h2, occL_mono hle.K h3, h4, h5, fun o => (Kn.put_ne _ _ _ _ (hne k h1)).trans (h6 o)⟩
    | fz x =>
      obtain ⟨k, c', h1, h2, h3⟩ := hx
      exact ⟨k, c', h1, occ_mono hle.K h2, fun j v hj => hle.K _ _ _ (h3 j v hj)⟩
  · change G.K.put b lo vs c u = some v at e
    by_cases hcb : c = b
    · subst hcb
      rw [cell_cells hrow]
      simp only [Kn.put] at e
      split at e
      · rename_i hc
        have h2 : (splice cs.toList lo vs)[u]? = vs[u - lo]? := by
          simp only [splice]
          rw [List.append_assoc, List.getElem?_append_right (by simp; omega), List.getElem?_append_left (by simp; omega)]
          congr 1
          simp
          omega
        rw [← List.getElem?_toArray] at h2
        rw [h2, e]
      · rename_i hc
        have h1 := hh.know c u v e
        rw [cell_cells hw] at h1
        have hu : u < cs.size := (Array.getElem?_eq_some_iff.1 h1).1
        have h2 : (splice cs.toList lo vs)[u]? = cs.toList[u]? := by
          simp only [splice]
          by_cases hlt : u < lo
          · rw [List.append_assoc, List.getElem?_append_left (by simp; omega), List.getElem?_take_of_lt hlt]
          · have hge : lo + vs.length ≤ u := by
              rcases Nat.lt_or_ge u (lo + vs.length) with h1 | h1
              · exact absurd ⟨trivial, by omega, h1⟩ hc
              · exact h1
            have hlen : (List.take lo cs.toList ++ vs).length = lo + vs.length := by
              rw [List.length_append, List.length_take, Nat.min_eq_left (by simp; omega)]
            rw [List.getElem?_append_right (by omega), List.getElem?_drop, hlen]
            congr 1
            omega
        rw [← List.getElem?_toArray] at h2
        rw [h2]
        simpa using h1
    · rw [Kn.put_ne _ _ _ _ hcb] at e
      rw [cell_heap (setRow_other hcb)]
      exact hh.know c u v e
  · have := hh.tok u tk1 n1 e1 e2
    unfold Tk.ok at this ⊢
    split
    · rename_i he
      simpa [he] using this
    · rename_i c p he
      simp only [he] at this
      refine ⟨this.1, this.2.1, fun hn => ?_⟩
      obtain ⟨d, ty', h1, h2, h3, h4⟩ := this.2.2 hn
      by_cases hcb : c = b
      · subst hcb
        rw [hw] at h1
        injection h1 with h1
        injection h1 with h1 _
        subst h1
        have := htok u tk1 n1 p e1 e2 he hn
        refine ⟨_, ty, hrow, ?_, fun j hj1 hj2 => (Kn.put_out _ _ _ _ (by right; omega)).trans (h3 j hj1 hj2), h4⟩
        have := splice_length (cs := cs.toList) (vs := vs) (off := lo) (by simpa using hfit)
        simp only [List.size_toArray, this]
        simpa using h2
      · exact ⟨d, ty', by rw [setRow_other hcb]; exact h1, h2, fun j hj1 hj2 => (Kn.put_ne _ _ _ _ hcb).trans (h3 j hj1 hj2), h4⟩

/-- append where there is room. -/
theorem append_room {G : Gh} {h : List Box} {w : World} (hh : HeapOK G h w) {t : Nat} {tk : Tk} {m n b o : Nat} {cs : Array Value} {ty : TypeId} {vs : List Value} (ht : G.tk[t]? = some tk) (hk : G.k[t]? = some (some m)) (hb : tk.base = some (b, o))
    (hmn : m < n) (hn : n ≤ tk.cap) (hvs : vs.length = (n - m) * tk.sz) (hw : w.heap[b]? = some (.cells cs ty (0, 0))) :
    let G' := { (G.setTok t tk n) with K := G.K.put b (o + m * tk.sz) vs }
    let w' := w.setRow b (splice cs.toList (o + m * tk.sz) vs).toArray
    HeapOK G' h w' ∧ Ext G G' w w' := by
  intro G' w'
  have htok := hh.tok t tk m ht hk
  simp only [Tk.ok, hb] at htok
  obtain ⟨hsz, _, htok⟩ := htok
  obtain ⟨cs', ty', hw', hsize, hfree, hmu⟩ := htok (by omega)
  rw [hw] at hw'
  injection hw' with hw'
  injection hw' with hcs hty
  subst hcs
  subst hty
  have hmul : m * tk.sz + vs.length = n * tk.sz := by rw [hvs, ← Nat.add_mul]; congr 1; omega
  have hcap : n * tk.sz ≤ tk.cap * tk.sz := Nat.mul_le_mul_right _ hn
  have hmn' : m * tk.sz ≤ n * tk.sz := Nat.mul_le_mul_right _ (by omega)
  have hnone : ∀ j, j < vs.length → G.K b (o + m * tk.sz + j) = none := fun j hj => by
    have := hfree (m * tk.sz + j) (by omega) (by omega)
    rwa [← Nat.add_assoc] at this
  have htl : t < G.k.length := (List.getElem?_eq_some_iff.1 hk).1
  have htl' : t < G.tk.length := (List.getElem?_eq_some_iff.1 ht).1
  obtain ⟨h1, h2⟩ := set_tok hh (t := t) (tk := tk) (n := n) htl
    (by
      simp only [Tk.ok, hb]
      exact ⟨⟨hsz.1, fun h => by omega⟩, hn, fun _ => ⟨cs, ty, hw, hsize, fun j hj1 hj2 => hfree j (by omega) hj2, hmu⟩⟩)
    (fun m' e => by
      rw [hk] at e
      injection e with e
      injection e with e
      exact .inl (by omega))
    (fun t' tk' n' c p p' hne e1 e2 e3 e4 => by
      rcases hh.tokinj t t' tk tk' m n' c p p' hne.symm ht e1 hk e2 e3 e4 with h5 | h5
      · omega
      · exact .inr h5)
  obtain ⟨h3, h4⟩ := write_known h1 (b := b) (lo := o + m * tk.sz) (vs := vs) hw (by omega) hnone hmu
    (fun u tk' n' p e1 e2 e3 e4 => by
      by_cases hu : t = u
      · subst hu
        simp only [Gh.setTok] at e1 e2
        rw [List.getElem?_set_self htl'] at e1
        rw [List.getElem?_set_self htl] at e2
        injection e1 with e1
        injection e2 with e2
        injection e2 with e2
        subst e1
        subst e2
        rw [hb] at e3
        injection e3 with e3
        injection e3 with _ e3
        subst e3
        omega
      · simp only [Gh.setTok] at e1 e2
        rw [List.getElem?_set_ne hu] at e1 e2
        rcases hh.tokinj t u tk tk' m n' b o p hu ht e1 hk e2 hb e3 with h5 | h5 <;> omega)
  have hown : G.owns b := .inr ⟨t, tk, m, o, ht, hk, hb, by omega⟩
  refine ⟨h3, h2.trans h4, rfl, rfl, rfl, by rw [setRow_size]; exact Nat.le_refl _, fun blk _ ho => setRow_other (fun e => ho (e ▸ hown)), fun c p _ ho => Kn.put_ne _ _ _ _ (fun e => ho (e ▸ hown)), fun blk _ ho => ?_, fun _ _ e => .inl e⟩
  rcases ho with ⟨c, e⟩ | ⟨u, tk', n', p, e1, e2, e3, e4⟩
  · exact .inl ⟨c, e⟩
  · by_cases hu : t = u
    · subst hu
      simp only [G', Gh.setTok] at e1 e2
      rw [List.getElem?_set_self htl'] at e1
      injection e1 with e1
      subst e1
      rw [hb] at e3
      injection e3 with e3
      injection e3 with e3 _
      exact e3 ▸ hown
    · simp only [G', Gh.setTok] at e1 e2
      rw [List.getElem?_set_ne hu] at e1 e2
      exact .inr ⟨u, tk', n', p, e1, e2, e3, e4⟩

/-- A box that isn't written any more: its cells are known from now on. -/
theorem freeze_box {G : Gh} {h : List Box} {w : World} (hh : HeapOK G h w) {b blk : Nat} {x : D} {cs : Array Value} {ty : TypeId} (hm : G.mu[b]? = some (some blk)) (hw : w.heap[blk]? = some (.cells cs ty (0, 0)))
    (hK : ∀ o, G.K blk o = none) (hx : Occ G.K x cs.toList) :
    HeapOK { G with K := G.K.put blk 0 cs.toList } (h.set b (.fz x)) w ∧ Ext G { G with K := G.K.put blk 0 cs.toList } w w := by
  have hle : G.le { G with K := G.K.put blk 0 cs.toList } :=
    ⟨Kn.put_le _ _ _ _ (fun j _ => hK _), fun _ _ e => e, fun _ n e => ⟨n, e, Nat.le_refl _, fun _ => rfl, fun tk h => ⟨tk, h⟩⟩⟩
  have hbl : b < h.length := by rw [← hh.mulen]; exact (List.getElem?_eq_some_iff.1 hm).1
  have hown : G.owns blk := .inl ⟨b, hm⟩
  refine ⟨⟨by simp [hh.mulen], hh.tklen, hh.inj, hh.lt, fun c y hc => ?_, fun c u v e => ?_, fun u tk1 n1 e1 e2 => ?_, hh.tokinj⟩,
    ⟨hle, rfl, rfl, rfl, Nat.le_refl _, fun _ _ _ => rfl, fun c o _ ho => Kn.put_ne _ _ _ _ (fun e => ho (e ▸ hown)), fun _ _ h => h, fun _ _ e => .inl e⟩⟩
  · by_cases hcb : b = c
    · subst hcb
      rw [List.getElem?_set_self hbl] at hc
      cases hc
      refine ⟨blk, cs.toList, hm, occ_mono hle.K hx, fun j v hj => ?_⟩
      have := Kn.put_in G.K blk 0 cs.toList hj
      rwa [Nat.zero_add] at this
    · rw [List.getElem?_set_ne hcb] at hc
      have hy := hh.boxes c y hc
      have hne : ∀ k, G.mu[c]? = some (some k) → k ≠ blk := fun k e1 e2 => hcb (hh.inj b c blk hm (e2 ▸ e1))
      cases y with
      | hole => exact hy
      | var v =>
        obtain ⟨k, c', t, h1, h2, h3, h4⟩ := hy
        exact ⟨k, c', t, h1, h2, occA_le hle h3, fun o => (Kn.put_ne _ _ _ _ (hne k h1)).trans (h4 o)⟩
      | row l sz =>
        obtain ⟨k, c', t, h1, h2, h3, h4, h5, h6⟩ := hy
        exact ⟨k, c', t, h1, h2, occL_mono hle.K h3, h4, h5, fun o => (Kn.put_ne _ _ _ _ (hne k h1)).trans (h6 o)⟩
      | fz x =>
        obtain ⟨k, c', h1, h2, h3⟩ := hy
        exact ⟨k, c', h1, occ_mono hle.K h2, fun j v hj => hle.K _ _ _ (h3 j v hj)⟩
  · change G.K.put blk 0 cs.toList c u = some v at e
    by_cases hcb : c = blk
    · subst hcb
      rw [cell_cells hw]
      simp only [Kn.put] at e
      split at e
      · simpa using e
      · rw [hK] at e; cases e
    · rw [Kn.put_ne _ _ _ _ hcb] at e
      exact hh.know c u v e
  · have := hh.tok u tk1 n1 e1 e2
    unfold Tk.ok at this ⊢
    split
    · rename_i he
      simpa [he] using this
    · rename_i c p he
      simp only [he] at this
      refine ⟨this.1, this.2.1, fun hn => ?_⟩
      obtain ⟨d, ty', h1, h2, h3, h4⟩ := this.2.2 hn
      exact ⟨d, ty', h1, h2, fun j hj1 hj2 => (Kn.put_ne _ _ _ _ (fun e => h4 b (by rw [e]; exact hm))).trans (h3 j hj1 hj2), h4⟩

/-- Room for new boxes and tokens. -/
def Gh.more (G : Gh) (a c : Nat) : Gh := { G with mu := G.mu ++ List.replicate a none, k := G.k ++ List.replicate c none, tk := G.tk ++ List.replicate c ⟨none, 0, 0⟩ }
theorem app_rep {α : Type} {l : List α} {n i : Nat} {d x : α} (h : (l ++ List.replicate n d)[i]? = some x) : l[i]? = some x ∨ x = d := by
  by_cases hi : i < l.length
  · rw [List.getElem?_append_left hi] at h
    exact .inl h
  · rw [List.getElem?_append_right (by omega)] at h
    exact .inr (List.eq_of_mem_replicate (List.mem_of_getElem? h))
theorem app_left {α : Type} {l m : List α} {i : Nat} {x : α} (h : l[i]? = some x) : (l ++ m)[i]? = some x := by
  rw [List.getElem?_append_left (List.getElem?_eq_some_iff.1 h).1]
  exact h
theorem reserve {G : Gh} {h : List Box} {w : World} (hh : HeapOK G h w) (a c : Nat) : HeapOK (G.more a c) (h ++ List.replicate a .hole) w ∧ Ext G (G.more a c) w w := by
  have hmu : ∀ b blk : Nat, (G.more a c).mu[b]? = some (some blk) → G.mu[b]? = some (some blk) := fun b blk e => by
    rcases app_rep e with h1 | h1
    · exact h1
    · cases h1
  have hk : ∀ t n : Nat, (G.more a c).k[t]? = some (some n) → G.k[t]? = some (some n) := fun t n e => by
    rcases app_rep e with h1 | h1
    · exact h1
    · cases h1
  have htk : ∀ (t n : Nat) (tk : Tk), G.k[t]? = some (some n) → (G.more a c).tk[t]? = some tk → G.tk[t]? = some tk := fun t n tk e1 e2 => by
    have hl : t < G.tk.length := by rw [hh.tklen]; exact (List.getElem?_eq_some_iff.1 e1).1
    simp only [Gh.more] at e2
    rwa [List.getElem?_append_left hl] at e2
  have hle : G.le (G.more a c) := by
    refine ⟨fun _ _ _ e => e, fun _ _ e => app_left e, fun t n e => ⟨n, app_left e, Nat.le_refl _, fun _ => ?_, fun tk h => ⟨tk, app_left h⟩⟩⟩
    have hl : t < G.tk.length := by rw [hh.tklen]; exact (List.getElem?_eq_some_iff.1 e).1
    simp only [Gh.more]
    rw [List.getElem?_append_left hl]
  refine ⟨⟨by simp [Gh.more, hh.mulen], by simp [Gh.more, hh.tklen], fun b b' blk e e' => hh.inj b b' blk (hmu _ _ e) (hmu _ _ e'), fun b blk e => hh.lt b blk (hmu _ _ e), fun b x hb => ?_, hh.know, fun t tk n e1 e2 => ?_,
      fun t t' tk tk' n n' b o o' hne e1 e2 e3 e4 e5 e6 => hh.tokinj t t' tk tk' n n' b o o' hne (htk _ _ _ (hk _ _ e3) e1) (htk _ _ _ (hk _ _ e4) e2) (hk _ _ e3) (hk _ _ e4) e5 e6⟩,
    ⟨hle, rfl, rfl, rfl, Nat.le_refl _, fun _ _ _ => rfl, fun _ _ _ _ => rfl, fun blk _ ho => ?_, fun b blk e => .inl (hmu _ _ e)⟩⟩
  · rcases app_rep hb with h1 | rfl
    · have hx := hh.boxes b x h1
      cases x with
      | hole => exact app_left hx
      | var v =>
        obtain ⟨k, c', t, h1, h2, h3, h4⟩ := hx
        exact ⟨k, c', t, app_left h1, h2, occA_le hle h3, h4⟩
      | row l sz =>
        obtain ⟨k, c', t, h1, h2, h3, h4, h5, h6⟩ := hx
        exact ⟨k, c', t, app_left h1, h2, h3, h4, h5, h6⟩
      | fz x =>
        obtain ⟨k, c', h1, h2, h3⟩ := hx
        exact ⟨k, c', app_left h1, h2, h3⟩
    · by_cases hl : b < h.length
      · rw [List.getElem?_append_left hl] at hb
        exact app_left (hh.boxes b _ hb)
      · have hbl := (List.getElem?_eq_some_iff.1 hb).1
        simp only [List.length_append, List.length_replicate] at hbl
        show (G.mu ++ List.replicate a none)[b]? = some none
        rw [List.getElem?_append_right (by rw [hh.mulen]; omega), List.getElem?_replicate, if_pos (by rw [hh.mulen]; omega)]
  · have h2 := hk _ _ e2
    have := hh.tok t tk n (htk _ _ _ h2 e1) h2
    unfold Tk.ok at this ⊢
    split
    · rename_i he
      simpa [he] using this
    · rename_i b p he
      simp only [he] at this
      refine ⟨this.1, this.2.1, fun hn => ?_⟩
      obtain ⟨d, ty', h1, h2, h3, h4⟩ := this.2.2 hn
      exact ⟨d, ty', h1, h2, h3, fun i e => h4 i (hmu _ _ e)⟩
  · rcases ho with ⟨b, e⟩ | ⟨t, tk, n, o, e1, e2, e3, e4⟩
    · exact .inl ⟨b, hmu _ _ e⟩
    · exact .inr ⟨t, tk, n, o, htk _ _ _ (hk _ _ e2) e1, hk _ _ e2, e3, e4⟩
end Go.Am
