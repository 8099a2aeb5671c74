/- The abstract machine, part 1: values by content, and how they lie in memory. -/
import Derived.Laws.Cells
import Derived.Laws.IdiomCopy
import Derived.Below
namespace Go.Am

/-- Data by content: no address in it. -/
inductive D where
  | bool (b : Bool)
  | int (k : IntKind) (n : Int)
  | str (l : List UInt8)
  | agg (l : List D)
  | sl (l : List D)

mutual
def D.size : D → Nat
  | .agg l => D.sizeL l
  | .bool _ => 1
  | .int _ _ => 1
  | .str _ => 1
  | .sl _ => 1
def D.sizeL : List D → Nat
  | [] => 0
  | x :: l => x.size + D.sizeL l
end

def D.isAgg : D → Bool
  | .agg _ => true
  | _ => false

/-- What is known of memory, and stays so: cells by block and offset. -/
abbrev Kn := Nat → Nat → Option Value

mutual
inductive Occ (K : Kn) : D → List Value → Prop where
  | bool (b : Bool) : Occ K (.bool b) [.bool b]
  | int (k : IntKind) (n : Int) : Occ K (.int k n) [.int k n]
  | str (l : List UInt8) : Occ K (.str l) [.string ⟨l.toArray⟩]
  | agg {l : List D} {cs : List Value} (h : OccL K l cs) : Occ K (.agg l) cs
  | nils : Occ K (.sl []) [.slice none 0 0]
  | sl {l : List D} {b o cap sz : Nat} (hsz : 0 < sz) (hc : l.length ≤ cap) (h : OccR K l b o sz) : Occ K (.sl l) [.slice (some ⟨b, o, none⟩) l.length cap]
inductive OccL (K : Kn) : List D → List Value → Prop where
  | nil : OccL K [] []
  | cons {x : D} {l : List D} {cs ds : List Value} (h : Occ K x cs) (t : OccL K l ds) : OccL K (x :: l) (cs ++ ds)
inductive OccR (K : Kn) : List D → Nat → Nat → Nat → Prop where
  | nil {b o sz : Nat} : OccR K [] b o sz
  | cons {x : D} {l : List D} {b o sz : Nat} {cs : List Value} (h : Occ K x cs) (hn : cs.length = sz)
      (hk : ∀ j v, cs[j]? = some v → K b (o + j) = some v) (t : OccR K l b (o + sz) sz) : OccR K (x :: l) b o sz
end

theorem occ_mono {K K' : Kn} (hk : ∀ b o v, K b o = some v → K' b o = some v) {x : D} {cs : List Value} (h : Occ K x cs) : Occ K' x cs :=
  Occ.rec (motive_1 := fun x cs _ => Occ K' x cs) (motive_2 := fun l cs _ => OccL K' l cs) (motive_3 := fun l b o sz _ => OccR K' l b o sz)
    (fun b => .bool b) (fun k n => .int k n) (fun l => .str l) (fun _ h => .agg h) .nils (fun hsz hc _ h => .sl hsz hc h)
    .nil (fun _ _ h t => .cons h t) .nil (fun _ hn hc _ h t => .cons h hn (fun j v hj => hk _ _ _ (hc j v hj)) t) h
theorem occL_mono {K K' : Kn} (hk : ∀ b o v, K b o = some v → K' b o = some v) {x : List D} {cs : List Value} (h : OccL K x cs) : OccL K' x cs :=
  OccL.rec (motive_1 := fun x cs _ => Occ K' x cs) (motive_2 := fun l cs _ => OccL K' l cs) (motive_3 := fun l b o sz _ => OccR K' l b o sz)
    (fun b => .bool b) (fun k n => .int k n) (fun l => .str l) (fun _ h => .agg h) .nils (fun hsz hc _ h => .sl hsz hc h)
    .nil (fun _ _ h t => .cons h t) .nil (fun _ hn hc _ h t => .cons h hn (fun j v hj => hk _ _ _ (hc j v hj)) t) h
theorem occR_mono {K K' : Kn} (hk : ∀ b o v, K b o = some v → K' b o = some v) {x : List D} {b o sz : Nat} (h : OccR K x b o sz) : OccR K' x b o sz :=
  OccR.rec (motive_1 := fun x cs _ => Occ K' x cs) (motive_2 := fun l cs _ => OccL K' l cs) (motive_3 := fun l b o sz _ => OccR K' l b o sz)
    (fun b => .bool b) (fun k n => .int k n) (fun l => .str l) (fun _ h => .agg h) .nils (fun hsz hc _ h => .sl hsz hc h)
    .nil (fun _ _ h t => .cons h t) .nil (fun _ hn hc _ h t => .cons h hn (fun j v hj => hk _ _ _ (hc j v hj)) t) h

theorem occ_size {K : Kn} {x : D} {cs : List Value} (h : Occ K x cs) : cs.length = x.size ∧ ∀ c ∈ cs, c.oneCell' = true :=
  Occ.rec (motive_1 := fun x cs _ => cs.length = x.size ∧ ∀ c ∈ cs, c.oneCell' = true) (motive_2 := fun l cs _ => cs.length = D.sizeL l ∧ ∀ c ∈ cs, c.oneCell' = true) (motive_3 := fun _ _ _ _ _ => True)
    (fun b => ⟨rfl, by simp [Value.oneCell']⟩) (fun k n => ⟨rfl, by simp [Value.oneCell']⟩) (fun l => ⟨rfl, by simp [Value.oneCell']⟩)
    (fun _ h => ⟨h.1, h.2⟩) ⟨rfl, by simp [Value.oneCell']⟩ (fun _ _ _ _ => ⟨rfl, by simp [Value.oneCell']⟩)
    ⟨rfl, by simp⟩ (fun _ _ h t => ⟨by simp [D.sizeL, h.1, t.1], fun c hc => by
      rcases List.mem_append.1 hc with hc | hc
      · exact h.2 c hc
      · exact t.2 c hc⟩) trivial (fun _ _ _ _ _ _ => trivial) h
theorem occL_size {K : Kn} {l : List D} {cs : List Value} (h : OccL K l cs) : cs.length = D.sizeL l ∧ ∀ c ∈ cs, c.oneCell' = true := by
  have := occ_size (Occ.agg h)
  simpa [D.size] using this

/-- The i-th element of a row. -/
theorem occR_get {K : Kn} : ∀ {l : List D} {b o sz : Nat}, OccR K l b o sz → ∀ {i : Nat} {x : D}, l[i]? = some x →
    ∃ cs, Occ K x cs ∧ cs.length = sz ∧ ∀ j v, cs[j]? = some v → K b (o + i * sz + j) = some v
  | [], _, _, _, _, i, x, hx => by simp at hx
  | y :: l, b, o, sz, .cons h hn hk t, i, x, hx => by
    cases i with
    | zero =>
      simp at hx
      subst hx
      exact ⟨_, h, hn, fun j v hj => by simpa using hk j v hj⟩
    | succ i =>
      obtain ⟨cs, h1, h2, h3⟩ := occR_get t (i := i) (by simpa using hx)
      refine ⟨cs, h1, h2, fun j v hj => ?_⟩
      have := h3 j v hj
      rwa [show o + (i + 1) * sz + j = o + sz + i * sz + j by rw [Nat.succ_mul]; omega]
theorem occR_drop {K : Kn} : ∀ {l : List D} {b o sz : Nat} (n : Nat), OccR K l b o sz → OccR K (l.drop n) b (o + n * sz) sz
  | _, _, _, _, 0, h => by simpa using h
  | [], _, _, _, n + 1, _ => by simpa using OccR.nil
  | x :: l, b, o, sz, n + 1, .cons _ _ _ t => by
    have := occR_drop n t
    simpa [Nat.succ_mul, Nat.add_assoc, Nat.add_comm sz] using this
theorem occR_take {K : Kn} : ∀ {l : List D} {b o sz : Nat} (n : Nat), OccR K l b o sz → OccR K (l.take n) b o sz
  | _, _, _, _, 0, _ => by simpa using OccR.nil
  | [], _, _, _, n + 1, _ => by simpa using OccR.nil
  | x :: l, b, o, sz, n + 1, .cons h hn hk t => .cons h hn hk (occR_take n t)
/-- All cells of a row, one behind the other. -/
theorem occR_cells {K : Kn} : ∀ {l : List D} {b o sz : Nat}, OccR K l b o sz →
    ∃ cs, OccL K l cs ∧ cs.length = l.length * sz ∧ ∀ j v, cs[j]? = some v → K b (o + j) = some v
  | [], _, _, _, _ => ⟨[], .nil, by simp, by simp⟩
  | x :: l, b, o, sz, .cons (cs := cs) h hn hk t => by
    obtain ⟨ds, h1, h2, h3⟩ := occR_cells t
    refine ⟨cs ++ ds, .cons h h1, by simp [hn, h2, Nat.succ_mul, Nat.add_comm], fun j v hj => ?_⟩
    by_cases hlt : j < cs.length
    · exact hk j v (by rwa [List.getElem?_append_left hlt] at hj)
    · rw [List.getElem?_append_right (by omega)] at hj
      have := h3 _ v hj
      rwa [hn, show o + sz + (j - sz) = o + j by omega] at this
/-- Elements of one size whose cells lie one behind the other are a row. -/
theorem occR_of {K : Kn} {sz : Nat} : ∀ {l : List D} {cs : List Value} {b o : Nat}, OccL K l cs → (∀ x ∈ l, x.size = sz) → (∀ j v, cs[j]? = some v → K b (o + j) = some v) → OccR K l b o sz
  | [], _, _, _, _, _, _ => .nil
  | x :: l, _, b, o, .cons (cs := cs) (ds := ds) h t, hs, hk => by
    have hn : cs.length = sz := (occ_size h).1.trans (hs x (by simp))
    refine .cons h hn (fun j v hj => hk j v ?_) (occR_of t (fun y hy => hs y (by simp [hy])) (fun j v hj => ?_))
    · have : j < cs.length := (List.getElem?_eq_some_iff.1 hj).1
      rw [List.getElem?_append_left this]
      exact hj
    · have := hk (sz + j) v (by rw [List.getElem?_append_right (by omega), hn, Nat.add_sub_cancel_left]; exact hj)
      rwa [← Nat.add_assoc] at this
theorem occR_sizes {K : Kn} : ∀ {l : List D} {b o sz : Nat}, OccR K l b o sz → ∀ x ∈ l, x.size = sz
  | [], _, _, _, _, x, hx => by simp at hx
  | y :: l, b, o, sz, .cons h hn _ t, x, hx => by
    rcases List.mem_cons.1 hx with rfl | hx
    · exact (occ_size h).1.symm.trans hn
    · exact occR_sizes t x hx
theorem occR_append {K : Kn} : ∀ {l m : List D} {b o sz : Nat}, OccR K l b o sz → OccR K m b (o + l.length * sz) sz → OccR K (l ++ m) b o sz
  | [], m, b, o, sz, _, h => by simpa using h
  | x :: l, m, b, o, sz, .cons h hn hk t, g => .cons h hn hk (occR_append t (by
      have : o + (x :: l).length * sz = o + sz + l.length * sz := by simp [Nat.succ_mul]; omega
      rwa [this] at g))
theorem occL_append {K : Kn} : ∀ {l m : List D} {cs ds : List Value}, OccL K l cs → OccL K m ds → OccL K (l ++ m) (cs ++ ds)
  | [], m, _, ds, .nil, h => by simpa using h
  | x :: l, m, _, ds, .cons h t, g => by
    rw [List.append_assoc]
    exact .cons h (occL_append t g)

/-! ### a part of data, by its offset and size in cells -/
mutual
def D.at_ : D → Nat → Nat → Bool → Option D
  | .agg l, off, sz, ag => if off = 0 ∧ sz = D.sizeL l ∧ ag = true then some (.agg l) else D.atL l off sz ag
  | .bool b, off, sz, ag => if off = 0 ∧ sz = 1 ∧ ag = false then some (.bool b) else none
  | .int k n, off, sz, ag => if off = 0 ∧ sz = 1 ∧ ag = false then some (.int k n) else none
  | .str l, off, sz, ag => if off = 0 ∧ sz = 1 ∧ ag = false then some (.str l) else none
  | .sl l, off, sz, ag => if off = 0 ∧ sz = 1 ∧ ag = false then some (.sl l) else none
def D.atL : List D → Nat → Nat → Bool → Option D
  | [], _, _, _ => none
  | x :: l, off, sz, ag => if off < x.size then x.at_ off sz ag else D.atL l (off - x.size) sz ag
end
mutual
def D.set_ : D → Nat → D → Option D
  | .agg l, off, v => if off = 0 ∧ v.size = D.sizeL l ∧ v.isAgg = true then some v else (D.setL l off v).map .agg
  | .bool _, off, v => if off = 0 ∧ v.size = 1 ∧ v.isAgg = false then some v else none
  | .int _ _, off, v => if off = 0 ∧ v.size = 1 ∧ v.isAgg = false then some v else none
  | .str _, off, v => if off = 0 ∧ v.size = 1 ∧ v.isAgg = false then some v else none
  | .sl _, off, v => if off = 0 ∧ v.size = 1 ∧ v.isAgg = false then some v else none
def D.setL : List D → Nat → D → Option (List D)
  | [], _, _ => none
  | x :: l, off, v => if off < x.size then (x.set_ off v).map (· :: l) else (D.setL l (off - x.size) v).map (x :: ·)
end

theorem take_drop_app {cs ds : List Value} {off sz : Nat} (h : cs.length ≤ off) : ((cs ++ ds).drop off).take sz = (ds.drop (off - cs.length)).take sz := by
  rw [List.drop_append, List.drop_of_length_le h, List.nil_append]
theorem take_drop_left {cs ds : List Value} {off sz : Nat} (h : off + sz ≤ cs.length) : ((cs ++ ds).drop off).take sz = (cs.drop off).take sz := by
  rw [List.drop_append_of_le_length (by omega), List.take_append_of_le_length (by simp; omega)]

mutual
theorem occ_at {K : Kn} : ∀ (x : D) {cs : List Value} {off sz : Nat} {ag : Bool} {y : D}, Occ K x cs → x.at_ off sz ag = some y →
    Occ K y ((cs.drop off).take sz) ∧ y.size = sz ∧ y.isAgg = ag ∧ off + sz ≤ cs.length
  | .agg l, cs, off, sz, ag, y, h, e => by
    simp only [D.at_] at e
    split at e
    · rename_i hc
      obtain ⟨rfl, rfl, rfl⟩ := hc
      cases e
      have hs := (occ_size h).1
      simp only [D.size] at hs
      refine ⟨?_, rfl, rfl, by omega⟩
      rw [List.drop_zero, ← hs, List.take_length]
      exact h
    · cases h with
      | agg h => exact occL_at l h e
  | .bool b, cs, off, sz, ag, y, h, e => by
    simp only [D.at_] at e
    split at e
    · rename_i hc
      obtain ⟨rfl, rfl, rfl⟩ := hc
      cases e
      cases h
      exact ⟨.bool b, rfl, rfl, by simp⟩
    · cases e
  | .int k n, cs, off, sz, ag, y, h, e => by
    simp only [D.at_] at e
    split at e
    · rename_i hc
      obtain ⟨rfl, rfl, rfl⟩ := hc
      cases e
      cases h
      exact ⟨.int k n, rfl, rfl, by simp⟩
    · cases e
  | .str l, cs, off, sz, ag, y, h, e => by
    simp only [D.at_] at e
    split at e
    · rename_i hc
      obtain ⟨rfl, rfl, rfl⟩ := hc
      cases e
      cases h
      exact ⟨.str l, rfl, rfl, by simp⟩
    · cases e
  | .sl l, cs, off, sz, ag, y, h, e => by
    simp only [D.at_] at e
    split at e
    · rename_i hc
      obtain ⟨rfl, rfl, rfl⟩ := hc
      cases e
      have hs := (occ_size h).1
      simp only [D.size] at hs
      refine ⟨?_, rfl, rfl, by omega⟩
      rw [List.drop_zero, ← hs, List.take_length]
      exact h
    · cases e
theorem occL_at {K : Kn} : ∀ (l : List D) {cs : List Value} {off sz : Nat} {ag : Bool} {y : D}, OccL K l cs → D.atL l off sz ag = some y →
    Occ K y ((cs.drop off).take sz) ∧ y.size = sz ∧ y.isAgg = ag ∧ off + sz ≤ cs.length
  | [], _, _, _, _, _, _, e => by simp [D.atL] at e
  | x :: l, _, off, sz, ag, y, .cons (cs := cs) (ds := ds) h t, e => by
    simp only [D.atL] at e
    have hs := (occ_size h).1
    split at e
    · obtain ⟨h1, h2, h3, h4⟩ := occ_at x h e
      refine ⟨?_, h2, h3, by simp; omega⟩
      rw [take_drop_left h4]
      exact h1
    · obtain ⟨h1, h2, h3, h4⟩ := occL_at l t e
      refine ⟨?_, h2, h3, by simp; omega⟩
      rw [take_drop_app (by omega), hs]
      exact h1
end

/-- Cells with others in the place of some. -/
def splice (cs : List Value) (off : Nat) (vs : List Value) : List Value := cs.take off ++ vs ++ cs.drop (off + vs.length)
theorem splice_all {cs vs : List Value} (h : vs.length = cs.length) : splice cs 0 vs = vs := by simp [splice, h]
theorem splice_left {cs ds vs : List Value} {off : Nat} (h : off + vs.length ≤ cs.length) : splice (cs ++ ds) off vs = splice cs off vs ++ ds := by
  simp only [splice]
  rw [List.take_append_of_le_length (by omega), List.drop_append_of_le_length h]
  simp [List.append_assoc]
theorem splice_right {cs ds vs : List Value} {off : Nat} (h : cs.length ≤ off) : splice (cs ++ ds) off vs = cs ++ splice ds (off - cs.length) vs := by
  simp only [splice]
  rw [List.take_append, List.drop_append, List.take_of_length_le h, List.drop_of_length_le (by omega), List.nil_append, show off + vs.length - cs.length = off - cs.length + vs.length by omega]
  simp [List.append_assoc]
theorem splice_length {cs vs : List Value} {off : Nat} (h : off + vs.length ≤ cs.length) : (splice cs off vs).length = cs.length := by
  simp only [splice, List.length_append, List.length_take, List.length_drop]
  omega

mutual
theorem occ_set {K : Kn} : ∀ (x : D) {cs : List Value} {off : Nat} {v y : D} {vs : List Value}, Occ K x cs → Occ K v vs → x.set_ off v = some y →
    Occ K y (splice cs off vs) ∧ y.size = x.size ∧ off + vs.length ≤ cs.length
  | .agg l, cs, off, v, y, vs, h, hv, e => by
    simp only [D.set_] at e
    have hn := (occ_size hv).1
    have hs := (occ_size h).1
    split at e
    · rename_i hc
      obtain ⟨rfl, h2, _⟩ := hc
      cases e
      simp only [D.size] at hs
      rw [splice_all (by omega)]
      exact ⟨hv, h2, by omega⟩
    · cases h with
      | agg h =>
        obtain ⟨m, hm, rfl⟩ := Option.map_eq_some_iff.1 e
        obtain ⟨h1, h2, h3⟩ := occL_set l h hv hm
        exact ⟨.agg h1, h2, h3⟩
  | .bool b, cs, off, v, y, vs, h, hv, e => by
    simp only [D.set_] at e
    have hn := (occ_size hv).1
    have hs := (occ_size h).1
    split at e
    · rename_i hc
      obtain ⟨rfl, h2, _⟩ := hc
      cases e
      simp only [D.size] at hs
      rw [splice_all (by omega)]
      exact ⟨hv, h2, by omega⟩
    · cases e
  | .int k n, cs, off, v, y, vs, h, hv, e => by
    simp only [D.set_] at e
    have hn := (occ_size hv).1
    have hs := (occ_size h).1
    split at e
    · rename_i hc
      obtain ⟨rfl, h2, _⟩ := hc
      cases e
      simp only [D.size] at hs
      rw [splice_all (by omega)]
      exact ⟨hv, h2, by omega⟩
    · cases e
  | .str l, cs, off, v, y, vs, h, hv, e => by
    simp only [D.set_] at e
    have hn := (occ_size hv).1
    have hs := (occ_size h).1
    split at e
    · rename_i hc
      obtain ⟨rfl, h2, _⟩ := hc
      cases e
      simp only [D.size] at hs
      rw [splice_all (by omega)]
      exact ⟨hv, h2, by omega⟩
    · cases e
  | .sl l, cs, off, v, y, vs, h, hv, e => by
    simp only [D.set_] at e
    have hn := (occ_size hv).1
    have hs := (occ_size h).1
    split at e
    · rename_i hc
      obtain ⟨rfl, h2, _⟩ := hc
      cases e
      simp only [D.size] at hs
      rw [splice_all (by omega)]
      exact ⟨hv, h2, by omega⟩
    · cases e
theorem occL_set {K : Kn} : ∀ (l : List D) {cs : List Value} {off : Nat} {v : D} {m : List D} {vs : List Value}, OccL K l cs → Occ K v vs → D.setL l off v = some m →
    OccL K m (splice cs off vs) ∧ D.sizeL m = D.sizeL l ∧ off + vs.length ≤ cs.length
  | [], _, _, _, _, _, _, _, e => by simp [D.setL] at e
  | x :: l, _, off, v, m, vs, .cons (cs := cs) (ds := ds) h t, hv, e => by
    simp only [D.setL] at e
    have hs := (occ_size h).1
    split at e
    · obtain ⟨y, hy, rfl⟩ := Option.map_eq_some_iff.1 e
      obtain ⟨h1, h2, h3⟩ := occ_set x h hv hy
      rw [splice_left h3]
      exact ⟨.cons h1 t, by simp [D.sizeL, h2], by simp; omega⟩
    · obtain ⟨m', hm, rfl⟩ := Option.map_eq_some_iff.1 e
      obtain ⟨h1, h2, h3⟩ := occL_set l t hv hm
      rw [splice_right (by omega), hs]
      exact ⟨.cons h h1, by simp [D.sizeL, h2], by simp; omega⟩
end
end Go.Am
