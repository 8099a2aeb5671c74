/- The abstract machine, part 24: more steps that change nothing but what is said. -/
import Derived.Test.YtbhgeilmhknnaaaGreatDoorAmNil
namespace Go.Am
theorem freeze_row {G : Gh} {h : List Box} {w : World} (hh : HeapOK G h w) {b blk : Nat} {x : D} {cs : Array Value} {ty : TypeId} {m : Nat} (hm : G.mu[b]? = some (some blk)) (hw : w.heap[blk]? = some (.cells cs ty (0, 0)))
    (hK : ∀ o, G.K blk o = none) (hx : Occ G.K x (cs.toList.take m)) :
    HeapOK { G with K := G.K.put blk 0 cs.toList } (h.set b (.fz x)) w ∧ Ext G { G with K := G.K.put blk 0 cs.toList } w w := by
  have hle : G.le { G with K := G.K.put blk 0 cs.toList } :=
    ⟨Kn.put_le _ _ _ _ (fun j _ => hK _), fun _ _ e => e, fun _ n e => ⟨n, e, Nat.le_refl _, fun _ => rfl, fun tk h => ⟨tk, h⟩⟩⟩
  have hbl : b < h.length := by rw [← hh.mulen]; exact (List.getElem?_eq_some_iff.1 hm).1
  have hown : G.owns blk := .inl ⟨b, hm⟩
  refine ⟨⟨by simp [hh.mulen], hh.tklen, hh.inj, hh.lt, fun c y hc => ?_, fun c u v e => ?_, fun u tk1 n1 e1 e2 => ?_, hh.tokinj⟩,
    ⟨hle, rfl, rfl, rfl, Nat.le_refl _, fun _ _ _ => rfl, fun c o _ ho => Kn.put_ne _ _ _ _ (fun e => ho (e ▸ hown)), fun _ _ h => h, fun _ _ e => .inl e⟩⟩
  · by_cases hcb : b = c
    · subst hcb
      rw [List.getElem?_set_self hbl] at hc
      cases hc
      refine ⟨blk, cs.toList.take m, hm, occ_mono hle.K hx, fun j v hj => ?_⟩
      have := Kn.put_in G.K blk 0 cs.toList (take_get hj)
      rwa [Nat.zero_add] at this
    · rw [List.getElem?_set_ne hcb] at hc
      have hy := hh.boxes c y hc
      have hne : ∀ k, G.mu[c]? = some (some k) → k ≠ blk := fun k e1 e2 => hcb (hh.inj b c blk hm (e2 ▸ e1))
      cases y with
      | hole => exact hy
      | var v =>
        obtain ⟨k, c', t, h1, h2, h3, h4⟩ := hy
        exact ⟨k, c', t, h1, h2, occA_le hle h3, fun o => (Kn.put_ne _ _ _ _ (hne k h1)).trans (h4 o)⟩
      | row l sz =>
        obtain ⟨k, c', t, h1, h2, h3, h4, h5, h6⟩ := hy
        exact ⟨k, c', t, h1, h2, occL_mono hle.K h3, h4, h5, fun o => (Kn.put_ne _ _ _ _ (hne k h1)).trans (h6 o)⟩
      | fz x =>
        obtain ⟨k, c', h1, h2, h3⟩ := hy
        exact ⟨k, c', h1, occ_mono hle.K h2, fun j v hj => hle.K _ _ _ (h3 j v hj)⟩
  · change G.K.put blk 0 cs.toList c u = some v at e
    by_cases hcb : c = blk
    · subst hcb
      rw [cell_cells hw]
      simp only [Kn.put] at e
      split at e
      · simpa using e
      · rw [hK] at e; cases e
    · rw [Kn.put_ne _ _ _ _ hcb] at e
      exact hh.know c u v e
  · have := hh.tok u tk1 n1 e1 e2
    unfold Tk.ok at this ⊢
    split
    · rename_i he
      simpa [he] using this
    · rename_i c p he
      simp only [he] at this
      refine ⟨this.1, this.2.1, fun hn => ?_⟩
      obtain ⟨d, ty', h1, h2, h3, h4⟩ := this.2.2 hn
      exact ⟨d, ty', h1, h2, fun j hj1 hj2 => (Kn.put_ne _ _ _ _ (fun e => h4 b (by rw [e]; exact hm))).trans (h3 j hj1 hj2), h4⟩

section
variable {P : Program} {B : Base} {Q : Exit → AS → Prop} {n : Nat} {l0 : List (Nat × AV)} {h0 : List Box} {k0 : List (Option Nat)}
theorem occAL_split {G : Gh} : ∀ {l : List AV} {cs : List Value}, OccAL G l cs → ∀ {i : Nat} {x : AV}, l[i]? = some x → ∃ c1 c2 c3, cs = c1 ++ (c2 ++ c3) ∧ OccA G x c2 ∧ ∀ (G' : Gh) (y : AV), G.le G' → OccA G' y c2 → OccAL G' (l.set i y) cs
  | _, _, .nil, i, x, hx => by simp at hx
  | _, _, .cons (cs := cs) (ds := ds) (l := l) h t, 0, x, hx => by
    simp only [List.getElem?_cons_zero, Option.some.injEq] at hx
    subst hx
    refine ⟨[], cs, ds, rfl, h, fun G' y hle hy => .cons hy ?_⟩
    have := occA_le hle (.agg t)
    cases this with
    | agg h => exact h
  | _, _, .cons (cs := cs) (ds := ds) h t, i + 1, x, hx => by
    obtain ⟨c1, c2, c3, rfl, h1, h2⟩ := occAL_split t (i := i) (by simpa using hx)
    exact ⟨cs ++ c1, c2, c3, by simp, h1, fun G' y hle hy => .cons (occA_le hle h) (h2 G' y hle hy)⟩
/-- A slice in a part of a box becomes one that is appended to. -/
theorem wk_adoptB (j i t : Nat) (l : List AV) (d : List D) {h : List Box} {k : List (Option Nat)} (he : (h0[j]?, l[i]?, k0[t]?, h0.set j (.var (.agg (l.set i (.own d t)))), k0.set t (some d.length)) = (some (.var (.agg l)), some (.full d), some none, h, k)) :
    Wk B (st n l0 h0 k0) (st n l0 h k) := by
  simp only [Prod.mk.injEq] at he
  obtain ⟨e1, e2, e3, rfl, rfl⟩ := he
  rintro a w ⟨G, hs, hx⟩
  have hh := hs.heap
  obtain ⟨blk, cs, ty, g1, g2, g3, g4⟩ := hh.boxes j _ e1
  have g3' : OccAL G l cs.toList := by
    cases g3 with
    | agg h => exact h
  obtain ⟨c1, c2, c3, hcs, hA, hput⟩ := occAL_split g3' e2
  have hlen := (occA_size hA).1
  obtain ⟨c, rfl⟩ : ∃ c, c2 = [c] := by
    match c2, hlen with
    | [c], _ => exact ⟨c, rfl⟩
  have hk : G.k[t]? = some none := by rw [hs.k]; exact e3
  obtain ⟨G', q1, q2, q3, q4⟩ := adopt hh (.one rfl hA) hk
  have hj : j < h0.length := (List.getElem?_eq_some_iff.1 e1).1
  refine ⟨G', ⟨⟨?_, q1.tklen, q1.inj, q1.lt, fun b x hb => ?_, q1.know, q1.tok, q1.tokinj⟩, ?_, hs.defers, hs.size, fun i => occV_le q3.le (hs.tmp i)⟩, hx.trans q3⟩
  · show G'.mu.length = (h0.set j _).length
    rw [List.length_set]; exact q1.mulen
  · have hb : (h0.set j (.var (.agg (l.set i (.own d t)))))[b]? = some x := hb
    by_cases hjb : j = b
    · subst hjb
      rw [List.getElem?_set_self hj] at hb
      cases hb
      obtain ⟨blk', cs', ty', r1, r2, r3, r4⟩ := q1.boxes j _ e1
      have hbk : blk' = blk := by
        have := q3.le.mu j blk g1
        rw [r1] at this
        injection this with this
        injection this
      subst hbk
      rw [g2] at r2
      cases r2
      exact ⟨blk', cs, ty, r1, g2, .agg (hput G' _ q3.le (occV_leaf q4 rfl rfl)), r4⟩
    · rw [List.getElem?_set_ne hjb] at hb
      exact q1.boxes b x hb
  · rw [q2, hs.k]
    rfl
def setT (i : Nat) (y : AV) : List (Nat × AV) → List (Nat × AV)
  | [] => []
  | (j, v) :: r => (j, bif Nat.beq j i then y else v) :: setT i y r
theorem look_setT {i : Nat} {y : AV} : ∀ (l0 : List (Nat × AV)) (j : Nat), look (setT i y l0) j = look l0 j ∨ (j = i ∧ look (setT i y l0) j = y)
  | [], j => .inl rfl
  | (m, v) :: r, j => by
    simp only [setT, look]
    cases h0 : Nat.beq j m with
    | false => exact look_setT r j
    | true =>
      have h0 := Nat.eq_of_beq_eq_true h0
      subst h0
      cases h1 : Nat.beq j i with
      | false => exact .inl rfl
      | true => exact .inr ⟨Nat.eq_of_beq_eq_true h1, rfl⟩
/-- A row is written no more: a slice of all of it is data. -/
theorem wk_frz (i b sz m : Nat) (l : List D) {l1 : List (Nat × AV)} {h : List Box} (hm : m = l.length) (he : (look l0 i, h0[b]?, setT i (.d (.sl l)) l0, h0.set b (.fz (.agg l))) = (.msl b m, some (.row l sz), l1, h)) : Wk B (st n l0 h0 k0) (st n l1 h k0) := by
  simp only [Prod.mk.injEq] at he
  obtain ⟨e0, e1, rfl, rfl⟩ := he
  subst hm
  rintro a w ⟨G, hs, hx⟩
  have hh := hs.heap
  obtain ⟨blk, cs, ty, g1, g2, g3, g4, g5, g6⟩ := hh.boxes b _ e1
  obtain ⟨q1, q2⟩ := freeze_row hh (m := l.length * sz) g1 g2 g6 (.agg g3)
  have hrow : OccR (G.K.put blk 0 cs.toList) l blk 0 sz := occR_of (occL_mono q2.le.K g3) g4 (fun j u hj => by
    have := Kn.put_in G.K blk 0 cs.toList (take_get hj)
    exact this)
  refine ⟨_, ⟨q1, hs.k, hs.defers, hs.size, fun j => ?_⟩, hx.trans q2⟩
  have ht : OccV G (look l0 j) (a.tmps.getD j undef) := hs.tmp j
  show OccV _ (look (setT i (.d (.sl l)) l0) j) _
  rcases look_setT (i := i) (y := .d (.sl l)) l0 j with h1 | ⟨h1, h2⟩
  · rw [h1]; exact occV_le q2.le ht
  · rw [h2]
    subst h1
    rw [e0] at ht
    generalize a.tmps.getD j undef = c at ht
    cases occV_leaf ht rfl rfl with
    | msl hmu hcap =>
      rename_i cap blk'
      rw [g1] at hmu
      injection hmu with hmu
      injection hmu with hmu
      subst hmu
      exact .one rfl (.d (.sl g5 hcap hrow))
theorem wk_hole (x : Nat) : Wk B (st n l0 h0 k0) (st n l0 (h0 ++ List.replicate x .hole) k0) := by
  intro a w hi
  have := hi.reserve x 0
  simpa [st] using this
theorem row_app {P : Program} {α : Type} {t tx s by_ : Nat} {b b' : Bool} {s' y' : Nat} {f : α → D} {m : List α} {v : AV} {h : List Box} {nb : Nat} (hsl : sle P t = some (s, b, by_)) (h' : sle P tx = some (s', b', y')) (hb : 0 < by_) (hs : ∀ x, (f x).size = s)
    (hv : v.items = some (m.map f)) (hk : h[nb]? = some .hole) (hc : (decide (m.length * by_ ≤ 140737488355328) && !(m.length == 0)) = true) : evAppR P t tx (.full []) v h nb = some (.box nb (.row (m.map f) s) (.msl nb m.length)) := by
  simp only [Bool.and_eq_true, decide_eq_true_eq, Bool.not_eq_true', beq_eq_false_iff_ne, ne_eq] at hc
  simp only [evAppR, hsl, h', hv, hk, List.length_map]
  rw [if_pos ⟨hb, hc.1, hc.2, all_size hs m⟩]
end
end Go.Am
