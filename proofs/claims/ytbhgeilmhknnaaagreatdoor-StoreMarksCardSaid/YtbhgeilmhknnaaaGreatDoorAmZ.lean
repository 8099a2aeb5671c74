/- The abstract machine, part 18: zero values out of a table. -/
import Derived.Test.YtbhgeilmhknnaaaGreatDoorAmFn
import Derived.KernelRfl
namespace Go.Am

/-- The one cell of a plain zero. -/
def zcell : AV → Option Value
  | .d (.bool b) => some (.bool b)
  | .d (.int k n) => some (.int k n)
  | .d (.str []) => some (.string ⟨#[]⟩)
  | .full [] => some (.slice none 0 0)
  | .con v => if v.oneCell' = true then some v else none
  | _ => none
mutual
def zcells : AV → Option (List Value)
  | .agg l => zcellsL l
  | v => (zcell v).map fun c => [c]
def zcellsL : List AV → Option (List Value)
  | [] => some []
  | x :: l => match zcells x, zcellsL l with
    | some a, some b => some (a ++ b)
    | _, _ => none
end
def zval (v : AV) : Option Value :=
  match v with
  | .agg l => (zcellsL l).map fun cs => .agg cs.toArray
  | v => zcell v
theorem zcell_ok {v : AV} {c : Value} (h : zcell v = some c) (G : Gh) : OccA G v [c] ∧ v.isAgg = false ∧ v.solid = true := by
  unfold zcell at h
  split at h
  · cases h; exact ⟨.d (.bool _), rfl, rfl⟩
  · cases h; exact ⟨.d (.int _ _), rfl, rfl⟩
  · cases h
    have : OccV G (.d (.str [])) (.string ⟨[].toArray⟩) := occV_of_str []
    exact ⟨occV_leaf this rfl rfl, rfl, rfl⟩
  · cases h; exact ⟨.fulln, rfl, rfl⟩
  · split at h
    · rename_i h1
      cases h
      exact ⟨.con h1, rfl, rfl⟩
    · cases h
  · cases h
mutual
theorem zcells_ok : ∀ (v : AV) {cs : List Value}, zcells v = some cs → ∀ G : Gh, OccA G v cs
  | .agg l, cs, h, G => .agg (zcellsL_ok l (by simpa [zcells] using h) G)
  | .any, cs, h, G => by simp [zcells, zcell] at h
  | .d x, cs, h, G => by
    simp only [zcells, Option.map_eq_some_iff] at h
    obtain ⟨c, h, rfl⟩ := h
    exact (zcell_ok h G).1
  | .full l, cs, h, G => by
    simp only [zcells, Option.map_eq_some_iff] at h
    obtain ⟨c, h, rfl⟩ := h
    exact (zcell_ok h G).1
  | .con l, cs, h, G => by
    simp only [zcells, Option.map_eq_some_iff] at h
    obtain ⟨c, h, rfl⟩ := h
    exact (zcell_ok h G).1
  | .own _ _, cs, h, G => by simp [zcells, zcell] at h
  | .msl _ _, cs, h, G => by simp [zcells, zcell] at h
  | .ptr _ _, cs, h, G => by simp [zcells, zcell] at h
  | .eptr _ _ _, cs, h, G => by simp [zcells, zcell] at h
  | .kp _, cs, h, G => by simp [zcells, zcell] at h
  | .kpp _ _, cs, h, G => by simp [zcells, zcell] at h
  | .ptrs _, cs, h, G => by simp [zcells, zcell] at h
  | .tup _, cs, h, G => by simp [zcells, zcell] at h
  | .fn _ _, cs, h, G => by simp [zcells, zcell] at h
  | .iface _ _, cs, h, G => by simp [zcells, zcell] at h
theorem zcellsL_ok : ∀ (l : List AV) {cs : List Value}, zcellsL l = some cs → ∀ G : Gh, OccAL G l cs
  | [], cs, h, G => by
    simp only [zcellsL, Option.some.injEq] at h
    subst h
    exact .nil
  | x :: l, cs, h, G => by
    unfold zcellsL at h
    split at h
    · rename_i a b ha hb
      cases h
      exact .cons (zcells_ok x ha G) (zcellsL_ok l hb G)
    · cases h
end
theorem zval_ok {v : AV} {c : Value} (h : zval v = some c) (G : Gh) : OccV G v c ∧ v.solid = true := by
  unfold zval at h
  split at h
  · obtain ⟨cs, h1, rfl⟩ := Option.map_eq_some_iff.1 h
    exact ⟨.agg rfl (.agg (zcellsL_ok _ h1 G)), rfl⟩
  · obtain ⟨h1, h2, h3⟩ := zcell_ok h G
    exact ⟨.one h2 h1, h3⟩
def zfind : List (Nat × AV) → Nat → Option AV
  | [], _ => none
  | (j, v) :: r, i => bif Nat.beq i j then some v else zfind r i
def AllZ (P : Program) : List (Nat × AV) → Prop
  | [] => True
  | (t, v) :: r => (((P.info? t).bind (·.zero)).isSome = true ∧ (P.info? t).bind (·.zero) = zval v) ∧ AllZ P r
theorem allZ_ok {P : Program} : ∀ {L : List (Nat × AV)}, AllZ P L → ∀ t v, zfind L t = some v → ∃ i c, P.info? t = some i ∧ i.zero = some c ∧ (∀ G : Gh, OccV G v c) ∧ v.solid = true
  | [], _, t, v, h => by cases h
  | (t', v') :: L, hL, t, v, h => by
    unfold zfind at h
    cases hb : Nat.beq t t' with
    | true =>
      rw [hb, cond_true] at h
      cases h
      have := Nat.eq_of_beq_eq_true hb
      subst this
      obtain ⟨⟨h1, h2⟩, _⟩ := hL
      cases hz : (P.info? t).bind (·.zero) with
      | none => rw [hz] at h1; cases h1
      | some c =>
        rw [hz] at h2
        obtain ⟨i, hi, hc⟩ := Option.bind_eq_some_iff.1 hz
        exact ⟨i, c, hi, hc, fun G => (zval_ok h2.symm G).1, (zval_ok h2.symm ⟨fun _ _ => none, [], [], []⟩).2⟩
    | false =>
      rw [hb, cond_false] at h
      exact allZ_ok hL.2 t v h
def Zeros.of {P : Program} (L : List (Nat × AV)) (h : AllZ P L) : Zeros P := ⟨zfind L, allZ_ok h⟩
end Go.Am
