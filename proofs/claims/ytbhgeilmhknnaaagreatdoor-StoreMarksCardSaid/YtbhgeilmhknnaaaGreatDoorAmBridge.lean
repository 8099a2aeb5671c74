/- The abstract machine, part 27: arguments that are read as data, by content. -/
import Derived.Test.YtbhgeilmhknnaaaGreatDoorAmData
import GoSem.ClaimChange
namespace Go.Am

/-- The shape of a type of data. -/
inductive Ty where
  | bool
  | int (k : IntKind)
  | str
  | st (l : List Ty)
  | sl (e : Ty)
mutual
inductive Has : Ty → D → Prop where
  | bool (b : Bool) : Has .bool (.bool b)
  | int {k : IntKind} {n : Int} (h : (Lit.int k n).wf = true) : Has (.int k) (.int k n)
  | str {l : List UInt8} (h : l.length ≤ maxLen) : Has .str (.str l)
  | st {tys : List Ty} {l : List D} (h : HasL tys l) : Has (.st tys) (.agg l)
  | sl {e : Ty} {l : List D} (hl : l.length ≤ maxLen) (h : HasE e l) : Has (.sl e) (.sl l)
inductive HasL : List Ty → List D → Prop where
  | nil : HasL [] []
  | cons {ty : Ty} {tys : List Ty} {x : D} {l : List D} (h : Has ty x) (t : HasL tys l) : HasL (ty :: tys) (x :: l)
inductive HasE : Ty → List D → Prop where
  | nil {e : Ty} : HasE e []
  | cons {e : Ty} {x : D} {l : List D} (h : Has e x) (t : HasE e l) : HasE e (x :: l)
end
mutual
def Ty.flat : Ty → Bool
  | .sl _ => false
  | .st l => Ty.flatL l
  | .bool | .int _ | .str => true
def Ty.flatL : List Ty → Bool
  | [] => true
  | t :: l => t.flat && Ty.flatL l
end
def flOK (ok : TypeId → Ty → Bool) (P : Program) : List (TypeId × Nat) → List Ty → Nat → Nat → Bool
  | [], [], at_, tot => at_ == tot
  | (t, off) :: fs, ty :: tys, at_, tot => off == at_ && ok t ty && flOK ok P fs tys (at_ + P.cellsOf t) tot
  | _, _, _, _ => false
def tyOK (P : Program) : Nat → TypeId → Ty → Bool
  | 0, _, _ => false
  | f + 1, t, ty =>
    match P.underlying t, ty with
    | some .bool, .bool => P.cellsOf t == 1
    | some (.int k), .int k' => decide (k = k') && P.cellsOf t == 1
    | some .string, .str => P.cellsOf t == 1
    | some (.slice e), .sl ty => decide (0 < P.cellsOf e) && P.cellsOf t == 1 && tyOK P f e ty
    | some (.struct fs), .st tys => flOK (tyOK P f) P (fs.toList.map fun f => (f.type, f.offset)) tys 0 (P.cellsOf t)
    | some (.array n e), .st tys => flOK (tyOK P f) P ((List.range n).map fun i => (e, i * P.cellsOf e)) tys 0 (P.cellsOf t)
    | _, _ => false

theorem mapM_some {α β : Type} {f : α → Option β} : ∀ {l : List α} {ys : List β}, l.mapM f = some ys → ys.length = l.length ∧ ∀ (i : Nat) (x : α), l[i]? = some x → ∃ y, f x = some y ∧ ys[i]? = some y
  | [], ys, h => by
    simp only [List.mapM_nil, Option.pure_def, Option.some.injEq] at h
    subst h
    exact ⟨rfl, fun i x hx => by simp at hx⟩
  | x :: l, ys, h => by
    simp only [List.mapM_cons, Option.bind_eq_bind, Option.pure_def, Option.bind_eq_some_iff, Option.some.injEq] at h
    obtain ⟨y, hy, zs, hz, rfl⟩ := h
    obtain ⟨h1, h2⟩ := mapM_some hz
    refine ⟨by simp [h1], fun i z hi => ?_⟩
    cases i with
    | zero =>
      simp at hi
      subst hi
      exact ⟨y, hy, rfl⟩
    | succ i => exact h2 i z (by simpa using hi)

theorem mapM_of_map {α β γ : Type} (f : α → β) (g : β → Option γ) : ∀ l : List α, (l.map f).mapM g = l.mapM fun x => g (f x)
  | [] => rfl
  | x :: l => by
    simp only [List.map_cons, List.mapM_cons, mapM_of_map f g l]
/-- What lies in a world's cells. -/
def kw (w : World) : Kn := fun b o => w.cell? ⟨b, o, none⟩

section
variable {H : Type} {enc : TypeId × Value → H} {P : Program} {w : World} {base : Nat} {spare : Nat → Bool} {held : Bool}
theorem fields_occ {K : Kn} {ok : TypeId → Ty → Bool} {cs : List Value} {g : TypeId × Nat → Option (DataW H × List MemPlace)}
    (hg : ∀ t off ty y, ok t ty = true → ty.flat = true → g (t, off) = some y → ∃ x, Occ K x ((cs.drop off).take (P.cellsOf t)) ∧ Has ty x) :
    ∀ (fl : List (TypeId × Nat)) (tys : List Ty) (at_ : Nat) (xs : List (DataW H × List MemPlace)), flOK ok P fl tys at_ cs.length = true → Ty.flatL tys = true → fl.mapM g = some xs → ∃ l, OccL K l (cs.drop at_) ∧ HasL tys l
  | [], [], at_, xs, h, _, _ => by
    simp only [flOK, beq_iff_eq] at h
    subst h
    refine ⟨[], ?_, .nil⟩
    rw [List.drop_length]
    exact .nil
  | [], _ :: _, _, _, h, _, _ => by simp [flOK] at h
  | _ :: _, [], _, _, h, _, _ => by simp [flOK] at h
  | (t, off) :: fl, ty :: tys, at_, xs, h, hf, hm => by
    simp only [flOK, Bool.and_eq_true, beq_iff_eq] at h
    obtain ⟨⟨rfl, h1⟩, h2⟩ := h
    simp only [Ty.flatL, Bool.and_eq_true] at hf
    simp only [List.mapM_cons, Option.bind_eq_bind, Option.pure_def, Option.bind_eq_some_iff, Option.some.injEq] at hm
    obtain ⟨y, hy, zs, hz, rfl⟩ := hm
    obtain ⟨x, hx, hxt⟩ := hg t off ty y h1 hf.1 hy
    obtain ⟨l, hl, hlt⟩ := fields_occ hg fl tys _ zs h2 hf.2 hz
    refine ⟨x :: l, ?_, .cons hxt hlt⟩
    have := OccL.cons hx hl
    rwa [← List.drop_drop, List.take_append_drop] at this

theorem trod_flat : ∀ (fuel f : Nat) (t : TypeId) (ty : Ty) (cs : List Value) (d : DataW H) (ps : List MemPlace), tyOK P f t ty = true → ty.flat = true → DataW.trod enc P w base spare held fuel t cs = some (d, ps) → ∃ x, Occ (kw w) x cs ∧ Has ty x
  | 0, _, _, _, _, _, _, _, _, h => by simp [DataW.trod] at h
  | _ + 1, 0, _, _, _, _, _, h, _, _ => by simp [tyOK] at h
  | fuel + 1, f + 1, t, ty, cs, d, ps, hok, hfl, h => by
    have ih := trod_flat fuel f
    simp only [tyOK] at hok
    unfold DataW.trod at h
    split at hok
    · rename_i hu
      simp only [hu] at h
      split at h <;> first | (rename_i hh; cases hh) | skip
      all_goals first | (cases h; exact ⟨_, .bool _, .bool _⟩) | (cases h; done) | skip
      all_goals simp_all
    · rename_i k k' hu
      simp only [Bool.and_eq_true, decide_eq_true_eq] at hok
      obtain ⟨rfl, _⟩ := hok
      simp only [hu] at h
      split at h <;> first | (rename_i hh; cases hh) | skip
      all_goals first
        | (split at h
           · rename_i hc
             obtain ⟨rfl, hwf⟩ := hc
             cases h
             exact ⟨_, .int _ _, .int hwf⟩
           · cases h)
        | simp_all
    · rename_i hu
      simp only [hu] at h
      split at h <;> first | (rename_i hh; cases hh) | skip
      all_goals first
        | (rename_i s
           split at h
           · rename_i hc
             cases h
             refine ⟨.str s.data.toList, ?_, .str (by simpa using hc)⟩
             have : s = ⟨s.data.toList.toArray⟩ := by
               apply ByteArray.ext
               simp
             conv => rhs; rw [this]
             exact .str _
           · cases h)
        | simp_all
    · simp [Ty.flat] at hfl
    · rename_i fs tys hu
      simp only [hu] at h
      simp only [Ty.flat] at hfl
      split at h
      · rename_i hc
        obtain ⟨xs, hxs, _⟩ := Option.map_eq_some_iff.1 h
        rw [← hc] at hok
        have hm : (fs.toList.map fun f => (f.type, f.offset)).mapM (fun q : TypeId × Nat => DataW.trod enc P w base spare held fuel q.1 ((cs.drop q.2).take (P.cellsOf q.1))) = some xs := by
          rw [mapM_of_map]
          exact hxs
        obtain ⟨l, h1, h2⟩ := fields_occ (K := kw w) (cs := cs) (g := fun q : TypeId × Nat => DataW.trod enc P w base spare held fuel q.1 ((cs.drop q.2).take (P.cellsOf q.1))) (fun t off ty y e1 e2 e3 => ih t ty _ _ _ e1 e2 e3) _ tys 0 xs hok hfl hm
        exact ⟨.agg l, .agg (by simpa using h1), .st h2⟩
      · cases h
    · rename_i n e tys hu
      simp only [hu] at h
      simp only [Ty.flat] at hfl
      split at h
      · rename_i hc
        obtain ⟨xs, hxs, _⟩ := Option.map_eq_some_iff.1 h
        rw [← hc] at hok
        have hm : ((List.range n).map fun i => (e, i * P.cellsOf e)).mapM (fun q : TypeId × Nat => DataW.trod enc P w base spare held fuel q.1 ((cs.drop q.2).take (P.cellsOf q.1))) = some xs := by
          rw [mapM_of_map]
          exact hxs
        obtain ⟨l, h1, h2⟩ := fields_occ (K := kw w) (cs := cs) (g := fun q : TypeId × Nat => DataW.trod enc P w base spare held fuel q.1 ((cs.drop q.2).take (P.cellsOf q.1))) (fun t off ty y e1 e2 e3 => ih t ty _ _ _ e1 e2 e3) _ tys 0 xs hok hfl hm
        exact ⟨.agg l, .agg (by simpa using h1), .st h2⟩
      · cases h
    · cases hok

theorem occR_pt {K : Kn} {sz b : Nat} : ∀ (l : List D) (o : Nat), (∀ (i : Nat) (x : D), l[i]? = some x → ∃ cs, Occ K x cs ∧ cs.length = sz ∧ ∀ (j : Nat) (v : Value), cs[j]? = some v → K b (o + i * sz + j) = some v) → OccR K l b o sz
  | [], _, _ => .nil
  | x :: l, o, h => by
    obtain ⟨cs, h1, h2, h3⟩ := h 0 x rfl
    refine .cons h1 h2 (fun j v hj => by simpa using h3 j v hj) (occR_pt l _ fun i y hy => ?_)
    obtain ⟨ds, g1, g2, g3⟩ := h (i + 1) y (by simpa using hy)
    refine ⟨ds, g1, g2, fun j v hj => ?_⟩
    have := g3 j v hj
    rwa [show o + (i + 1) * sz + j = o + sz + i * sz + j by rw [Nat.succ_mul]; omega] at this
theorem cells_some {a : Addr} {n : Nat} {cs : List Value} (hs : a.spot = none) (h : w.cells? base a n = some cs) : cs.length = n ∧ ∀ (j : Nat) (v : Value), cs[j]? = some v → kw w a.block (a.off + j) = some v := by
  unfold World.cells? at h
  split at h
  · obtain ⟨h1, h2⟩ := mapM_some h
    rw [List.length_range] at h1
    refine ⟨h1, fun j v hj => ?_⟩
    have hlt : j < n := by rw [← h1]; exact (List.getElem?_eq_some_iff.1 hj).1
    obtain ⟨y, g1, g2⟩ := h2 j j (by simp [hlt])
    rw [hj] at g2
    cases g2
    show w.cell? ⟨a.block, a.off + j, none⟩ = some v
    rw [← g1]
    unfold Addr.add
    split
    · rename_i h0
      subst h0
      cases a
      simp only at hs
      subst hs
      rfl
    · rfl
  · cases h
theorem list_of {Q : Nat → D → Prop} : ∀ (n : Nat), (∀ i, i < n → ∃ x, Q i x) → ∃ l : List D, l.length = n ∧ ∀ (i : Nat) (x : D), l[i]? = some x → Q i x
  | 0, _ => ⟨[], rfl, fun i x h => by simp at h⟩
  | n + 1, h => by
    obtain ⟨l, h1, h2⟩ := list_of n fun i hi => h i (by omega)
    obtain ⟨x, hx⟩ := h n (by omega)
    refine ⟨l ++ [x], by simp [h1], fun i y hy => ?_⟩
    by_cases hi : i < n
    · rw [List.getElem?_append_left (by omega)] at hy
      exact h2 i y hy
    · rw [List.getElem?_append_right (by omega)] at hy
      have : i = n := by
        have := (List.getElem?_eq_some_iff.1 hy).1
        simp at this
        omega
      subst this
      simp [h1] at hy
      subst hy
      exact hx
theorem hasE_of {e : Ty} : ∀ (l : List D), (∀ (i : Nat) (x : D), l[i]? = some x → Has e x) → HasE e l
  | [], _ => .nil
  | x :: l, h => .cons (h 0 x rfl) (hasE_of l fun i y hy => h (i + 1) y (by simpa using hy))
/-- A slice of what has no slices in it. -/
theorem trod_slice {fuel f : Nat} {t e : TypeId} {ty : Ty} {v : Value} {d : DataW H} {ps : List MemPlace} (hu : P.underlying t = some (.slice e)) (hok : tyOK P f e ty = true) (hfl : ty.flat = true) (hsz : 0 < P.cellsOf e)
    (hv : v = .slice none 0 0 ∨ ∃ a len cap, v = .slice (some a) len cap ∧ a.spot = none) (h : DataW.trod enc P w base spare held fuel t v.cells.toList = some (d, ps)) : ∃ l : List D, HasE ty l ∧ l.length ≤ maxLen ∧ Occ (kw w) (.sl l) [v] := by
  rcases hv with rfl | ⟨a, len, cap, rfl, ha⟩
  · exact ⟨[], .nil, by decide, .nils⟩
  · cases fuel with
    | zero => simp [DataW.trod] at h
    | succ fuel =>
      have hc : (Value.slice (some a) len cap).cells.toList = [.slice (some a) len cap] := rfl
      rw [hc] at h
      unfold DataW.trod at h
      simp only [hu] at h
      split at h
      · rename_i hb
        obtain ⟨elems, he, _⟩ := Option.bind_eq_some_iff.1 h
        obtain ⟨h1, h2⟩ := mapM_some he
        obtain ⟨l, hl, hQ⟩ := list_of (Q := fun i x => ∃ cs, Occ (kw w) x cs ∧ cs.length = P.cellsOf e ∧ (∀ (j : Nat) (v : Value), cs[j]? = some v → kw w a.block (a.off + i * P.cellsOf e + j) = some v) ∧ Has ty x) len (fun i hi => by
          obtain ⟨y, hy, _⟩ := h2 i i (by simp [hi])
          obtain ⟨cs, hcs, hy⟩ := Option.bind_eq_some_iff.1 hy
          have hs : (a.add (i * P.cellsOf e)).spot = none := by unfold Addr.add; split <;> simp [ha]
          have hbl : (a.add (i * P.cellsOf e)).block = a.block := by unfold Addr.add; split <;> rfl
          have hof : (a.add (i * P.cellsOf e)).off = a.off + i * P.cellsOf e := by unfold Addr.add; split <;> simp_all
          obtain ⟨g1, g2⟩ := cells_some hs hcs
          obtain ⟨x, hx, hxt⟩ := trod_flat fuel f e ty cs y.1 y.2 hok hfl hy
          refine ⟨x, cs, hx, g1, fun j v hj => ?_, hxt⟩
          have := g2 j v hj
          rw [hbl, hof] at this
          exact this)
        refine ⟨l, hasE_of l fun i x hi => (hQ i x hi).choose_spec.2.2.2, by omega, ?_⟩
        have := Occ.sl (cap := cap) hsz (by omega : l.length ≤ cap) (occR_pt l a.off fun i x hi => let ⟨cs, q1, q2, q3, _⟩ := hQ i x hi; ⟨cs, q1, q2, q3⟩)
        obtain ⟨b, o, sp⟩ := a
        simp only at ha this
        subst ha
        rw [hl] at this
        exact this
      · cases h
end

/-! ### what a thing of a shape is -/
theorem has_bool {x : D} (h : Has .bool x) : ∃ b, x = .bool b := by cases h; exact ⟨_, rfl⟩
theorem has_int {k : IntKind} {x : D} (h : Has (.int k) x) : ∃ n, x = .int k n ∧ (Lit.int k n).wf = true := by cases h; exact ⟨_, rfl, by assumption⟩
theorem has_str {x : D} (h : Has .str x) : ∃ l, x = .str l ∧ l.length ≤ maxLen := by cases h; exact ⟨_, rfl, by assumption⟩
theorem has_st {tys : List Ty} {x : D} (h : Has (.st tys) x) : ∃ l, x = .agg l ∧ HasL tys l := by cases h; exact ⟨_, rfl, by assumption⟩
theorem hasL_cons {ty : Ty} {tys : List Ty} {l : List D} (h : HasL (ty :: tys) l) : ∃ x m, l = x :: m ∧ Has ty x ∧ HasL tys m := by cases h; exact ⟨_, _, rfl, by assumption, by assumption⟩
theorem hasL_nil {l : List D} (h : HasL [] l) : l = [] := by cases h; rfl
theorem hasE_map {α : Type} {e : Ty} {f : α → D} {wf : α → Prop} (hf : ∀ x, Has e x → ∃ a, x = f a ∧ wf a) : ∀ {l : List D}, HasE e l → ∃ m : List α, l = m.map f ∧ ∀ a ∈ m, wf a
  | [], _ => ⟨[], rfl, by simp⟩
  | x :: l, .cons h t => by
    obtain ⟨a, rfl, ha⟩ := hf x h
    obtain ⟨m, rfl, hm⟩ := hasE_map hf t
    exact ⟨a :: m, rfl, fun b hb => by
      rcases List.mem_cons.1 hb with rfl | hb
      · exact ha
      · exact hm b hb⟩
end Go.Am
