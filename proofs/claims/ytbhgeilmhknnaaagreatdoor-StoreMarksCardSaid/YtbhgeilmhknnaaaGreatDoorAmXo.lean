/- The abstract machine, part 15: a region whose order is open. -/
import Derived.Test.YtbhgeilmhknnaaaGreatDoorAmXs
namespace Go.Am

def noWR (e f : Ev) : Bool := (match e.dst with | some d => !f.rt.contains d | none => true) && e.wm.all (fun b => !f.rb.contains b) && e.wt.all (fun b => !f.rk.contains b)
def noWW (e f : Ev) : Bool := (match e.dst, f.dst with | some d, some c => !(d == c) | _, _ => true) && e.wm.all (fun b => !f.wm.contains b) && e.wt.all (fun b => !f.wt.contains b)
def apartE (e f : Ev) : Bool := noWR e f && noWR f e && noWW e f

section
variable {α : Type}
theorem setAll_get : ∀ (m : List Nat) (E h h' : List α) (b : Nat), h[b]? = h'[b]? → (setAll h m E)[b]? = (setAll h' m E)[b]?
  | [], _, h, h', b, e => by simpa [setAll] using e
  | _ :: _, [], h, h', b, e => e
  | i :: m, x :: E, h, h', b, e => by
    refine setAll_get m E _ _ b ?_
    have hl : (b < h.length) ↔ (b < h'.length) := by
      constructor
      · intro hb
        rw [List.getElem?_eq_getElem hb] at e
        exact (List.getElem?_eq_some_iff.1 e.symm).1
      · intro hb
        rw [List.getElem?_eq_getElem hb] at e
        exact (List.getElem?_eq_some_iff.1 e).1
    rw [List.getElem?_set, List.getElem?_set]
    by_cases hib : i = b
    · subst hib
      rw [if_pos rfl, if_pos rfl]
      simp only [hl]
    · rw [if_neg hib, if_neg hib]
      exact e
theorem setAll_out : ∀ (m : List Nat) (E h : List α) (b : Nat), b ∉ m → (setAll h m E)[b]? = h[b]?
  | [], _, h, b, _ => by simp [setAll]
  | _ :: _, [], h, b, _ => rfl
  | i :: m, x :: E, h, b, e => by
    simp only [List.mem_cons, not_or] at e
    refine (setAll_out m E _ b e.2).trans ?_
    rw [List.getElem?_set_ne (fun h => e.1 h.symm)]
theorem setAll_set : ∀ (m : List Nat) (E h : List α) (i : Nat) (x : α), i ∉ m → setAll (h.set i x) m E = (setAll h m E).set i x
  | [], _, h, i, x, _ => by simp [setAll]
  | _ :: _, [], h, i, x, _ => rfl
  | j :: m, y :: E, h, i, x, e => by
    simp only [List.mem_cons, not_or] at e
    show setAll ((h.set i x).set j y) m E = (setAll (h.set j y) m E).set i x
    rw [List.set_comm _ _ e.1]
    exact setAll_set m E _ i x e.2
theorem setAll_comm : ∀ (m m' : List Nat) (E E' h : List α), (∀ b ∈ m, b ∉ m') → setAll (setAll h m E) m' E' = setAll (setAll h m' E') m E
  | [], m', E, E', h, _ => by simp [setAll]
  | _ :: _, m', [], E', h, _ => rfl
  | i :: m, m', x :: E, E', h, e => by
    show setAll (setAll (h.set i x) m E) m' E' = setAll ((setAll h m' E').set i x) m E
    rw [setAll_comm m m' E E' _ (fun b hb => e b (List.mem_cons_of_mem _ hb)), setAll_set m' E' h i x (e i (List.mem_cons_self ..))]
theorem setAll_length : ∀ (m : List Nat) (E h : List α), (setAll h m E).length = h.length
  | [], _, h => by simp [setAll]
  | _ :: _, [], h => rfl
  | i :: m, x :: E, h => (setAll_length m E _).trans (by simp)
end

theorem Agree.trans {f : Ev} {a b c : AS} (h : Agree f a b) (g : Agree f b c) : Agree f a c :=
  ⟨g.1.trans h.1, fun i hi => (g.2.1 i hi).trans (h.2.1 i hi), fun i hi => (g.2.2.1 i hi).trans (h.2.2.1 i hi), fun i hi => (g.2.2.2 i hi).trans (h.2.2.2 i hi)⟩
theorem Agree.symm {f : Ev} {a b : AS} (h : Agree f a b) : Agree f b a :=
  ⟨h.1.symm, fun i hi => (h.2.1 i hi).symm, fun i hi => (h.2.2.1 i hi).symm, fun i hi => (h.2.2.2 i hi).symm⟩
theorem put_n (s : AS) (d : Option Nat) (v : AV) : (s.put d v).n = s.n := by cases d <;> rfl
theorem put_h (s : AS) (d : Option Nat) (v : AV) : (s.put d v).h = s.h := by cases d <;> rfl
theorem put_k (s : AS) (d : Option Nat) (v : AV) : (s.put d v).k = s.k := by cases d <;> rfl
theorem app_n (e : Ev) (s : AS) : (e.app s).n = s.n := put_n _ _ _
theorem app_h (e : Ev) (s : AS) : (e.app s).h = setAll s.h e.wm e.wE := put_h _ _ _
theorem app_k (e : Ev) (s : AS) : (e.app s).k = setAll s.k e.wt e.wT := put_k _ _ _
theorem app_t (e : Ev) (s : AS) (i : Nat) : (e.app s).t i = if e.dst = some i ∧ i < s.n then e.v else s.t i := by
  unfold Ev.app AS.put
  cases h : e.dst with
  | none => simp
  | some d =>
    simp only [Option.some.injEq]
    by_cases hi : i = d
    · subst hi; simp
    · rw [if_neg (fun h => hi h.1), if_neg (fun h => hi h.1.symm)]
theorem noWR_agree {e f : Ev} (h : noWR e f = true) (s : AS) : Agree f s (e.app s) := by
  simp only [noWR, Bool.and_eq_true, List.all_eq_true, Bool.not_eq_true', List.contains_iff_mem, ← Bool.not_eq_true] at h
  refine ⟨app_n e s, fun i hi => ?_, fun b hb => ?_, fun t ht => ?_⟩
  · rw [app_t]
    have h1 := h.1.1
    split
    · rename_i hd
      rw [hd.1] at h1
      simp at h1
      exact absurd hi h1
    · rfl
  · rw [app_h]
    exact setAll_out _ _ _ _ fun hm => h.1.2 b hm hb
  · rw [app_k]
    exact setAll_out _ _ _ _ fun hm => h.2 t hm ht
theorem agree_app {f : Ev} {s s' : AS} (h : Agree f s s') (e : Ev) : Agree f (e.app s) (e.app s') := by
  refine ⟨by rw [app_n, app_n]; exact h.1, fun i hi => ?_, fun b hb => ?_, fun t ht => ?_⟩
  · rw [app_t, app_t, h.1, h.2.1 i hi]
  · rw [app_h, app_h]
    exact setAll_get _ _ _ _ _ (h.2.2.1 b hb)
  · rw [app_k, app_k]
    exact setAll_get _ _ _ _ _ (h.2.2.2 t ht)
theorem noWW_comm {e f : Ev} (h : noWW e f = true) (s : AS) : e.app (f.app s) = f.app (e.app s) := by
  simp only [noWW, Bool.and_eq_true, List.all_eq_true, Bool.not_eq_true', List.contains_iff_mem, ← Bool.not_eq_true] at h
  have hext : ∀ a b : AS, a.n = b.n → (∀ i, a.t i = b.t i) → a.h = b.h → a.k = b.k → a = b := by
    intro a b h1 h2 h3 h4
    cases a; cases b
    simp only [AS.mk.injEq]
    exact ⟨h1, funext h2, h3, h4⟩
  refine hext _ _ (by simp only [app_n]) (fun i => ?_) ?_ ?_
  · simp only [app_t, app_n]
    by_cases h1 : e.dst = some i ∧ i < s.n
    · rw [if_pos h1]
      split
      · rename_i h2
        have := h.1.1
        rw [h1.1, h2.1] at this
        simp at this
      · rfl
    · rw [if_neg h1, if_neg h1]
  · simp only [app_h]
    exact setAll_comm _ _ _ _ _ fun b hb hb' => h.1.2 b hb' hb
  · simp only [app_k]
    exact setAll_comm _ _ _ _ _ fun b hb hb' => h.2 b hb' hb

section
variable (ev : Nat → Ev) (s0 : AS)
def SL : Nat → AS
  | 0 => s0
  | m + 1 => (ev m).app (SL m)
def SD (D : Nat → Bool) : Nat → AS
  | 0 => s0
  | m + 1 => if D m = true then (ev m).app (SD D m) else SD D m
variable {ev s0}
theorem sd_agree {D : Nat → Bool} {j : Nat} (hj : D j = false) (h1 : ∀ i, i < j → D i = false → noWR (ev i) (ev j) = true) (h2 : ∀ i, j < i → D i = true → noWR (ev i) (ev j) = true) :
    ∀ m, (m ≤ j → Agree (ev j) (SL ev s0 m) (SD ev s0 D m)) ∧ (j ≤ m → Agree (ev j) (SL ev s0 j) (SD ev s0 D m)) := by
  have a : ∀ m, m ≤ j → Agree (ev j) (SL ev s0 m) (SD ev s0 D m) := by
    intro m
    induction m with
    | zero => intro _; exact Agree.refl _ _
    | succ m ih =>
      intro hm
      have := ih (by omega)
      simp only [SL, SD]
      split
      · exact agree_app this _
      · rename_i hd
        exact (noWR_agree (h1 m (by omega) (by simpa using hd)) _).symm.trans this
  have b : ∀ m, j ≤ m → Agree (ev j) (SL ev s0 j) (SD ev s0 D m) := by
    intro m
    induction m with
    | zero => intro hm; have : j = 0 := by omega
              subst this; exact a 0 (Nat.le_refl _)
    | succ m ih =>
      intro hm
      rcases Nat.lt_or_ge m j with hlt | hge
      · have : j = m + 1 := by omega
        subst this
        exact a _ (Nat.le_refl _)
      · have := ih hge
        simp only [SD]
        split
        · rename_i hd
          have hne : m ≠ j := fun e => by subst e; rw [hj] at hd; cases hd
          exact this.trans (noWR_agree (h2 m (by omega) hd) _)
        · exact this
  exact fun m => ⟨a m, b m⟩
theorem sd_put {D D' : Nat → Bool} {j : Nat} (hj : D j = false) (hj' : D' j = true) (he : ∀ i, i ≠ j → D' i = D i) (hc : ∀ i, j < i → D i = true → noWW (ev j) (ev i) = true) :
    ∀ m, (m ≤ j → SD ev s0 D' m = SD ev s0 D m) ∧ (j < m → SD ev s0 D' m = (ev j).app (SD ev s0 D m)) := by
  have a : ∀ m, m ≤ j → SD ev s0 D' m = SD ev s0 D m := by
    intro m
    induction m with
    | zero => intro _; rfl
    | succ m ih =>
      intro hm
      simp only [SD]
      rw [he m (by omega), ih (by omega)]
  have b : ∀ m, j < m → SD ev s0 D' m = (ev j).app (SD ev s0 D m) := by
    intro m
    induction m with
    | zero => intro hm; omega
    | succ m ih =>
      intro hm
      simp only [SD]
      rcases Nat.lt_or_ge j m with hlt | hge
      · rw [he m (by omega), ih hlt]
        split
        · rename_i hd
          exact (noWW_comm (hc m hlt hd) _).symm
        · rfl
      · have : m = j := by omega
        subst this
        rw [if_pos hj', hj, a m (Nat.le_refl _)]
        rfl
  exact fun m => ⟨a m, b m⟩
theorem sd_all {D : Nat → Bool} {N : Nat} (h : ∀ i, i < N → D i = true) : ∀ m, m ≤ N → SD ev s0 D m = SL ev s0 m := by
  intro m
  induction m with
  | zero => intro _; rfl
  | succ m ih =>
    intro hm
    simp only [SD, SL]
    rw [if_pos (h m (by omega)), ih (by omega)]
theorem sd_none {D : Nat → Bool} (h : ∀ i, D i = false) : ∀ m, SD ev s0 D m = s0 := by
  intro m
  induction m with
  | zero => rfl
  | succ m ih => simp only [SD]; rw [if_neg (by simp [h m]), ih]
end
end Go.Am
