/- The abstract machine, part 16: regions as one computed equation, in order or in any order; states written out. -/
import Derived.Test.YtbhgeilmhknnaaaGreatDoorAmXo
import Derived.Orders
namespace Go.Am

/-- What comes before what, whichever order is taken. -/
def bindsOf (o : Oper) : List Nat := (o.after.toList.filter (Region.binds .any)).map (·.on)
def ancL : List Oper → List (List Nat) → List (List Nat)
  | [], acc => acc
  | o :: os, acc => ancL os (acc ++ [(bindsOf o).flatMap fun p => p :: acc.getD p []])
def belowB : List Oper → Nat → Bool
  | [], _ => true
  | o :: os, j => (bindsOf o).all (fun p => decide (p < j)) && belowB os (j + 1)
def confRow (es : List Ev) (e : Ev) (an : List Nat) : Nat → Bool
  | 0 => true
  | i + 1 => (an.contains i || (match es[i]? with | some f => apartE f e | none => false)) && confRow es e an i
def confB (ops : List Oper) (es : List Ev) : Bool :=
  belowB ops 0 && let an := ancL ops []; (List.range es.length).all fun j => match es[j]? with
    | some e => confRow es e (an.getD j []) j
    | none => false

def Closed (ops : List Oper) (D : Nat → Bool) : Prop := ∀ j o, ops[j]? = some o → D j = true → ∀ p ∈ bindsOf o, D p = true
theorem anc_ok {ops : List Oper} : ∀ (os : List Oper) (pre : List Oper) (acc : List (List Nat)), pre ++ os = ops → acc.length = pre.length →
    (∀ j o, pre[j]? = some o → ∀ D, Closed ops D → (∀ p ∈ bindsOf o, D p = true) → ∀ i ∈ acc.getD j [], D i = true) →
    ∀ j o, ops[j]? = some o → ∀ D, Closed ops D → (∀ p ∈ bindsOf o, D p = true) → ∀ i ∈ (ancL os acc).getD j [], D i = true
  | [], pre, acc, he, hl, h => by
    rw [List.append_nil] at he
    subst he
    exact h
  | o :: os, pre, acc, he, hl, h => by
    refine anc_ok os (pre ++ [o]) _ (by simp [he]) (by simp [hl]) fun j o' hj D hD hp i hi => ?_
    rw [List.getD_eq_getElem?_getD] at hi
    by_cases hlt : j < pre.length
    · rw [List.getElem?_append_left hlt] at hj
      rw [List.getElem?_append_left (by omega)] at hi
      exact h j o' hj D hD hp i (by rw [List.getD_eq_getElem?_getD]; exact hi)
    · have hje : j = pre.length := by
        have := (List.getElem?_eq_some_iff.1 hj).1
        simp at this
        omega
      subst hje
      rw [List.getElem?_append_right (Nat.le_refl _)] at hj
      simp at hj
      subst hj
      rw [← hl, List.getElem?_append_right (Nat.le_refl _)] at hi
      simp only [Nat.sub_self, List.getElem?_cons_zero, Option.getD_some, List.mem_flatMap] at hi
      obtain ⟨p, hpm, hi⟩ := hi
      have hDp := hp p hpm
      simp only [List.mem_cons] at hi
      rcases hi with rfl | hi
      · exact hDp
      · by_cases hpl : p < pre.length
        · have hpo : pre[p]? = some pre[p] := List.getElem?_eq_getElem hpl
          have hpo' : ops[p]? = some pre[p] := by rw [← he, List.getElem?_append_left hpl]; exact hpo
          exact h p _ hpo D hD (hD p _ hpo' hDp) i hi
        · rw [List.getD_eq_getElem?_getD, List.getElem?_eq_none (by omega)] at hi
          simp at hi
theorem confRow_ok {es : List Ev} {e : Ev} {an : List Nat} : ∀ j, confRow es e an j = true → ∀ i, i < j → i ∈ an ∨ ∃ f, es[i]? = some f ∧ apartE f e = true
  | 0, _, i, hi => by omega
  | j + 1, h, i, hi => by
    simp only [confRow, Bool.and_eq_true, Bool.or_eq_true, List.contains_iff_mem] at h
    by_cases hij : i = j
    · subst hij
      rcases h.1 with h1 | h1
      · exact .inl h1
      · split at h1
        · rename_i f hf
          exact .inr ⟨f, hf, h1⟩
        · cases h1
    · exact confRow_ok j h.2 i (by omega)
theorem below_ok : ∀ (ops : List Oper) (k : Nat), belowB ops k = true → ∀ j o, ops[j]? = some o → ∀ p ∈ bindsOf o, p < k + j
  | [], k, _, j, o, hj => by simp at hj
  | o' :: os, k, h, j, o, hj => by
    simp only [belowB, Bool.and_eq_true, List.all_eq_true, decide_eq_true_eq] at h
    cases j with
    | zero =>
      simp at hj
      subst hj
      exact fun p hp => h.1 p hp
    | succ j =>
      intro p hp
      have := below_ok os (k + 1) h.2 j o (by simpa using hj) p hp
      omega

section
variable {P : Program} {Z : Zeros P} {B : Base}
theorem chain_len {ops rest : List Oper} {evs : List Ev} {s s' : AS} (h : Chain P B ops rest evs s s') : evs.length = rest.length := by
  induction h with
  | nil => rfl
  | cons _ _ ih => simp [ih]
theorem chain_sl {ops : List Oper} {d : Ev} : ∀ {rest : List Oper} {evs : List Ev} {s s' : AS}, Chain P B ops rest evs s s' → ∀ (pre : List Ev) (s0 : AS), SL (fun i => (pre ++ evs).getD i d) s0 pre.length = s →
    SL (fun i => (pre ++ evs).getD i d) s0 (pre.length + rest.length) = s' ∧ ∀ j o, rest[j]? = some o → Snd P B ops o ((pre ++ evs).getD (pre.length + j) d) (SL (fun i => (pre ++ evs).getD i d) s0 (pre.length + j))
  | _, _, _, _, .nil, pre, s0, h => ⟨by simpa using h, fun j o hj => by simp at hj⟩
  | _, _, _, _, .cons (o := o) (e := e) (os := os) (es := es) (s := s) h t, pre, s0, hs => by
    have he : pre ++ e :: es = (pre ++ [e]) ++ es := by simp
    have hg : (pre ++ e :: es).getD pre.length d = e := by
      rw [List.getD_eq_getElem?_getD, List.getElem?_append_right (Nat.le_refl _)]
      simp
    have hnext : SL (fun i => (pre ++ e :: es).getD i d) s0 (pre.length + 1) = e.app s := by
      show ((pre ++ e :: es).getD pre.length d).app (SL _ s0 pre.length) = e.app s
      rw [hg, hs]
    rw [he] at hnext hs ⊢
    have ih := chain_sl t (pre ++ [e]) s0 (by simpa using hnext)
    refine ⟨?_, fun j o' hj => ?_⟩
    · have := ih.1
      rw [List.length_append, List.length_singleton] at this
      rw [List.length_cons, show pre.length + (os.length + 1) = pre.length + 1 + os.length by omega]
      exact this
    · cases j with
      | zero =>
        simp at hj
        subst hj
        rw [Nat.add_zero, hs, ← he, hg]
        exact h
      | succ j =>
        have := ih.2 j o' (by simpa using hj)
        rw [List.length_append, List.length_singleton] at this
        rw [show pre.length + (j + 1) = pre.length + 1 + j by omega]
        exact this

def dEv : Ev := ⟨[], [], [], none, .any, [], [], [], []⟩
theorem any_order {ops : Array Oper} {evs : List Ev} {s0 s' : AS} {Q : Exit → Act → World → Prop} (hc : Chain P B ops.toList ops.toList evs s0 s') (hconf : confB ops.toList evs = true)
    (hQ : ∀ a w, Inv B s' a w → Q .normal a w) : ∀ (fuel : Nat) (listed : Array Bool) (a : Act) (w : World), listed.size = ops.size → listed.toList.countP (· == false) = fuel →
    Closed ops.toList (fun i => listed.getD i false) → Inv B (SD (fun i => evs.getD i dEv) s0 (fun i => listed.getD i false) ops.size) a w → wpAny P .any ops Q fuel listed a w := by
  obtain ⟨hend, hsnd⟩ := chain_sl (d := dEv) hc [] s0 rfl
  simp only [List.nil_append, List.length_nil, Nat.zero_add] at hend hsnd
  have hlen := chain_len hc
  simp only [confB, Bool.and_eq_true, List.all_eq_true, List.mem_range] at hconf
  obtain ⟨hbelow, hrows⟩ := hconf
  have hbelow := below_ok _ _ hbelow
  have hanc := anc_ok (ops := ops.toList) ops.toList [] [] rfl rfl (by simp)
  -- two that neither comes before the other
  have hap : ∀ (D : Nat → Bool), Closed ops.toList D → ∀ j o, ops.toList[j]? = some o → (∀ p ∈ bindsOf o, D p = true) → ∀ i, i < j → D i = false → apartE (evs.getD i dEv) (evs.getD j dEv) = true := by
    intro D hD j o hj hp i hi hDi
    have hjl : j < evs.length := by rw [hlen]; exact (List.getElem?_eq_some_iff.1 hj).1
    have hrow := hrows j hjl
    rw [List.getElem?_eq_getElem hjl] at hrow
    rcases confRow_ok j hrow i hi with h1 | ⟨f, h1, h2⟩
    · have := hanc j o hj D hD hp i h1
      rw [hDi] at this
      cases this
    · rw [List.getD_eq_getElem?_getD, List.getD_eq_getElem?_getD, h1, List.getElem?_eq_getElem hjl]
      exact h2
  have hall : ∀ (listed : Array Bool), listed.size = ops.size → Closed ops.toList (fun i => listed.getD i false) → Region.ready .any ops listed = [] → ∀ i, i < ops.size → listed.getD i false = true := by
    intro listed hsz hD hr i
    induction i using Nat.strongRecOn with
    | _ i ih =>
      intro hi
      cases hx : listed.getD i false with
      | true => rfl
      | false =>
        have hmem : i ∈ Region.ready .any ops listed := by
          rw [mem_ready]
          refine ⟨?_, ops[i], Array.getElem?_eq_getElem hi, fun e he hb => ?_⟩
          · rw [Array.getD_eq_getD_getElem?, Array.getElem?_eq_getElem (by omega)] at hx ⊢
            exact hx
          · have hm : e.on ∈ bindsOf ops[i] := List.mem_map.2 ⟨e, List.mem_filter.2 ⟨by simpa using he, hb⟩, rfl⟩
            have := hbelow i ops[i] (by simp [hi]) e.on hm
            exact ih e.on (by omega) (by omega)
        rw [hr] at hmem
        cases hmem
  have hdone : ∀ (listed : Array Bool) (a : Act) (w : World), listed.size = ops.size → Closed ops.toList (fun i => listed.getD i false) → Inv B (SD (fun i => evs.getD i dEv) s0 (fun i => listed.getD i false) ops.size) a w → Region.ready .any ops listed = [] → Q .normal a w := by
    intro listed a w hsz hD hi hr
    rw [sd_all (hall listed hsz hD hr) _ (Nat.le_refl _)] at hi
    refine hQ a w ?_
    rw [← hend]
    exact hi
  intro fuel
  induction fuel with
  | zero =>
    intro listed a w hsz hcnt hD hi
    have hr : Region.ready .any ops listed = [] := by
      cases hrr : Region.ready .any ops listed with
      | nil => rfl
      | cons j r =>
        have hm : j ∈ Region.ready .any ops listed := by rw [hrr]; exact List.mem_cons_self ..
        rw [mem_ready] at hm
        obtain ⟨h1, o, ho, _⟩ := hm
        have hj : j < listed.size := by rw [hsz]; exact (Array.getElem?_eq_some_iff.1 ho).1
        rw [Array.getD_eq_getD_getElem?, Array.getElem?_eq_getElem hj] at h1
        simp only [List.countP_eq_zero] at hcnt
        have := hcnt listed[j] (by simp)
        simp at h1
        rw [h1] at this
        simp at this
    exact ⟨hr, hdone listed a w hsz hD hi hr⟩
  | succ fuel ih =>
    intro listed a w hsz hcnt hD hi
    refine ⟨hdone listed a w hsz hD hi, fun j hj => ?_⟩
    have hm := hj
    rw [mem_ready] at hm
    obtain ⟨h1, o, ho, hall'⟩ := hm
    have hjs : j < ops.size := (Array.getElem?_eq_some_iff.1 ho).1
    have hjl : j < listed.size := by omega
    have ho' : ops.toList[j]? = some o := by simpa using ho
    have hDj : listed.getD j false = false := by
      rw [Array.getD_eq_getD_getElem?, Array.getElem?_eq_getElem hjl] at h1 ⊢
      exact h1
    have hp : ∀ p ∈ bindsOf o, listed.getD p false = true := by
      intro p hp
      obtain ⟨e, he, rfl⟩ := List.mem_map.1 hp
      obtain ⟨he, hb⟩ := List.mem_filter.1 he
      exact hall' e (by simpa using he) hb
    have hag : Agree (evs.getD j dEv) (SL (fun i => evs.getD i dEv) s0 j) (SD (fun i => evs.getD i dEv) s0 (fun i => listed.getD i false) ops.size) := by
      refine (sd_agree (ev := fun i => evs.getD i dEv) hDj (fun i hi' hdi => ?_) (fun i hi' hdi => ?_) ops.size).2 (by omega)
      · have := hap _ hD j o ho' hp i hi' hdi
        simp only [apartE, Bool.and_eq_true] at this
        exact this.1.1
      · have hil : i < ops.size := by
          by_cases h : i < ops.size
          · exact h
          · simp only [Array.getD_eq_getD_getElem?] at hdi
            rw [Array.getElem?_eq_none (by omega)] at hdi
            cases hdi
        have := hap _ hD i ops[i] (by simp [hil]) (hD i ops[i] (by simp [hil]) hdi) j hi' hDj
        simp only [apartE, Bool.and_eq_true] at this
        exact this.1.2
    have hnew : SD (fun i => evs.getD i dEv) s0 (fun i => (listed.setIfInBounds j true).getD i false) ops.size = (evs.getD j dEv).app (SD (fun i => evs.getD i dEv) s0 (fun i => listed.getD i false) ops.size) := by
      refine (sd_put (ev := fun i => evs.getD i dEv) hDj ?_ (fun i hne => ?_) (fun i hi' hdi => ?_) ops.size).2 hjs
      · simp [Array.getD_eq_getD_getElem?, hjl]
      · exact getD_set_ne false (Ne.symm hne)
      · have hil : i < ops.size := by
          by_cases h : i < ops.size
          · exact h
          · simp only [Array.getD_eq_getD_getElem?] at hdi
            rw [Array.getElem?_eq_none (by omega)] at hdi
            cases hdi
        have := hap _ hD i ops[i] (by simp [hil]) (hD i ops[i] (by simp [hil]) hdi) j hi' hDj
        simp only [apartE, Bool.and_eq_true] at this
        exact this.2
    have hclosed : Closed ops.toList (fun i => (listed.setIfInBounds j true).getD i false) := by
      intro i oi hoi hdi p hpm
      by_cases hij : i = j
      · subst hij
        rw [ho'] at hoi
        cases hoi
        exact getD_set_true (hp p hpm)
      · refine getD_set_true (hD i oi hoi ?_ p hpm)
        simpa [getD_set_ne false (Ne.symm hij)] using hdi
    have hcount : (listed.setIfInBounds j true).toList.countP (· == false) = fuel := by
      have h2 : listed[j] = false := by
        rw [Array.getD_eq_getD_getElem?, Array.getElem?_eq_getElem hjl] at h1
        exact h1
      rw [Array.toList_setIfInBounds]
      have := List.countP_set (p := (· == false)) (l := listed.toList) (i := j) (a := true) (by simpa using hjl)
      rw [this, hcnt]
      have h3 : listed.toList[j]'(by simpa using hjl) = false := by simpa using h2
      rw [h3]
      rfl
    unfold wpOp
    simp only [ho]
    have := hsnd j o ho' _ a w (wpAny P .any ops Q fuel (listed.setIfInBounds j true)) Q hag hi fun a' w' hi' => ih _ a' w' (by simpa using hsz) hcount hclosed (by rw [hnew]; exact hi')
    rw [Array.toArray_toList] at this
    split at this
    · rename_i hw
      rw [if_pos hw]
      exact .inl this
    · rename_i hw
      rw [if_neg hw]
      exact this

/-! ### states written out -/
def look : List (Nat × AV) → Nat → AV
  | [], _ => .any
  | (j, v) :: r, i => bif Nat.beq i j then v else look r i
def st (n : Nat) (l : List (Nat × AV)) (h : List Box) (k : List (Option Nat)) : AS := ⟨n, look l, h, k⟩
theorem look_map {t : Nat → AV} : ∀ l : List (Nat × AV), l.map (fun q => t q.1) = l.map Prod.snd → ∀ i, look l i = .any ∨ look l i = t i
  | [], _, i => .inl rfl
  | (j, v) :: r, h, i => by
    simp only [List.map_cons, List.cons.injEq] at h
    unfold look
    cases hb : Nat.beq i j with
    | true =>
      have := Nat.eq_of_beq_eq_true hb
      subst this
      exact .inr h.1.symm
    | false => exact look_map r h.2 i
theorem inv_st {s : AS} {a : Act} {w : World} {n : Nat} {l : List (Nat × AV)} {h : List Box} {k : List (Option Nat)} (hi : Inv B s a w) (hn : s.n = n) (hl : l.map (fun q => s.t q.1) = l.map Prod.snd) (hh : s.h = h) (hk : s.k = k) : Inv B (st n l h k) a w := by
  obtain ⟨G, hs, hx⟩ := hi
  subst hn hh hk
  refine ⟨G, ⟨hs.heap, hs.k, hs.defers, hs.size, fun i => ?_⟩, hx⟩
  rcases look_map l hl i with h1 | h1
  · show OccV G (look l i) _
    rw [h1]
    exact .any _
  · show OccV G (look l i) _
    rw [h1]
    exact hs.tmp i

def resX (P : Program) (Z : Zeros P) (draw : Bool) (ops : List Oper) (s : AS) (x c : Nat) (orcs : List (Nat × Orc)) (l : List (Nat × AV)) : Option (List Lg × Bool × List AV × List Box × List (Option Nat)) :=
  match runX P Z ops ops 0 s.h.length s.k.length (s.room x c) orcs with
  | some (lgs, evs, s') => some (lgs, (bif draw then confB ops evs else true), l.map (fun q => s'.t q.1), s'.h, s'.k)
  | none => none

theorem chain_n {ops rest : List Oper} {evs : List Ev} {s s' : AS} (h : Chain P B ops rest evs s s') : s'.n = s.n := by
  induction h with
  | nil => rfl
  | cons _ _ ih => rw [ih, app_n]

variable {Q : Exit → AS → Prop}
theorem aw_rg {id : Nat} {draw : Bool} {ops : Array Oper} {s : AS} (Z : Zeros P) (x c : Nat) (orcs : List (Nat × Orc)) (lgs : List Lg) (l : List (Nat × AV)) (h : List Box) (k : List (Option Nat)) (hm : P.follows .mixedOrders = true)
    (hr : resX P Z draw ops.toList s x c orcs l = some (lgs, true, l.map Prod.snd, h, k)) (hg : Good P orcs lgs) (hq : Q .normal (st s.n l h k)) : AWp P B (.region id ops draw) Q s := by
  intro a w hi
  unfold resX at hr
  split at hr
  · rename_i lgs' evs s' hrun
    simp only [Option.some.injEq, Prod.mk.injEq] at hr
    obtain ⟨rfl, hconf, hl, hh, hk⟩ := hr
    have hch : Chain P B ops.toList ops.toList evs (s.room x c) s' := chain_run _ _ _ _ _ _ _ _ _ hrun hg
    have hi' := hi.reserve x c
    have hfin : ∀ a w, Inv B s' a w → ∃ s'', Inv B s'' a w ∧ Q .normal s'' := fun a w hi'' => ⟨_, inv_st hi'' (chain_n hch) hl hh hk, hq⟩
    cases draw with
    | false =>
      refine wp_region_list ?_
      have := chain_list (Q := fun e a' w' => ∃ s', Inv B s' a' w' ∧ Q e s') hch a w hi' hfin
      rw [Array.toArray_toList] at this
      exact this
    | true =>
      refine wp_region_any hm ?_
      refine any_order (Q := fun e a' w' => ∃ s', Inv B s' a' w' ∧ Q e s') hch hconf hfin ops.size _ _ _ (by simp) ?_ ?_ ?_
      · rw [Array.toList_replicate, List.countP_replicate]
        simp
      · intro j o _ hd
        simp only [Array.getD_eq_getD_getElem?, Array.getElem?_replicate] at hd
        split at hd <;> simp at hd
      · rw [sd_none fun i => by
          simp only [Array.getD_eq_getD_getElem?, Array.getElem?_replicate]
          split <;> rfl]
        obtain ⟨G, hs, hx⟩ := hi'
        exact ⟨G, ⟨hs.heap.heap rfl, hs.k, hs.defers, hs.size, hs.tmp⟩, ⟨hx.le, hx.os, hx.tape, hx.output, hx.size, hx.frame, hx.newK, hx.owns, hx.newmu⟩⟩
  · cases hr
end
end Go.Am
