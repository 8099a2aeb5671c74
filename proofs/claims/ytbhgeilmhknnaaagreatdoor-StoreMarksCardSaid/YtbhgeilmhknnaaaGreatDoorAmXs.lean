/- The abstract machine, part 14: what a region's run says, in order and in any order. -/
import Derived.Test.YtbhgeilmhknnaaaGreatDoorAmX
namespace Go.Am
section
variable {P : Program} {Z : Zeros P} {B : Base}

theorem app_ev {ops : List Oper} {o : Oper} {nb nk : Nat} {s s' : AS} {r : OR} : (evOf ops o nb nk s r).app s' = s'.app o.dst r := by
  cases r <;> rfl

theorem looks_ev {ops : List Oper} {o : Oper} {s s' : AS} (h : ∀ i ∈ looks ops o, s'.t i = s.t i) : ∀ x ∈ o.op.operands.toList, s'.ev x = s.ev x := by
  intro x hx
  refine ev_agree fun i hi => h i ?_
  refine List.mem_append_right _ (List.mem_flatten.2 ⟨tmpOf x, List.mem_map.2 ⟨x, hx, rfl⟩, hi⟩)

theorem snd_op {ops : List Oper} {o : Oper} {nb nk : Nat} {s : AS} {r : OR} (hg : guardOf ops s o.guard = some true) (hr : evOp P Z o.op s.ev s.h s.k nb nk = some r) : Snd P B ops o (evOf ops o nb nk s r) s := by
  intro s' a w K Q hag hi hK
  obtain ⟨hn, h1, h2, h3⟩ := hag
  have h1 : ∀ i ∈ looks ops o, s'.t i = s.t i := h1
  have hg' : guardOf ops s' o.guard = some true := by
    rw [guard_agree hn fun i hi => h1 i (List.mem_append_left _ hi)]
    exact hg
  obtain ⟨G, hs, hx⟩ := id hi
  rw [guard_sound (ops := ops.toArray) hs (by simpa using hg'), if_pos rfl]
  have hev := looks_ev h1
  have hr' : evOp P Z o.op s'.ev s'.h s'.k nb nk = some r := by
    rw [evOp_agree hev (fun h0 => h2 nb ?_) (fun h0 => h3 nk ?_) (fun hh x hx b hb => h2 b ?_) (fun x hx t ht => h3 t ?_)]
    · exact hr
    · exact List.mem_append_left _ (List.mem_replicate.2 ⟨h0, rfl⟩)
    · exact List.mem_append_left _ (List.mem_replicate.2 ⟨h0, rfl⟩)
    · refine List.mem_append_right _ ?_
      rw [hh]
      exact List.mem_flatten.2 ⟨_, List.mem_map.2 ⟨x, hx, rfl⟩, hb⟩
    · exact List.mem_append_right _ (List.mem_flatten.2 ⟨_, List.mem_map.2 ⟨x, hx, rfl⟩, ht⟩)
  exact op_sound hi hr' fun a' w' hi' => hK a' w' (by rw [app_ev]; exact hi')

theorem snd_row {ops : List Oper} {o : Oper} {nb nk b : Nat} {s : AS} {r : OR} (hg : guardOf ops s o.guard = some true) (hr : evRow P o.op s.ev s.h b = some r) : Snd P B ops o { evOf ops o nb nk s r with rb := b :: (evOf ops o nb nk s r).rb } s := by
  intro s' a w K Q hag hi hK
  obtain ⟨hn, h1, h2, h3⟩ := hag
  have h1 : ∀ i ∈ looks ops o, s'.t i = s.t i := h1
  have hg' : guardOf ops s' o.guard = some true := by
    rw [guard_agree hn fun i hi => h1 i (List.mem_append_left _ hi)]
    exact hg
  obtain ⟨G, hs, hx⟩ := id hi
  rw [guard_sound (ops := ops.toArray) hs (by simpa using hg'), if_pos rfl]
  have hev := looks_ev h1
  have hr' : evRow P o.op s'.ev s'.h b = some r := by
    rw [← hr]
    have hb : s'.h[b]? = s.h[b]? := h2 b (List.mem_cons_self ..)
    unfold evRow
    cases hop : o.op with
    | call c =>
      have ha : c.args.toList.map s'.ev = c.args.toList.map s.ev := List.map_congr_left fun y hy => hev y (by
        rw [hop]
        simp only [Op.operands, Call.operands]
        simp at hy ⊢
        exact .inr hy)
      simp only [ha, evAppR, hb]
    | _ => rfl
  obtain ⟨nx, w', G', v, q1, q2, q3, q4, q5, q6⟩ := rowOp_okay (o := o) hs.heap hs.ev hr'
  unfold Oper.wp
  rw [q1]
  have hfin : Inv B (s'.app o.dst r) (a.put o.dst v) w' := ⟨G', (hs.move q3 (q4.trans (by rw [hs.k])) q5.le).put o.dst q6, hx.trans q5⟩
  have hK' : K (a.put o.dst v) w' := hK _ _ (by
    have := app_ev (ops := ops) (o := o) (nb := nb) (nk := nk) (s := s) (s' := s') (r := r)
    show Inv B ((evOf ops o nb nk s r).app s') _ _
    rw [this]; exact hfin)
  rcases q2 with rfl | ⟨rfl, rfl⟩
  · exact hK'
  · exact hK'
theorem snd_call {ops : List Oper} {o : Oper} {s : AS} {f : FuncId} {args : List AV} {r : AV} {m : List Nat} {E E' : List Box} {mt : List Nat} {T T' : List (Option Nat)} (hg : guardOf ops s o.guard = some true)
    (hc : callOf s o.op = some (f, args)) (hm : m.map (s.h[·]?) = E.map some) (ht : mt.map (s.k[·]?) = T.map some) (hl : CallL P f args m E mt T r E' T') : Snd P B ops o ⟨looks ops o, m, mt, o.dst, r, m, E', mt, T'⟩ s := by
  intro s' a w K Q hag hi hK
  obtain ⟨hn, h1, h2, h3⟩ := hag
  have hg' : guardOf ops s' o.guard = some true := by
    rw [guard_agree hn fun i hi => h1 i (List.mem_append_left _ hi)]
    exact hg
  obtain ⟨G, hs, hx⟩ := id hi
  rw [guard_sound (ops := ops.toArray) hs (by simpa using hg'), if_pos rfl]
  have hc' : callOf s' o.op = some (f, args) := by
    rw [callOf_agree (looks_ev h1)]
    exact hc
  have hm' : m.map (s'.h[·]?) = E.map some := by
    rw [← hm]
    exact List.map_congr_left fun b hb => h2 b hb
  have ht' : mt.map (s'.k[·]?) = T.map some := by
    rw [← ht]
    exact List.map_congr_left fun b hb => h3 b hb
  exact call_sound hi hc' (hl _ _ hm' ht') hK

theorem snd_step {ops : List Oper} {o : Oper} {nb nk : Nat} {s : AS} {orc : Option Orc} {lg : Option Lg} {ev : Ev} (h : stepX P Z ops o nb nk s orc = some (lg, ev))
    (hgood : match orc, lg with | some x, some l => Good1 P x l | none, none => True | _, _ => False) : Snd P B ops o ev s := by
  unfold stepX at h
  split at h
  · cases h
  · rename_i hg
    split at h
    · simp only [Option.some.injEq, Prod.mk.injEq] at h
      obtain ⟨rfl, rfl⟩ := h
      intro s' a w K Q hag hi hK
      obtain ⟨hn, h1, h2, h3⟩ := hag
      have hg' : guardOf ops s' o.guard = some false := by
        rw [guard_agree hn fun i hi => h1 i (List.mem_append_left _ hi)]
        exact hg
      obtain ⟨G, hs, hx⟩ := id hi
      rw [guard_sound (ops := ops.toArray) hs (by simpa using hg'), if_neg (by simp)]
      exact hK _ _ (hi.put o.dst)
    · cases h
  · rename_i hg
    split at h
    · rename_i f args hc
      split at h
      · simp only [Option.some.injEq, Prod.mk.injEq] at h
        obtain ⟨rfl, rfl⟩ := h
        obtain ⟨h1, h2, h3⟩ := hgood
        have hl := VF.loc h1 h2 h3 (fit_dat args)
        intro s' a w K Q hag hi hK
        exact snd_call hg hc (m := []) (mt := []) rfl rfl hl s' a w K Q hag hi hK
      · simp only [Option.some.injEq, Prod.mk.injEq] at h
        obtain ⟨rfl, rfl⟩ := h
        obtain ⟨h1, h2, h3⟩ := hgood
        exact snd_call hg hc h1 h2 h3
      · cases h
    · split at h
      · simp only [Option.some.injEq, Prod.mk.injEq] at h
        obtain ⟨rfl, rfl⟩ := h
        exact snd_op hg hgood
      · simp only [Option.some.injEq, Prod.mk.injEq] at h
        obtain ⟨rfl, rfl⟩ := h
        exact snd_row hg hgood
      · split at h
        · rename_i r hr
          simp only [Option.some.injEq, Prod.mk.injEq] at h
          obtain ⟨rfl, rfl⟩ := h
          exact snd_op hg hr
        · cases h
      · cases h

/-- A chain of events, each right where it stands. -/
inductive Chain (P : Program) (B : Base) (ops : List Oper) : List Oper → List Ev → AS → AS → Prop where
  | nil {s : AS} : Chain P B ops [] [] s s
  | cons {o : Oper} {e : Ev} {os : List Oper} {es : List Ev} {s s' : AS} (h : Snd P B ops o e s) (t : Chain P B ops os es (e.app s) s') : Chain P B ops (o :: os) (e :: es) s s'

theorem chain_run {ops : List Oper} : ∀ (rest : List Oper) (j nb nk : Nat) (s : AS) (orcs : List (Nat × Orc)) (lgs : List Lg) (evs : List Ev) (s' : AS),
    runX P Z ops rest j nb nk s orcs = some (lgs, evs, s') → Good P orcs lgs → Chain P B ops rest evs s s'
  | [], j, nb, nk, s, orcs, lgs, evs, s', h, hg => by
    unfold runX at h
    split at h
    · simp only [Option.some.injEq, Prod.mk.injEq] at h
      obtain ⟨rfl, rfl, rfl⟩ := h
      exact .nil
    · cases h
  | o :: rest, j, nb, nk, s, orcs, lgs, evs, s', h, hg => by
    unfold runX at h
    split at h
    · split at h
      · rename_i x os
        split at h
        · rename_i lg ev hst
          split at h
          · rename_i lgs' evs' s'' hrun
            simp only [Option.some.injEq, Prod.mk.injEq] at h
            obtain ⟨rfl, rfl, rfl⟩ := h
            obtain ⟨g1, g2⟩ := hg
            exact .cons (snd_step hst g1) (chain_run rest _ _ _ _ _ _ _ _ hrun g2)
          · cases h
        · cases h
      · cases h
    · split at h
      · rename_i ev hst
        split at h
        · rename_i lgs' evs' s'' hrun
          simp only [Option.some.injEq, Prod.mk.injEq] at h
          obtain ⟨rfl, rfl, rfl⟩ := h
          exact .cons (snd_step hst trivial) (chain_run rest _ _ _ _ _ _ _ _ hrun hg)
        · cases h
      · cases h

theorem chain_list {ops : List Oper} {Q : Exit → Act → World → Prop} {rest : List Oper} {evs : List Ev} {s s' : AS} (h : Chain P B ops rest evs s s') :
    ∀ (a : Act) (w : World), Inv B s a w → (∀ a' w', Inv B s' a' w' → Q .normal a' w') → wpList P ops.toArray Q rest a w := by
  induction h with
  | nil => intro a w hi hK; exact hK _ _ hi
  | cons h t ih =>
    intro a w hi hK
    have := h _ a w (wpList P ops.toArray Q _) Q (Agree.refl _ _) hi fun a' w' hi' => ih a' w' hi' hK
    unfold wpList
    split at this
    · rename_i hw
      rw [if_pos hw]
      exact .inl this
    · rename_i hw
      rw [if_neg hw]
      exact this
end
end Go.Am
