/- The abstract machine, part 23: a slice compared with nil. -/
import Derived.Test.YtbhgeilmhknnaaaGreatDoorAmCall
namespace Go.Am
section
variable {P : Program} {B : Base} {Q : Exit → AS → Prop} {n : Nat} {l0 : List (Nat × AV)} {h0 : List Box} {k0 : List (Option Nat)}
theorem run_eq_sl (d : Nat) {t e : TypeId} (a : Option Addr) (x y : Nat) {w : World} (hu : P.underlying t = some (.slice e)) : (Op.equalIn (d + 1) t (.slice a x y) (.slice none 0 0)).run P w = .ok a.isNone w := by
  cases a <;> simp [Op.equalIn, run_underlying hu]
theorem items_slice {G : Gh} {v : AV} {c : Value} {L : List D} (h : OccV G v c) (hv : v.items = some L) : ∃ a x y, c = .slice a x y ∧ (a = none → L = []) := by
  unfold AV.items at hv
  split at hv
  · cases hv
    cases occV_leaf h rfl rfl with
    | d h =>
      cases h with
      | nils => exact ⟨_, _, _, rfl, fun _ => rfl⟩
      | sl => exact ⟨_, _, _, rfl, fun h => by cases h⟩
  · cases hv
    cases occV_leaf h rfl rfl with
    | fulln => exact ⟨_, _, _, rfl, fun _ => rfl⟩
    | full => exact ⟨_, _, _, rfl, fun h => by cases h⟩
  · cases hv
    cases occV_leaf h rfl rfl with
    | own _ _ _ _ h =>
      cases h with
      | nils => exact ⟨_, _, _, rfl, fun _ => rfl⟩
      | sl => exact ⟨_, _, _, rfl, fun h => by cases h⟩
  · cases hv
theorem aw_nil {id : Nat} {o1 o2 : Oper} {x y : Code} {i a b t e : Nat} {L : List D} {l1 : List (Nat × AV)} (h1 : (o1.op, o1.dst, o1.guard) = (.move (.tmp i), some a, none)) (h2 : (o2.op, o2.dst, o2.guard) = (.binOp .eql t (.tmp a) (.const (.slice none 0 0)) t, some b, none))
    (hu : P.underlying t = some (.slice e)) (hv : (look l0 i).items = some L) (hab : (decide (a < n) && decide (b < n) && !(a == b)) = true) (hl : l1.map (fun q => look l0 q.1) = l1.map Prod.snd) (hla : (l1.all fun q => !(q.1 == a) && !(q.1 == b)) = true)
    (hx : L = [] → AWp P B x Q (st n l1 h0 k0)) (hy : AWp P B y Q (st n l1 h0 k0)) : AWp P B (.seq (.region id #[o1, o2] false) (.cond (.tmp b) x y)) Q (st n l0 h0 k0) := by
  obtain ⟨op1, d1, g1⟩ : ∃ o d g, o1.op = o ∧ o1.dst = d ∧ o1.guard = g := ⟨_, _, _, rfl, rfl, rfl⟩
  simp only [Prod.mk.injEq] at h1 h2
  simp only [Bool.and_eq_true, decide_eq_true_eq, Bool.not_eq_true', beq_eq_false_iff_ne, ne_eq, List.all_eq_true] at hab hla
  rintro ac w ⟨G, hs, hxt⟩
  refine wp_seq (wp_region_list ?_)
  have hsz : ac.tmps.size = n := hs.size
  -- the first one
  have hc := hs.tmp i
  generalize hcv : ac.tmps.getD i undef = c at hc
  have hc : OccV G (look l0 i) c := hc
  obtain ⟨ad, p, q, rfl, hnil⟩ := items_slice hc hv
  have e1 : (execOp ac.eval o1).run P w = .ok (.value (.slice ad p q)) w := by
    unfold execOp
    rw [h1.1]
    simp only [Act.eval, hcv]
    rfl
  unfold wpList
  have w1 : ∀ a : Act, Region.wanted o1 (yielded #[o1, o2] a.tmps) = true := fun a => by simp [Region.wanted, h1.2.2]
  have w2 : ∀ a : Act, Region.wanted o2 (yielded #[o1, o2] a.tmps) = true := fun a => by simp [Region.wanted, h2.2.2]
  rw [if_pos (w1 _)]
  refine .inl ?_
  unfold Oper.wp
  rw [e1]
  show wpList P _ _ [o2] (ac.put o1.dst (.slice ad p q)) w
  rw [h1.2.1]
  unfold wpList
  rw [if_pos (w2 _)]
  refine .inl ?_
  have hget : ∀ (a : Act) (j : Nat) (v : Value), j < a.tmps.size → (a.put (some j) v).tmps.getD j undef = v := fun a j v hj => by
    simp [Act.put, Array.getD_eq_getD_getElem?, hj]
  have e2 : (execOp (ac.put (some a) (.slice ad p q)).eval o2).run P w = .ok (.value (.bool ad.isNone)) w := by
    unfold execOp
    rw [h2.1]
    simp only [Act.eval, hget ac a (.slice ad p q) (by omega)]
    have := run_eq_sl (P := P) (w := w) 9999 ad p q hu
    have hg : (eqGuard .eql t (.tmp a) (.const (.slice none 0 0)) (.slice ad p q) (.slice none 0 0)).run P w = .ok () w := by simp [eqGuard]
    simp [Sem.run_bind, hg, binOp, Op.equal, Op.maxDepth, this]
  unfold Oper.wp
  rw [e2]
  simp only [Oper.upon]
  rw [h2.2.1]
  unfold wpList
  -- the state behind
  let a2 := (ac.put (some a) (.slice ad p q)).put (some b) (.bool ad.isNone)
  have hinv : Inv B (st n l1 h0 k0) a2 w := by
    refine ⟨G, ⟨hs.heap, hs.k, hs.defers, ?_, fun j => ?_⟩, hxt⟩
    · simp [a2, Act.put, hsz, st]
    · show OccV G (look l1 j) _
      have hlook : look l1 j = .any ∨ (look l1 j = look l0 j ∧ j ≠ a ∧ j ≠ b) := by
        clear hx hy
        induction l1 with
        | nil => exact .inl rfl
        | cons q l ih =>
          obtain ⟨m, v⟩ := q
          simp only [List.map_cons, List.cons.injEq] at hl
          change (bif Nat.beq j m then v else look l j) = .any ∨ ((bif Nat.beq j m then v else look l j) = look l0 j ∧ j ≠ a ∧ j ≠ b)
          cases hb : Nat.beq j m with
          | true =>
            have := Nat.eq_of_beq_eq_true hb
            subst this
            have := hla (j, v) (List.mem_cons_self ..)
            exact .inr ⟨hl.1.symm, this.1, this.2⟩
          | false => exact ih hl.2 fun q hq => hla q (List.mem_cons_of_mem _ hq)
      rcases hlook with h | ⟨h, g1, g2⟩
      · rw [h]; exact .any _
      · rw [h]
        have ht : OccV G (look l0 j) (ac.tmps.getD j undef) := hs.tmp j
        simp only [a2, Act.put, Array.getD_eq_getD_getElem?] at ht ⊢
        rw [Array.getElem?_setIfInBounds_ne (fun e => g2 e.symm), Array.getElem?_setIfInBounds_ne (fun e => g1 e.symm)]
        exact ht
  have hcond : a2.eval (.tmp b) = .bool ad.isNone := by
    simp only [Act.eval]
    exact hget _ b _ (by simp [Act.put]; omega)
  refine wp_cond_split hcond (fun h => ?_) (fun h => ?_)
  · exact hx (hnil (by cases ad with | none => rfl | some _ => cases h)) a2 w hinv
  · exact hy a2 w hinv
end
end Go.Am
