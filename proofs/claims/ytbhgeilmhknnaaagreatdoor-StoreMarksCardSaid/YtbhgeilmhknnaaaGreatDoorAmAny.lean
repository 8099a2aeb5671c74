/- The abstract machine, part 29: a region of open order, walked order by order. -/
import Derived.Test.YtbhgeilmhknnaaaGreatDoorAmNd
namespace Go.Am
section
variable {P : Program} {Z : Zeros P} {B : Base} {Q : Exit → AS → Prop} {n : Nat} {l0 : List (Nat × AV)} {h0 : List Box} {k0 : List (Option Nat)}
def AAny (P : Program) (B : Base) (ops : Array Oper) (Q : Exit → AS → Prop) (fuel : Nat) (listed : Array Bool) (s : AS) : Prop :=
  ∀ a w, Inv B s a w → wpAny P .any ops (fun e a' w' => ∃ s', Inv B s' a' w' ∧ Q e s') fuel listed a w
theorem any_end {ops : Array Oper} {fuel : Nat} {listed : Array Bool} {s : AS} (hr : Region.ready .any ops listed = []) (hq : Q .normal s) : AAny P B ops Q fuel listed s := by
  intro a w hi
  cases fuel with
  | zero => exact ⟨hr, s, hi, hq⟩
  | succ f => exact ⟨fun _ => ⟨s, hi, hq⟩, fun j hj => by rw [hr] at hj; cases hj⟩
def OrcOK (P : Program) : Option Orc → Option Lg → Prop
  | some x, some l => Good1 P x l
  | none, none => True
  | _, _ => False
def stepS (P : Program) (Z : Zeros P) (ops : List Oper) (j : Nat) (s : AS) (orc : Option Orc) (l : List (Nat × AV)) : Option (Option Lg × List AV × List Box × List (Option Nat)) :=
  match ops[j]? with
  | some o => match stepX P Z ops o 0 0 s orc with
    | some (lg, ev) => some (lg, l.map (fun q => (ev.app s).t q.1), (ev.app s).h, (ev.app s).k)
    | none => none
  | none => none
def ADo (P : Program) (B : Base) (ops : Array Oper) (Q : Exit → AS → Prop) (fuel : Nat) (listed : Array Bool) (s : AS) (j : Nat) : Prop :=
  ∃ o e, ops[j]? = some o ∧ Snd P B ops.toList o e s ∧ AAny P B ops Q fuel (listed.setIfInBounds j true) (e.app s)
theorem any_do {ops : Array Oper} {fuel : Nat} {listed : Array Bool} {j : Nat} (orc : Option Orc) (lg : Option Lg) (l : List (Nat × AV)) (h : List Box) (k : List (Option Nat))
    (hr : stepS P Z ops.toList j (st n l0 h0 k0) orc l = some (lg, l.map Prod.snd, h, k)) (hg : OrcOK P orc lg) (hn : AAny P B ops Q fuel (listed.setIfInBounds j true) (st n l h k)) : ADo P B ops Q fuel listed (st n l0 h0 k0) j := by
  unfold stepS at hr
  split at hr
  · rename_i o ho
    split at hr
    · rename_i lg' ev hst
      simp only [Option.some.injEq, Prod.mk.injEq] at hr
      obtain ⟨rfl, hl, hh, hk⟩ := hr
      have hsnd : Snd P B ops.toList o ev (st n l0 h0 k0) := by
        cases orc with
        | none => cases lg' with
          | none => exact snd_step hst trivial
          | some _ => exact hg.elim
        | some x => cases lg' with
          | none => exact hg.elim
          | some y => exact snd_step hst hg
      exact ⟨o, ev, by simpa using ho, hsnd, fun a w hi => hn a w (inv_st hi (app_n _ _) hl hh hk)⟩
    · cases hr
  · cases hr
theorem any_go {ops : Array Oper} {fuel : Nat} {listed : Array Bool} {s : AS} (js : List Nat) (hr : Region.ready .any ops listed = js) (hne : js ≠ []) (h : ∀ j ∈ js, ADo P B ops Q fuel listed s j) : AAny P B ops Q (fuel + 1) listed s := by
  intro a w hi
  refine ⟨fun e => absurd (hr.symm.trans e) hne, fun j hj => ?_⟩
  rw [hr] at hj
  obtain ⟨o, e, ho, hs, hn⟩ := h j hj
  unfold wpOp
  simp only [ho]
  have := hs s a w (wpAny P .any ops (fun e a' w' => ∃ s', Inv B s' a' w' ∧ Q e s') fuel (listed.setIfInBounds j true)) (fun e a' w' => ∃ s', Inv B s' a' w' ∧ Q e s') (Agree.refl _ _) hi fun a' w' hi' => hn a' w' hi'
  rw [Array.toArray_toList] at this
  split at this
  · rename_i hw
    rw [if_pos hw]
    exact .inl this
  · rename_i hw
    rw [if_neg hw]
    exact this
theorem any_1 {ops : Array Oper} {fuel : Nat} {listed : Array Bool} {s : AS} {i : Nat} (hr : Region.ready .any ops listed = [i]) (h : ADo P B ops Q fuel listed s i) : AAny P B ops Q (fuel + 1) listed s :=
  any_go [i] hr (by simp) fun j hj => by
    simp only [List.mem_singleton] at hj
    subst hj
    exact h
theorem any_2 {ops : Array Oper} {fuel : Nat} {listed : Array Bool} {s : AS} {i j : Nat} (hr : Region.ready .any ops listed = [i, j]) (h : ADo P B ops Q fuel listed s i) (g : ADo P B ops Q fuel listed s j) : AAny P B ops Q (fuel + 1) listed s :=
  any_go [i, j] hr (by simp) fun m hm => by
    simp only [List.mem_cons, List.not_mem_nil, or_false] at hm
    rcases hm with rfl | rfl
    · exact h
    · exact g
theorem aw_any {rid : Nat} {ops : Array Oper} {s : AS} (f : Nat) (hm : P.follows .mixedOrders = true) (hf : ops.size = f) (h : AAny P B ops Q f (Array.replicate f false) s) : AWp P B (.region rid ops true) Q s := by
  intro a w hi
  refine wp_region_any hm ?_
  rw [hf]
  refine h _ _ ?_
  obtain ⟨G, hs, hx⟩ := hi
  exact ⟨G, ⟨hs.heap.heap rfl, hs.k, hs.defers, hs.size, hs.tmp⟩, ⟨hx.le, hx.os, hx.tape, hx.output, hx.size, hx.frame, hx.newK, hx.owns, hx.newmu⟩⟩
end
end Go.Am
