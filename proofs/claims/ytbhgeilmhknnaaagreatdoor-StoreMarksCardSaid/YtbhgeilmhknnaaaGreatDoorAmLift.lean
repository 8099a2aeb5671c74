/- The abstract machine, part 28: from a law's contract to the call's run. -/
import Derived.Test.YtbhgeilmhknnaaaGreatDoorAmNd
import Derived.Test.YtbhgeilmhknnaaaGreatDoorAmBridge
namespace Go.Am
open Go.RowKit
/-- What is known where a law's call begins. -/
def G0 (w : World) : Gh := { K := kw w, mu := [], tk := [], k := [] }
theorem heap0 (w : World) : HeapOK (G0 w) [] w where
  mulen := rfl
  tklen := rfl
  inj := fun b b' blk e => by simp [G0] at e
  lt := fun b blk e => by simp [G0] at e
  boxes := fun b x e => by simp at e
  know := fun b o v e => e
  tok := fun t tk n e => by simp [G0] at e
  tokinj := fun t t' tk tk' n n' b o o' _ e => by simp [G0] at e
theorem own0 (w : World) (blk : Nat) : ¬ (G0 w).owns blk := by
  rintro (⟨b, e⟩ | ⟨t, tk, n, o, e, _⟩) <;> simp [G0] at e
theorem vf_run {P : Program} {f : FuncId} {args : List AV} {cs : List Value} {b : Bool} {W : World} (h : VF P f args (.d (.bool b))) (hK : KOK (G0 W)) (ha : OccVL (G0 W) args cs) :
    Calls P f cs.toArray W fun e w' => e = .returned (.bool b) ∧ Below W.heap.size W w' := by
  refine (h.2 (G0 W) W cs (heap0 W) hK rfl ha).mono ?_
  rintro e w' ⟨G', v, rfl, _, _, hx, hv⟩
  refine ⟨by rw [occV_bool hv], ?_⟩
  exact { os := hx.os, tape := hx.tape, output := hx.output, size := hx.size, block := fun k hk => hx.frame k hk (own0 W k) }
theorem occV_val {W : World} {x : D} {c : Value} (ha : x.isAgg = false) (h : Occ (kw W) x [c]) : OccV (G0 W) (.d x) c := .one ha (.d h)
theorem occV_aggv {W : World} {l : List D} {cs : Array Value} (h : Occ (kw W) (.agg l) cs.toList) : OccV (G0 W) (.d (.agg l)) (.agg cs) := by
  have := OccV.agg (G := G0 W) (v := .d (.agg l)) (cs := cs.toList) rfl (.d h)
  simpa using this
end Go.Am
