/- The abstract machine, part 25: functions shown in the kit's own way, as functions of data. -/
import Derived.Test.YtbhgeilmhknnaaaGreatDoorAmGhost
import Derived.Below
namespace Go.Am
theorem heap_below {G : Gh} {w w' : World} (hh : HeapOK G [] w) (hk : G.k = []) (hb : Go.RowKit.Below w.heap.size w w') : HeapOK G [] w' ∧ Ext G G w w' := by
  have hmu : G.mu = [] := List.eq_nil_of_length_eq_zero hh.mulen
  have htk : G.tk = [] := List.eq_nil_of_length_eq_zero (by rw [hh.tklen, hk]; rfl)
  refine ⟨⟨hh.mulen, hh.tklen, hh.inj, fun b blk e => by rw [hmu] at e; simp at e, fun b x e => by simp at e, fun b o v e => ?_, fun t tk n e => by rw [htk] at e; simp at e, hh.tokinj⟩,
    ⟨.refl G, hb.os, hb.tape, hb.output, hb.size, fun blk hlt _ => hb.block blk hlt, fun _ _ _ _ => rfl, fun _ _ h => h, fun _ _ h => .inl h⟩⟩
  have h1 := hh.know b o v e
  have hlt : b < w.heap.size := by
    unfold World.cell? at h1
    cases ho : w.heap[b]? with
    | none => simp [ho] at h1
    | some x => exact (Array.getElem?_eq_some_iff.1 ho).1
  exact (hb.cell (p := ⟨b, o, none⟩) hlt).trans h1
theorem vf_below {P : Program} {f : FuncId} {args : List AV} {r : AV} (hent : enters P f = true)
    (h : ∀ (G : Gh) (w : World) (cs : List Value), KOK G → (∀ b o v, G.K b o = some v → w.cell? ⟨b, o, none⟩ = some v) → OccVL G args cs → Calls P f cs.toArray w fun e w' => ∃ v, e = .returned v ∧ Go.RowKit.Below w.heap.size w w' ∧ OccV G r v) : VF P f args r := by
  refine ⟨hent, fun G w cs hh hK hk hargs => (h G w cs hK hh.know hargs).mono ?_⟩
  rintro e w' ⟨v, rfl, hb, hv⟩
  obtain ⟨h1, h2⟩ := heap_below hh hk hb
  exact ⟨G, v, rfl, h1, hk, h2, hv⟩
end Go.Am
