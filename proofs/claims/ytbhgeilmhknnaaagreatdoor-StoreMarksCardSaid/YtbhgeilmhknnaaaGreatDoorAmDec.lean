/- super.Decode at the empty text, by the kit's walk. -/
import Derived.Test.YtbhgeilmhknnaaaGreatDoorAmErr
import Derived.Test.YtbhgeilmhknnaaaGreatDoorAmRead
namespace Go.Am
open Go.Proofs Go.RowKit Go.Extern.Stop Go.Stop Go.Extern
set_option maxRecDepth 100000
set_option maxHeartbeats 2000000 in
theorem copen_nil (w : World) : Calls Tryz.prog 147 #[.string ⟨#[]⟩] w fun e w' => e = .returned (.tuple #[.string ⟨#[]⟩, .int .i64 2]) ∧ w' = w := by
  go_enter Tryz.func147, Tryz.ntmps147
  go_wp2
  go_ret2
  exact ⟨rfl, rfl⟩
set_option maxHeartbeats 2000000 in
theorem sopen_nil (w : World) : Calls Tryz.prog 266 #[.string ⟨#[]⟩] w fun e w' => e = .returned (.tuple #[.string ⟨#[]⟩, .iface 227 (.pointer (some ⟨w.heap.size, 0, none⟩))]) ∧ w' = w.alloc (.cells #[.string ⟨#[115, 101, 97, 108]⟩, .iface 40 (.int .i64 2)] 232) := by
  go_enter Tryz.func266, Tryz.ntmps266
  go_wp2_with (go_at_call 147; refine (copen_nil _).mono ?_; rintro e w' ⟨rfl, rfl⟩)
  go_ret2
  exact ⟨rfl, rfl⟩
def zsup : Array Value := #[Value.int .i64 0, Value.int .u64 0, Value.int .u64 0, Value.int .u64 0, Value.int .u64 0, Value.bool false, Value.bool false, Value.bool false]
set_option maxHeartbeats 4000000 in
theorem decode_nil (w : World) : Calls Tryz.prog 213 #[.string ⟨#[]⟩] w fun e w' => e = .returned (.tuple #[.agg #[Value.int .i64 0, Value.int .u64 0, Value.int .u64 0, Value.int .u64 0, Value.int .u64 0, Value.bool false, Value.bool false, Value.bool false], .iface 227 (.pointer (some ⟨w.heap.size + 1, 0, none⟩))]) ∧ w' = (w.alloc (.cells #[Value.int .i64 0, Value.int .u64 0, Value.int .u64 0, Value.int .u64 0, Value.int .u64 0, Value.bool false, Value.bool false, Value.bool false] 34)).alloc (.cells #[.string ⟨#[115, 101, 97, 108]⟩, .iface 40 (.int .i64 2)] 232) := by
  go_enter Tryz.func213, Tryz.ntmps213
  go_wp2_with (go_at_call 266; refine (sopen_nil _).mono ?_; rintro e w' ⟨rfl, rfl⟩)
  refine bodyPost_ret (v := .tuple #[.agg zsup, .iface 227 (.pointer (some ⟨w.heap.size + 1, 0, none⟩))]) ?_ rfl ⟨rfl, rfl⟩
  generalize Value.string ⟨#[115, 101, 97, 108]⟩ = sv
  simp [results, Tryz.f213, go_sem]
  rfl
theorem as_w (bt : Nat) (e : Addr) (old : Value) (w0 : World) (hg : w0.cell? ⟨0, 0, none⟩ = some (.iface 340 (.agg #[.pointer (some ⟨2, 224, none⟩)]))) (hb : Boxed w0 bt 227 old) :
    Calls Tryz.prog 215 #[.iface 227 (.pointer (some e)), .iface 230 (.pointer (some ⟨bt, 0, none⟩))] w0 fun ev w1 => ev = .returned (.bool true) ∧ Below bt w0 w1 ∧ Boxed w1 bt 227 (.pointer (some e)) := by
  have hlt := hb.lt
  refine (ew_hit ⟨bt, 0, none⟩ e old w0 hg hb.cell hb.frozen).mono ?_
  rintro ev w1 ⟨rfl, rfl⟩
  exact ⟨rfl, (((((Below.refl bt w0).alloc (by omega) _).alloc (by simp <;> omega) _).alloc (by simp <;> omega) _).alloc (by simp <;> omega) _).setCell (p := ⟨bt, 0, none⟩) (Nat.le_refl _) _, ((((hb.alloc _).alloc _).alloc _).alloc _).set _⟩
theorem as_n (bt : Nat) (n : Int) (old : Value) (w0 : World) (hg : w0.cell? ⟨0, 0, none⟩ = some (.iface 340 (.agg #[.pointer (some ⟨2, 224, none⟩)]))) (hb : Boxed w0 bt 40 old) :
    Calls Tryz.prog 215 #[.iface 40 (.int .i64 n), .iface 233 (.pointer (some ⟨bt, 0, none⟩))] w0 fun ev w1 => ev = .returned (.bool true) ∧ Below bt w0 w1 ∧ Boxed w1 bt 40 (.int .i64 n) := by
  have hlt := hb.lt
  refine (en_hit ⟨bt, 0, none⟩ n old w0 hg hb.cell hb.frozen).mono ?_
  rintro ev w1 ⟨rfl, rfl⟩
  exact ⟨rfl, (((((Below.refl bt w0).alloc (by omega) _).alloc (by simp <;> omega) _).alloc (by simp <;> omega) _).alloc (by simp <;> omega) _).setCell (p := ⟨bt, 0, none⟩) (Nat.le_refl _) _, ((((hb.alloc _).alloc _).alloc _).alloc _).set _⟩
theorem set_heap {W : World} {b : Nat} {c : Array Value} {t : TypeId} {fr : Nat × Nat} (j : Nat) (v : Value) (h : W.heap[b]? = some (.cells c t fr)) : (W.setCell ⟨b, j, none⟩ v).heap[b]? = some (.cells (c.setIfInBounds j v) t fr) := by
  obtain ⟨hlt, hk⟩ := Array.getElem?_eq_some_iff.1 h
  show (W.heap.modify b _)[b]? = _
  rw [Array.getElem?_eq_getElem (by rw [Array.size_modify]; exact hlt), Array.getElem_modify_self, hk]
  rfl
set_option maxHeartbeats 8000000 in
theorem dec_nil (w : World) (hg : w.cell? ⟨0, 0, none⟩ = some (.iface 340 (.agg #[.pointer (some ⟨2, 224, none⟩)]))) : Calls Tryz.prog 145 #[.string ⟨#[]⟩] w fun e w' => e = .returned (.tuple #[.agg #[Value.int .i64 0, Value.int .u64 0, Value.int .u64 0, Value.int .u64 0, Value.int .u64 0, Value.bool false, Value.bool false, Value.bool false], .int .i64 2]) ∧ Below w.heap.size w w' := by
  go_enter Tryz.func145, Tryz.ntmps145
  have hlt : 0 < w.heap.size := cell_lt hg
  go_wp2_with (first | (go_at_call 213; refine (decode_nil _).mono ?_; rintro e w' ⟨rfl, rfl⟩))
  generalize hw0 : (((((w.alloc (Obj.cells #[Value.int .i64 0, Value.int .u64 0, Value.int .u64 0, Value.int .u64 0, Value.int .u64 0, Value.bool false, Value.bool false, Value.bool false] 34)).alloc (Obj.cells #[Value.int .i64 0, Value.int .u64 0, Value.int .u64 0, Value.int .u64 0, Value.int .u64 0, Value.bool false, Value.bool false, Value.bool false] 34)).alloc (Obj.cells #[Value.string ⟨#[115, 101, 97, 108]⟩, Value.iface 40 (Value.int .i64 2)] 232)).alloc (Obj.cells #[Value.int .i64 0, Value.int .u64 0, Value.int .u64 0, Value.int .u64 0, Value.int .u64 0, Value.bool false, Value.bool false, Value.bool false] 34)).alloc (Obj.cells #[Value.pointer none] 227)) = w0
  have hsz : w0.heap.size = w.heap.size + 5 := by rw [← hw0]; simp
  have hB0 : Below w.heap.size w w0 := by
    rw [← hw0]
    exact (((((Below.refl _ w).alloc (Nat.le_refl _) _).alloc (by simp) _).alloc (by simp <;> omega) _).alloc (by simp <;> omega) _).alloc (by simp <;> omega) _
  have b0 : w0.heap[w.heap.size]? = some (.cells #[Value.int .i64 0, Value.int .u64 0, Value.int .u64 0, Value.int .u64 0, Value.int .u64 0, Value.bool false, Value.bool false, Value.bool false] 34 (0, 0)) := by
    rw [← hw0, Below.heap_alloc _ _ _ (by simp <;> omega), Below.heap_alloc _ _ _ (by simp <;> omega), Below.heap_alloc _ _ _ (by simp <;> omega), Below.heap_alloc _ _ _ (by simp <;> omega)]
    exact World.alloc_heap_new w _
  have b2 : w0.heap[w.heap.size + 1 + 1]? = some (.cells #[.string ⟨#[115, 101, 97, 108]⟩, .iface 40 (.int .i64 2)] 232 (0, 0)) := by
    rw [← hw0, Below.heap_alloc _ _ _ (by simp <;> omega), Below.heap_alloc _ _ _ (by simp <;> omega)]
    have := World.alloc_heap_new ((w.alloc (Obj.cells #[Value.int .i64 0, Value.int .u64 0, Value.int .u64 0, Value.int .u64 0, Value.int .u64 0, Value.bool false, Value.bool false, Value.bool false] 34)).alloc (Obj.cells #[Value.int .i64 0, Value.int .u64 0, Value.int .u64 0, Value.int .u64 0, Value.int .u64 0, Value.bool false, Value.bool false, Value.bool false] 34)) (.cells #[.string ⟨#[115, 101, 97, 108]⟩, .iface 40 (.int .i64 2)] 232)
    rwa [World.size_alloc, World.size_alloc] at this
  have b4 : Boxed w0 (w.heap.size + 1 + 1 + 1 + 1) 227 (.pointer none) := by
    rw [← hw0]
    have := Boxed.new ((((w.alloc (Obj.cells #[Value.int .i64 0, Value.int .u64 0, Value.int .u64 0, Value.int .u64 0, Value.int .u64 0, Value.bool false, Value.bool false, Value.bool false] 34)).alloc (Obj.cells #[Value.int .i64 0, Value.int .u64 0, Value.int .u64 0, Value.int .u64 0, Value.int .u64 0, Value.bool false, Value.bool false, Value.bool false] 34)).alloc (Obj.cells #[Value.string ⟨#[115, 101, 97, 108]⟩, Value.iface 40 (Value.int .i64 2)] 232)).alloc (Obj.cells #[Value.int .i64 0, Value.int .u64 0, Value.int .u64 0, Value.int .u64 0, Value.int .u64 0, Value.bool false, Value.bool false, Value.bool false] 34)) 227 (.pointer none)
    rwa [World.size_alloc, World.size_alloc, World.size_alloc, World.size_alloc] at this
  clear hw0
  have hg0 := (hB0.cell (p := ⟨0, 0, none⟩) hlt).trans hg
  refine (er_is (w.heap.size + 1 + 1) 2 3 w0 rfl (by simp [World.cell?, b2])).mono ?_
  rintro e w' ⟨rfl, rfl⟩
  go_wp2_with (first
    | (go_at_call 215; refine (as_n w1.heap.size 2 (.int .i64 0) _ (by rw [World.cell?_alloc_lt _ _ _ (cell_lt hg1)]; exact hg1) (Boxed.new w1 40 (.int .i64 0))).mono ?_; rintro e w2 ⟨rfl, hB2, b52⟩
       have b52c := b52.cell
       have hne : ¬ w1.heap.size = w.heap.size := by have := hB1.size; omega
       have hne' : ¬ w.heap.size = w1.heap.size := by have := hB1.size; omega
       have hB02 : Below w.heap.size w w2 := hB0.trans ((hB1.mono (by omega)).trans (((Below.refl _ w1).alloc (by have := hB1.size; omega) _).trans (hB2.mono (by have := hB1.size; omega))))
       have b02 : w2.heap[w.heap.size]? = some (.cells #[Value.int .i64 0, Value.int .u64 0, Value.int .u64 0, Value.int .u64 0, Value.int .u64 0, Value.bool false, Value.bool false, Value.bool false] 34 (0, 0)) := (hB2.block _ (by have := hB1.size; omega)).trans ((Below.heap_alloc _ _ _ (by have := hB1.size; omega)).trans ((hB1.block _ (by omega)).trans b0))
       have k0 : w2.cell? ⟨w.heap.size, 0, none⟩ = some (.int .i64 0) := by simp [World.cell?, b02]
       have f0 : w2.frozen? ⟨w.heap.size, 0, none⟩ = false := by simp [World.frozen?, b02]
       have k1 : w2.cell? ⟨w.heap.size, 1, none⟩ = some (.int .u64 0) := by simp [World.cell?, b02]
       have f1 : w2.frozen? ⟨w.heap.size, 1, none⟩ = false := by simp [World.frozen?, b02]
       have k2 : w2.cell? ⟨w.heap.size, 2, none⟩ = some (.int .u64 0) := by simp [World.cell?, b02]
       have f2 : w2.frozen? ⟨w.heap.size, 2, none⟩ = false := by simp [World.frozen?, b02]
       have k3 : w2.cell? ⟨w.heap.size, 3, none⟩ = some (.int .u64 0) := by simp [World.cell?, b02]
       have f3 : w2.frozen? ⟨w.heap.size, 3, none⟩ = false := by simp [World.frozen?, b02]
       have k4 : w2.cell? ⟨w.heap.size, 4, none⟩ = some (.int .u64 0) := by simp [World.cell?, b02]
       have f4 : w2.frozen? ⟨w.heap.size, 4, none⟩ = false := by simp [World.frozen?, b02]
       have k5 : w2.cell? ⟨w.heap.size, 5, none⟩ = some (.bool false) := by simp [World.cell?, b02]
       have f5 : w2.frozen? ⟨w.heap.size, 5, none⟩ = false := by simp [World.frozen?, b02]
       have k6 : w2.cell? ⟨w.heap.size, 6, none⟩ = some (.bool false) := by simp [World.cell?, b02]
       have f6 : w2.frozen? ⟨w.heap.size, 6, none⟩ = false := by simp [World.frozen?, b02]
       have k7 : w2.cell? ⟨w.heap.size, 7, none⟩ = some (.bool false) := by simp [World.cell?, b02]
       have f7 : w2.frozen? ⟨w.heap.size, 7, none⟩ = false := by simp [World.frozen?, b02])
    | (go_at_call 215; refine (as_w (w.heap.size + 1 + 1 + 1 + 1) ⟨w.heap.size + 1 + 1, 0, none⟩ (.pointer none) w' hg0 b4).mono ?_; rintro e w1 ⟨rfl, hB1, b41⟩
       have b41c := b41.cell
       have b21 : w1.cell? ⟨w.heap.size + 1 + 1, 0 + 1, none⟩ = some (.iface 40 (.int .i64 2)) := (hB1.cell (p := ⟨w.heap.size + 1 + 1, 0 + 1, none⟩) (by simp <;> omega)).trans (by simp [World.cell?, b2])
       have hg1 := (hB1.cell (p := ⟨0, 0, none⟩) (by simp <;> omega)).trans hg0
       have z1 : (w1.alloc (.cells #[.int .i64 0] 40)).cell? ⟨w.heap.size + 1 + 1 + 1 + 1, 0, none⟩ = some (.pointer (some ⟨w.heap.size + 1 + 1, 0, none⟩)) := (b41.alloc _).cell
       have z2 : (w1.alloc (.cells #[.int .i64 0] 40)).cell? ⟨w.heap.size + 1 + 1, 0 + 1, none⟩ = some (.iface 40 (.int .i64 2)) := by rw [World.cell?_alloc_lt _ _ _ (cell_lt b21)]; exact b21))
  have hW3 : ((((((((w2.setCell ⟨w.heap.size, 0, none⟩ (.int .i64 0)).setCell ⟨w.heap.size, 1, none⟩ (.int .u64 0)).setCell ⟨w.heap.size, 2, none⟩ (.int .u64 0)).setCell ⟨w.heap.size, 3, none⟩ (.int .u64 0)).setCell ⟨w.heap.size, 4, none⟩ (.int .u64 0)).setCell ⟨w.heap.size, 5, none⟩ (.bool false)).setCell ⟨w.heap.size, 6, none⟩ (.bool false)).setCell ⟨w.heap.size, 7, none⟩ (.bool false)).heap[w.heap.size]? = some (.cells zsup 34 (0, 0)) := (set_heap 7 (.bool false) (set_heap 6 (.bool false) (set_heap 5 (.bool false) (set_heap 4 (.int .u64 0) (set_heap 3 (.int .u64 0) (set_heap 2 (.int .u64 0) (set_heap 1 (.int .u64 0) (set_heap 0 (.int .i64 0) b02))))))))
  have hBl : Below w.heap.size w ((((((((w2.setCell ⟨w.heap.size, 0, none⟩ (.int .i64 0)).setCell ⟨w.heap.size, 1, none⟩ (.int .u64 0)).setCell ⟨w.heap.size, 2, none⟩ (.int .u64 0)).setCell ⟨w.heap.size, 3, none⟩ (.int .u64 0)).setCell ⟨w.heap.size, 4, none⟩ (.int .u64 0)).setCell ⟨w.heap.size, 5, none⟩ (.bool false)).setCell ⟨w.heap.size, 6, none⟩ (.bool false)).setCell ⟨w.heap.size, 7, none⟩ (.bool false)) := (Below.setCell (Below.setCell (Below.setCell (Below.setCell (Below.setCell (Below.setCell (Below.setCell (Below.setCell hB02 (p := ⟨w.heap.size, 0, none⟩) (Nat.le_refl _) _) (p := ⟨w.heap.size, 1, none⟩) (Nat.le_refl _) _) (p := ⟨w.heap.size, 2, none⟩) (Nat.le_refl _) _) (p := ⟨w.heap.size, 3, none⟩) (Nat.le_refl _) _) (p := ⟨w.heap.size, 4, none⟩) (Nat.le_refl _) _) (p := ⟨w.heap.size, 5, none⟩) (Nat.le_refl _) _) (p := ⟨w.heap.size, 6, none⟩) (Nat.le_refl _) _) (p := ⟨w.heap.size, 7, none⟩) (Nat.le_refl _) _)
  go_region
  go_wp2
  generalize ((((((((w2.setCell ⟨w.heap.size, 0, none⟩ (.int .i64 0)).setCell ⟨w.heap.size, 1, none⟩ (.int .u64 0)).setCell ⟨w.heap.size, 2, none⟩ (.int .u64 0)).setCell ⟨w.heap.size, 3, none⟩ (.int .u64 0)).setCell ⟨w.heap.size, 4, none⟩ (.int .u64 0)).setCell ⟨w.heap.size, 5, none⟩ (.bool false)).setCell ⟨w.heap.size, 6, none⟩ (.bool false)).setCell ⟨w.heap.size, 7, none⟩ (.bool false)) = W3 at hW3 hBl ⊢
  refine bodyPost_ret (v := .tuple #[.agg zsup, .int .i64 2]) ?_ rfl ⟨rfl, hBl.drew⟩
  have hW4 : W3.drew.heap[w.heap.size]? = some (.cells zsup 34 (0, 0)) := hW3
  have q : ∀ j v, zsup[j]? = some v → W3.drew.cell? ⟨w.heap.size, j, none⟩ = some v := fun j v hj => by
    unfold World.cell?
    rw [hW4]
    exact hj
  have q0 := q 0 _ rfl
  have q1 := q 1 _ rfl
  have q2 := q 2 _ rfl
  have q3 := q 3 _ rfl
  have q4 := q 4 _ rfl
  have q5 := q 5 _ rfl
  have q6 := q 6 _ rfl
  have q7 := q 7 _ rfl
  simp [results, Tryz.f145, go_sem, q0, q1, q2, q3, q4, q5, q6, q7]
  rfl
def zsuper : Super := ⟨0, ⟨0, 0, ⟨0, 0⟩⟩, false, false, false⟩
theorem t_dec_nil : VF Pg 145 [(.d (eS []))] (single [(.d (eSuper zsuper)), (.d (eI64 2))]) := by
  refine vf_below (by kernel_rfl) fun G w cs hK hk hargs => ?_
  obtain ⟨c1, cs1, rfl, a1, hargs⟩ := occVL_cons hargs
  obtain rfl := occVL_nil hargs
  have h1 : c1 = .string ⟨#[]⟩ := by
    cases a1 with
    | one _ h => cases h with | d h => cases h; rfl
    | agg ha h => cases ha
  subst h1
  have hg := hk _ _ _ (hK _ (List.mem_singleton.2 rfl))
  refine (dec_nil w hg).mono ?_
  rintro e W' ⟨rfl, hb⟩
  refine ⟨_, rfl, hb, ?_⟩
  have hz : Occ G.K (eSuper zsuper) zsup.toList := .agg (.cons (cs := [_]) (.int _ _) (.cons (cs := [_, _, _, _]) (.agg (.cons (cs := [_]) (.int _ _) (.cons (cs := [_]) (.int _ _) (.cons (cs := [_, _]) (.agg (.cons (cs := [_]) (.int _ _) (.cons (cs := [_]) (.int _ _) .nil))) .nil)))) (.cons (cs := [_]) (.bool _) (.cons (cs := [_]) (.bool _) (.cons (cs := [_]) (.bool _) .nil)))))
  exact .tup (vs := [.agg zsup, .int .i64 2]) (.cons (.agg (cs := zsup.toList) rfl (.d hz)) (.cons (.one rfl (.d (.int _ _))) .nil))
end Go.Am
