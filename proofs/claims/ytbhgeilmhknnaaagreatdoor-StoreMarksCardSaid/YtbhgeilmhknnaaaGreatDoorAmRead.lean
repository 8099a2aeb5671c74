/- disk.Read by hand: a loop over slices.Backward. -/
import Derived.Test.YtbhgeilmhknnaaaGreatDoorAmNd
import Derived.Test.YtbhgeilmhknnaaaGreatDoorAmSeat
import Derived.RangeFuncBox
import Derived.RangeFuncLeaves
import Derived.RangeFuncNested
import Derived.Shelf.Abstract
import Derived.WalkKit
import Derived.OwnWalkIn
import Derived.TacticsInMore
import Derived.LoopNIn
import Derived.LoopIn
namespace Go.Am
open Go.Proofs Go.RowKit Go.Shelf
attribute [local go_sem] Oper.semAt_some
set_option maxRecDepth 100000
set_option maxHeartbeats 2000000 in
theorem backward_in (F : Fence) (n : Nat) (h6 : F.fn 212) (hro : F.round = none) (a : Option Addr) (len cap : Nat) (w : World) :
    CallsIn F n Tryz.prog 212 #[.slice a len cap] w fun e w' => e = .returned (.func (.func 265) #[] #[.pointer (some ⟨w.heap.size, 0, none⟩)]) ∧ w' = w.alloc (.cells #[.slice a len cap] 26) := by
  refine callsIn_of_wp Tryz.func212 rfl h6 ?_ hro
  simp only [Tryz.ntmps212, List.size_toArray, List.length_cons, List.length_nil, Nat.reduceAdd, Nat.reduceSub, Array.replicate_succ, Array.replicate_zero, List.push_toArray, List.append_toArray, List.nil_append, List.cons_append]
  gi_wp2
  go_ret
  exact ⟨rfl, rfl⟩
set_option maxHeartbeats 2000000 in
theorem there_in (F : Fence) (n : Nat) (h6 : F.fn 206) (hro : F.round = none) (a : Option Addr) (len cap : Nat) (v1 v2 v3 : Value) (i : Int) (w : World) :
    CallsIn F n Tryz.prog 206 #[.agg #[.slice a len cap, v1, v2, v3], .int .i64 i] w fun e w' => e = .returned (.bool (decide (0 ≤ i ∧ i < (len : Int)))) ∧ w' = w.alloc (.cells #[.slice a len cap, v1, v2, v3] 28) := by
  refine callsIn_of_wp Tryz.func206 rfl h6 ?_ hro
  simp only [Tryz.ntmps206, List.size_toArray, List.length_cons, List.length_nil, Nat.reduceAdd, Nat.reduceSub, Array.replicate_succ, Array.replicate_zero, List.push_toArray, List.append_toArray, List.nil_append, List.cons_append]
  by_cases h0 : 0 ≤ i
  · by_cases h1 : i < (len : Int)
    · gi_wp2
      go_ret
      exact ⟨by simp [h0, h1], rfl⟩
    · gi_wp2
      go_ret
      exact ⟨by simp [h1], rfl⟩
  · gi_wp2
    go_ret
    exact ⟨by simp; omega, rfl⟩
/-- What has come when k rounds are over. -/
def upto {α : Type} (f : Nat → α) (k : Nat) : List α := (List.range k).map f
theorem upto_succ {α : Type} (f : Nat → α) (k : Nat) : upto f (k + 1) = upto f k ++ [f k] := by simp [upto, List.range_succ]
theorem upto_length {α : Type} (f : Nat → α) (k : Nat) : (upto f k).length = k := by simp [upto]
set_option maxHeartbeats 4000000 in
/-- The closure of slices.Backward: from the last one to the first one. -/
theorem back1_in (F : Fence) (n : Nat) (h8 : F.fn 265) (hro : F.round = none) (hn : 1 ≤ n) (l Bs n₀ b off len cap : Nat) (zs : List Write) (hlen : len = zs.length) (hreach : len ≤ 140737488355328) (hb : 0 < len → b < n₀) (J Jx : List (Nat × Write) → World → Prop)
    (hY : ∀ pre x W, J pre W → pre.length < len → YieldAt F (n - 1) Tryz.prog l #[.int .i64 (x.1 : Int), .agg #[.int .i64 x.2.sector, .string ⟨x.2.data.toArray⟩]] W fun e W' =>
      (e = .returned (.bool true) ∧ J (pre ++ [x]) W' ∧ Below n₀ W W') ∨ (e = .returned (.bool false) ∧ Jx (pre ++ [x]) W'))
    (W : World) (hBs : W.cell? ⟨Bs, 0, none⟩ = some (.slice (some ⟨b, off, none⟩) len cap)) (hBn : Bs < n₀)
    (hc : ∀ j, j < len → W.cell? ⟨b, off + j * 2, none⟩ = some (.int .i64 (zs.getD j default).sector) ∧ W.cell? ⟨b, off + j * 2 + 1, none⟩ = some (.string ⟨(zs.getD j default).data.toArray⟩)) (h0 : J [] W) :
    CallsIn F n Tryz.prog 265 #[.func (.yield l) #[] #[], .pointer (some ⟨Bs, 0, none⟩)] W fun e W' => (∃ v, e = .returned v) ∧
      ((∃ ys, ys = upto (fun j => (len - 1 - j, zs.getD (len - 1 - j) default)) len ∧ J ys W') ∨ (∃ pre, (∃ k, k ≤ len ∧ pre = upto (fun j => (len - 1 - j, zs.getD (len - 1 - j) default)) k) ∧ Jx pre W')) := by
  subst hlen
  refine callsIn_of_wp Tryz.func265 rfl h8 ?_ hro
  simp only [Tryz.ntmps265, List.size_toArray, List.length_cons, List.length_nil, Nat.reduceAdd, Nat.reduceSub, Array.replicate_succ, Array.replicate_zero, List.push_toArray, List.append_toArray, List.nil_append, List.cons_append]
  gi_wp2
  gi_loopw [3] (fun i wr => ∃ k : Nat, k ≤ zs.length ∧ i = .int .i64 ((zs.length : Int) - 1 - k) ∧ J (upto (fun j => (zs.length - 1 - j, zs.getD (zs.length - 1 - j) default)) k) wr ∧ Below n₀ W wr)
    (fun i _ => (intOf i + 1).toNat)
  case atStart => exact ⟨0, Nat.zero_le _, by simp, h0, Below.refl _ _⟩
  case round =>
    obtain ⟨k, hk, rfl, hJs, hnx⟩ := hrel
    by_cases hlt : k < zs.length
    · obtain ⟨fn, tmps, assign, body, hy, hR⟩ := hY _ (zs.length - 1 - k, zs.getD (zs.length - 1 - k) default) wr hJs (by rw [upto_length]; exact hlt)
      dsimp only at hy
      rw [show ((zs.length - 1 - k : Nat) : Int) = (zs.length : Int) - 1 - k by omega] at hy
      have hcx := hc (zs.length - 1 - k) (by omega)
      have hc1 := (hnx.cell (p := ⟨b, off + (zs.length - 1 - k) * 2, none⟩) (hb (by omega))).trans hcx.1
      have hc2 := (hnx.cell (p := ⟨b, off + (zs.length - 1 - k) * 2 + 1, none⟩) (hb (by omega))).trans hcx.2
      have hB := (hnx.cell (p := ⟨Bs, 0, none⟩) hBn).trans hBs
      simp only [List.getD_eq_getElem?_getD] at hy hc1 hc2
      gi_wp2
      refine hR.mono ?_
      rintro e W3 (⟨rfl, hJ3, hk3⟩ | ⟨rfl, hJx3⟩)
      · gi_wp2
        go_roundw
        case rel => exact ⟨k + 1, by omega, by simp; omega, by rw [upto_succ]; exact hJ3, hnx.trans hk3⟩
        case measure => simp [intOf]; omega
      · gi_wp2
        refine bodyPost_ret (results_none rfl _ _ _) rfl ?_
        exact ⟨⟨_, rfl⟩, .inr ⟨_, ⟨k + 1, by omega, (upto_succ _ _).symm⟩, hJx3⟩⟩
    · obtain rfl : k = zs.length := by omega
      gi_wp2
      go_end0
      exact ⟨⟨_, rfl⟩, .inl ⟨_, rfl, hJs⟩⟩

abbrev bf (zs : List Write) (j : Nat) : Nat × Write := (zs.length - 1 - j, zs.getD (zs.length - 1 - j) default)
theorem upto_rev (zs : List Write) {k : Nat} (hk : k ≤ zs.length) : (upto (bf zs) k).map (·.2) = zs.reverse.take k := by
  apply List.ext_getElem
  · simp [upto, hk]
  · intro i h1 h2
    have : i < k := by simpa [upto] using h1
    simp [upto, List.getElem_reverse, show zs.length - 1 - i < zs.length by omega]
set_option maxHeartbeats 2000000 in
theorem back1_nil_in (F : Fence) (n : Nat) (h8 : F.fn 265) (hro : F.round = none) (l Bs : Nat) (J : List (Nat × Write) → World → Prop) (W : World) (hBs : W.cell? ⟨Bs, 0, none⟩ = some (.slice none 0 0)) (h0 : J [] W) :
    CallsIn F n Tryz.prog 265 #[.func (.yield l) #[] #[], .pointer (some ⟨Bs, 0, none⟩)] W fun e W' => (∃ v, e = .returned v) ∧ J [] W' := by
  refine callsIn_of_wp Tryz.func265 rfl h8 ?_ hro
  simp only [Tryz.ntmps265, List.size_toArray, List.length_cons, List.length_nil, Nat.reduceAdd, Nat.reduceSub, Array.replicate_succ, Array.replicate_zero, List.push_toArray, List.append_toArray, List.nil_append, List.cons_append]
  gi_wp2
  gi_loopw [3] (fun i wr => i = .int .i64 (-1) ∧ J [] wr) (fun _ _ => 0)
  case atStart => exact ⟨rfl, h0⟩
  case round =>
    obtain ⟨rfl, hJs⟩ := hrel
    gi_wp2
    go_end0
    exact ⟨⟨_, rfl⟩, hJs⟩
/-- A slice value that holds writes, in a block below n₀; or nil. -/
def Wrs (n₀ : Nat) (W : World) (ca : Option Addr) (cl cc : Nat) (zs : List Write) : Prop :=
  (ca = none ∧ cl = 0 ∧ cc = 0 ∧ zs = []) ∨ ∃ b off, ca = some ⟨b, off, none⟩ ∧ cl = zs.length ∧ (0 < zs.length → b < n₀) ∧ ∀ j, j < zs.length → W.cell? ⟨b, off + j * 2, none⟩ = some (.int .i64 (zs.getD j default).sector) ∧ W.cell? ⟨b, off + j * 2 + 1, none⟩ = some (.string ⟨(zs.getD j default).data.toArray⟩)
theorem Wrs.below {n₀ : Nat} {A B : World} (h : Below n₀ A B) {ca : Option Addr} {cl cc : Nat} {zs : List Write} : Wrs n₀ A ca cl cc zs → Wrs n₀ B ca cl cc zs
  | .inl e => .inl e
  | .inr ⟨b, off, e1, e2, hb, hc⟩ => .inr ⟨b, off, e1, e2, hb, fun j hj => ⟨(h.cell (p := ⟨b, off + j * 2, none⟩) (hb (by omega))).trans (hc j hj).1, (h.cell (p := ⟨b, off + j * 2 + 1, none⟩) (hb (by omega))).trans (hc j hj).2⟩⟩
theorem Wrs.mono {n₀ n₁ : Nat} {A : World} (hn : n₀ ≤ n₁) {ca : Option Addr} {cl cc : Nat} {zs : List Write} : Wrs n₀ A ca cl cc zs → Wrs n₁ A ca cl cc zs
  | .inl e => .inl e
  | .inr ⟨b, off, e1, e2, hb, hc⟩ => .inr ⟨b, off, e1, e2, fun h => Nat.lt_of_lt_of_le (hb h) hn, hc⟩
theorem back_stops (F : Fence) (n : Nat) (h8 : F.fn 265) (hro : F.round = none) (hn : 1 ≤ n) (Bs n₀ : Nat) (ca : Option Addr) (cl cc : Nat) (zs : List Write) (hreach : zs.length ≤ 140737488355328) (w : World) (hBs : Bs < w.heap.size) (hBn : Bs < n₀) (hn₀ : n₀ ≤ w.heap.size)
    (hc : w.cell? ⟨Bs, 0, none⟩ = some (.slice ca cl cc)) (hI : Wrs n₀ w ca cl cc zs) :
    SeqStopsK F n Tryz.prog 265 #[.pointer (some ⟨Bs, 0, none⟩)] (fun x : Nat × Write => #[Value.int .i64 (x.1 : Int), .agg #[.int .i64 x.2.sector, .string ⟨x.2.data.toArray⟩]]) (Below n₀) (fun ys => ys = upto (bf zs) zs.length)
      (fun pre => ∃ k, k ≤ zs.length ∧ pre = upto (bf zs) k) zs.length w := fun l J Jx W hW _ _ hY h0 => by
  have hc' := (hW.cell (p := ⟨Bs, 0, none⟩) hBs).trans hc
  rcases hI.below (hW.mono hn₀) with ⟨rfl, rfl, rfl, rfl⟩ | ⟨b, off, rfl, rfl, hb, hcs⟩
  · exact (back1_nil_in F n h8 hro l Bs J W hc' h0).mono fun e W' ⟨he, hj⟩ => ⟨he, .inl ⟨_, rfl, hj⟩⟩
  · exact back1_in F n h8 hro hn l Bs n₀ b off zs.length cc zs rfl hreach hb J Jx hY W hc' hBn hcs h0

/-- What the walk's temporaries are in a round. -/
def rdAct (w : World) (sa : Option Addr) (sl sc : Nat) (ca : Option Addr) (cl cc : Nat) (fu i : Int) (Bv : Nat) (x : Nat × Write) : Act :=
  { tmps := #[.agg #[.slice sa sl sc, .slice ca cl cc, .int .i64 fu, .bool false],
          .int .i64 i, .pointer (some ⟨w.heap.size, 0, none⟩), .pointer (some ⟨w.heap.size + 1, 0, none⟩), .pointer (some ⟨w.heap.size + 1 + 1, 0, none⟩), .pointer (some ⟨w.heap.size + 1 + 1 + 1, 0, none⟩), undef, .pointer (some ⟨Bv, 0, none⟩), .bool false,
          .pointer (some ⟨w.heap.size, 3, none⟩), .bool false, .bool false, .agg #[.slice sa sl sc, .slice ca cl cc, .int .i64 fu, .bool false],
          .int .i64 i, .bool true, .bool false, .pointer (some ⟨w.heap.size, 1, none⟩), .slice ca cl cc,
          .func (.func 265) #[] #[.pointer (some ⟨w.heap.size + 1 + 1 + 1 + 1 + 1, 0, none⟩)], .int .i64 (x.1 : Int), .agg #[.int .i64 x.2.sector, .string ⟨x.2.data.toArray⟩], undef, undef, undef, undef, undef, undef, undef, undef, undef, undef, undef], defers := [] }
/-- The last write of a sector. -/
def lastw (zs : List Write) (i : Int) : Option Write := zs.reverse.find? fun x => x.sector == i
set_option maxHeartbeats 8000000 in
theorem read_in (F : Fence) (n : Nat) (h4 : F.fn 144) (h2 : F.fn 206) (h6 : F.fn 212) (h8 : F.fn 265) (hro : F.round = none) (hn : 3 ≤ n) (sb so sl sc : Nat) (ca : Option Addr) (cl cc : Nat) (fu i : Int) (zs : List Write) (sd : List UInt8) (hreach : zs.length ≤ 140737488355328) (w : World)
    (hin : 0 ≤ i ∧ i < (sl : Int)) (hs : w.cell? ⟨sb, so + i.toNat, none⟩ = some (.string ⟨sd.toArray⟩)) (hI : Wrs w.heap.size w ca cl cc zs) :
    CallsIn F n Tryz.prog 144 #[.agg #[.slice (some ⟨sb, so, none⟩) sl sc, .slice ca cl cc, .int .i64 fu, .bool false], .int .i64 i] w fun e W' =>
      e = .returned (.tuple #[.string ⟨((lastw zs i).elim sd fun x => x.data).toArray⟩, .int .i64 0]) ∧ Below w.heap.size w W' := by
  have h1 : 1 ≤ n := by omega
  have hd : decide (0 ≤ i ∧ i < (sl : Int)) = true := decide_eq_true hin
  have hsb : sb < w.heap.size := by
    rcases Nat.lt_or_ge sb w.heap.size with h | h
    · exact h
    · simp [World.cell?, Array.getElem?_eq_none h] at hs
  refine callsIn_of_wp_marks Tryz.func144 rfl h4 ?_ hro
  simp only [Tryz.ntmps144, List.size_toArray, List.length_cons, List.length_nil, Nat.reduceAdd, Nat.reduceSub, Array.replicate_succ, Array.replicate_zero, List.push_toArray, List.append_toArray, List.nil_append, List.cons_append]
  gi_wp2_with (first | (gi_at_call 206; refine (there_in F (n - 1) h2 hro _ _ _ _ _ _ _ _).mono ?_; rintro e w' ⟨rfl, rfl⟩) | (gi_at_call 212; refine (backward_in F (n - 1) h6 hro _ _ _ _).mono ?_; rintro e w' ⟨rfl, rfl⟩))
  generalize hw0 : ((((((w.alloc (Obj.cells #[Value.slice (some ⟨sb, so, none⟩) sl sc, Value.slice ca cl cc, Value.int IntKind.i64 fu, Value.bool false] 28)).alloc (Obj.cells #[Value.int IntKind.i64 i] 3)).alloc (Obj.cells #[Value.string ⟨#[]⟩] 9)).alloc (Obj.cells #[Value.int IntKind.i64 0] 40)).alloc (Obj.cells #[Value.slice (some ⟨sb, so, none⟩) sl sc, Value.slice ca cl cc, Value.int IntKind.i64 fu, Value.bool false] 28)).alloc (Obj.cells #[Value.slice ca cl cc] 26)) = w0
  have hsz : w0.heap.size = w.heap.size + 6 := by rw [← hw0]; simp
  have hB0 : Below w.heap.size w w0 := by
    rw [← hw0]
    exact ((((((Below.refl _ w).alloc (Nat.le_refl _) _).alloc (by simp) _).alloc (by simp <;> omega) _).alloc (by simp <;> omega) _).alloc (by simp <;> omega) _).alloc (by simp <;> omega) _
  have c0 : w0.cell? ⟨w.heap.size, 0, none⟩ = some (.slice (some ⟨sb, so, none⟩) sl sc) := by
    rw [← hw0, World.cell?_alloc_lt _ _ _ (by simp <;> omega), World.cell?_alloc_lt _ _ _ (by simp <;> omega), World.cell?_alloc_lt _ _ _ (by simp <;> omega), World.cell?_alloc_lt _ _ _ (by simp <;> omega), World.cell?_alloc_lt _ _ _ (by simp <;> omega), World.cell?_alloc_at _ _ _ _ (by simp)]
    rfl
  have b1 : Boxed w0 (w.heap.size + 1) 3 (.int .i64 i) := by
    rw [← hw0]
    have := ((((Boxed.new (w.alloc (Obj.cells #[Value.slice (some ⟨sb, so, none⟩) sl sc, Value.slice ca cl cc, Value.int IntKind.i64 fu, Value.bool false] 28)) 3 (.int .i64 i)).alloc (Obj.cells #[Value.string ⟨#[]⟩] 9)).alloc (Obj.cells #[Value.int IntKind.i64 0] 40)).alloc (Obj.cells #[Value.slice (some ⟨sb, so, none⟩) sl sc, Value.slice ca cl cc, Value.int IntKind.i64 fu, Value.bool false] 28)).alloc (Obj.cells #[Value.slice ca cl cc] 26)
    rwa [World.size_alloc] at this
  have b2 : Boxed w0 (w.heap.size + 1 + 1) 9 (.string ⟨#[]⟩) := by
    rw [← hw0]
    have := (((Boxed.new ((w.alloc (Obj.cells #[Value.slice (some ⟨sb, so, none⟩) sl sc, Value.slice ca cl cc, Value.int IntKind.i64 fu, Value.bool false] 28)).alloc (Obj.cells #[Value.int IntKind.i64 i] 3)) 9 (.string ⟨#[]⟩)).alloc (Obj.cells #[Value.int IntKind.i64 0] 40)).alloc (Obj.cells #[Value.slice (some ⟨sb, so, none⟩) sl sc, Value.slice ca cl cc, Value.int IntKind.i64 fu, Value.bool false] 28)).alloc (Obj.cells #[Value.slice ca cl cc] 26)
    rwa [World.size_alloc, World.size_alloc] at this
  have b3 : Boxed w0 (w.heap.size + 1 + 1 + 1) 40 (.int .i64 0) := by
    rw [← hw0]
    have := ((Boxed.new (((w.alloc (Obj.cells #[Value.slice (some ⟨sb, so, none⟩) sl sc, Value.slice ca cl cc, Value.int IntKind.i64 fu, Value.bool false] 28)).alloc (Obj.cells #[Value.int IntKind.i64 i] 3)).alloc (Obj.cells #[Value.string ⟨#[]⟩] 9)) 40 (.int .i64 0)).alloc (Obj.cells #[Value.slice (some ⟨sb, so, none⟩) sl sc, Value.slice ca cl cc, Value.int IntKind.i64 fu, Value.bool false] 28)).alloc (Obj.cells #[Value.slice ca cl cc] 26)
    rwa [World.size_alloc, World.size_alloc, World.size_alloc] at this
  have b5 : Boxed w0 (w.heap.size + 1 + 1 + 1 + 1 + 1) 26 (.slice ca cl cc) := by
    rw [← hw0]
    have := Boxed.new (((((w.alloc (Obj.cells #[Value.slice (some ⟨sb, so, none⟩) sl sc, Value.slice ca cl cc, Value.int IntKind.i64 fu, Value.bool false] 28)).alloc (Obj.cells #[Value.int IntKind.i64 i] 3)).alloc (Obj.cells #[Value.string ⟨#[]⟩] 9)).alloc (Obj.cells #[Value.int IntKind.i64 0] 40)).alloc (Obj.cells #[Value.slice (some ⟨sb, so, none⟩) sl sc, Value.slice ca cl cc, Value.int IntKind.i64 fu, Value.bool false] 28)) 26 (.slice ca cl cc)
    rwa [World.size_alloc, World.size_alloc, World.size_alloc, World.size_alloc, World.size_alloc] at this
  clear hw0
  refine wpIn_rangeFunc_ownH hro h1 (gf := 265) (lb := #[.pointer (some ⟨w.heap.size + 1 + 1 + 1 + 1 + 1, 0, none⟩)]) rfl h8 (enters_of Tryz.func265 (by kernel_rfl) rfl)
    (back_stops F (n - 1) h8 hro (by omega) (w.heap.size + 1 + 1 + 1 + 1 + 1) (w.heap.size + 6) ca cl cc zs hreach w0 (by omega) (by omega) (by omega) b5.cell ((hI.below hB0).mono (by omega))) belowK_t (belowK_b (by omega)) (Below.refl _ _) (fun _ => rfl)
    (fun pre W => (∀ p ∈ pre, p.2.sector ≠ i) ∧ Below (w.heap.size + 6) w0 W)
    (fun c pre W => (c = .ret ∧ ∃ ini last, pre = ini ++ [last] ∧ (∀ p ∈ ini, p.2.sector ≠ i) ∧ last.2.sector = i ∧ Boxed W (w.heap.size + 1 + 1) 9 (.string ⟨last.2.data.toArray⟩) ∧ Boxed W (w.heap.size + 1 + 1 + 1) 40 (.int .i64 0)) ∧ Below w.heap.size w W)
    (OwnFrom.and (fun s A B row hs _ _ => hs) (ownFrom_below (by omega) (by omega)))
    (fun c => OwnFrom.and (fun s A B row hs hg hr => by
      obtain ⟨hc, ini, last, e1, e2, e3, e4, e5⟩ := hs
      exact ⟨hc, ini, last, e1, e2, e3, e4.kept hg (fun e => by have := (hr _ e.symm).1; omega), e5.kept hg (fun e => by have := (hr _ e.symm).1; omega)⟩) (ownFrom_below (Nat.le_refl _) (by omega)))
    ⟨by simp, Below.refl _ _⟩
    (fun x a' W => ∃ Bv, a' = rdAct w (some ⟨sb, so, none⟩) sl sc ca cl cc fu i Bv x ∧ W.heap[Bv]? = some (.cells #[.int .i64 x.2.sector, .string ⟨x.2.data.toArray⟩] 126 (0, 0)))
    (fun x a' s A B row hs hg hr => by
      obtain ⟨Bv, e, hb⟩ := hs
      refine ⟨Bv, e, (hg.block Bv (Array.getElem?_eq_some_iff.1 hb).1 (fun er => ?_)).trans hb⟩
      obtain ⟨_, o, ho, hc⟩ := hr Bv er.symm
      rw [hb] at ho
      cases ho
      cases hc) ?assign ?body ?done ?stop
  case assign =>
    intro l pre x W K hi hK
    have hle := hi.2.size
    gi_wp2
    exact hK _ _ ((KeepsOthers.alloc W _).from _) ((Below.refl _ W).alloc (by omega) _) ⟨hi.1, hi.2.alloc (by omega) _⟩ ⟨W.heap.size, rfl, World.alloc_heap_new W _⟩
  case body =>
    rintro l pre x a' W _ _ ⟨hp, hB⟩ ⟨Bv, rfl, hb⟩ _
    have v0 : W.cell? ⟨Bv, 0, none⟩ = some (.int .i64 x.2.sector) := by simp [World.cell?, hb]
    have v1 : W.cell? ⟨Bv, 0 + 1, none⟩ = some (.string ⟨x.2.data.toArray⟩) := by simp [World.cell?, hb]
    have w1 := hB.cell (p := ⟨w.heap.size + 1, 0, none⟩) (by simp) |>.trans b1.cell
    have w2 : Boxed W (w.heap.size + 1 + 1) 9 (.string ⟨#[]⟩) := (hB.block _ (by omega)).trans b2
    have w3 : Boxed W (w.heap.size + 1 + 1 + 1) 40 (.int .i64 0) := (hB.block _ (by omega)).trans b3
    have w2c := w2.cell
    have w2f := w2.frozen
    have w3c := w3.cell
    have w3f := w3.frozen
    unfold rdAct
    gi_wp2
    · have hx : x.2.sector = i := by first | assumption | simpa using ‹(x.2.sector == i) = true›
      refine ⟨((KeepsOthers.setCell _ _ _).trans (KeepsOthers.setCell _ _ _)).from _, ⟨rfl, pre, x, rfl, hp, hx, (w2.set _).other (by omega) _, (w3.other (by omega) _).set _⟩, ?_⟩
      exact ((hB0.trans (hB.mono (by omega))).setCell (p := ⟨w.heap.size + 1 + 1, 0, none⟩) (by simp <;> omega) _).setCell (p := ⟨w.heap.size + 1 + 1 + 1, 0, none⟩) (by simp <;> omega) _
    · have hx : x.2.sector ≠ i := by first | assumption | simpa using ‹(x.2.sector == i) = false› | simpa using ‹¬ (x.2.sector == i) = true›
      exact ⟨KeepsFrom.refl _ _, Below.refl _ _, fun p hp' => (List.mem_append.1 hp').elim (hp p) (fun e => by simp at e; subst e; exact hx), hB⟩
  case done =>
    rintro D ys W hD rfl ⟨hne, hB⟩ hK
    have w0c := hB.cell (p := ⟨w.heap.size, 0, none⟩) (by simp) |>.trans c0
    have w1 := hB.cell (p := ⟨w.heap.size + 1, 0, none⟩) (by simp) |>.trans b1.cell
    have w2 : Boxed W (w.heap.size + 1 + 1) 9 (.string ⟨#[]⟩) := (hB.block _ (by omega)).trans b2
    have w3 : Boxed W (w.heap.size + 1 + 1 + 1) 40 (.int .i64 0) := (hB.block _ (by omega)).trans b3
    have w2c := w2.cell
    have w2f := w2.frozen
    have w3c := w3.cell
    have w3f := w3.frozen
    have hs' := hB.cell (p := ⟨sb, so + i.toNat, none⟩) (by simp; omega) |>.trans (hB0.cell (p := ⟨sb, so + i.toNat, none⟩) hsb |>.trans hs)
    have hlw : lastw zs i = none := by
      unfold lastw
      rw [List.find?_eq_none]
      intro y hy
      have e1 := upto_rev zs (Nat.le_refl _)
      rw [List.take_of_length_le (by simp)] at e1
      rw [← e1] at hy
      obtain ⟨p, hp, rfl⟩ := List.mem_map.1 hy
      simpa using hne p hp
    gi_wp2
    have r2 := ((w2.set (.string ⟨sd.toArray⟩)).other (B' := w.heap.size + 1 + 1 + 1) (by omega) (.int .i64 0))
    have r3 := (w3.other (B' := w.heap.size + 1 + 1) (by omega) (.string ⟨sd.toArray⟩)).set (.int .i64 0)
    have hK' := ((KeepsOthers.setCell W ⟨w.heap.size + 1 + 1, 0, none⟩ (.string ⟨sd.toArray⟩)).trans (KeepsOthers.setCell _ ⟨w.heap.size + 1 + 1 + 1, 0, none⟩ (.int .i64 0))).same D _ hK rfl
    refine ⟨by simp, .inl ⟨_, _, rfl, run_takeDeferred hK', ?_⟩⟩
    have hc4 := cell_kept r2.cell (grownBy_putObj' _ D (.deferred none)) (fun r e => by cases e; exact ⟨_, hK', rfl⟩)
    have hc5 := cell_kept r3.cell (grownBy_putObj' _ D (.deferred none)) (fun r e => by cases e; exact ⟨_, hK', rfl⟩)
    refine ⟨.tuple #[.string ⟨sd.toArray⟩, .int .i64 0], ?_, by rw [hlw]; rfl, ?_⟩
    · simp [results, Tryz.f144, go_sem, hc4, hc5]
    · exact (((hB0.trans (hB.mono (by omega))).setCell (p := ⟨w.heap.size + 1 + 1, 0, none⟩) (by simp <;> omega) _).setCell (p := ⟨w.heap.size + 1 + 1 + 1, 0, none⟩) (by simp <;> omega) _).trans (belowK_b (w := w0) (by omega) _ D _ _ hD hK' rfl rfl)
  case stop =>
    rintro D c pre W hD ⟨k, hk, rfl⟩ ⟨⟨rfl, ini, last, e1, e2, e3, e4, e5⟩, hB⟩ hK
    have hlw : lastw zs i = some last.2 := by
      unfold lastw
      have e6 := upto_rev zs hk
      rw [e1] at e6
      rw [← List.take_append_drop k zs.reverse, ← e6, List.map_append, List.append_assoc, List.find?_append]
      have : (ini.map (·.2)).find? (fun x => x.sector == i) = none := by
        rw [List.find?_eq_none]
        intro y hy
        obtain ⟨p, hp, rfl⟩ := List.mem_map.1 hy
        simpa using e2 p hp
      rw [this]
      simp [e3]
    gi_wp2
    refine ⟨by simp, .inl ⟨_, _, rfl, run_takeDeferred hK, ?_⟩⟩
    have hc4 := cell_kept e4.cell (grownBy_putObj' _ D (.deferred none)) (fun r e => by cases e; exact ⟨_, hK, rfl⟩)
    have hc5 := cell_kept e5.cell (grownBy_putObj' _ D (.deferred none)) (fun r e => by cases e; exact ⟨_, hK, rfl⟩)
    refine ⟨.tuple #[.string ⟨last.2.data.toArray⟩, .int .i64 0], ?_, by rw [hlw]; rfl, hB.trans (belowK_b (w := w0) (by omega) W D _ _ hD hK rfl rfl)⟩
    simp [results, Tryz.f144, go_sem, hc4, hc5]

set_option maxHeartbeats 2000000 in
theorem read_dead (F : Fence) (n : Nat) (h4 : F.fn 144) (hro : F.round = none) (a v1 v2 : Value) (i : Int) (w : World) :
    CallsIn F n Tryz.prog 144 #[.agg #[a, v1, v2, .bool true], .int .i64 i] w fun e W' => e = .returned (.tuple #[.string ⟨#[]⟩, .int .i64 6]) ∧ Below w.heap.size w W' := by
  refine callsIn_of_wp Tryz.func144 rfl h4 ?_ hro
  simp only [Tryz.ntmps144, List.size_toArray, List.length_cons, List.length_nil, Nat.reduceAdd, Nat.reduceSub, Array.replicate_succ, Array.replicate_zero, List.push_toArray, List.append_toArray, List.nil_append, List.cons_append]
  gi_wp2
  have c2 := ((Boxed.new ((w.alloc (Obj.cells #[a, v1, v2, Value.bool true] 28)).alloc (Obj.cells #[Value.int IntKind.i64 i] 3)) 9 (.string ⟨#[]⟩)).alloc (Obj.cells #[Value.int IntKind.i64 6] 40)).cell
  have c3 := (Boxed.new (((w.alloc (Obj.cells #[a, v1, v2, Value.bool true] 28)).alloc (Obj.cells #[Value.int IntKind.i64 i] 3)).alloc (Obj.cells #[Value.string ⟨#[]⟩] 9)) 40 (.int .i64 6)).cell
  simp only [World.size_alloc] at c2 c3
  refine bodyPost_ret (v := .tuple #[.string ⟨#[]⟩, .int .i64 6]) ?_ rfl ⟨rfl, ?_⟩
  · simp [results, Tryz.f144, go_sem, c2, c3]
  · exact ((((Below.refl _ w).alloc (Nat.le_refl _) _).alloc (by simp) _).alloc (by simp <;> omega) _).alloc (by simp <;> omega) _
set_option maxHeartbeats 4000000 in
theorem read_out (F : Fence) (n : Nat) (h4 : F.fn 144) (h2 : F.fn 206) (hro : F.round = none) (hn : 1 ≤ n) (sa : Option Addr) (sl sc : Nat) (v1 v2 : Value) (i : Int) (w : World) (hin : ¬ (0 ≤ i ∧ i < (sl : Int))) :
    CallsIn F n Tryz.prog 144 #[.agg #[.slice sa sl sc, v1, v2, .bool false], .int .i64 i] w fun e W' => e = .returned (.tuple #[.string ⟨#[]⟩, .int .i64 4]) ∧ Below w.heap.size w W' := by
  have hd : decide (0 ≤ i ∧ i < (sl : Int)) = false := decide_eq_false hin
  refine callsIn_of_wp Tryz.func144 rfl h4 ?_ hro
  simp only [Tryz.ntmps144, List.size_toArray, List.length_cons, List.length_nil, Nat.reduceAdd, Nat.reduceSub, Array.replicate_succ, Array.replicate_zero, List.push_toArray, List.append_toArray, List.nil_append, List.cons_append]
  gi_wp2_with (gi_at_call 206; refine (there_in F (n - 1) h2 hro _ _ _ _ _ _ _ _).mono ?_; rintro e w' ⟨rfl, rfl⟩)
  have c2 := (((Boxed.new ((w.alloc (Obj.cells #[Value.slice sa sl sc, v1, v2, Value.bool false] 28)).alloc (Obj.cells #[Value.int IntKind.i64 i] 3)) 9 (.string ⟨#[]⟩)).alloc (Obj.cells #[Value.int IntKind.i64 4] 40)).alloc (Obj.cells #[Value.slice sa sl sc, v1, v2, Value.bool false] 28)).cell
  have c3 := ((Boxed.new (((w.alloc (Obj.cells #[Value.slice sa sl sc, v1, v2, Value.bool false] 28)).alloc (Obj.cells #[Value.int IntKind.i64 i] 3)).alloc (Obj.cells #[Value.string ⟨#[]⟩] 9)) 40 (.int .i64 4)).alloc (Obj.cells #[Value.slice sa sl sc, v1, v2, Value.bool false] 28)).cell
  simp only [World.size_alloc] at c2 c3
  refine bodyPost_ret (v := .tuple #[.string ⟨#[]⟩, .int .i64 4]) ?_ rfl ⟨rfl, ?_⟩
  · simp [results, Tryz.f144, go_sem, c2, c3]
  · exact (((((Below.refl _ w).alloc (Nat.le_refl _) _).alloc (by simp) _).alloc (by simp <;> omega) _).alloc (by simp <;> omega) _).alloc (by simp <;> omega) _

/-! ### as a function of data -/
def disk_Read (d : Disk) (i : Int) : Option (Str × Int) :=
  Chk (decide (d.cache.length ≤ 140737488355328)) (some (bif d.dead then ([], 6) else bif decide (0 ≤ i ∧ i < (d.sure.length : Int)) then (((lastw d.cache i).elim (gt d.sure i) fun x => x.data), 0) else ([], 4)))
theorem occ_sl {K : Kn} {l : List D} {c : Value} (h : Occ K (.sl l) [c]) : (c = .slice none 0 0 ∧ l = []) ∨ ∃ b o cap sz, c = .slice (some ⟨b, o, none⟩) l.length cap ∧ OccR K l b o sz := by
  cases h with
  | nils => exact .inl ⟨rfl, rfl⟩
  | sl hsz hc h => exact .inr ⟨_, _, _, _, rfl, h⟩
theorem occL_one {K : Kn} {x : D} {l : List D} {cs : List Value} (h : OccL K (x :: l) cs) (hx : x.size = 1) : ∃ c ds, cs = c :: ds ∧ Occ K x [c] ∧ OccL K l ds := by
  cases h with
  | cons h t =>
    rename_i c0 ds
    have := (occ_size h).1
    rw [hx] at this
    match c0, this with
    | [c], _ => exact ⟨c, ds, rfl, h, t⟩
theorem cell_lt {w : World} {b o : Nat} {v : Value} (h : w.cell? ⟨b, o, none⟩ = some v) : b < w.heap.size := by
  rcases Nat.lt_or_ge b w.heap.size with h1 | h1
  · exact h1
  · simp [World.cell?, Array.getElem?_eq_none h1] at h
theorem wrs_of {K : Kn} {w : World} (hk : ∀ b o v, K b o = some v → w.cell? ⟨b, o, none⟩ = some v) {zs : List Write} {c : Value} (h : Occ K (.sl (zs.map eWrite)) [c]) : ∃ ca cl cc, c = .slice ca cl cc ∧ Wrs w.heap.size w ca cl cc zs := by
  rcases occ_sl h with ⟨rfl, hl⟩ | ⟨b, o, cap, sz, rfl, hr⟩
  · exact ⟨none, 0, 0, rfl, .inl ⟨rfl, rfl, rfl, List.map_eq_nil_iff.1 hl⟩⟩
  · refine ⟨_, _, _, rfl, ?_⟩
    rw [List.length_map]
    have hat : ∀ j, j < zs.length → w.cell? ⟨b, o + j * 2, none⟩ = some (.int .i64 (zs.getD j default).sector) ∧ w.cell? ⟨b, o + j * 2 + 1, none⟩ = some (.string ⟨(zs.getD j default).data.toArray⟩) := by
      intro j hj
      have hx : (zs.map eWrite)[j]? = some (eWrite (zs.getD j default)) := by
        rw [List.getElem?_map, getD_some hj default]
        rfl
      obtain ⟨cs, h1, h2, h3⟩ := occR_get hr hx
      have hsz : sz = 2 := by
        have := occR_sizes hr _ (List.mem_of_getElem? hx)
        exact this.symm.trans rfl
      subst hsz
      cases h1 with
      | agg h1 =>
        obtain ⟨c1, ds, rfl, g1, g2⟩ := occL_one h1 rfl
        obtain ⟨c2, es, rfl, g3, g4⟩ := occL_one g2 rfl
        cases g4
        cases g1
        cases g3
        exact ⟨by simpa using hk _ _ _ (h3 0 _ rfl), hk _ _ _ (h3 1 _ rfl)⟩
    exact .inr ⟨b, o, rfl, rfl, fun h0 => cell_lt (hat 0 h0).1, hat⟩
theorem occVL_cons {G : Gh} {x : AV} {l : List AV} {cs : List Value} (h : OccVL G (x :: l) cs) : ∃ c ds, cs = c :: ds ∧ OccV G x c ∧ OccVL G l ds := by
  cases h with
  | cons h t => exact ⟨_, _, rfl, h, t⟩
theorem occVL_nil {G : Gh} {cs : List Value} (h : OccVL G [] cs) : cs = [] := by
  cases h
  rfl
theorem t_disk_Read {d : Disk} {i : Int} {r : Str × Int} (hg : disk_Read d i = some r) : VF Pg 144 [(.d (eDisk d)), (.d (eI64 i))] (single [(.d (eS r.1)), (.d (eI64 r.2))]) := by
  obtain ⟨hlen, hg⟩ := chk_o hg
  have hg := some_o hg
  simp only [decide_eq_true_eq] at hlen
  refine vf_below (by kernel_rfl) fun G w cs hK hk hargs => ?_
  obtain ⟨c1, cs1, rfl, a1, hargs⟩ := occVL_cons hargs
  obtain ⟨c2, cs2, rfl, a2, hargs⟩ := occVL_cons hargs
  obtain rfl := occVL_nil hargs
  have hc2 := occV_int a2
  subst hc2
  obtain ⟨cells, rfl, hA⟩ : ∃ cells : List Value, c1 = .agg cells.toArray ∧ Occ G.K (eDisk d) cells := by
    cases a1 with
    | one ha _ => cases ha
    | agg ha h => cases h with | d h => exact ⟨_, rfl, h⟩
  cases hA with
  | agg hA =>
    obtain ⟨s1, t1, rfl, o1, hA⟩ := occL_one hA rfl
    obtain ⟨s2, t2, rfl, o2, hA⟩ := occL_one hA rfl
    obtain ⟨s3, t3, rfl, o3, hA⟩ := occL_one hA rfl
    obtain ⟨s4, t4, rfl, o4, hA⟩ := occL_one hA rfl
    cases hA
    cases o3
    cases o4
    have key : Calls Tryz.prog 144 #[.agg #[s1, s2, .int .i64 d.fuse, .bool d.dead], .int .i64 i] w fun e W' => e = .returned (.tuple #[.string ⟨r.1.toArray⟩, .int .i64 r.2]) ∧ Below w.heap.size w W' := by
      refine (callsIn_wide (n := 10)).1 ?_
      cases hd : d.dead with
      | true =>
        rw [hd] at hg
        subst hg
        exact read_dead _ 10 trivial rfl _ _ _ _ _
      | false =>
        rw [hd] at hg
        obtain ⟨ca, cl, cc, rfl, hW⟩ := wrs_of hk o2
        by_cases hin : 0 ≤ i ∧ i < (d.sure.length : Int)
        · rw [show decide (0 ≤ i ∧ i < (d.sure.length : Int)) = true from decide_eq_true hin] at hg
          simp only [cond_true, cond_false] at hg
          subst hg
          rcases occ_sl o1 with ⟨rfl, hl⟩ | ⟨b, o, cap, sz, rfl, hr⟩
          · have := List.map_eq_nil_iff.1 hl
            rw [this] at hin
            simp at hin
            omega
          · have hx : (d.sure.map eS)[i.toNat]? = some (eS (gt d.sure i)) := map_get eS (by omega)
            obtain ⟨cs, h1, h2, h3⟩ := occR_get hr hx
            have hsz : sz = 1 := (occR_sizes hr _ (List.mem_of_getElem? hx)).symm.trans rfl
            subst hsz
            cases h1
            rw [List.length_map]
            have hs := hk _ _ _ (h3 0 _ rfl)
            rw [Nat.mul_one, Nat.add_zero] at hs
            exact read_in _ 10 trivial trivial trivial trivial rfl (by decide) b o d.sure.length cap ca cl cc d.fuse i d.cache (gt d.sure i) hlen w hin hs hW
        · rw [show decide (0 ≤ i ∧ i < (d.sure.length : Int)) = false from decide_eq_false hin] at hg
          simp only [cond_false] at hg
          subst hg
          rcases occ_sl o1 with ⟨rfl, hl⟩ | ⟨b, o, cap, sz, rfl, hr⟩
          · exact read_out _ 10 trivial trivial rfl (by decide) none 0 0 _ _ _ _ (by have := List.map_eq_nil_iff.1 hl; simp)
          · rw [List.length_map]
            exact read_out _ 10 trivial trivial rfl (by decide) _ _ _ _ _ _ _ hin
    refine key.mono ?_
    rintro e W' ⟨rfl, hb⟩
    refine ⟨_, rfl, hb, ?_⟩
    show OccV G (.tup [(.d (eS r.1)), (.d (eI64 r.2))]) _
    exact .tup (vs := [.string ⟨r.1.toArray⟩, .int .i64 r.2]) (.cons (.one rfl (.d (.str _))) (.cons (.one rfl (.d (.int _ _))) .nil))
end Go.Am
