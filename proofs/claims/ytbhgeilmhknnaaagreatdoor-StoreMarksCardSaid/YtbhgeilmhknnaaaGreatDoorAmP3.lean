/- The plain law, part 3: disks. -/
import Derived.Test.YtbhgeilmhknnaaaGreatDoorAmP2
namespace Go.Am
open Go.Proofs
set_option maxRecDepth 100000
theorem drop_gt {α : Type} [Inhabited α] (l : List α) {j : Nat} (h : j < l.length) : l.drop j = gt l (j : Int) :: l.drop (j + 1) := by
  rw [List.drop_eq_getElem_cons h]
  congr 1
  unfold gt
  rw [show ((j : Int)).toNat = j by omega, List.getD_eq_getElem?_getD, List.getElem?_eq_getElem h]
  rfl
theorem gt_mem {α : Type} [Inhabited α] (l : List α) {j : Nat} (h : j < l.length) : gt l (j : Int) ∈ l := by
  unfold gt
  rw [show ((j : Int)).toNat = j by omega, List.getD_eq_getElem?_getD, List.getElem?_eq_getElem h]
  exact List.getElem_mem h
theorem inc64 {j : Nat} (h : j < 1000000) : wI64 ((j : Int) + 1) = ((j + 1 : Nat) : Int) := wI64_eq (by omega) (by omega)
structure DOk (d : Disk) (b k : Nat) : Prop where
  len : d.sure.length = b + 2
  bl : 1 ≤ b
  bh : b ≤ 32
  sec : ∀ x ∈ d.cache, 0 ≤ x.sector ∧ x.sector < ((b + 2 : Nat) : Int)
  cl : d.cache.length ≤ k
  f0 : 0 ≤ d.fuse
  f1 : d.fuse ≤ 255
theorem DOk.mono {d : Disk} {b k k' : Nat} (h : DOk d b k) (hk : k ≤ k') : DOk d b k' := { h with cl := Nat.le_trans h.cl hk }
theorem DOk.two {d : Disk} {b k : Nat} (h : DOk d b k) : wI64 ((d.sure.length : Int) - 2) = (b : Int) := by
  have := h.len; have := h.bh
  rw [wI64_eq (by omega) (by omega)]
  omega

/-! ### burning -/
theorem burn_eq {d : Disk} {b k : Nat} (h : DOk d b k) (hd : d.dead = false) :
    disk_burn d = ((bif (ref04_burn d).dead then 6 else 0), ref04_burn d) ∧ DOk (ref04_burn d) b k ∧ (ref04_burn d).cache = d.cache ∧ (ref04_burn d).sure = d.sure := by
  have hf0 := h.f0
  have hf1 := h.f1
  obtain ⟨s, c, f, dd⟩ := d
  dsimp only at hd hf0 hf1
  subst hd
  unfold disk_burn ref04_burn disk_Crash
  dsimp only
  by_cases h0 : f = 0
  · subst h0
    exact ⟨rfl, h, rfl, rfl⟩
  · by_cases h1 : f = 1
    · subst h1
      exact ⟨rfl, { h with f0 := Int.le_refl _, f1 := show (0 : Int) ≤ 255 by decide }, rfl, rfl⟩
    · rw [show (f == 0) = false from beq_eq_false_iff_ne.2 h0, show (f == 1) = false from beq_eq_false_iff_ne.2 h1, show decide (f > 0) = true from decide_eq_true (by omega)]
      have e : wI64 (f - 1) = f - 1 := wI64_eq (by omega) (by omega)
      rw [e]
      exact ⟨rfl, { h with f0 := show 0 ≤ f - 1 by omega, f1 := show f - 1 ≤ 255 by omega }, rfl, rfl⟩

/-! ### write -/
theorem write_ok {d : Disk} {b k : Nat} (i : Int) (data : Str) (h : DOk d b k) (hk : k ≤ 200) :
    ∃ r, disk_Write d i data = some r ∧ ref04_Write d i data = some r ∧ DOk r.1 b (k + 1) ∧ (r.1.dead = true → r.2 = 6) := by
  unfold disk_Write ref04_Write
  cases hd : d.dead with
  | true => exact ⟨_, rfl, rfl, h.mono (by omega), fun _ => rfl⟩
  | false =>
    rw [cond_false, cond_false]
    have hl := h.len
    have hbh := h.bh
    by_cases hi : 0 ≤ i ∧ i < (d.sure.length : Int)
    · have e1 : disk_there d i = true := by
        unfold disk_there
        rw [show decide (i ≥ 0) = true from decide_eq_true (by omega), cond_true]
        exact decide_eq_true hi.2
      rw [let_eq, e1, Bool.not_true, cond_false, show decide (i < 0) = false from decide_eq_false (by omega), cond_false, show decide (i ≥ (d.sure.length : Int)) = false from decide_eq_false (by omega), cond_false]
      unfold disk_long
      by_cases hg : (data.length : Int) > 64
      · rw [let_eq, show decide ((data.length : Int) > 64) = true from decide_eq_true hg, cond_true, cond_true]
        exact ⟨_, rfl, rfl, h.mono (by omega), fun e => by rw [hd] at e; cases e⟩
      · rw [let_eq, show decide ((data.length : Int) > 64) = false from decide_eq_false hg, cond_false, cond_false]
        obtain ⟨e2, h2, hc, hs⟩ := burn_eq h hd
        rw [let_eq, let_eq, e2]
        cases hb : (ref04_burn d).dead with
        | true => exact ⟨_, rfl, rfl, h2.mono (by omega), fun _ => rfl⟩
        | false =>
          rw [cond_false, cond_false]
          have hcl := h2.cl
          have e3 : (((0 : Int), ref04_burn d).1 != (0 : Int)) = false := rfl
          rw [e3, cond_false]
          unfold slices_Clone_api_Write_api_Write slices_Clip_api_Write_api_Write
          dsimp only
          rw [chk_app (by omega), chk_app (by omega), bnd_some, let_eq, chk_app (by omega)]
          refine ⟨_, rfl, rfl, ?_, fun e => by cases e⟩
          refine { h2 with sec := fun x hx => ?_, cl := ?_ }
          · rcases List.mem_append.1 hx with hx | hx
            · exact h2.sec x hx
            · rw [List.mem_singleton] at hx
              subst hx
              dsimp only
              omega
          · show ((ref04_burn d).cache ++ [Write.mk i data]).length ≤ k + 1
            rw [List.length_append]
            exact Nat.succ_le_succ hcl
    · have e1 : disk_there d i = false := by
        unfold disk_there
        by_cases h0 : 0 ≤ i
        · rw [show decide (i ≥ 0) = true from decide_eq_true (by omega), cond_true]
          exact decide_eq_false (fun h1 => hi ⟨h0, h1⟩)
        · rw [show decide (i ≥ 0) = false from decide_eq_false (by omega), cond_false]
      rw [let_eq, e1]
      refine ⟨(d, 4), rfl, ?_, h.mono (by omega), fun e => by rw [hd] at e; cases e⟩
      by_cases h0 : i < 0
      · rw [show decide (i < 0) = true from decide_eq_true h0, cond_true]
      · rw [show decide (i < 0) = false from decide_eq_false h0, cond_false, show decide (i ≥ (d.sure.length : Int)) = true from decide_eq_true (by omega), cond_true]

/-! ### what a sector holds -/
def pick (i : Int) (v : Str) (w : Write) : Str := bif w.sector == i then w.data else v
theorem holds_L (d : Disk) (i : Int) (hc : d.cache.length ≤ 1000) : ∀ (n j : Nat) (v : Str), j ≤ d.cache.length → d.cache.length - j < n → ref04_holds_L1 n d i v (j : Int) = some ((d.cache.drop j).foldl (pick i) v)
  | 0, j, v, _, h => by omega
  | n + 1, j, v, hj, hn => by
    unfold ref04_holds_L1
    by_cases h : j < d.cache.length
    · rw [show decide ((j : Int) < (d.cache.length : Int)) = true from decide_eq_true (by omega), cond_true, chk_inR (by omega) (by omega), inc64 (by omega), drop_gt _ h, List.foldl_cons]
      have ih := fun v => holds_L d i hc n (j + 1) v (by omega) (by omega)
      rw [ih, ih]
      unfold pick
      cases (gt d.cache (j : Int)).sector == i <;> rfl
    · rw [show decide ((j : Int) < (d.cache.length : Int)) = false from decide_eq_false (by omega), cond_false, List.drop_of_length_le (by omega)]
      rfl
theorem holds_eq {d : Disk} {b k n : Nat} (h : DOk d b k) (hk : k ≤ 200) (hn : 210 ≤ n) {i : Nat} (hi : i < b + 2) : ref04_holds n d (i : Int) = some (d.cache.foldl (pick (i : Int)) (gt d.sure (i : Int))) := by
  have := h.cl
  have := h.len
  unfold ref04_holds
  rw [chk_inR (by omega) (by omega)]
  exact holds_L d i (by omega) n 0 _ (by omega) (by omega)
theorem pick_last (i : Int) (l : List Write) (v : Str) : l.foldl (pick i) v = (lastw l i).elim v fun x => x.data := by
  unfold lastw
  rw [List.foldl_eq_foldr_reverse]
  generalize l.reverse = r
  induction r with
  | nil => rfl
  | cons w r ih =>
    rw [List.foldr_cons, ih, List.find?_cons]
    unfold pick
    cases w.sector == i <;> rfl
theorem read_eq {d : Disk} {b k n : Nat} (i : Int) (h : DOk d b k) (hk : k ≤ 200) (hn : 210 ≤ n) : ∃ r, disk_Read d i = some r ∧ ref04_Read n d i = some r ∧ (d.dead = true → r.2 = 6) ∧ (d.dead = false → 0 ≤ i → i < ((b + 2 : Nat) : Int) → r = (d.cache.foldl (pick i) (gt d.sure i), 0)) := by
  unfold disk_Read ref04_Read
  have := h.cl
  have hl := h.len
  rw [chk_dec (by omega)]
  cases hd : d.dead with
  | true => exact ⟨_, rfl, rfl, fun _ => rfl, fun e => by cases e⟩
  | false =>
    rw [cond_false, cond_false]
    by_cases hi : 0 ≤ i ∧ i < (d.sure.length : Int)
    · obtain ⟨j, rfl⟩ : ∃ j : Nat, i = (j : Int) := ⟨i.toNat, by omega⟩
      rw [show decide (0 ≤ (j : Int) ∧ (j : Int) < (d.sure.length : Int)) = true from decide_eq_true hi, cond_true, show decide ((j : Int) < 0) = false from decide_eq_false (by omega), cond_false, show decide ((j : Int) ≥ (d.sure.length : Int)) = false from decide_eq_false (by omega), cond_false, holds_eq h hk hn (by omega), bnd_some, pick_last]
      exact ⟨_, rfl, rfl, (fun e => by cases e), fun _ _ _ => rfl⟩
    · rw [show decide (0 ≤ i ∧ i < (d.sure.length : Int)) = false from decide_eq_false hi, cond_false]
      refine ⟨_, rfl, ?_, (fun e => by cases e), fun _ h0 h1 => absurd ⟨h0, by omega⟩ hi⟩
      by_cases h0 : i < 0
      · rw [show decide (i < 0) = true from decide_eq_true h0, cond_true]
      · rw [show decide (i < 0) = false from decide_eq_false h0, cond_false, show decide (i ≥ (d.sure.length : Int)) = true from decide_eq_true (by omega), cond_true]

/-! ### flush -/
def flushed (d : Disk) : List Str := (List.range d.sure.length).map fun i : Nat => d.cache.foldl (pick (i : Int)) (gt d.sure (i : Int))
theorem flush_L {x : Disk} {b k : Nat} (d : Disk) (h : DOk x b k) (hk : k ≤ 200) : ∀ (n j : Nat), j ≤ x.sure.length → x.sure.length - j + 210 < n →
    ref04_Flush_L1 n d x ((List.range j).map fun i : Nat => x.cache.foldl (pick (i : Int)) (gt x.sure (i : Int))) (j : Int) = some (Disk.mk (flushed x) [] x.fuse x.dead, 0)
  | 0, j, _, hn => by omega
  | n + 1, j, hj, hn => by
    have hl := h.len
    have hb := h.bh
    unfold ref04_Flush_L1
    by_cases hlt : j < x.sure.length
    · rw [show decide ((j : Int) < (x.sure.length : Int)) = true from decide_eq_true (by omega), cond_true, holds_eq h hk (by omega) (by omega), bnd_some, chk_app (by rw [List.length_map, List.length_range]; omega), inc64 (by omega)]
      have := flush_L d h hk n (j + 1) (by omega) (by omega)
      rw [List.range_succ, List.map_append] at this
      exact this
    · have : j = x.sure.length := by omega
      subst this
      rw [show decide ((x.sure.length : Int) < (x.sure.length : Int)) = false from decide_eq_false (by omega), cond_false]
      rfl
def setw (s : List Str) (w : Write) : List Str := s.set w.sector.toNat w.data
theorem settle_L (sure : List Str) (c : List Write) (x1 : List Str) (hc : c.length ≤ 1000) (hs : ∀ x ∈ c, 0 ≤ x.sector ∧ x.sector < (x1.length : Int)) : ∀ (n j : Nat) (v : List Str), v.length = x1.length → j ≤ c.length → c.length - j < n →
    disk_settle_L1 n sure c x1 (j : Int) v = some ((c.drop j).foldl setw v)
  | 0, j, v, _, _, hn => by omega
  | n + 1, j, v, hv, hj, hn => by
    unfold disk_settle_L1
    by_cases h : j < c.length
    · have hm := hs _ (gt_mem c h)
      rw [show decide ((j : Int) < (c.length : Int)) = true from decide_eq_true (by omega), cond_true, chk_inR (by omega) (by omega), chk_inR hm.1 hm.2, chk_dec (by omega), inc64 (by omega), drop_gt _ h, List.foldl_cons]
      exact settle_L sure c x1 hc hs n (j + 1) _ (by rw [List.length_set]; exact hv) (by omega) (by omega)
    · rw [show decide ((j : Int) < (c.length : Int)) = false from decide_eq_false (by omega), cond_false, chk_dec hv.symm, List.drop_of_length_le (by omega)]
      rfl
theorem gt_set (v : List Str) {w : Write} (i : Nat) (hi : i < v.length) (h0 : 0 ≤ w.sector) : gt (setw v w) (i : Int) = pick (i : Int) (gt v (i : Int)) w := by
  unfold gt setw pick
  rw [show ((i : Int)).toNat = i by omega, List.getD_eq_getElem?_getD, List.getD_eq_getElem?_getD, List.getElem?_set]
  by_cases h : w.sector.toNat = i
  · rw [if_pos h, if_pos (by omega), show (w.sector == (i : Int)) = true from beq_iff_eq.2 (by omega)]
    rfl
  · rw [if_neg h, show (w.sector == (i : Int)) = false from beq_eq_false_iff_ne.2 (by omega)]
    rfl
theorem setw_eq : ∀ (c : List Write) (v : List Str), (∀ x ∈ c, 0 ≤ x.sector ∧ x.sector < (v.length : Int)) → c.foldl setw v = (List.range v.length).map fun i : Nat => c.foldl (pick (i : Int)) (gt v (i : Int))
  | [], v, _ => by
    apply List.ext_getElem
    · simp
    · intro i h1 h2
      have h3 : i < v.length := h1
      simp [gt, h3]
  | w :: c, v, hs => by
    have h0 := hs w List.mem_cons_self
    have hlen : (setw v w).length = v.length := List.length_set
    rw [List.foldl_cons, setw_eq c (setw v w) (fun x hx => by rw [hlen]; exact hs x (List.mem_cons_of_mem _ hx)), hlen]
    apply List.map_congr_left
    intro i hi
    rw [List.mem_range] at hi
    rw [gt_set v i hi h0.1, List.foldl_cons]
theorem flush_ok {d : Disk} {b k n : Nat} (h : DOk d b k) (hk : k ≤ 200) (hn : 250 ≤ n) :
    ∃ r, disk_Flush n d = some r ∧ ref04_Flush n d = some r ∧ DOk r.1 b k ∧ (r.1.dead = true → r.2 = 6) ∧ (d.dead = false → d.fuse = 0 → r = (Disk.mk (flushed d) [] 0 false, 0)) := by
  unfold disk_Flush ref04_Flush
  cases hd : d.dead with
  | true => exact ⟨_, rfl, rfl, h, fun _ => rfl, fun e => by cases e⟩
  | false =>
    rw [cond_false, cond_false]
    obtain ⟨e2, h2, hc, hs⟩ := burn_eq h hd
    rw [let_eq, let_eq, e2]
    cases hb : (ref04_burn d).dead with
    | true =>
      refine ⟨_, rfl, rfl, h2, fun _ => rfl, fun _ hf => ?_⟩
      unfold ref04_burn at hb
      rw [hf] at hb
      rw [show ((0 : Int) == 1) = false from rfl, cond_false, show decide ((0 : Int) > 0) = false from rfl, cond_false, hd] at hb
      cases hb
    | false =>
      rw [cond_false, cond_false]
      have e3 : (((0 : Int), ref04_burn d).1 != (0 : Int)) = false := rfl
      have hl := h2.len
      have hcl := h2.cl
      have hbh := h2.bh
      rw [e3, cond_false]
      unfold disk_settle slices_Clone_string_string_row
      dsimp only
      have hsec : ∀ x ∈ (ref04_burn d).cache, 0 ≤ x.sector ∧ x.sector < ((ref04_burn d).sure.length : Int) := by rw [hl]; exact h2.sec
      have e4 := settle_L (ref04_burn d).sure (ref04_burn d).cache (ref04_burn d).sure (by omega) hsec n 0 (ref04_burn d).sure rfl (by omega) (by omega)
      rw [chk_t (by rw [Bool.and_eq_true]; exact ⟨decide_eq_true (by omega), by rw [Bool.not_eq_true', beq_eq_false_iff_ne]; omega⟩), bnd_some]
      rw [show (0 : Int) = ((0 : Nat) : Int) from rfl, e4, bnd_some, List.drop_zero, setw_eq _ _ hsec]
      have e5 := flush_L d h2 hk n 0 (by omega) (by omega)
      rw [show ((List.range 0).map fun i : Nat => (ref04_burn d).cache.foldl (pick (i : Int)) (gt (ref04_burn d).sure (i : Int))) = [] from rfl] at e5
      refine ⟨_, rfl, e5.trans (by rw [hb]; rfl), ?_, (fun e => by cases e), fun _ hf => ?_⟩
      · refine ⟨?_, h2.bl, h2.bh, (fun x hx => by cases hx), Nat.zero_le _, h2.f0, h2.f1⟩
        show (List.map _ (List.range _)).length = _
        rw [List.length_map, List.length_range, hl]
      · have e6 : ref04_burn d = d := by
          unfold ref04_burn
          rw [hf]
          rfl
        rw [e6, hf]
        rfl
end Go.Am
