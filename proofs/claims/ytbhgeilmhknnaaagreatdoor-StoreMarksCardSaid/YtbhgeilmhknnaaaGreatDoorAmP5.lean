/- The plain law, part 5: StoreMarks. -/
import Derived.Test.YtbhgeilmhknnaaaGreatDoorAmP4
namespace Go.Am
open Go.Proofs
set_option maxRecDepth 100000
/-! ### sums, told outright -/
def sumF (v : Int) (c : UInt8) : Int := wU32 ((xorU32 v (wU32 (c.toNat : Int))) * 16777619)
theorem drop_bt (s : Str) {j : Nat} (h : j < s.length) : ∃ c : UInt8, s.drop j = c :: s.drop (j + 1) ∧ bt s (j : Int) = (c.toNat : Int) := by
  refine ⟨s[j], List.drop_eq_getElem_cons h, ?_⟩
  unfold bt
  rw [show ((j : Int)).toNat = j by omega, List.getD_eq_getElem?_getD, List.getElem?_eq_getElem h]
  rfl
theorem sum_L (s : Str) (hl : s.length < 1000000) : ∀ (n j : Nat) (v : Int), j ≤ s.length → s.length - j < n → check_Sum_L1 n s v (j : Int) = some ((s.drop j).foldl sumF v)
  | 0, j, v, _, h => by omega
  | n + 1, j, v, hj, hn => by
    unfold check_Sum_L1
    by_cases h : j < s.length
    · obtain ⟨c, hc, hb⟩ := drop_bt s h
      rw [show decide ((j : Int) < (s.length : Int)) = true from decide_eq_true (by omega), cond_true, chk_inR (by omega) (by omega), inc64 (by omega), hc, List.foldl_cons, hb]
      exact sum_L s hl n (j + 1) _ (by omega) (by omega)
    · rw [show decide ((j : Int) < (s.length : Int)) = false from decide_eq_false (by omega), cond_false, List.drop_of_length_le (by omega)]
      rfl
def sumS (s : Str) : Int := s.foldl sumF 2166136261
theorem sum_eq {n : Nat} {s : Str} (hl : s.length < 1000000) (hn : s.length < n) : check_Sum n s = some (sumS s) := sum_L s hl n 0 _ (by omega) (by omega)
theorem sumS_N (s : Str) (hl : s.length < 1000000) : isN (sumS s) 4294967296 := by
  obtain ⟨r, h1, _, h3⟩ := csum (s.length + 1) s (by omega) hl
  rw [sum_eq hl (by omega)] at h1
  cases h1
  exact h3
def sealOf (s : Str) : Str := s ++ be 4 (sumS s).toNat
theorem seal_is {n : Nat} {s : Str} (hl : s.length < 1000000) (hn : s.length + 9 < n) : check_Seal n s = some (sealOf s) := by
  obtain ⟨n, rfl⟩ : ∃ k, n = k + 9 := ⟨n - 9, by omega⟩
  unfold check_Seal sealOf
  rw [sum_eq hl (by omega), bnd_some, num_Put32_eq (sumS_N s hl), bnd_some, chk_cat (by rw [be_length]; omega)]
theorem seal_len (s : Str) : (sealOf s).length = s.length + 4 := by
  unfold sealOf
  rw [List.length_append, be_length]

/-! ### numbers read back -/
theorem get_num4 (n : Nat) (a b c d : UInt8) : num_get (n + 9) [a, b, c, d] = some (orU64 (shlU64 (orU64 (shlU64 (orU64 (shlU64 (orU64 (shlU64 0 8) (wU64 (a.toNat : Int))) 8) (wU64 (b.toNat : Int))) 8) (wU64 (c.toNat : Int))) 8) (wU64 (d.toNat : Int))) := by kernel_rfl
theorem get_step {v b : Nat} (hv : v < 2 ^ 48) (hb : b < 256) : orU64 (shlU64 (v : Int) 8) (wU64 (b : Int)) = ((v * 256 + b : Nat) : Int) := by
  have e1 : shlU64 (v : Int) 8 = ((v * 256 : Nat) : Int) := by
    unfold shlU64
    rw [show (8 : Int).toNat = 8 from rfl, show min 8 (IntKind.bits .u64) = 8 from rfl]
    rw [IntKind.wrap_u64]
    omega
  have e2 : wU64 (b : Int) = (b : Int) := by rw [wU64_eq]; omega
  rw [e1, e2, orU64_nat (by omega) (by omega)]
  congr 1
  have := Nat.shiftLeft_add_eq_or_of_lt (show b < 2 ^ 8 by omega) v
  rw [Nat.shiftLeft_eq] at this
  exact this.symm
theorem get32_be {n m : Nat} (hm : m < 4294967296) (hn : 9 ≤ n) : num_Get32 n (be 4 m) = some ((m : Int), true) := by
  obtain ⟨n, rfl⟩ : ∃ k, n = k + 9 := ⟨n - 9, by omega⟩
  unfold num_Get32
  rw [be_length, show (((4 : Nat) : Int) != 4) = false from rfl, cond_false]
  have e : be 4 m = [UInt8.ofNat (m / 256 / 256 / 256 % 256), UInt8.ofNat (m / 256 / 256 % 256), UInt8.ofNat (m / 256 % 256), UInt8.ofNat (m % 256)] := rfl
  rw [e, get_num4]
  have b1 : ∀ x : Nat, (UInt8.ofNat x).toNat = x % 256 := fun x => by simp
  rw [b1, b1, b1, b1, show (0 : Int) = ((0 : Nat) : Int) from rfl, get_step (by omega) (by omega), get_step (by omega) (by omega), get_step (by omega) (by omega), get_step (by omega) (by omega), bnd_some]
  have : wU32 (((((0 * 256 + m / 256 / 256 / 256 % 256 % 256) * 256 + m / 256 / 256 % 256 % 256) * 256 + m / 256 % 256 % 256) * 256 + m % 256 % 256 : Nat) : Int) = (m : Int) := by
    rw [wU32_eq]
    omega
  rw [this]
theorem open_seal {n : Nat} {s : Str} (hl : s.length < 100000) (hn : s.length + 9 < n) : check_Open n (sealOf s) = some (s, 0) := by
  unfold check_Open
  have hw : wI64 (((sealOf s).length : Int) - 4) = (s.length : Int) := by
    rw [seal_len, wI64_eq (by omega) (by omega)]
    omega
  rw [hw, show decide ((s.length : Int) < 0) = false from decide_eq_false (by omega), cond_false, chk_hi (by omega) (by rw [seal_len]; omega), show ((s.length : Int)).toNat = s.length by omega]
  have hN := sumS_N s (by omega)
  obtain ⟨x, hx, hx2⟩ := hN.nat
  have e1 : (sealOf s).drop s.length = be 4 x := by
    unfold sealOf
    rw [List.drop_left, hx]
    rfl
  have e2 : (sealOf s).take s.length = s := by
    unfold sealOf
    exact List.take_left
  rw [e1, e2, get32_be hx2 (by omega), bnd_some, sum_eq (by omega) (by omega), bnd_some, hx]
  simp

/-! ### a store whose disk is calm -/
structure Calm (s : Store) (b k : Nat) : Prop where
  inv : SInv s b k
  alive : s.disk.dead = false
  fuse : s.disk.fuse = 0
theorem write_calm {d : Disk} {b k : Nat} {i : Nat} {data : Str} (h : DOk d b k) (hk : k ≤ 200) (ha : d.dead = false) (hf : d.fuse = 0) (hi : i < b + 2) (hl : data.length ≤ 64) :
    disk_Write d (i : Int) data = some (Disk.mk d.sure (d.cache ++ [Write.mk (i : Int) data]) 0 false, 0) := by
  have hlen := h.len
  have hcl := h.cl
  unfold disk_Write
  have e1 : disk_there d (i : Int) = true := by
    unfold disk_there
    rw [show decide ((i : Int) ≥ 0) = true from decide_eq_true (by omega), cond_true]
    exact decide_eq_true (by omega)
  have e2 : disk_burn d = (0, d) := by
    unfold disk_burn
    rw [hf]
    rfl
  have e3 : disk_long data = false := by
    unfold disk_long
    exact decide_eq_false (by omega)
  rw [ha, cond_false, let_eq, e1, Bool.not_true, cond_false, let_eq, e3, cond_false, let_eq, e2, show (((0 : Int), d).1 != 0) = false from rfl, cond_false]
  unfold slices_Clone_api_Write_api_Write slices_Clip_api_Write_api_Write
  dsimp only
  rw [chk_app (by omega), bnd_some, let_eq, chk_app (by omega), ha, hf]
theorem note_calm {d : Disk} {b k n m : Nat} (h : DOk d b k) (hk : k ≤ 200) (ha : d.dead = false) (hf : d.fuse = 0) (hm : m < 2 ^ b) (hn : 100 ≤ n) :
    bits_Note n d (m : Int) = some (Disk.mk d.sure (d.cache ++ [Write.mk 1 (sealOf (be 4 m))]) 0 false, 0) := by
  have hb := h.bh
  have hp : 2 ^ b ≤ 2 ^ 32 := Nat.pow_le_pow_right (by decide) hb
  have hm2 : m < 4294967296 := by omega
  unfold bits_Note bits_right
  rw [h.two, mright_eq hm2 h.bl h.bh]
  simp only [bnd_some]
  rw [decide_eq_true hm, Bool.not_true, cond_false]
  obtain ⟨n, rfl⟩ : ∃ k, n = k + 9 := ⟨n - 9, by omega⟩
  rw [num_Put32_eq (isN_nat hm2), bnd_some, show ((m : Int)).toNat = m by omega, seal_is (by rw [be_length]; omega) (by rw [be_length]; omega), bnd_some]
  have := write_calm (i := 1) (data := sealOf (be 4 m)) h hk ha hf (by omega) (by rw [seal_len, be_length]; omega)
  rw [show (((1 : Nat)) : Int) = 1 from rfl] at this
  rw [this]
  rfl

/-! ### marks -/
structure MOk (s : Store) (b : Nat) (T : Str) (m : Nat) : Prop where
  calm : Calm s b 0
  mask : s.mask = (m : Int)
  mlt : m < 2 ^ b
  t0 : gt s.disk.sure 0 = T
  t1 : gt s.disk.sure 1 = sealOf (be 4 m)
  t2 : ∀ i : Nat, i < b → (gt s.disk.sure ((i + 2 : Nat) : Int)).length = 8
theorem cache_nil {s : Store} {b : Nat} (h : Calm s b 0) : s.disk.cache = [] := List.length_eq_zero_iff.1 (Nat.le_zero.1 h.inv.d.cl)
theorem gt_flushed (d : Disk) {i : Nat} (h : i < d.sure.length) : gt (flushed d) (i : Int) = d.cache.foldl (pick (i : Int)) (gt d.sure (i : Int)) := by
  unfold flushed
  have : gt ((List.range d.sure.length).map fun i : Nat => d.cache.foldl (pick (i : Int)) (gt d.sure (i : Int))) (i : Int) = ((List.range d.sure.length).map fun i : Nat => d.cache.foldl (pick (i : Int)) (gt d.sure (i : Int)))[i]'(by simpa using h) := by
    unfold gt
    rw [show ((i : Int)).toNat = i by omega, List.getD_eq_getElem?_getD, List.getElem?_eq_getElem (by simpa using h)]
    rfl
  rw [this, List.getElem_map, List.getElem_range]
theorem mark_step {s : Store} {b n : Nat} {T : Str} {m : Nat} (i : Int) (h : MOk s b T m) (hn : 260 ≤ n) :
    ∃ s' e m', store_Mark n s i = some (s', e) ∧ MOk s' b T m' ∧ (e == 0) = decide (0 ≤ i ∧ i < (b : Int)) := by
  have hb := h.calm.inv.bl
  have hbh := h.calm.inv.d.bh
  have hlen := h.calm.inv.d.len
  have hp : 2 ^ b ≤ 2 ^ 32 := Nat.pow_le_pow_right (by decide) hbh
  unfold store_Mark
  rw [let_eq, there_store, hb]
  by_cases hi : 0 ≤ i ∧ i < (b : Int)
  · rw [decide_eq_true hi, Bool.not_true, cond_false]
    obtain ⟨j, rfl⟩ : ∃ j : Nat, i = (j : Int) := ⟨i.toNat, by omega⟩
    have hj : j < 32 := by omega
    have h2 : 2 ^ j < 2 ^ b := Nat.pow_lt_pow_right (by decide) (by omega)
    have hor : m ||| 2 ^ j < 2 ^ b := Nat.or_lt_two_pow h.mlt h2
    have hmlt := h.mlt
    rw [h.mask, mset_eq hj (by omega) (by omega), bnd_some]
    unfold store_keep_74
    by_cases he : ((m ||| 2 ^ j : Nat) : Int) = s.mask
    · rw [show (((m ||| 2 ^ j : Nat) : Int) == s.mask) = true from beq_iff_eq.2 he]
      exact ⟨_, _, m, rfl, h, rfl⟩
    · rw [show (((m ||| 2 ^ j : Nat) : Int) == s.mask) = false from beq_eq_false_iff_ne.2 he, cond_false]
      unfold bits_Save
      have hc := cache_nil h.calm
      rw [note_calm h.calm.inv.d (by omega) h.calm.alive h.calm.fuse hor (by omega), bnd_some, show (((Disk.mk s.disk.sure (s.disk.cache ++ [Write.mk 1 (sealOf (be 4 (m ||| 2 ^ j)))]) 0 false, (0 : Int)) : Disk × Int).2 != 0) = false from rfl, cond_false]
      have hD : DOk (Disk.mk s.disk.sure (s.disk.cache ++ [Write.mk 1 (sealOf (be 4 (m ||| 2 ^ j)))]) 0 false) b 1 := by
        refine ⟨hlen, h.calm.inv.d.bl, hbh, fun x hx => ?_, ?_, Int.le_refl _, show (0 : Int) ≤ 255 by decide⟩
        · have hx : x ∈ s.disk.cache ++ [Write.mk 1 (sealOf (be 4 (m ||| 2 ^ j)))] := hx
          rw [hc, List.nil_append, List.mem_singleton] at hx
          subst hx
          dsimp only
          omega
        · show (s.disk.cache ++ [Write.mk 1 (sealOf (be 4 (m ||| 2 ^ j)))]).length ≤ 1
          rw [hc]
          exact Nat.le_refl _
      obtain ⟨r, h3, _, h5, _, h7⟩ := flush_ok (n := n) hD (by omega) (by omega)
      obtain rfl := h7 rfl rfl
      rw [h3]
      simp only [bnd_some]
      refine ⟨_, _, m ||| 2 ^ j, rfl, ⟨⟨⟨?_, isN_nat (by omega), hb⟩, rfl, rfl⟩, rfl, hor, ?_, ?_, ?_⟩, rfl⟩
      · have := h5.len
        exact ⟨this, h5.bl, h5.bh, (fun x hx => by cases hx), Nat.le_refl _, Int.le_refl _, show (0 : Int) ≤ 255 by decide⟩
      · have := gt_flushed (Disk.mk s.disk.sure (s.disk.cache ++ [Write.mk 1 (sealOf (be 4 (m ||| 2 ^ j)))]) 0 false) (i := 0) (by show 0 < s.disk.sure.length; omega)
        refine this.trans ?_
        show (s.disk.cache ++ [Write.mk 1 (sealOf (be 4 (m ||| 2 ^ j)))]).foldl (pick 0) (gt s.disk.sure 0) = T
        rw [hc]
        exact h.t0
      · have := gt_flushed (Disk.mk s.disk.sure (s.disk.cache ++ [Write.mk 1 (sealOf (be 4 (m ||| 2 ^ j)))]) 0 false) (i := 1) (by show 1 < s.disk.sure.length; omega)
        refine this.trans ?_
        show (s.disk.cache ++ [Write.mk 1 (sealOf (be 4 (m ||| 2 ^ j)))]).foldl (pick 1) (gt s.disk.sure 1) = _
        rw [hc]
        rfl
      · intro q hq
        have := gt_flushed (Disk.mk s.disk.sure (s.disk.cache ++ [Write.mk 1 (sealOf (be 4 (m ||| 2 ^ j)))]) 0 false) (i := q + 2) (by show q + 2 < s.disk.sure.length; omega)
        refine (congrArg List.length this).trans ?_
        show ((s.disk.cache ++ [Write.mk 1 (sealOf (be 4 (m ||| 2 ^ j)))]).foldl (pick ((q + 2 : Nat) : Int)) (gt s.disk.sure ((q + 2 : Nat) : Int))).length = 8
        rw [hc, List.nil_append, List.foldl_cons, List.foldl_nil]
        unfold pick
        rw [show ((1 : Int) == ((q + 2 : Nat) : Int)) = false from beq_eq_false_iff_ne.2 (by omega), cond_false]
        exact h.t2 q hq
  · rw [decide_eq_false hi, Bool.not_false, cond_true]
    exact ⟨_, _, m, rfl, h, rfl⟩

/-! ### wipes -/
structure WOk (s s0 : Store) (b k m0 m : Nat) : Prop where
  calm : Calm s b k
  sure : s.disk.sure = s0.disk.sure
  mask : s.mask = (m : Int)
  sub : m ||| m0 = m0
theorem sub_lt {m m0 b : Nat} (h : m ||| m0 = m0) (h0 : m0 < 2 ^ b) : m < 2 ^ b := by
  have : m ≤ m ||| m0 := Nat.left_le_or
  omega
theorem sub_anot {m m0 x : Nat} (h : m ||| m0 = m0) : anot m x ||| m0 = m0 := by
  apply Nat.eq_of_testBit_eq
  intro j
  have := congrArg (fun y => y.testBit j) h
  simp only [Nat.testBit_or] at this
  rw [Nat.testBit_or, anot_bit, ← this]
  cases m.testBit j <;> cases m0.testBit j <;> cases x.testBit j <;> simp_all
theorem wipe_step {s s0 : Store} {b k n m0 m : Nat} (i : Int) (h : WOk s s0 b k m0 m) (h0 : m0 < 2 ^ b) (hk : k ≤ 190) (hn : 260 ≤ n) :
    ∃ s' e m', store_Wipe n s i = some (s', e) ∧ WOk s' s0 b (k + 1) m0 m' := by
  have hb := h.calm.inv.bl
  have hbh := h.calm.inv.d.bh
  have hbl := h.calm.inv.d.bl
  have hp : 2 ^ b ≤ 2 ^ 32 := Nat.pow_le_pow_right (by decide) hbh
  have hm := sub_lt h.sub h0
  have up : WOk s s0 b (k + 1) m0 m := ⟨⟨h.calm.inv.mono (by omega), h.calm.alive, h.calm.fuse⟩, h.sure, h.mask, h.sub⟩
  unfold store_Wipe
  rw [let_eq, there_store, hb]
  by_cases hi : 0 ≤ i ∧ i < (b : Int)
  · rw [decide_eq_true hi, Bool.not_true, cond_false]
    obtain ⟨j, rfl⟩ : ∃ j : Nat, i = (j : Int) := ⟨i.toNat, by omega⟩
    have hj : j < 32 := by omega
    rw [h.mask, mclear_eq hj (by omega) (by omega), bnd_some]
    have hs := sub_anot (x := 2 ^ j) h.sub
    have hlt := sub_lt hs h0
    unfold store_keep_76
    by_cases he : ((anot m (2 ^ j) : Nat) : Int) = s.mask
    · rw [show (((anot m (2 ^ j) : Nat) : Int) == s.mask) = true from beq_iff_eq.2 he]
      exact ⟨_, _, m, rfl, up⟩
    · rw [show (((anot m (2 ^ j) : Nat) : Int) == s.mask) = false from beq_eq_false_iff_ne.2 he, cond_false]
      rw [note_calm h.calm.inv.d (by omega) h.calm.alive h.calm.fuse hlt (by omega)]
      have hD := h.calm.inv.d
      refine ⟨_, _, anot m (2 ^ j), rfl, ⟨⟨⟨⟨hD.len, hbl, hbh, fun x hx => ?_, ?_, Int.le_refl _, show (0 : Int) ≤ 255 by decide⟩, isN_nat (by omega), hb⟩, rfl, rfl⟩, h.sure, rfl, hs⟩⟩
      · rcases List.mem_append.1 hx with hx | hx
        · exact hD.sec x hx
        · rw [List.mem_singleton] at hx
          subst hx
          dsimp only
          omega
      · have := hD.cl
        show (s.disk.cache ++ [_]).length ≤ k + 1
        rw [List.length_append]
        exact Nat.succ_le_succ this
  · rw [decide_eq_false hi, Bool.not_false, cond_true]
    exact ⟨_, _, m, rfl, up⟩
/-! ### the disk behind a crash -/
theorem revive_eq {d : Disk} {n : Nat} (h : d.sure.length ≤ 1000) (h0 : d.sure.length ≠ 0) (hn : 1 ≤ n) : ref04_Revive n d [] = some (Disk.mk d.sure [] 0 false) := by
  obtain ⟨n, rfl⟩ : ∃ k, n = k + 1 := ⟨n - 1, by omega⟩
  unfold ref04_Revive
  rw [chk_t (by rw [Bool.and_eq_true]; exact ⟨decide_eq_true (by omega), by rw [Bool.not_eq_true', beq_eq_false_iff_ne]; exact h0⟩)]
  unfold ref04_Revive_L1
  cases decide ((0 : Int) < (d.cache.length : Int)) with
  | false => rw [cond_false, chk_dec rfl]
  | true =>
    rw [cond_true, show decide ((0 : Int) < (([] : List Bool).length : Int)) = false from rfl, cond_false, chk_dec rfl]
theorem all_L {d : Disk} {b : Nat} (h : DOk d b 0) (ha : d.dead = false) (h2 : ∀ i : Nat, i < b → (gt d.sure ((i + 2 : Nat) : Int)).length = 8) : ∀ (n j : Nat) (v : List Str), j ≤ b → v.length = j → b - j + 220 < n → ∃ l, area_All_L1 n d v (j : Int) = some (l, 0)
  | 0, j, v, _, _, h => by omega
  | n + 1, j, v, hj, hv, hn => by
    have hlen := h.len
    have hbh := h.bh
    have hc : d.cache = [] := List.length_eq_zero_iff.1 (Nat.le_zero.1 h.cl)
    have hmx : mx2 (b : Int) 0 = (b : Int) := by
      unfold mx2
      rw [if_neg (by omega)]
    unfold area_All_L1
    rw [h.two, hmx]
    by_cases hlt : j < b
    · rw [show decide ((j : Int) < (b : Int)) = true from decide_eq_true (by omega), cond_true]
      unfold area_Read area_there
      rw [h.two, let_eq, show decide ((j : Int) ≥ 0) = true from decide_eq_true (by omega), cond_true, show decide ((j : Int) < (b : Int)) = true from decide_eq_true (by omega), Bool.not_true, cond_false, show wI64 ((j : Int) + 2) = ((j + 2 : Nat) : Int) from wI64_eq (by omega) (by omega)]
      obtain ⟨r, h3, _, _, h4⟩ := read_eq (n := n) ((j + 2 : Nat) : Int) h (by omega) (by omega)
      obtain rfl := h4 ha (by omega) (by omega)
      rw [h3]
      simp only [bnd_some]
      have h8 := h2 j hlt
      rw [hc, List.foldl_nil, show ((0 : Int) != 0) = false from rfl, cond_false, h8, show (((8 : Nat) : Int) != 8) = false from rfl, cond_false]
      simp only [bnd_some]
      rw [show ((0 : Int) != 0) = false from rfl, cond_false, chk_app (by omega), inc64 (by omega)]
      exact all_L h ha h2 n (j + 1) _ (by omega) (by rw [List.length_append, hv]; rfl) (by omega)
    · rw [show decide ((j : Int) < (b : Int)) = false from decide_eq_false (by omega), cond_false]
      exact ⟨v, rfl⟩
/-- What the superblock's text reads as, in each order. -/
def decOK (n b : Nat) : Bool :=
  match ref15_New 400 (b : Int) with
  | some s => (match super_Dec n (gt s.disk.sure 0) with
    | some ((p, e), (q, e')) => e == 0 && e' == 0 && p.blocks == (b : Int) && q.blocks == (b : Int)
    | none => false) && gt s.disk.sure 1 == sealOf (be 4 0) && (List.range b).all (fun i => (gt s.disk.sure ((i + 2 : Nat) : Int)).length == 8)
  | none => false
theorem dec_all (n : Nat) : (List.range 32).all (fun i => decOK (n + 100) (i + 1)) = true := by kernel_rfl
theorem new_marks {b : Nat} (h1 : 1 ≤ b) (h2 : b ≤ 32) : ∃ s T, ref15_New 400 (b : Int) = some s ∧ MOk s b T 0 ∧ ∀ n, 100 ≤ n → ∃ p q, super_Dec n T = some ((p, 0), (q, 0)) ∧ p.blocks = (b : Int) ∧ q.blocks = (b : Int) := by
  obtain ⟨s, hs, hI, hd, hf, hm, hc⟩ := new_ok h1 h2
  have key : ∀ n, decOK (n + 100) b = true := fun n => by
    have h := List.all_eq_true.1 (dec_all n) (b - 1) (by rw [List.mem_range]; omega)
    rw [show b - 1 + 1 = b by omega] at h
    exact h
  unfold decOK at key
  rw [hs] at key
  have k0 := key 0
  simp only [Bool.and_eq_true, beq_iff_eq, List.all_eq_true, List.mem_range] at k0
  refine ⟨s, gt s.disk.sure 0, hs, ⟨⟨hI, hd, hf⟩, hm, Nat.pow_pos (by decide), rfl, k0.1.2, k0.2⟩, fun n hn => ?_⟩
  have k := key (n - 100)
  rw [show n - 100 + 100 = n by omega] at k
  simp only [Bool.and_eq_true] at k
  have k := k.1.1
  split at k
  · rename_i p e q e' he
    simp only [Bool.and_eq_true, beq_iff_eq] at k
    obtain ⟨⟨⟨rfl, rfl⟩, hp⟩, hq⟩ := k
    exact ⟨p, q, he, hp, hq⟩
  · cases k
theorem attach_eq {d : Disk} {b n m : Nat} {T : Str} (h : DOk d b 0) (ha : d.dead = false) (hm : m < 2 ^ b) (t0 : gt d.sure 0 = T) (t1 : gt d.sure 1 = sealOf (be 4 m)) (t2 : ∀ i : Nat, i < b → (gt d.sure ((i + 2 : Nat) : Int)).length = 8)
    (hT : ∀ n, 100 ≤ n → ∃ p q, super_Dec n T = some ((p, 0), (q, 0)) ∧ p.blocks = (b : Int) ∧ q.blocks = (b : Int)) (hn : 260 ≤ n) :
    ∃ p q, store_Attach n d = some ((Store.mk d p (m : Int), 0), (Store.mk d q (m : Int), 0)) := by
  have hbh := h.bh
  have hc : d.cache = [] := List.length_eq_zero_iff.1 (Nat.le_zero.1 h.cl)
  have hp : 2 ^ b ≤ 2 ^ 32 := Nat.pow_le_pow_right (by decide) hbh
  obtain ⟨p, q, e0, hp0, hq0⟩ := hT n (by omega)
  refine ⟨p, q, ?_⟩
  have eM : meta_Load n d = some ((p, 0), (q, 0)) := by
    unfold meta_Load
    obtain ⟨r, h3, _, _, h4⟩ := read_eq (n := n) 0 h (by omega) (by omega)
    obtain rfl := h4 ha (by omega) (by omega)
    rw [h3]
    simp only [bnd_some]
    rw [hc, List.foldl_nil, t0, e0, show ((0 : Int) != 0) = false from rfl, cond_false]
    unfold Nd2 meta_Fits
    dsimp only
    rw [h.two, hp0, hq0, let_eq, beq_self_eq_true, beq_self_eq_true]
    rfl
  have eB : bits_Load n d = some ((m : Int), 0) := by
    unfold bits_Load bits_right
    obtain ⟨r, h3, _, _, h4⟩ := read_eq (n := n) 1 h (by omega) (by omega)
    obtain rfl := h4 ha (by omega) (by omega)
    rw [h3]
    simp only [bnd_some]
    rw [hc, List.foldl_nil, t1, show ((0 : Int) != 0) = false from rfl, cond_false, open_seal (by rw [be_length]; omega) (by rw [be_length]; omega)]
    simp only [bnd_some]
    rw [show ((0 : Int) != 0) = false from rfl, cond_false, get32_be (by omega) (by omega)]
    simp only [bnd_some]
    rw [h.two, mright_eq (by omega) h.bl h.bh, decide_eq_true hm]
    rfl
  obtain ⟨l, eA⟩ := all_L h ha t2 n 0 [] (by omega) rfl (by omega)
  have eA : area_All n d = some (l, 0) := eA
  unfold store_Attach
  rw [eM]
  unfold Nd2
  dsimp only
  rw [eB, eA]
  rfl

/-! ### the law -/
theorem marks_L2 {b : Nat} {T : Str} {m0 : Nat} (n_ : Int) (l wiped : List Int) (x1 : Bool) (x6 s0 : Store) (v56 : Int) (hw : wiped.length ≤ 50) (h0 : MOk s0 b T m0)
    (hT : ∀ n, 100 ≤ n → ∃ p q, super_Dec n T = some ((p, 0), (q, 0)) ∧ p.blocks = (b : Int) ∧ q.blocks = (b : Int)) :
    ∀ (n j : Nat) (s : Store) (m : Nat), j ≤ wiped.length → wiped.length - j + 280 < n → WOk s s0 b j m0 m → law15_StoreMarks_L2 n n_ l wiped x1 x6 v56 s0 (j : Int) s = some true
  | 0, j, s, m, _, hn, _ => by omega
  | n + 1, j, s, m, hj, hn, hs => by
    have hbh := h0.calm.inv.d.bh
    have hp : 2 ^ b ≤ 2 ^ 32 := Nat.pow_le_pow_right (by decide) hbh
    unfold law15_StoreMarks_L2
    by_cases h : j < wiped.length
    · obtain ⟨s', e, m', h1, h2⟩ := wipe_step (n := n) (gt wiped (j : Int)) hs h0.mlt (by omega) (by omega)
      rw [show decide ((j : Int) < (wiped.length : Int)) = true from decide_eq_true (by omega), cond_true, chk_inR (by omega) (by omega), h1, bnd_some, inc64 (by omega)]
      exact marks_L2 n_ l wiped x1 x6 s0 v56 hw h0 hT n (j + 1) s' m' (by omega) (by omega) h2
    · rw [show decide ((j : Int) < (wiped.length : Int)) = false from decide_eq_false (by omega), cond_false, let_eq]
      have hlen := hs.calm.inv.d.len
      have hlen0 := h0.calm.inv.d.len
      have hbl := hs.calm.inv.d.bl
      have hm := sub_lt hs.sub h0.mlt
      have e1 : ref04_Revive n (ref04_Crash s.disk) [] = some (Disk.mk s.disk.sure [] 0 false) := revive_eq (d := ref04_Crash s.disk) (by show s.disk.sure.length ≤ 1000; omega) (by show s.disk.sure.length ≠ 0; omega) (by omega)
      rw [e1, bnd_some, hs.sure]
      have hD : DOk (Disk.mk s0.disk.sure [] 0 false) b 0 := ⟨hlen0, hbl, hbh, (fun x hx => by cases hx), Nat.le_refl _, Int.le_refl _, show (0 : Int) ≤ 255 by decide⟩
      obtain ⟨p, q, e2⟩ := attach_eq (n := n) hD rfl h0.mlt h0.t0 h0.t1 h0.t2 hT (by omega)
      have hmlt := h0.mlt
      have ea : andU32 (m0 : Int) (m : Int) = (m : Int) := by
        rw [andU32_nat (by omega) (by omega)]
        congr 1
        rw [← hs.sub]
        apply Nat.eq_of_testBit_eq
        intro j
        rw [Nat.testBit_and, Nat.testBit_or]
        cases m.testBit j <;> simp
      have eo : orU32 (m0 : Int) (m0 : Int) = (m0 : Int) := by rw [orU32_nat (by omega) (by omega), Nat.or_self]
      have ep : orU32 (m : Int) (m0 : Int) = (m0 : Int) := by rw [orU32_nat (by omega) (by omega), hs.sub]
      rw [e2]
      unfold Nd1
      dsimp only
      rw [hs.mask, h0.mask, ea, eo, ep, beq_self_eq_true, beq_self_eq_true, beq_self_eq_true, cond_true, cond_true, cond_true]
      rfl
theorem marks_L1 {b : Nat} {T : Str} (n_ : Int) (l wiped : List Int) (x1 : Bool) (x6 : Store) (hl : l.length ≤ 50) (hw : wiped.length ≤ 50)
    (hT : ∀ n, 100 ≤ n → ∃ p q, super_Dec n T = some ((p, 0), (q, 0)) ∧ p.blocks = (b : Int) ∧ q.blocks = (b : Int)) :
    ∀ (n j : Nat) (s : Store) (m : Nat), j ≤ l.length → l.length - j + wiped.length + 290 < n → MOk s b T m → law15_StoreMarks_L1 n n_ l wiped x1 x6 (j : Int) s = some true
  | 0, j, s, m, _, hn, _ => by omega
  | n + 1, j, s, m, hj, hn, hs => by
    unfold law15_StoreMarks_L1
    by_cases h : j < l.length
    · obtain ⟨s', e, m', h1, h2, h3⟩ := mark_step (n := n) (gt l (j : Int)) hs (by omega)
      rw [show decide ((j : Int) < (l.length : Int)) = true from decide_eq_true (by omega), cond_true, chk_inR (by omega) (by omega), h1]
      simp only [bnd_some]
      rw [h3, hs.calm.inv.bl, inc64 (by omega)]
      have ih := marks_L1 n_ l wiped x1 x6 hl hw hT n (j + 1) s' m' (by omega) (by omega) h2
      by_cases h0 : gt l (j : Int) ≥ 0
      · rw [decide_eq_true h0, cond_true, show decide (0 ≤ gt l (j : Int) ∧ gt l (j : Int) < (b : Int)) = decide (gt l (j : Int) < (b : Int)) from decide_eq_decide.2 ⟨fun x => x.2, fun x => ⟨h0, x⟩⟩, beq_self_eq_true, Bool.not_true, cond_false]
        exact ih
      · rw [decide_eq_false h0, cond_false, show decide (0 ≤ gt l (j : Int) ∧ gt l (j : Int) < (b : Int)) = false from decide_eq_false fun x => h0 x.1, beq_self_eq_true, Bool.not_true, cond_false]
        exact ih
    · rw [show decide ((j : Int) < (l.length : Int)) = false from decide_eq_false (by omega), cond_false]
      have hi := hs.calm.inv
      exact marks_L2 n_ l wiped x1 x6 s _ hw hs hT n 0 s m (by omega) (by omega) ⟨hs.calm, rfl, hs.mask, Nat.or_self m⟩
theorem storeMarks_law {n_ : Int} {l wiped : List Int} (hn : isN n_ 256) : law15_StoreMarks 400 n_ l wiped = some true := by
  unfold law15_StoreMarks
  rw [alive15, bnd_some, Bool.not_true, cond_false]
  by_cases h1 : (l.length : Int) > 50
  · rw [decide_eq_true h1, cond_true]
  · by_cases h2 : (wiped.length : Int) > 50
    · rw [decide_eq_false h1, cond_false, decide_eq_true h2, cond_true]
    · obtain ⟨s, T, h3, h4, h5⟩ := new_marks (b := n_.toNat % 32 + 1) (by omega) (by omega)
      rw [decide_eq_false h1, cond_false, decide_eq_false h2, cond_false, blocks_eq hn, h3, bnd_some]
      exact marks_L1 n_ l wiped _ _ (by omega) (by omega) h5 400 0 s 0 (by omega) (by omega) h4
end Go.Am
