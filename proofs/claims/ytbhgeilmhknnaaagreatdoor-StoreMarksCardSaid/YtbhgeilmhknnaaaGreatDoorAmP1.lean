/- The plain law, part 1: numbers as bytes, sums, seals, superblocks: program and reference answer alike. -/
import Derived.Test.YtbhgeilmhknnaaaGreatDoorAmF7
import Derived.Test.YtbhgeilmhknnaaaGreatDoorAmArith
import Derived.KernelRfl
namespace Go.Am
open Go.Proofs
set_option maxRecDepth 100000

theorem bnd_some {α β : Type} (x : α) (k : α → Option β) : Bnd (some x) k = k x := rfl
theorem bnd_none {α β : Type} (k : α → Option β) : Bnd none k = none := rfl
theorem let_eq {α β : Type} (v : α) (k : α → β) : Let v k = k v := rfl
theorem chk_t {β : Type} {c : Bool} (h : c = true) (o : Option β) : Chk c o = o := by subst h; rfl
theorem chk_dec {β : Type} {p : Prop} [Decidable p] (h : p) (o : Option β) : Chk (decide p) o = o := chk_t (decide_eq_true h) o
theorem chk_cat {β : Type} {a b : Str} (h : a.length + b.length ≤ 1000000000000) (o : Option β) : Chk (catOK a b) o = o :=
  chk_t (by unfold catOK; exact decide_eq_true (by omega)) o
theorem chk_app {β : Type} {a b c : Nat} (h : (a + b) * c ≤ 140737488355328) (o : Option β) : Chk (appOK a b c) o = o :=
  chk_t (by unfold appOK; exact decide_eq_true h) o
theorem chk_inR {β : Type} {i : Int} {n : Nat} (h0 : 0 ≤ i) (h1 : i < n) (o : Option β) : Chk (inR i n) o = o :=
  chk_t (by unfold inR; exact decide_eq_true ⟨h0, h1⟩) o
theorem chk_hi {β : Type} {i : Int} {n : Nat} (h0 : 0 ≤ i) (h1 : i ≤ n) (o : Option β) : Chk (hiOK i n) o = o :=
  chk_t (by unfold hiOK; exact decide_eq_true ⟨h0, h1⟩) o

/-! ### four and eight bytes -/
theorem by8_eq {a b : Int} (h : a = b) : by8 a = by8 b := by rw [h]
/-- A byte of a number. -/
theorem byte_eq (m i : Nat) (_hm : m < 18446744073709551616) (hi : i ≤ 64) : wU8 (shrU64 (m : Int) (i : Int)) = ((m / 2 ^ i % 256 : Nat) : Int) := by
  rw [shrU64_nat hi, wU8_eq]
  omega
theorem tdiv_nat (m : Nat) : wU64 ((m : Int).tdiv 256) = ((m / 256 % 18446744073709551616 : Nat) : Int) := by
  rw [Int.tdiv_eq_ediv_of_nonneg (by omega), wU64_eq]
  omega
theorem tmod_nat (m : Nat) : wU8 ((m : Int).tmod 256) = ((m % 256 : Nat) : Int) := by
  rw [Int.tmod_eq_emod_of_nonneg (by omega), wU8_eq]
  omega
def q8 (m : Nat) : Nat := m / 256 % 18446744073709551616
theorem put_ref4 (n : Nat) (x : Int) : ref01_put (n + 9) x 4 = some [by8 (wU8 ((wU64 ((wU64 ((wU64 (x.tdiv 256)).tdiv 256)).tdiv 256)).tmod 256)), by8 (wU8 ((wU64 ((wU64 (x.tdiv 256)).tdiv 256)).tmod 256)), by8 (wU8 ((wU64 (x.tdiv 256)).tmod 256)), by8 (wU8 (x.tmod 256))] := by kernel_rfl
theorem put_num4 (n : Nat) (x : Int) : num_put (n + 9) x 4 = some [by8 (wU8 (shrU64 x 24)), by8 (wU8 (shrU64 x 16)), by8 (wU8 (shrU64 x 8)), by8 (wU8 (shrU64 x 0))] := by kernel_rfl
def W8 (x : Int) : Int := wU64 (x.tdiv 256)
theorem put_ref8 (n : Nat) (x : Int) : ref01_put (n + 9) x 8 = some [by8 (wU8 ((W8 (W8 (W8 (W8 (W8 (W8 (W8 x))))))).tmod 256)), by8 (wU8 ((W8 (W8 (W8 (W8 (W8 (W8 x)))))).tmod 256)), by8 (wU8 ((W8 (W8 (W8 (W8 (W8 x))))).tmod 256)), by8 (wU8 ((W8 (W8 (W8 (W8 x)))).tmod 256)), by8 (wU8 ((W8 (W8 (W8 x))).tmod 256)), by8 (wU8 ((W8 (W8 x)).tmod 256)), by8 (wU8 ((W8 x).tmod 256)), by8 (wU8 (x.tmod 256))] := by kernel_rfl
theorem put_num8 (n : Nat) (x : Int) : num_put (n + 9) x 8 = some [by8 (wU8 (shrU64 x 56)), by8 (wU8 (shrU64 x 48)), by8 (wU8 (shrU64 x 40)), by8 (wU8 (shrU64 x 32)), by8 (wU8 (shrU64 x 24)), by8 (wU8 (shrU64 x 16)), by8 (wU8 (shrU64 x 8)), by8 (wU8 (shrU64 x 0))] := by kernel_rfl
theorem W8_nat (m : Nat) (h : m < 18446744073709551616) : W8 (m : Int) = ((m / 256 : Nat) : Int) := by
  unfold W8
  rw [tdiv_nat, Nat.mod_eq_of_lt (by omega)]
/-- The bytes of a number, the greatest first. -/
def be : Nat → Nat → Str
  | 0, _ => []
  | k + 1, m => be k (m / 256) ++ [UInt8.ofNat (m % 256)]
theorem be_length : ∀ k m, (be k m).length = k
  | 0, _ => rfl
  | k + 1, m => by simp [be, be_length k]
theorem by8_nat (m : Nat) : by8 (m : Int) = UInt8.ofNat m := rfl
theorem ref_put4 (n m : Nat) (h : m < 18446744073709551616) : ref01_put (n + 9) (m : Int) 4 = some (be 4 m) := by
  rw [put_ref4]
  show some [by8 (wU8 ((W8 (W8 (W8 (m : Int)))).tmod 256)), by8 (wU8 ((W8 (W8 (m : Int))).tmod 256)), by8 (wU8 ((W8 (m : Int)).tmod 256)), by8 (wU8 ((m : Int).tmod 256))] = _
  rw [W8_nat m h, W8_nat _ (by omega), W8_nat _ (by omega), tmod_nat, tmod_nat, tmod_nat, tmod_nat]
  rfl
theorem ref_put8 (n m : Nat) (h : m < 18446744073709551616) : ref01_put (n + 9) (m : Int) 8 = some (be 8 m) := by
  rw [put_ref8, W8_nat m h, W8_nat _ (by omega), W8_nat _ (by omega), W8_nat _ (by omega), W8_nat _ (by omega), W8_nat _ (by omega), W8_nat _ (by omega), tmod_nat, tmod_nat, tmod_nat, tmod_nat, tmod_nat, tmod_nat, tmod_nat, tmod_nat]
  rfl
theorem shr_b (m i : Nat) (hi : i ≤ 64) : by8 (wU8 (shrU64 (m : Int) (i : Int))) = UInt8.ofNat (m / 2 ^ i % 256) := by
  rw [shrU64_nat hi, wU8_eq]
  show UInt8.ofNat _ = UInt8.ofNat _
  congr 1
theorem num_put4 (n m : Nat) : num_put (n + 9) (m : Int) 4 = some (be 4 m) := by
  rw [put_num4]
  have h24 : by8 (wU8 (shrU64 (m : Int) 24)) = UInt8.ofNat (m / 2 ^ 24 % 256) := shr_b m 24 (by decide)
  have h16 : by8 (wU8 (shrU64 (m : Int) 16)) = UInt8.ofNat (m / 2 ^ 16 % 256) := shr_b m 16 (by decide)
  have h8 : by8 (wU8 (shrU64 (m : Int) 8)) = UInt8.ofNat (m / 2 ^ 8 % 256) := shr_b m 8 (by decide)
  have h0 : by8 (wU8 (shrU64 (m : Int) 0)) = UInt8.ofNat (m / 2 ^ 0 % 256) := shr_b m 0 (by decide)
  rw [h24, h16, h8, h0]
  simp [be, Nat.div_div_eq_div_mul]
theorem num_put8 (n m : Nat) : num_put (n + 9) (m : Int) 8 = some (be 8 m) := by
  rw [put_num8]
  have h56 : by8 (wU8 (shrU64 (m : Int) 56)) = UInt8.ofNat (m / 2 ^ 56 % 256) := shr_b m 56 (by decide)
  have h48 : by8 (wU8 (shrU64 (m : Int) 48)) = UInt8.ofNat (m / 2 ^ 48 % 256) := shr_b m 48 (by decide)
  have h40 : by8 (wU8 (shrU64 (m : Int) 40)) = UInt8.ofNat (m / 2 ^ 40 % 256) := shr_b m 40 (by decide)
  have h32 : by8 (wU8 (shrU64 (m : Int) 32)) = UInt8.ofNat (m / 2 ^ 32 % 256) := shr_b m 32 (by decide)
  have h24 : by8 (wU8 (shrU64 (m : Int) 24)) = UInt8.ofNat (m / 2 ^ 24 % 256) := shr_b m 24 (by decide)
  have h16 : by8 (wU8 (shrU64 (m : Int) 16)) = UInt8.ofNat (m / 2 ^ 16 % 256) := shr_b m 16 (by decide)
  have h8 : by8 (wU8 (shrU64 (m : Int) 8)) = UInt8.ofNat (m / 2 ^ 8 % 256) := shr_b m 8 (by decide)
  have h0 : by8 (wU8 (shrU64 (m : Int) 0)) = UInt8.ofNat (m / 2 ^ 0 % 256) := shr_b m 0 (by decide)
  rw [h56, h48, h40, h32, h24, h16, h8, h0]
  simp [be, Nat.div_div_eq_div_mul]
/-- A natural number below a bound. -/
def isN (x : Int) (b : Nat) : Prop := 0 ≤ x ∧ x < (b : Int)
theorem isN.nat {x : Int} {b : Nat} (h : isN x b) : ∃ m : Nat, x = (m : Int) ∧ m < b := by
  unfold isN at h
  exact ⟨x.toNat, by omega, by omega⟩
theorem ref_Put32 {n : Nat} {x : Int} (h : isN x 4294967296) : ref01_Put32 (n + 9) x = some (be 4 x.toNat) := by
  obtain ⟨m, rfl, hm⟩ := h.nat
  unfold ref01_Put32
  rw [wU64_eq, show (m : Int) % 18446744073709551616 = (m : Int) by omega, ref_put4 n m (by omega)]
  rfl
theorem num_Put32_eq {n : Nat} {x : Int} (h : isN x 4294967296) : num_Put32 (n + 9) x = some (be 4 x.toNat) := by
  obtain ⟨m, rfl, hm⟩ := h.nat
  unfold num_Put32
  rw [wU64_eq, show (m : Int) % 18446744073709551616 = (m : Int) by omega, num_put4 n m]
  rfl
theorem ref_Put64 {n : Nat} {x : Int} (h : isN x 18446744073709551616) : ref01_Put64 (n + 9) x = some (be 8 x.toNat) := by
  obtain ⟨m, rfl, hm⟩ := h.nat
  unfold ref01_Put64
  rw [ref_put8 n m hm]
  rfl
theorem num_Put64_eq {n : Nat} {x : Int} (h : isN x 18446744073709551616) : num_Put64 (n + 9) x = some (be 8 x.toNat) := by
  obtain ⟨m, rfl, hm⟩ := h.nat
  unfold num_Put64
  rw [num_put8 n m]
  rfl

/-! ### sums -/
theorem bt_lt (l : Str) (i : Int) : isN (bt l i) 256 := by
  unfold bt isN
  have := (l.getD i.toNat 0).toNat_lt
  omega
theorem sum_step {v b : Int} (hv : isN v 4294967296) (hb : isN b 256) : wU32 ((xorU32 v (wU32 b)) * 16777619) = (wU64 ((xorU64 v (wU64 b)) * 16777619)).tmod 4294967296 ∧ isN (wU32 ((xorU32 v (wU32 b)) * 16777619)) 4294967296 := by
  obtain ⟨m, rfl, hm⟩ := hv.nat
  obtain ⟨c, rfl, hc⟩ := hb.nat
  have e1 : wU32 (c : Int) = ((c : Nat) : Int) := by rw [wU32_eq]; omega
  have e2 : wU64 (c : Int) = ((c : Nat) : Int) := by rw [wU64_eq]; omega
  rw [e1, e2, xorU32_nat (by omega) (by omega), xorU64_nat (by omega) (by omega), wU32_eq, wU64_eq]
  have hx : m ^^^ c < 2 ^ 32 := Nat.xor_lt_two_pow (by omega) (by omega)
  unfold isN
  rw [Int.tmod_eq_emod_of_nonneg (by omega)]
  omega
theorem Sum_eq (s : Str) : ∀ (n : Nat) (v i : Int), isN v 4294967296 → check_Sum_L1 n s v i = ref02_Sum_L1 n s v i
  | 0, _, _, _ => rfl
  | n + 1, v, i, hv => by
    unfold check_Sum_L1 ref02_Sum_L1
    obtain ⟨h1, h2⟩ := sum_step hv (bt_lt s i)
    rw [← h1, Sum_eq s n _ _ h2]
    have : wU32 v = v := by
      obtain ⟨m, rfl, hm⟩ := hv.nat
      rw [wU32_eq]
      omega
    rw [this]
theorem Sum_some (s : Str) : ∀ (n : Nat) (v : Int) (i : Nat), isN v 4294967296 → i ≤ s.length → s.length - i < n → s.length < 1000000 → ∃ r, check_Sum_L1 n s v i = some r ∧ isN r 4294967296
  | 0, _, _, _, _, h, _ => by omega
  | n + 1, v, i, hv, hi, hn, hl => by
    unfold check_Sum_L1
    by_cases h : i < s.length
    · rw [show decide ((i : Int) < (s.length : Int)) = true from decide_eq_true (by omega), cond_true, chk_inR (by omega) (by omega), show wI64 ((i : Int) + 1) = ((i + 1 : Nat) : Int) from wI64_eq (by omega) (by omega)]
      exact Sum_some s n _ (i + 1) (sum_step hv (bt_lt s i)).2 (by omega) (by omega) hl
    · rw [show decide ((i : Int) < (s.length : Int)) = false from decide_eq_false (by omega), cond_false]
      exact ⟨v, rfl, hv⟩
theorem csum (n : Nat) (s : Str) (hn : s.length < n) (hl : s.length < 1000000) : ∃ r, check_Sum n s = some r ∧ ref02_Sum n s = some r ∧ isN r 4294967296 := by
  obtain ⟨r, h1, h2⟩ := Sum_some s n 2166136261 0 (by unfold isN; omega) (by omega) (by omega) hl
  refine ⟨r, h1, ?_, h2⟩
  unfold ref02_Sum
  rw [← Sum_eq s n _ _ (by unfold isN; omega)]
  exact h1
/-- A sealed text. -/
theorem seal_eq (n : Nat) (s : Str) (hl : s.length < 1000000) (hn : s.length < n + 9) : ∃ t, check_Seal (n + 9) s = some t ∧ ref02_Seal (n + 9) s = some t ∧ t.length = s.length + 4 := by
  obtain ⟨r, h1, h2, h3⟩ := csum (n + 9) s hn hl
  refine ⟨s ++ be 4 r.toNat, ?_, ?_, by simp [be_length]⟩
  · unfold check_Seal
    rw [h1, bnd_some, num_Put32_eq h3, bnd_some, chk_cat (by rw [be_length]; omega)]
  · unfold ref02_Seal
    rw [h2, bnd_some, ref_Put32 h3, bnd_some, chk_cat (by rw [be_length]; omega)]

/-! ### superblocks -/
theorem flags_eq (n : Nat) (a b c : Bool) : num_Flags (n + 9) [a, b, c] = ref01_Flags (n + 9) [a, b, c] := by
  cases a <;> cases b <;> cases c <;> kernel_rfl
theorem flags_some (n : Nat) (a b c : Bool) : ∃ f, ref01_Flags (n + 9) [a, b, c] = some f := by
  cases a <;> cases b <;> cases c <;> exact ⟨_, rfl⟩
def vecN (v : Vector) : Prop := isN v.current 18446744073709551616 ∧ isN v.bitmap 18446744073709551616 ∧ isN v.old.a0 18446744073709551616 ∧ isN v.old.a1 18446744073709551616
def i64N (x : Int) : Prop := -9223372036854775808 ≤ x ∧ x ≤ 9223372036854775807
theorem there_eq {b : Int} (h : i64N b) : mask_there (wI64 (b - 1)) = decide (1 ≤ b ∧ b ≤ 32) := by
  unfold i64N at h
  have hw := wI64_eq' (b - 1)
  unfold mask_there
  by_cases h0 : -9223372036854775807 ≤ b
  · have hw : wI64 (b - 1) = b - 1 := wI64_eq (by omega) (by omega)
    rw [hw]
    by_cases h1 : 1 ≤ b
    · rw [show decide (b - 1 ≥ (0 : Int)) = true from decide_eq_true (by omega), cond_true]
      exact decide_eq_decide.2 (by omega)
    · rw [show decide (b - 1 ≥ (0 : Int)) = false from decide_eq_false (by omega), cond_false]
      exact (decide_eq_false (by omega)).symm
  · have : wI64 (b - 1) = 9223372036854775807 := by omega
    rw [this]
    rw [show decide (1 ≤ b ∧ b ≤ 32) = false from decide_eq_false (by omega)]
    rfl
theorem all_eq {b : Nat} (h1 : 1 ≤ b) (h2 : b ≤ 32) : mask_All (b : Int) = some ((2 ^ b - 1 : Nat) : Int) := by
  unfold mask_All
  rw [let_eq, there_eq ⟨by omega, by omega⟩, show decide (1 ≤ (b : Int) ∧ (b : Int) ≤ 32) = true from decide_eq_true (by omega), Bool.not_true, cond_false, chk_dec (by omega)]
  have := shlU32_nat (x := 1) (i := b) h2
  rw [show ((1 : Nat) : Int) = 1 from rfl] at this
  rw [this, wU32_eq, Nat.one_mul]
  congr 1
  have h3 : 2 ^ b ≤ 2 ^ 32 := Nat.pow_le_pow_right (by decide) h2
  have h4 : 0 < 2 ^ b := Nat.pow_pos (by decide)
  by_cases h : b = 32
  · subst h
    decide
  · have h5 : 2 ^ b ≤ 2 ^ 31 := Nat.pow_le_pow_right (by decide) (by omega)
    omega
theorem right_eq (s : Super) (hb : i64N s.blocks) : super_Right s = some (ref06_Right s) := by
  unfold super_Right ref06_Right
  by_cases h : 1 ≤ s.blocks ∧ s.blocks ≤ 32
  · obtain ⟨b, hbb⟩ : ∃ b : Nat, s.blocks = (b : Int) := ⟨s.blocks.toNat, by omega⟩
    rw [hbb] at h ⊢
    rw [all_eq (by omega) (by omega), bnd_some]
    have h4 : 2 ^ 1 ≤ 2 ^ b := Nat.pow_le_pow_right (by decide) (by omega)
    rw [show ((((2 ^ b - 1 : Nat) : Int)) != 0) = true from bne_iff_ne.2 (by omega), cond_true, show decide ((b : Int) ≥ 1) = true from decide_eq_true (by omega), cond_true, show decide ((b : Int) ≤ 32) = true from decide_eq_true (by omega), cond_true]
    rfl
  · have : mask_All s.blocks = some 0 := by
      unfold mask_All
      rw [let_eq, there_eq hb, show decide (1 ≤ s.blocks ∧ s.blocks ≤ 32) = false from decide_eq_false h, Bool.not_false, cond_true]
    rw [this, bnd_some]
    show some false = some _
    by_cases h1 : 1 ≤ s.blocks
    · rw [show decide (s.blocks ≥ 1) = true from decide_eq_true (by omega), cond_true, show decide (s.blocks ≤ 32) = false from decide_eq_false (by omega), cond_false]
    · rw [show decide (s.blocks ≥ 1) = false from decide_eq_false (by omega), cond_false]
def supN (s : Super) : Prop := i64N s.blocks ∧ vecN s.vector
theorem encode_eq (n : Nat) (s : Super) (h : supN s) (hn : 60 ≤ n) : ∃ r, super_Encode n s = some r ∧ ref06_Encode n s = some r ∧ (r.2 = 0 → ref06_Right s = true) ∧ (r.2 = 0 ∨ r.2 = 1) ∧ (r.2 = 0 → r.1.length = 41) := by
  obtain ⟨n, rfl⟩ : ∃ m, n = m + 9 := ⟨n - 9, by omega⟩
  obtain ⟨hb, h1, h2, h3, h4⟩ := h
  unfold super_Encode ref06_Encode
  rw [right_eq s hb, bnd_some, let_eq]
  cases hr : ref06_Right s with
  | false => exact ⟨([], 1), rfl, rfl, by simp, .inr rfl, by simp⟩
  | true =>
    obtain ⟨f, hf⟩ := flags_some n s.inc s.pri s.dis
    rw [Bool.not_true, cond_false, cond_false, flags_eq, hf, bnd_some]
    unfold ref06_bytes super_generations
    simp only [let_eq, hf, bnd_some, num_Put64_eq h1, num_Put64_eq h2, num_Put64_eq h3, num_Put64_eq h4, ref_Put64 h1, ref_Put64 h2, ref_Put64 h3, ref_Put64 h4]
    rw [chk_cat (by simp), chk_cat (by simp [be_length]), chk_cat (by simp [be_length]), chk_cat (by simp [be_length]), chk_cat (by simp [be_length]), chk_cat (by simp), chk_cat (by simp [be_length]), chk_cat (by simp [be_length]), chk_cat (by simp [be_length]), chk_cat (by simp [be_length]), bnd_some]
    generalize hl : ([71, 77, 1] ++ [by8 (wU8 s.blocks), by8 f] ++ be 8 s.vector.current.toNat ++ be 8 s.vector.bitmap.toNat ++ be 8 s.vector.old.a0.toNat ++ be 8 s.vector.old.a1.toNat : Str) = l
    have hll : l.length = 37 := by rw [← hl]; simp [be_length]
    obtain ⟨t, g1, g2, g3⟩ := seal_eq n l (by omega) (by omega)
    refine ⟨(t, 0), ?_, ?_, fun _ => trivial, .inl rfl, fun _ => by show t.length = 41; omega⟩
    · rw [g1, bnd_some]
    · rw [g2, bnd_some]
end Go.Am
