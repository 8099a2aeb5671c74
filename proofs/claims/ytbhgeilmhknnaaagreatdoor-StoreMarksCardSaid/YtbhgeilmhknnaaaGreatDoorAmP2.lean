/- The plain law, part 2: masks: program and reference answer alike. -/
import Derived.Test.YtbhgeilmhknnaaaGreatDoorAmP1
namespace Go.Am
open Go.Proofs
set_option maxRecDepth 100000
/-! ### powers -/
theorem pow_L (b : Nat) (hb : b ≤ 32) : ∀ (n i : Nat), i ≤ b → b - i < n → ref03_pow_L1 n (b : Int) ((2 ^ i % 4294967296 : Nat) : Int) (i : Int) = some ((2 ^ b % 4294967296 : Nat) : Int)
  | 0, i, _, h => by omega
  | n + 1, i, hi, hn => by
    unfold ref03_pow_L1
    by_cases h : i < b
    · rw [show decide ((i : Int) < (b : Int)) = true from decide_eq_true (by omega), cond_true, show wI64 ((i : Int) + 1) = ((i + 1 : Nat) : Int) from wI64_eq (by omega) (by omega), wU32_eq]
      have e : (2 * ((2 ^ i % 4294967296 : Nat) : Int)) % 4294967296 = ((2 ^ (i + 1) % 4294967296 : Nat) : Int) := by
        rw [Nat.pow_succ]
        omega
      rw [e]
      exact pow_L b hb n (i + 1) (by omega) (by omega)
    · have : i = b := by omega
      subst this
      rw [show decide ((i : Int) < (i : Int)) = false from decide_eq_false (by omega), cond_false]
theorem two_lt {i : Nat} (h : i < 32) : 2 ^ i < 4294967296 ∧ 0 < 2 ^ i := ⟨Nat.pow_lt_pow_right (by decide) h, Nat.pow_pos (by decide)⟩
theorem pow_eq {n i : Nat} (hi : i < 32) (hn : 40 ≤ n) : ref03_pow n (i : Int) = some ((2 ^ i : Nat) : Int) := by
  have := pow_L i (by omega) n 0 (by omega) (by omega)
  have h2 := two_lt hi
  rw [Nat.mod_eq_of_lt h2.1] at this
  exact this
theorem has_eq {n i m : Nat} (hm : m < 4294967296) (hn : 40 ≤ n) (hi : i < 32) : ref03_Has n (m : Int) (i : Int) = some (m.testBit i) := by
  unfold ref03_Has
  rw [show decide ((i : Int) ≥ 0) = true from decide_eq_true (by omega), cond_true, show decide ((i : Int) < 32) = true from decide_eq_true (by omega), cond_true, pow_eq hi hn, bnd_some]
  have h2 := two_lt hi
  rw [chk_t (show (!(((2 ^ i : Nat) : Int) == 0)) = true by rw [Bool.not_eq_true', beq_eq_false_iff_ne]; omega)]
  congr 1
  rw [Int.tdiv_eq_ediv_of_nonneg (by omega), wU32_eq, Nat.testBit_eq_decide_div_mod_eq]
  have : (m : Int) / ((2 ^ i : Nat) : Int) = ((m / 2 ^ i : Nat) : Int) := rfl
  rw [this]
  have h3 : m / 2 ^ i ≤ m := Nat.div_le_self _ _
  rw [Int.tmod_eq_emod_of_nonneg (by omega)]
  show decide _ = decide _
  exact decide_eq_decide.2 (by omega)
theorem has_any {n m : Nat} {i : Int} (hm : m < 4294967296) (hn : 40 ≤ n) : ref03_Has n (m : Int) i = some (decide (0 ≤ i ∧ i < 32) && m.testBit i.toNat) := by
  by_cases h : 0 ≤ i ∧ i < 32
  · obtain ⟨j, rfl⟩ : ∃ j : Nat, i = (j : Int) := ⟨i.toNat, by omega⟩
    rw [has_eq hm hn (by omega), show decide (0 ≤ (j : Int) ∧ (j : Int) < 32) = true from decide_eq_true h]
    rfl
  · rw [show decide (0 ≤ i ∧ i < 32) = false from decide_eq_false h]
    unfold ref03_Has
    by_cases h0 : 0 ≤ i
    · rw [show decide (i ≥ 0) = true from decide_eq_true (by omega), cond_true, show decide (i < 32) = false from decide_eq_false (by omega)]
      rfl
    · rw [show decide (i ≥ 0) = false from decide_eq_false (by omega)]
      rfl

/-! ### right -/
theorem lt_bit {m i : Nat} : m < 2 ^ i ↔ m < 2 ^ (i + 1) ∧ m.testBit i = false := by
  constructor
  · intro h
    exact ⟨Nat.lt_of_lt_of_le h (Nat.pow_le_pow_right (by decide) (by omega)), Nat.testBit_lt_two_pow h⟩
  · rintro ⟨h1, h2⟩
    refine Nat.lt_pow_two_of_testBit m fun j hj => ?_
    rcases Nat.lt_or_ge i j with h | h
    · exact Nat.testBit_lt_two_pow (Nat.lt_of_lt_of_le h1 (Nat.pow_le_pow_right (by decide) h))
    · have : j = i := by omega
      subst this
      exact h2
theorem right_L {m : Nat} (hm : m < 4294967296) (bl : Int) : ∀ (n v : Nat), v ≤ 32 → 32 - v + 40 < n → ref03_Right_L1 n (m : Int) bl (v : Int) = some (decide (m < 2 ^ v))
  | 0, v, _, h => by omega
  | n + 1, v, hv, hn => by
    unfold ref03_Right_L1
    by_cases h : v < 32
    · rw [show decide ((v : Int) < 32) = true from decide_eq_true (by omega), cond_true, has_eq hm (by omega) h, bnd_some, show wI64 ((v : Int) + 1) = ((v + 1 : Nat) : Int) from wI64_eq (by omega) (by omega)]
      cases hb : m.testBit v with
      | true =>
        rw [cond_true]
        congr 1
        refine (decide_eq_false fun h1 => ?_).symm
        rw [Nat.testBit_lt_two_pow h1] at hb
        cases hb
      | false =>
        rw [cond_false, right_L hm bl n (v + 1) (by omega) (by omega)]
        congr 1
        refine decide_eq_decide.2 ?_
        rw [lt_bit (i := v)]
        exact ⟨fun h => ⟨h, hb⟩, fun h => h.1⟩
    · have : v = 32 := by omega
      subst this
      rw [show decide (((32 : Nat) : Int) < 32) = false from decide_eq_false (by omega), cond_false]
      congr 1
      exact (decide_eq_true hm).symm
theorem anot_zero {m b : Nat} : anot m (2 ^ b - 1) = 0 ↔ m < 2 ^ b := by
  constructor
  · intro h
    refine Nat.lt_pow_two_of_testBit m fun j hj => ?_
    have h1 := anot_bit m (2 ^ b - 1) j
    rw [h, Nat.zero_testBit, Nat.testBit_two_pow_sub_one, decide_eq_false (by omega)] at h1
    simpa using h1.symm
  · intro h
    apply Nat.eq_of_testBit_eq
    intro j
    rw [anot_bit, Nat.zero_testBit, Nat.testBit_two_pow_sub_one]
    by_cases hj : j < b
    · simp [hj]
    · have : m.testBit j = false := Nat.testBit_lt_two_pow (Nat.lt_of_lt_of_le h (Nat.pow_le_pow_right (by decide) (by omega)))
      simp [this]
theorem mright_eq {m b : Nat} (hm : m < 4294967296) (h1 : 1 ≤ b) (h2 : b ≤ 32) : mask_Right (m : Int) (b : Int) = some (decide (m < 2 ^ b)) := by
  unfold mask_Right
  rw [let_eq, there_eq ⟨by omega, by omega⟩, show decide (1 ≤ (b : Int) ∧ (b : Int) ≤ 32) = true from decide_eq_true (by omega), cond_true, all_eq h1 h2, bnd_some]
  have h3 : 2 ^ b ≤ 2 ^ 32 := Nat.pow_le_pow_right (by decide) h2
  rw [andnotU32_nat hm (by omega)]
  congr 1
  show decide _ = decide _
  refine decide_eq_decide.2 ?_
  rw [← anot_zero]
  omega
theorem rright_eq {n m b : Nat} (hm : m < 4294967296) (h1 : 1 ≤ b) (h2 : b ≤ 32) (hn : 80 ≤ n) : ref03_Right n (m : Int) (b : Int) = some (decide (m < 2 ^ b)) := by
  unfold ref03_Right
  rw [show decide ((b : Int) < 1) = false from decide_eq_false (by omega), cond_false, show decide ((b : Int) > 32) = false from decide_eq_false (by omega), cond_false]
  exact right_L hm _ n b h2 (by omega)

/-! ### one block -/
theorem or_two {m i : Nat} (hi : i < 32) (hm : m < 4294967296) : m ||| 2 ^ i = if m.testBit i then m else m + 2 ^ i := by
  have key := BitVec.add_eq_or_of_and_eq_zero (BitVec.ofNat 33 m) (BitVec.ofNat 33 (2 ^ i))
  have h2 := two_lt hi
  split
  · rename_i h
    apply Nat.eq_of_testBit_eq
    intro j
    rw [Nat.testBit_or, Nat.testBit_two_pow]
    by_cases hj : i = j
    · subst hj; simp [h]
    · simp [hj]
  · rename_i h
    have hz : BitVec.ofNat 33 m &&& BitVec.ofNat 33 (2 ^ i) = 0#33 := by
      apply BitVec.eq_of_toNat_eq
      rw [BitVec.toNat_and, BitVec.toNat_ofNat, BitVec.toNat_ofNat, Nat.mod_eq_of_lt (by omega), Nat.mod_eq_of_lt (by omega)]
      apply Nat.eq_of_testBit_eq
      intro j
      rw [Nat.testBit_and, Nat.testBit_two_pow]
      by_cases hj : i = j
      · subst hj; simp [h]
      · simp [hj]
    have := congrArg BitVec.toNat (key hz)
    rw [BitVec.toNat_add, BitVec.toNat_or, BitVec.toNat_ofNat, BitVec.toNat_ofNat, Nat.mod_eq_of_lt (show m < 2 ^ 33 by omega), Nat.mod_eq_of_lt (show 2 ^ i < 2 ^ 33 by omega), Nat.mod_eq_of_lt (by omega)] at this
    exact this.symm
theorem anot_two {m i : Nat} (hi : i < 32) (hm : m < 4294967296) : anot m (2 ^ i) = if m.testBit i then m - 2 ^ i else m := by
  have hb := or_two hi (show anot m (2 ^ i) < 4294967296 from anot_lt (k := 32) hm)
  have hnb : (anot m (2 ^ i)).testBit i = false := by rw [anot_bit, Nat.testBit_two_pow]; simp
  rw [hnb] at hb
  simp only [Bool.false_eq_true, if_false] at hb
  split
  · rename_i h
    have : anot m (2 ^ i) ||| 2 ^ i = m := by
      apply Nat.eq_of_testBit_eq
      intro j
      rw [Nat.testBit_or, anot_bit, Nat.testBit_two_pow]
      by_cases hj : i = j
      · subst hj; simp [h]
      · simp [hj]
    omega
  · rename_i h
    apply Nat.eq_of_testBit_eq
    intro j
    rw [anot_bit, Nat.testBit_two_pow]
    by_cases hj : i = j
    · subst hj; simp [h]
    · simp [hj]
theorem mof_one {n i : Nat} (hi : i < 32) (hn : 40 ≤ n) : mask_of n [(i : Int)] = some ((2 ^ i : Nat) : Int) := by
  obtain ⟨n, rfl⟩ : ∃ m, n = m + 2 := ⟨n - 2, by omega⟩
  have h2 := two_lt hi
  unfold mask_of mask_of_L1
  have e : gt [(i : Int)] 0 = (i : Int) := rfl
  have et : mask_there (i : Int) = true := by
    unfold mask_there
    rw [show decide ((i : Int) ≥ 0) = true from decide_eq_true (by omega), cond_true]
    exact decide_eq_true (by omega)
  have hs := shlU32_nat (x := 1) (i := i) (by omega)
  rw [Nat.one_mul, Nat.mod_eq_of_lt (show 2 ^ i < 2 ^ 32 by omega), show ((1 : Nat) : Int) = 1 from rfl] at hs
  have ho : orU32 0 ((2 ^ i : Nat) : Int) = ((2 ^ i : Nat) : Int) := by
    have := orU32_nat (x := 0) (y := 2 ^ i) (by decide) (by omega)
    rw [Nat.zero_or] at this
    exact this
  rw [show decide ((0 : Int) < (([(i : Int)] : List Int).length : Int)) = true from rfl, cond_true, chk_t (show inR 0 (([(i : Int)] : List Int).length) = true from rfl), e, let_eq, et, cond_true, chk_dec (by omega), hs, ho]
  rfl
theorem mset_eq {n m i : Nat} (hi : i < 32) (hm : m < 4294967296) (hn : 40 ≤ n) : mask_Set n (m : Int) [(i : Int)] = some ((m ||| 2 ^ i : Nat) : Int) := by
  have h2 := two_lt hi
  unfold mask_Set
  rw [mof_one hi hn, bnd_some, orU32_nat hm (by omega)]
theorem mclear_eq {n m i : Nat} (hi : i < 32) (hm : m < 4294967296) (hn : 40 ≤ n) : mask_Clear n (m : Int) [(i : Int)] = some ((anot m (2 ^ i) : Nat) : Int) := by
  have h2 := two_lt hi
  unfold mask_Clear
  rw [mof_one hi hn, bnd_some, andnotU32_nat hm (by omega)]
theorem munion_eq {n a b : Nat} (ha : a < 4294967296) (hb : b < 4294967296) (hn : 40 ≤ n) : mask_Union n [(a : Int), (b : Int)] = some ((a ||| b : Nat) : Int) := by
  obtain ⟨n, rfl⟩ : ∃ m, n = m + 3 := ⟨n - 3, by omega⟩
  unfold mask_Union
  have e0 := orU32_nat (x := 0) (y := a) (by decide) (by omega)
  rw [Nat.zero_or] at e0
  have e1 := orU32_nat (x := a) (y := b) (by omega) (by omega)
  show mask_Union_L1 (n + 1) [(a : Int), (b : Int)] (orU32 (orU32 ((0 : Nat) : Int) (a : Int)) (b : Int)) 2 = _
  rw [e0, e1]
  rfl
/-- The reference's Set, over any list of blocks. -/
theorem rset_L (m0 : Int) (l : List Int) (hl : l.length < 1000000) : ∀ (n i m : Nat), i ≤ l.length → l.length - i + 80 < n → m < 4294967296 →
    ref03_Set_L1 n m0 l (m : Int) (i : Int) = some (((l.drop i).foldl (fun a x => bif decide (0 ≤ x ∧ x < 32) then a ||| 2 ^ x.toNat else a) m : Nat) : Int)
  | 0, i, m, _, h, _ => by omega
  | n + 1, i, m, hi, hn, hm => by
    unfold ref03_Set_L1
    by_cases h : i < l.length
    · have hd : l.drop i = (gt l (i : Int)) :: l.drop (i + 1) := by
        rw [List.drop_eq_getElem_cons h]
        congr 1
        unfold gt
        rw [show ((i : Int)).toNat = i by omega, List.getD_eq_getElem?_getD, List.getElem?_eq_getElem h]
        rfl
      rw [show decide ((i : Int) < (l.length : Int)) = true from decide_eq_true (by omega), cond_true, chk_inR (by omega) (by omega), show wI64 ((i : Int) + 1) = ((i + 1 : Nat) : Int) from wI64_eq (by omega) (by omega), hd, List.foldl_cons]
      generalize gt l (i : Int) = x
      by_cases hx : 0 ≤ x ∧ x < 32
      · obtain ⟨j, rfl⟩ : ∃ j : Nat, x = (j : Int) := ⟨x.toNat, by omega⟩
        have hj : j < 32 := by omega
        have h2 := two_lt hj
        rw [show decide ((j : Int) ≥ 0) = true from decide_eq_true (by omega), cond_true, show decide ((j : Int) < 32) = true from decide_eq_true (by omega), cond_true, has_eq hm (by omega) hj, bnd_some,
          show decide (0 ≤ (j : Int) ∧ (j : Int) < 32) = true from decide_eq_true hx, cond_true, show ((j : Int)).toNat = j by omega]
        have ho := or_two hj hm
        have hlt : m ||| 2 ^ j < 4294967296 := Nat.or_lt_two_pow (n := 32) hm (by omega)
        cases hb : m.testBit j with
        | true =>
          rw [hb] at ho
          simp only [if_true] at ho
          rw [Bool.not_true, cond_false, ho]
          exact rset_L m0 l hl n (i + 1) m (by omega) (by omega) hm
        | false =>
          rw [hb] at ho
          simp only [Bool.false_eq_true, if_false] at ho
          rw [Bool.not_false, cond_true, pow_eq hj (by omega), bnd_some, ho]
          have : wU32 ((m : Int) + ((2 ^ j : Nat) : Int)) = ((m + 2 ^ j : Nat) : Int) := by rw [wU32_eq]; omega
          rw [this]
          exact rset_L m0 l hl n (i + 1) (m + 2 ^ j) (by omega) (by omega) (by omega)
      · rw [show decide (0 ≤ x ∧ x < 32) = false from decide_eq_false hx, cond_false]
        by_cases h0 : x ≥ 0
        · rw [show decide (x ≥ 0) = true from decide_eq_true h0, cond_true, show decide (x < 32) = false from decide_eq_false (by omega), cond_false]
          exact rset_L m0 l hl n (i + 1) m (by omega) (by omega) hm
        · rw [show decide (x ≥ 0) = false from decide_eq_false h0, cond_false]
          exact rset_L m0 l hl n (i + 1) m (by omega) (by omega) hm
    · rw [show decide ((i : Int) < (l.length : Int)) = false from decide_eq_false (by omega), cond_false, List.drop_of_length_le (by omega)]
      rfl
theorem rset_eq {n m i : Nat} (hi : i < 32) (hm : m < 4294967296) (hn : 100 ≤ n) : ref03_Set n (m : Int) [(i : Int)] = some ((m ||| 2 ^ i : Nat) : Int) := by
  have := rset_L (m : Int) [(i : Int)] (by simp) n 0 m (by simp) (by simp; omega) hm
  rw [show ((0 : Nat) : Int) = 0 from rfl] at this
  unfold ref03_Set
  rw [this]
  congr 2
  show (bif decide (0 ≤ (i : Int) ∧ (i : Int) < 32) then m ||| 2 ^ ((i : Int)).toNat else m) = _
  rw [show decide (0 ≤ (i : Int) ∧ (i : Int) < 32) = true from decide_eq_true (by omega), cond_true, show ((i : Int)).toNat = i by omega]
theorem rclear_eq {n m i : Nat} (hi : i < 32) (hm : m < 4294967296) (hn : 100 ≤ n) : ref03_Clear n (m : Int) [(i : Int)] = some ((anot m (2 ^ i) : Nat) : Int) := by
  obtain ⟨n, rfl⟩ : ∃ k, n = k + 2 := ⟨n - 2, by omega⟩
  have h2 := two_lt hi
  have ho := anot_two hi hm
  unfold ref03_Clear ref03_Clear_L1
  rw [show decide ((0 : Int) < (([(i : Int)] : List Int).length : Int)) = true from rfl, cond_true, chk_t (show inR 0 (([(i : Int)] : List Int).length) = true from rfl), show gt [(i : Int)] 0 = (i : Int) from rfl, has_eq hm (by omega) hi, bnd_some]
  cases hb : m.testBit i with
  | true =>
    rw [hb] at ho
    simp only [if_true] at ho
    rw [cond_true, pow_eq hi (by omega), bnd_some]
    have hle : 2 ^ i ≤ m := by
      rcases Nat.lt_or_ge m (2 ^ i) with h | h
      · rw [Nat.testBit_lt_two_pow h] at hb; cases hb
      · exact h
    have : wU32 ((m : Int) - ((2 ^ i : Nat) : Int)) = ((m - 2 ^ i : Nat) : Int) := by rw [wU32_eq]; omega
    rw [this, ho]
    rfl
  | false =>
    rw [hb] at ho
    simp only [Bool.false_eq_true, if_false] at ho
    rw [cond_false, ho]
    rfl
/-! ### all bits, listed -/
def bitsL (m : Nat) : Nat → List Int
  | 0 => []
  | k + 1 => bitsL m k ++ (bif m.testBit k then [(k : Int)] else [])
theorem list_L {m : Nat} (hm : m < 4294967296) : ∀ (n v : Nat), v ≤ 32 → 32 - v + 40 < n → ref03_List_L1 n (m : Int) (bitsL m v) (v : Int) = some (bitsL m 32)
  | 0, v, _, h => by omega
  | n + 1, v, hv, hn => by
    unfold ref03_List_L1
    by_cases h : v < 32
    · have hlen : ∀ k, (bitsL m k).length ≤ k := by
        intro k
        induction k with
        | zero => exact Nat.le_refl _
        | succ k ih =>
          unfold bitsL
          cases m.testBit k <;> simp <;> omega
      have := hlen v
      rw [show decide ((v : Int) < 32) = true from decide_eq_true (by omega), cond_true, has_eq hm (by omega) h, bnd_some, show wI64 ((v : Int) + 1) = ((v + 1 : Nat) : Int) from wI64_eq (by omega) (by omega)]
      have ih := list_L hm n (v + 1) (by omega) (by omega)
      unfold bitsL at ih
      cases hb : m.testBit v with
      | true =>
        rw [hb, cond_true] at ih
        rw [cond_true, chk_app (by omega)]
        exact ih
      | false =>
        rw [hb, cond_false, List.append_nil] at ih
        rw [cond_false]
        exact ih
    · have : v = 32 := by omega
      subst this
      rfl
theorem fold_bits (m a : Nat) (hm : m < 4294967296) : (bitsL m 32).foldl (fun a x => bif decide (0 ≤ x ∧ x < 32) then a ||| 2 ^ x.toNat else a) a = a ||| m := by
  have key : ∀ k, k ≤ 32 → (bitsL m k).foldl (fun a x => bif decide (0 ≤ x ∧ x < 32) then a ||| 2 ^ x.toNat else a) a = a ||| (m % 2 ^ k) := by
    intro k hk
    induction k with
    | zero => simp [bitsL, Nat.mod_one]
    | succ k ih =>
      unfold bitsL
      rw [List.foldl_append, ih (by omega)]
      apply Nat.eq_of_testBit_eq
      intro j
      cases hb : m.testBit k with
      | true =>
        rw [cond_true, List.foldl_cons, List.foldl_nil, show decide (0 ≤ (k : Int) ∧ (k : Int) < 32) = true from decide_eq_true (by omega), cond_true, show ((k : Int)).toNat = k by omega]
        simp only [Nat.testBit_or, Nat.testBit_mod_two_pow, Nat.testBit_two_pow]
        by_cases hj : k = j
        · subst hj; simp [hb]
        · by_cases h1 : j < k
          · simp [h1, show j < k + 1 by omega, hj]
          · simp [h1, show ¬ j < k + 1 by omega, hj]
      | false =>
        rw [cond_false, List.foldl_nil]
        simp only [Nat.testBit_or, Nat.testBit_mod_two_pow]
        by_cases hj : k = j
        · subst hj; simp [hb]
        · by_cases h1 : j < k
          · simp [h1, show j < k + 1 by omega]
          · simp [h1, show ¬ j < k + 1 by omega]
  rw [key 32 (Nat.le_refl _), Nat.mod_eq_of_lt hm]
theorem bitsL_len (m : Nat) : ∀ k, (bitsL m k).length ≤ k
  | 0 => Nat.le_refl _
  | k + 1 => by
    have := bitsL_len m k
    unfold bitsL
    cases m.testBit k <;> simp <;> omega
theorem runion_eq {n a b : Nat} (ha : a < 4294967296) (hb : b < 4294967296) (hn : 200 ≤ n) : ref03_Union n [(a : Int), (b : Int)] = some ((a ||| b : Nat) : Int) := by
  obtain ⟨n, rfl⟩ : ∃ k, n = k + 3 := ⟨n - 3, by omega⟩
  have step : ∀ (k x y : Nat), x < 4294967296 → y < 4294967296 → 150 ≤ k → (Bnd (ref03_List k (y : Int)) fun x17 => ref03_Set k (x : Int) x17) = some ((x ||| y : Nat) : Int) := by
    intro k x y hx hy hk
    have h1 : ref03_List k (y : Int) = some (bitsL y 32) := list_L hy k 0 (by decide) (by omega)
    have hl := bitsL_len y 32
    rw [h1, bnd_some]
    have := rset_L (x : Int) (bitsL y 32) (by omega) k 0 x (by omega) (by omega) hx
    rw [List.drop_zero, fold_bits y x hy] at this
    exact this
  have hor : a ||| b < 4294967296 := Nat.or_lt_two_pow (n := 32) ha hb
  unfold ref03_Union ref03_Union_L1
  have s1 := step (n + 2) 0 a (by decide) ha (by omega)
  have s2 := step (n + 1) a b ha hb (by omega)
  rw [Nat.zero_or] at s1
  rw [show decide ((0 : Int) < (([(a : Int), (b : Int)] : List Int).length : Int)) = true from rfl, cond_true, chk_t (show inR 0 (([(a : Int), (b : Int)] : List Int).length) = true from rfl), show gt [(a : Int), (b : Int)] 0 = (a : Int) from rfl]
  cases h1 : ref03_List (n + 2) (a : Int) with
  | none => rw [h1] at s1; cases s1
  | some l1 =>
    rw [h1, bnd_some] at s1
    rw [bnd_some, show (0 : Int) = ((0 : Nat) : Int) from rfl, s1, bnd_some]
    unfold ref03_Union_L1
    rw [show decide (wI64 (((0 : Nat) : Int) + 1) < (([(a : Int), (b : Int)] : List Int).length : Int)) = true from rfl, cond_true, chk_t (show inR (wI64 (((0:Nat):Int)+1)) (([(a : Int), (b : Int)] : List Int).length) = true from rfl), show gt [(a : Int), (b : Int)] (wI64 (((0 : Nat) : Int) + 1)) = (b : Int) from rfl]
    cases h2 : ref03_List (n + 1) (b : Int) with
    | none => rw [h2] at s2; cases s2
    | some l2 =>
      rw [h2, bnd_some] at s2
      rw [bnd_some, s2, bnd_some]
      rfl
end Go.Am
