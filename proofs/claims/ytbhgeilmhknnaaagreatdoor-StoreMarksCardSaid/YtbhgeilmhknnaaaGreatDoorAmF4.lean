/- Printed by geng.py: functions of the program as Lean functions, with the proofs that the code comes to them. -/
import Derived.Test.YtbhgeilmhknnaaaGreatDoorAmF3
namespace Go.Am
open Go.Proofs
set_option maxRecDepth 100000

/- num.get -/
def num_get_L1 (n : Nat) (s : Str) (v3 : Int) (v4 : Int) : Option Int :=
  match n with
  | 0 => none
  | n + 1 => (bif (decide (v4 < (s.length : Int))) then (Chk (inR v4 s.length) (num_get_L1 n s (orU64 (shlU64 v3 (8 : Int)) (wU64 (bt s v4))) (wI64 (v4 + (1 : Int))))) else (some v3))
def num_get (n : Nat) (s : Str) : Option Int :=
  (num_get_L1 n s (0 : Int) (0 : Int))
theorem t_num_get {n : Nat} {s : Str} {r : Int} (hg : num_get n s = some r) : VF Pg 216 [(.d (eS s))] (single [(.d (eU64 r))]) := by
  refine fn_ok (fn := Tryz.f216) (by kernel_rfl) rfl (by kernel_rfl) (Nat.le_of_ble_eq_true (by kernel_rfl)) fun B hB => ?_
  refine aw_seq ?_
  refine rg (Z := Zt) 0 0 [] [] [(0, (.d (eS s))), (2, (.d (eU64 (0 : Int))))] [] [] hmx (by kernel_rfl) good_nil ?_
  refine aw_seq ?_
  refine aw_seq ?_
  refine rg (Z := Zt) 0 0 [] [] [(0, (.d (eS s))), (2, (.d (eU64 (0 : Int)))), (5, (.d (eI64 (s.length : Int)))), (6, (.d (eI64 (0 : Int))))] [] [] hmx (by kernel_rfl) good_nil ?_
  refine aw_block ?_
  refine aw_loop (fun μ σ => ∃ (v3 : Int) (v4 : Int), μ ≤ n ∧ num_get_L1 μ s v3 v4 = some r ∧ Wk B σ (st Tryz.f216.ntmps [(0, (.d (eS s))), (2, (.d (eU64 v3))), (5, (.d (eI64 (s.length : Int)))), (6, (.d (eI64 v4)))] [] [])) n ⟨(0 : Int), (0 : Int), Nat.le_refl _, hg, (Wk.refl _)⟩ ?_
  rintro μ σ ⟨v3, v4, hle, hg, hwk⟩
  refine aw_wk hwk ?_
  clear hwk
  cases μ with
  | zero => exact absurd (show none = some r from hg) (by simp)
  | succ n =>
    refine aw_seq ?_
    refine rg (Z := Zt) 0 0 [] [] [(0, (.d (eS s))), (2, (.d (eU64 v3))), (5, (.d (eI64 (s.length : Int)))), (6, (.d (eI64 v4))), (7, (.d (eB (decide (v4 < (s.length : Int))))))] [] [] hmx (by kernel_rfl) good_nil ?_
    refine aw_seq ?_
    rcases Bool.eq_false_or_eq_true (decide (v4 < (s.length : Int))) with h7 | h7
    · have hg := ite_t hg h7
      refine cd_t h7 (by kernel_rfl) ?_
      refine aw_skip ?_
      refine aw_seq ?_
      refine aw_block ?_
      refine aw_seq ?_
      refine rg (Z := Zt) 0 0 [] [] [(0, (.d (eS s))), (2, (.d (eU64 v3))), (3, (.d (eI64 v4))), (5, (.d (eI64 (s.length : Int)))), (6, (.d (eI64 v4)))] [] [] hmx (by kernel_rfl) good_nil ?_
      obtain ⟨h8, hg⟩ := chk_o hg
      refine rg (Z := Zt) 0 0 [(4, .op (.val (.d (eU8 (bt s v4)))))] [.op (xIdx Pg 9 (.d (eS s)) (.d (eI64 v4)))] [(0, (.d (eS s))), (2, (.d (eU64 (orU64 (shlU64 v3 (8 : Int)) (wU64 (bt s v4)))))), (5, (.d (eI64 (s.length : Int)))), (6, (.d (eI64 v4)))] [] [] hmx (by kernel_rfl) (good_op (idx_str (by kernel_rfl) h8) good_nil) ?_
      refine rg (Z := Zt) 0 0 [] [] [(0, (.d (eS s))), (2, (.d (eU64 (orU64 (shlU64 v3 (8 : Int)) (wU64 (bt s v4)))))), (5, (.d (eI64 (s.length : Int)))), (6, (.d (eI64 (wI64 (v4 + (1 : Int))))))] [] [] hmx (by kernel_rfl) good_nil ?_
      exact ⟨n, by omega, (orU64 (shlU64 v3 (8 : Int)) (wU64 (bt s v4))), (wI64 (v4 + (1 : Int))), by omega, hg, (Wk.refl _)⟩
    · have hg := ite_f hg h7
      refine cd_f h7 (by kernel_rfl) ?_
      refine aw_exit ?_
      refine aw_seq ?_
      refine rg (Z := Zt) 0 0 [] [] [(2, (.d (eU64 v3)))] [] [] hmx (by kernel_rfl) good_nil ?_
      refine aw_ret ?_
      have hg := some_o hg
      subst hg
      exact lv_r [true] [] (by kernel_rfl)

/- num.Get32 -/
def num_Get32 (n : Nat) (s : Str) : Option (Int × Bool) :=
  (bif ((s.length : Int) != (4 : Int)) then (some ((0 : Int), false)) else (Bnd (num_get n s) fun x2 => (some ((wU32 x2), true))))
theorem t_num_Get32 {n : Nat} {s : Str} {r : (Int × Bool)} (hg : num_Get32 n s = some r) : VF Pg 148 [(.d (eS s))] (single [(.d (eU32 r.1)), (.d (eB r.2))]) := by
  refine fn_ok (fn := Tryz.f148) (by kernel_rfl) rfl (by kernel_rfl) (Nat.le_of_ble_eq_true (by kernel_rfl)) fun B hB => ?_
  refine aw_seq ?_
  refine rg (Z := Zt) 0 0 [] [] [(0, (.d (eS s)))] [] [] hmx (by kernel_rfl) good_nil ?_
  refine aw_seq ?_
  refine aw_seq ?_
  refine rg (Z := Zt) 0 0 [] [] [(0, (.d (eS s))), (6, (.d (eB ((s.length : Int) != (4 : Int)))))] [] [] hmx (by kernel_rfl) good_nil ?_
  rcases Bool.eq_false_or_eq_true ((s.length : Int) != (4 : Int)) with h1 | h1
  · have hg := ite_t hg h1
    refine cd_t h1 (by kernel_rfl) ?_
    refine aw_seq ?_
    refine rg (Z := Zt) 0 0 [] [] [(2, (.d (eU32 (0 : Int)))), (3, (.d (eB false)))] [] [] hmx (by kernel_rfl) good_nil ?_
    refine aw_ret ?_
    have hg := some_o hg
    subst hg
    exact lv_r [true, true] [] (by kernel_rfl)
  · have hg := ite_f hg h1
    refine cd_f h1 (by kernel_rfl) ?_
    refine aw_skip ?_
    refine aw_seq ?_
    obtain ⟨x2, h3, hg⟩ := bnd_o hg
    refine rg (Z := Zt) 0 0 [(1, .vf (.d (eU64 x2)))] [.vf 216 [(.d (eS s))]] [(2, (.d (eU32 (wU32 x2)))), (3, (.d (eB true)))] [] [] hmx (by kernel_rfl) (good_vf (t_num_get h3) rfl rfl good_nil) ?_
    refine aw_ret ?_
    have hg := some_o hg
    subst hg
    exact lv_r [true, true] [] (by kernel_rfl)

/- check.Open -/
def check_Open (n : Nat) (s : Str) : Option (Str × Int) :=
  (bif (decide ((wI64 ((s.length : Int) - (4 : Int))) < (0 : Int))) then (some (([] : Str), (2 : Int))) else (Chk (hiOK (wI64 ((s.length : Int) - (4 : Int))) s.length) (Bnd (num_Get32 n (s.drop (wI64 ((s.length : Int) - (4 : Int))).toNat)) fun x3 => (Bnd (check_Sum n (s.take (wI64 ((s.length : Int) - (4 : Int))).toNat)) fun x5 => (bif (x3.1 != x5) then (some (([] : Str), (3 : Int))) else (some ((s.take (wI64 ((s.length : Int) - (4 : Int))).toNat), (0 : Int))))))))
theorem t_check_Open {n : Nat} {s : Str} {r : (Str × Int)} (hg : check_Open n s = some r) : VF Pg 147 [(.d (eS s))] (single [(.d (eS r.1)), (.d (eI64 r.2))]) := by
  refine fn_ok (fn := Tryz.f147) (by kernel_rfl) rfl (by kernel_rfl) (Nat.le_of_ble_eq_true (by kernel_rfl)) fun B hB => ?_
  refine aw_seq ?_
  refine rg (Z := Zt) 0 0 [] [] [(0, (.d (eS s)))] [] [] hmx (by kernel_rfl) good_nil ?_
  refine aw_seq ?_
  refine rg (Z := Zt) 0 0 [] [] [(0, (.d (eS s))), (4, (.d (eI64 (wI64 ((s.length : Int) - (4 : Int))))))] [] [] hmx (by kernel_rfl) good_nil ?_
  refine aw_seq ?_
  refine aw_seq ?_
  refine rg (Z := Zt) 0 0 [] [] [(0, (.d (eS s))), (4, (.d (eI64 (wI64 ((s.length : Int) - (4 : Int)))))), (11, (.d (eB (decide ((wI64 ((s.length : Int) - (4 : Int))) < (0 : Int))))))] [] [] hmx (by kernel_rfl) good_nil ?_
  rcases Bool.eq_false_or_eq_true (decide ((wI64 ((s.length : Int) - (4 : Int))) < (0 : Int))) with h1 | h1
  · have hg := ite_t hg h1
    refine cd_t h1 (by kernel_rfl) ?_
    refine aw_seq ?_
    refine rg (Z := Zt) 0 0 [] [] [(2, (.d (eS ([] : Str)))), (3, (.d (eI64 (2 : Int))))] [] [] hmx (by kernel_rfl) good_nil ?_
    refine aw_ret ?_
    have hg := some_o hg
    subst hg
    exact lv_r [true, true] [] (by kernel_rfl)
  · have hg := ite_f hg h1
    refine cd_f h1 (by kernel_rfl) ?_
    refine aw_skip ?_
    refine aw_seq ?_
    refine aw_seq ?_
    obtain ⟨h2, hg⟩ := chk_o hg
    obtain ⟨x3, h4, hg⟩ := bnd_o hg
    refine rg (Z := Zt) 0 0 [(2, .op (.val (.d (eS (s.drop (wI64 ((s.length : Int) - (4 : Int))).toNat))))), (3, .vf (.tup [(.d (eU32 x3.1)), (.d (eB x3.2))]))] [.op (evSlice Pg 9 (.d (eS s)) (some (.d (eI64 (wI64 ((s.length : Int) - (4 : Int)))))) none none []), .vf 148 [(.d (eS (s.drop (wI64 ((s.length : Int) - (4 : Int))).toNat)))]] [(0, (.d (eS s))), (4, (.d (eI64 (wI64 ((s.length : Int) - (4 : Int)))))), (5, (.d (eU32 x3.1)))] [] [] hmx (by kernel_rfl) (good_op (sub_str_lo (by kernel_rfl) h2) (good_vf (t_num_Get32 h4) rfl rfl good_nil)) ?_
    refine aw_seq ?_
    obtain ⟨x5, h6, hg⟩ := bnd_o hg
    refine rg (Z := Zt) 0 0 [(3, .op (.val (.d (eS (s.take (wI64 ((s.length : Int) - (4 : Int))).toNat))))), (4, .vf (.d (eU32 x5)))] [.op (evSlice Pg 9 (.d (eS s)) none (some (.d (eI64 (wI64 ((s.length : Int) - (4 : Int)))))) none []), .vf 210 [(.d (eS (s.take (wI64 ((s.length : Int) - (4 : Int))).toNat)))]] [(0, (.d (eS s))), (4, (.d (eI64 (wI64 ((s.length : Int) - (4 : Int)))))), (24, (.d (eB (x3.1 != x5))))] [] [] hmx (by kernel_rfl) (good_op (sub_str_hi (by kernel_rfl) h2) (good_vf (t_check_Sum h6) rfl rfl good_nil)) ?_
    rcases Bool.eq_false_or_eq_true (x3.1 != x5) with h7 | h7
    · have hg := ite_t hg h7
      refine cd_t h7 (by kernel_rfl) ?_
      refine aw_seq ?_
      refine rg (Z := Zt) 0 0 [] [] [(2, (.d (eS ([] : Str)))), (3, (.d (eI64 (3 : Int))))] [] [] hmx (by kernel_rfl) good_nil ?_
      refine aw_ret ?_
      have hg := some_o hg
      subst hg
      exact lv_r [true, true] [] (by kernel_rfl)
    · have hg := ite_f hg h7
      refine cd_f h7 (by kernel_rfl) ?_
      refine aw_skip ?_
      refine aw_seq ?_
      refine rg (Z := Zt) 0 0 [(2, .op (.val (.d (eS (s.take (wI64 ((s.length : Int) - (4 : Int))).toNat)))))] [.op (evSlice Pg 9 (.d (eS s)) none (some (.d (eI64 (wI64 ((s.length : Int) - (4 : Int)))))) none [])] [(2, (.d (eS (s.take (wI64 ((s.length : Int) - (4 : Int))).toNat)))), (3, (.d (eI64 (0 : Int))))] [] [] hmx (by kernel_rfl) (good_op (sub_str_hi (by kernel_rfl) h2) good_nil) ?_
      refine aw_ret ?_
      have hg := some_o hg
      subst hg
      exact lv_r [true, true] [] (by kernel_rfl)

/- super.open -/
def super_open (n : Nat) (b : Str) : Option Str :=
  (Bnd (check_Open n b) fun x1 => (bif (x1.2 != (0 : Int)) then none else (some x1.1)))
theorem t_super_open {n : Nat} {b : Str} {r : Str} (hg : super_open n b = some r) : VF Pg 266 [(.d (eS b))] (single [(.d (eS r)), (.con .nilIface)]) := by
  refine fn_ok (fn := Tryz.f266) (by kernel_rfl) rfl (by kernel_rfl) (Nat.le_of_ble_eq_true (by kernel_rfl)) fun B hB => ?_
  refine aw_seq ?_
  refine rg (Z := Zt) 0 0 [] [] [(0, (.d (eS b)))] [] [] hmx (by kernel_rfl) good_nil ?_
  refine aw_seq ?_
  obtain ⟨x1, h2, hg⟩ := bnd_o hg
  refine rg (Z := Zt) 0 0 [(1, .vf (.tup [(.d (eS x1.1)), (.d (eI64 x1.2))]))] [.vf 147 [(.d (eS b))]] [(4, (.d (eS x1.1))), (5, (.d (eI64 x1.2)))] [] [] hmx (by kernel_rfl) (good_vf (t_check_Open h2) rfl rfl good_nil) ?_
  refine aw_seq ?_
  refine aw_seq ?_
  refine rg (Z := Zt) 0 0 [] [] [(4, (.d (eS x1.1))), (5, (.d (eI64 x1.2))), (12, (.d (eB (x1.2 != (0 : Int)))))] [] [] hmx (by kernel_rfl) good_nil ?_
  rcases Bool.eq_false_or_eq_true (x1.2 != (0 : Int)) with h3 | h3
  · have hg := ite_t hg h3
    exact absurd hg (by simp)
  · have hg := ite_f hg h3
    refine cd_f h3 (by kernel_rfl) ?_
    refine aw_skip ?_
    refine aw_seq ?_
    refine rg (Z := Zt) 0 0 [] [] [(2, (.d (eS x1.1))), (3, (.con .nilIface))] [] [] hmx (by kernel_rfl) good_nil ?_
    refine aw_ret ?_
    have hg := some_o hg
    subst hg
    exact lv_r [true, false] [] (by kernel_rfl)

/- internal/stringslite.HasPrefix -/
def internal_stringslite_HasPrefix (s : Str) (prefix_ : Str) : Option Bool :=
  (bif (decide ((s.length : Int) ≥ (prefix_.length : Int))) then (Chk (hiOK (prefix_.length : Int) s.length) (some ((s.take (prefix_.length : Int).toNat) == prefix_))) else (some false))
theorem t_internal_stringslite_HasPrefix {s : Str} {prefix_ : Str} {r : Bool} (hg : internal_stringslite_HasPrefix s prefix_ = some r) : VF Pg 363 [(.d (eS s)), (.d (eS prefix_))] (single [(.d (eB r))]) := by
  refine fn_ok (fn := Tryz.f363) (by kernel_rfl) rfl (by kernel_rfl) (Nat.le_of_ble_eq_true (by kernel_rfl)) fun B hB => ?_
  refine aw_seq ?_
  refine rg (Z := Zt) 0 0 [] [] [(0, (.d (eS s))), (1, (.d (eS prefix_)))] [] [] hmx (by kernel_rfl) good_nil ?_
  refine aw_seq ?_
  rcases Bool.eq_false_or_eq_true (decide ((s.length : Int) ≥ (prefix_.length : Int))) with h1 | h1
  · have hg := ite_t hg h1
    obtain ⟨h2, hg⟩ := chk_o hg
    refine rg (Z := Zt) 0 0 [(5, .op (.val (.d (eB true)))), (9, .op (.val (.d (eS (s.take (prefix_.length : Int).toNat)))))] [.op (some (.val (.d (eB (decide ((s.length : Int) ≥ (prefix_.length : Int))))))), .op (evSlice Pg 9 (.d (eS s)) none (some (.d (eI64 (prefix_.length : Int)))) none [])] [(4, (.d (eB ((s.take (prefix_.length : Int).toNat) == prefix_))))] [] [] hmx (by kernel_rfl) (good_op (bo h1) (good_op (sub_str_hi (by kernel_rfl) h2) good_nil)) ?_
    refine aw_ret ?_
    have hg := some_o hg
    subst hg
    exact lv_r [true] [] (by kernel_rfl)
  · have hg := ite_f hg h1
    refine rg (Z := Zt) 0 0 [(5, .op (.val (.d (eB false))))] [.op (some (.val (.d (eB (decide ((s.length : Int) ≥ (prefix_.length : Int)))))))] [(4, (.d (eB false)))] [] [] hmx (by kernel_rfl) (good_op (bo h1) good_nil) ?_
    refine aw_ret ?_
    have hg := some_o hg
    subst hg
    exact lv_r [true] [] (by kernel_rfl)

/- internal/stringslite.CutPrefix -/
def internal_stringslite_CutPrefix (s : Str) (prefix_ : Str) : Option (Str × Bool) :=
  (Bnd (internal_stringslite_HasPrefix s prefix_) fun x1 => (bif (!x1) then (some (s, false)) else (Chk (hiOK (prefix_.length : Int) s.length) (some ((s.drop (prefix_.length : Int).toNat), true)))))
theorem t_internal_stringslite_CutPrefix {s : Str} {prefix_ : Str} {r : (Str × Bool)} (hg : internal_stringslite_CutPrefix s prefix_ = some r) : VF Pg 345 [(.d (eS s)), (.d (eS prefix_))] (single [(.d (eS r.1)), (.d (eB r.2))]) := by
  refine fn_ok (fn := Tryz.f345) (by kernel_rfl) rfl (by kernel_rfl) (Nat.le_of_ble_eq_true (by kernel_rfl)) fun B hB => ?_
  refine aw_seq ?_
  refine rg (Z := Zt) 0 0 [] [] [(0, (.d (eS s))), (1, (.d (eS prefix_)))] [] [] hmx (by kernel_rfl) good_nil ?_
  refine aw_seq ?_
  refine aw_seq ?_
  obtain ⟨x1, h2, hg⟩ := bnd_o hg
  refine rg (Z := Zt) 0 0 [(2, .vf (.d (eB x1)))] [.vf 363 [(.d (eS s)), (.d (eS prefix_))]] [(0, (.d (eS s))), (1, (.d (eS prefix_))), (9, (.d (eB (!x1))))] [] [] hmx (by kernel_rfl) (good_vf (t_internal_stringslite_HasPrefix h2) rfl rfl good_nil) ?_
  rcases Bool.eq_false_or_eq_true (!x1) with h3 | h3
  · have hg := ite_t hg h3
    refine cd_t h3 (by kernel_rfl) ?_
    refine aw_seq ?_
    refine rg (Z := Zt) 0 0 [] [] [(4, (.d (eS s))), (5, (.d (eB false)))] [] [] hmx (by kernel_rfl) good_nil ?_
    refine aw_ret ?_
    have hg := some_o hg
    subst hg
    exact lv_r [true, true] [] (by kernel_rfl)
  · have hg := ite_f hg h3
    refine cd_f h3 (by kernel_rfl) ?_
    refine aw_skip ?_
    refine aw_seq ?_
    obtain ⟨h4, hg⟩ := chk_o hg
    refine rg (Z := Zt) 0 0 [(3, .op (.val (.d (eS (s.drop (prefix_.length : Int).toNat)))))] [.op (evSlice Pg 9 (.d (eS s)) (some (.d (eI64 (prefix_.length : Int)))) none none [])] [(4, (.d (eS (s.drop (prefix_.length : Int).toNat)))), (5, (.d (eB true)))] [] [] hmx (by kernel_rfl) (good_op (sub_str_lo (by kernel_rfl) h4) good_nil) ?_
    refine aw_ret ?_
    have hg := some_o hg
    subst hg
    exact lv_r [true, true] [] (by kernel_rfl)

/- strings.CutPrefix -/
def strings_CutPrefix (s : Str) (prefix_ : Str) : Option (Str × Bool) :=
  (Bnd (internal_stringslite_CutPrefix s prefix_) fun x1 => (some (x1.1, x1.2)))
theorem t_strings_CutPrefix {s : Str} {prefix_ : Str} {r : (Str × Bool)} (hg : strings_CutPrefix s prefix_ = some r) : VF Pg 309 [(.d (eS s)), (.d (eS prefix_))] (single [(.d (eS r.1)), (.d (eB r.2))]) := by
  refine fn_ok (fn := Tryz.f309) (by kernel_rfl) rfl (by kernel_rfl) (Nat.le_of_ble_eq_true (by kernel_rfl)) fun B hB => ?_
  refine aw_seq ?_
  refine rg (Z := Zt) 0 0 [] [] [(0, (.d (eS s))), (1, (.d (eS prefix_)))] [] [] hmx (by kernel_rfl) good_nil ?_
  refine aw_seq ?_
  obtain ⟨x1, h2, hg⟩ := bnd_o hg
  refine rg (Z := Zt) 0 0 [(2, .vf (.tup [(.d (eS x1.1)), (.d (eB x1.2))]))] [.vf 345 [(.d (eS s)), (.d (eS prefix_))]] [(4, (.d (eS x1.1))), (5, (.d (eB x1.2)))] [] [] hmx (by kernel_rfl) (good_vf (t_internal_stringslite_CutPrefix h2) rfl rfl good_nil) ?_
  refine aw_ret ?_
  have hg := some_o hg
  subst hg
  exact lv_r [true, true] [] (by kernel_rfl)

/- num.Unflag -/
def num_Unflag_L1 (n : Nat) (b : Int) (n_ : Int) (v10 : Int) (v11 : (List Bool)) : Option ((List Bool) × Bool) :=
  match n with
  | 0 => none
  | n + 1 => (bif (decide (v10 < (n_.toNat : Int))) then (Chk (decide (0 ≤ v10)) (Chk (inR v10 n_.toNat) (Chk (decide (v10.toNat < v11.length)) (num_Unflag_L1 n b n_ (wI64 (v10 + (1 : Int))) (v11.set v10.toNat ((andU8 (shrU8 b v10) (1 : Int)) == (1 : Int))))))) else (Chk (decide (n_.toNat = v11.length)) (some (v11, true))))
def num_Unflag (n : Nat) (b : Int) (n_ : Int) : Option ((List Bool) × Bool) :=
  (bif (decide (n_ < (0 : Int))) then (some (([] : (List Bool)), false)) else (bif (decide (n_ > (8 : Int))) then (some (([] : (List Bool)), false)) else (Chk (decide (0 ≤ n_)) (bif ((shrU8 b n_) != (0 : Int)) then (some (([] : (List Bool)), false)) else (Chk (mkOK n_ 1) (num_Unflag_L1 n b n_ (0 : Int) (List.replicate n_.toNat false : List Bool)))))))
theorem t_num_Unflag {n : Nat} {b : Int} {n_ : Int} {r : ((List Bool) × Bool)} (hg : num_Unflag n b n_ = some r) : VF Pg 310 [(.d (eU8 b)), (.d (eI64 n_))] (single [(.d ((eL eB) r.1)), (.d (eB r.2))]) := by
  refine fn_ok (fn := Tryz.f310) (by kernel_rfl) rfl (by kernel_rfl) (Nat.le_of_ble_eq_true (by kernel_rfl)) fun B hB => ?_
  refine aw_seq ?_
  refine rg (Z := Zt) 0 0 [] [] [(0, (.d (eU8 b))), (1, (.d (eI64 n_)))] [] [] hmx (by kernel_rfl) good_nil ?_
  refine aw_seq ?_
  refine aw_seq ?_
  rcases Bool.eq_false_or_eq_true (decide (n_ < (0 : Int))) with h1 | h1
  · have hg := ite_t hg h1
    refine rg (Z := Zt) 0 0 [(2, .op (.val (.d (eB true))))] [.op (some (.val (.d (eB (decide (n_ < (0 : Int)))))))] [(0, (.d (eU8 b))), (1, (.d (eI64 n_))), (19, (.d (eB true)))] [] [] hmx (by kernel_rfl) (good_op (bo h1) good_nil) ?_
    refine cd_t rfl (by kernel_rfl) ?_
    refine aw_seq ?_
    refine rg (Z := Zt) 0 0 [] [] [(4, (.full (([] : (List Bool)).map eB))), (5, (.d (eB false)))] [] [] hmx (by kernel_rfl) good_nil ?_
    refine aw_ret ?_
    have hg := some_o hg
    subst hg
    exact lv_r [true, true] [] (by kernel_rfl)
  · have hg := ite_f hg h1
    rcases Bool.eq_false_or_eq_true (decide (n_ > (8 : Int))) with h2 | h2
    · have hg := ite_t hg h2
      refine rg (Z := Zt) 0 0 [(2, .op (.val (.d (eB false)))), (6, .op (.val (.d (eB true))))] [.op (some (.val (.d (eB (decide (n_ < (0 : Int))))))), .op (some (.val (.d (eB (decide (n_ > (8 : Int)))))))] [(0, (.d (eU8 b))), (1, (.d (eI64 n_))), (19, (.d (eB true)))] [] [] hmx (by kernel_rfl) (good_op (bo h1) (good_op (bo h2) good_nil)) ?_
      refine cd_t rfl (by kernel_rfl) ?_
      refine aw_seq ?_
      refine rg (Z := Zt) 0 0 [] [] [(4, (.full (([] : (List Bool)).map eB))), (5, (.d (eB false)))] [] [] hmx (by kernel_rfl) good_nil ?_
      refine aw_ret ?_
      have hg := some_o hg
      subst hg
      exact lv_r [true, true] [] (by kernel_rfl)
    · have hg := ite_f hg h2
      obtain ⟨h3, hg⟩ := chk_o hg
      refine rg (Z := Zt) 0 0 [(2, .op (.val (.d (eB false)))), (6, .op (.val (.d (eB false)))), (9, .op (.val (.d (eU8 (shrU8 b n_)))))] [.op (some (.val (.d (eB (decide (n_ < (0 : Int))))))), .op (some (.val (.d (eB (decide (n_ > (8 : Int))))))), .op (xBin Pg .shr 5 (.d (eU8 b)) (.d (eI64 n_)))] [(0, (.d (eU8 b))), (1, (.d (eI64 n_))), (19, (.d (eB ((shrU8 b n_) != (0 : Int)))))] [] [] hmx (by kernel_rfl) (good_op (bo h1) (good_op (bo h2) (good_op (shr_ok h3) good_nil))) ?_
      rcases Bool.eq_false_or_eq_true ((shrU8 b n_) != (0 : Int)) with h4 | h4
      · have hg := ite_t hg h4
        refine cd_t h4 (by kernel_rfl) ?_
        refine aw_seq ?_
        refine rg (Z := Zt) 0 0 [] [] [(4, (.full (([] : (List Bool)).map eB))), (5, (.d (eB false)))] [] [] hmx (by kernel_rfl) good_nil ?_
        refine aw_ret ?_
        have hg := some_o hg
        subst hg
        exact lv_r [true, true] [] (by kernel_rfl)
      · have hg := ite_f hg h4
        refine cd_f h4 (by kernel_rfl) ?_
        refine aw_skip ?_
        refine aw_seq ?_
        obtain ⟨h5, hg⟩ := chk_o hg
        refine rg (Z := Zt) 1 0 [(1, .op (.box 0 (.row ((List.replicate n_.toNat false : List Bool).map eB) 1) (.msl 0 n_.toNat)))] [.op (evMake Pg Zt 124 (.d (eI64 n_)) (.d (eI64 n_)) [.hole] 0)] [(0, (.d (eU8 b))), (6, (.msl 0 n_.toNat))] [(.row ((List.replicate n_.toNat false : List Bool).map eB) 1)] [] hmx (by kernel_rfl) (good_op (mk_row (e := 4) (z := false) (f := eB) (b := false) (by kernel_rfl) (by kernel_rfl) (by kernel_rfl) rfl (by decide) (by kernel_rfl) rfl h5) good_nil) ?_
        refine aw_seq ?_
        refine aw_seq ?_
        refine rg (Z := Zt) 0 0 [] [] [(0, (.d (eU8 b))), (6, (.msl 0 n_.toNat)), (23, (.d (eI64 (n_.toNat : Int)))), (24, (.d (eI64 (0 : Int))))] [(.row ((List.replicate n_.toNat false : List Bool).map eB) 1)] [] hmx (by kernel_rfl) good_nil ?_
        refine aw_block ?_
        refine aw_loop (fun μ σ => ∃ (v10 : Int) (v11 : (List Bool)), μ ≤ n ∧ num_Unflag_L1 μ b n_ v10 v11 = some r ∧ Wk B σ (st Tryz.f310.ntmps [(0, (.d (eU8 b))), (6, (.msl 0 n_.toNat)), (23, (.d (eI64 (n_.toNat : Int)))), (24, (.d (eI64 v10)))] [(.row (v11.map eB) 1)] [])) n ⟨(0 : Int), (List.replicate n_.toNat false : List Bool), Nat.le_refl _, hg, (Wk.refl _)⟩ ?_
        rintro μ σ ⟨v10, v11, hle, hg, hwk⟩
        refine aw_wk hwk ?_
        clear hwk
        cases μ with
        | zero => exact absurd (show none = some r from hg) (by simp)
        | succ n =>
          refine aw_seq ?_
          refine rg (Z := Zt) 0 0 [] [] [(0, (.d (eU8 b))), (6, (.msl 0 n_.toNat)), (23, (.d (eI64 (n_.toNat : Int)))), (24, (.d (eI64 v10))), (25, (.d (eB (decide (v10 < (n_.toNat : Int))))))] [(.row (v11.map eB) 1)] [] hmx (by kernel_rfl) good_nil ?_
          refine aw_seq ?_
          rcases Bool.eq_false_or_eq_true (decide (v10 < (n_.toNat : Int))) with h17 | h17
          · have hg := ite_t hg h17
            refine cd_t h17 (by kernel_rfl) ?_
            refine aw_skip ?_
            refine aw_seq ?_
            refine aw_block ?_
            refine aw_seq ?_
            refine rg (Z := Zt) 0 0 [] [] [(0, (.d (eU8 b))), (6, (.msl 0 n_.toNat)), (7, (.d (eI64 v10))), (23, (.d (eI64 (n_.toNat : Int)))), (24, (.d (eI64 v10)))] [(.row (v11.map eB) 1)] [] hmx (by kernel_rfl) good_nil ?_
            obtain ⟨h18, hg⟩ := chk_o hg
            obtain ⟨h19, hg⟩ := chk_o hg
            obtain ⟨h20, hg⟩ := chk_o hg
            refine rg (Z := Zt) 0 0 [(4, .op (.val (.d (eU8 (shrU8 b v10))))), (7, .op (.val (.eptr 0 v10.toNat 1))), (8, .op (.box 0 (.row ((v11.set v10.toNat ((andU8 (shrU8 b v10) (1 : Int)) == (1 : Int))).map eB) 1) .any))] [.op (xBin Pg .shr 5 (.d (eU8 b)) (.d (eI64 v10))), .op (xIdA Pg 124 (.msl 0 n_.toNat) (.d (eI64 v10))), .op (evStore Pg 4 (.eptr 0 v10.toNat 1) (.d (eB ((andU8 (shrU8 b v10) (1 : Int)) == (1 : Int)))) [(.row (v11.map eB) 1)])] [(0, (.d (eU8 b))), (6, (.msl 0 n_.toNat)), (23, (.d (eI64 (n_.toNat : Int)))), (24, (.d (eI64 v10)))] [(.row ((v11.set v10.toNat ((andU8 (shrU8 b v10) (1 : Int)) == (1 : Int))).map eB) 1)] [] hmx (by kernel_rfl) (good_op (shr_ok h18) (good_op (idx_msl (s := 1) (b := false) (by_ := 1) (by kernel_rfl) h19) (good_op (st_row (x := ((andU8 (shrU8 b v10) (1 : Int)) == (1 : Int))) (s := 1) (b := false) (by kernel_rfl) (fun _ => rfl) rfl rfl rfl h20) good_nil))) ?_
            refine rg (Z := Zt) 0 0 [] [] [(0, (.d (eU8 b))), (6, (.msl 0 n_.toNat)), (23, (.d (eI64 (n_.toNat : Int)))), (24, (.d (eI64 (wI64 (v10 + (1 : Int))))))] [(.row ((v11.set v10.toNat ((andU8 (shrU8 b v10) (1 : Int)) == (1 : Int))).map eB) 1)] [] hmx (by kernel_rfl) good_nil ?_
            exact ⟨n, by omega, (wI64 (v10 + (1 : Int))), (v11.set v10.toNat ((andU8 (shrU8 b v10) (1 : Int)) == (1 : Int))), by omega, hg, (Wk.refl _)⟩
          · have hg := ite_f hg h17
            refine cd_f h17 (by kernel_rfl) ?_
            refine aw_exit ?_
            refine aw_seq ?_
            refine rg (Z := Zt) 0 0 [] [] [(4, (.msl 0 n_.toNat)), (5, (.d (eB true)))] [(.row (v11.map eB) 1)] [] hmx (by kernel_rfl) good_nil ?_
            obtain ⟨h21, hg⟩ := chk_o hg
            refine aw_wk (wk_frz (l1 := [(4, (.d ((eL eB) v11))), (5, (.d (eB true)))]) (h := [(.fz (.agg (v11.map eB)))]) 4 0 1 n_.toNat (v11.map eB) (by rw [List.length_map]; exact of_decide_eq_true h21) (by kernel_rfl)) ?_
            refine aw_ret ?_
            have hg := some_o hg
            subst hg
            exact lv_r [true, true] [] (by kernel_rfl)

/- super.head -/
def super_head (n : Nat) (s : Super) (t : Str) : Option (Str × Super) :=
  (Bnd (strings_CutPrefix t ([71, 77, 1] : Str)) fun x1 => (bif (!x1.2) then none else (bif (decide ((x1.1.length : Int) < (2 : Int))) then none else (Chk (inR (1 : Int) x1.1.length) (Bnd (num_Unflag n (bt x1.1 (1 : Int)) (3 : Int)) fun x6 => (bif (!x6.2) then none else (Chk (inR (0 : Int) x1.1.length) (Chk (inR (0 : Int) x6.1.length) (Chk (inR (1 : Int) x6.1.length) (Chk (inR (2 : Int) x6.1.length) (Chk (hiOK (2 : Int) x1.1.length) (some ((x1.1.drop (2 : Int).toNat), (Super.mk (wI64 (bt x1.1 (0 : Int))) s.vector (gt x6.1 (0 : Int)) (gt x6.1 (1 : Int)) (gt x6.1 (2 : Int))))))))))))))))
theorem t_super_head {n : Nat} {s : Super} {t : Str} {r : (Str × Super)} (hg : super_head n s t = some r) : CallOK Pg 267 [(.ptr 0 0), (.d (eS t))] [(.var (.d (eSuper s)))] [] (single [(.d (eS r.1)), (.con .nilIface)]) [(.var (.d (eSuper r.2)))] [] := by
  refine fn_ok (fn := Tryz.f267) (by kernel_rfl) rfl (by kernel_rfl) (Nat.le_of_ble_eq_true (by kernel_rfl)) fun B hB => ?_
  refine aw_seq ?_
  refine rg (Z := Zt) 0 0 [] [] [(0, (.ptr 0 0)), (1, (.d (eS t)))] [(.var (.d (eSuper s)))] [] hmx (by kernel_rfl) good_nil ?_
  refine aw_seq ?_
  obtain ⟨x1, h2, hg⟩ := bnd_o hg
  refine rg (Z := Zt) 0 0 [(1, .vf (.tup [(.d (eS x1.1)), (.d (eB x1.2))]))] [.vf 309 [(.d (eS t)), (.d (eS ([71, 77, 1] : Str)))]] [(0, (.ptr 0 0)), (1, (.d (eS x1.1))), (6, (.d (eB x1.2)))] [(.var (.d (eSuper s)))] [] hmx (by kernel_rfl) (good_vf (t_strings_CutPrefix h2) rfl rfl good_nil) ?_
  refine aw_seq ?_
  refine aw_seq ?_
  rcases Bool.eq_false_or_eq_true (!x1.2) with h3 | h3
  · have hg := ite_t hg h3
    exact absurd hg (by simp)
  · have hg := ite_f hg h3
    refine rg (Z := Zt) 0 0 [(2, .op (.val (.d (eB false))))] [.op (some (.val (.d (eB (!x1.2)))))] [(0, (.ptr 0 0)), (1, (.d (eS x1.1))), (19, (.d (eB (decide ((x1.1.length : Int) < (2 : Int))))))] [(.var (.d (eSuper s)))] [] hmx (by kernel_rfl) (good_op (bo h3) good_nil) ?_
    rcases Bool.eq_false_or_eq_true (decide ((x1.1.length : Int) < (2 : Int))) with h4 | h4
    · have hg := ite_t hg h4
      exact absurd hg (by simp)
    · have hg := ite_f hg h4
      refine cd_f h4 (by kernel_rfl) ?_
      refine aw_skip ?_
      refine aw_seq ?_
      obtain ⟨h5, hg⟩ := chk_o hg
      obtain ⟨x6, h7, hg⟩ := bnd_o hg
      refine rg (Z := Zt) 0 0 [(1, .op (.val (.d (eU8 (bt x1.1 (1 : Int)))))), (2, .vf (.tup [(.d ((eL eB) x6.1)), (.d (eB x6.2))]))] [.op (xIdx Pg 9 (.d (eS x1.1)) (.d (eI64 (1 : Int)))), .vf 310 [(.d (eU8 (bt x1.1 (1 : Int)))), (.d (eI64 (3 : Int)))]] [(0, (.ptr 0 0)), (1, (.d (eS x1.1))), (6, (.d (eB x6.2))), (7, (.d ((eL eB) x6.1)))] [(.var (.d (eSuper s)))] [] hmx (by kernel_rfl) (good_op (idx_str (by kernel_rfl) h5) (good_vf (t_num_Unflag h7) rfl rfl good_nil)) ?_
      refine aw_seq ?_
      refine aw_seq ?_
      refine rg (Z := Zt) 0 0 [] [] [(0, (.ptr 0 0)), (1, (.d (eS x1.1))), (7, (.d ((eL eB) x6.1))), (31, (.d (eB (!x6.2))))] [(.var (.d (eSuper s)))] [] hmx (by kernel_rfl) good_nil ?_
      rcases Bool.eq_false_or_eq_true (!x6.2) with h8 | h8
      · have hg := ite_t hg h8
        exact absurd hg (by simp)
      · have hg := ite_f hg h8
        refine cd_f h8 (by kernel_rfl) ?_
        refine aw_skip ?_
        refine aw_seq ?_
        obtain ⟨h9, hg⟩ := chk_o hg
        obtain ⟨h10, hg⟩ := chk_o hg
        obtain ⟨h11, hg⟩ := chk_o hg
        obtain ⟨h12, hg⟩ := chk_o hg
        refine rg (Z := Zt) 0 0 [(5, .op (.val (.d (eU8 (bt x1.1 (0 : Int)))))), (8, .op (.val (.kp (eB (gt x6.1 (0 : Int)))))), (11, .op (.val (.kp (eB (gt x6.1 (1 : Int)))))), (14, .op (.val (.kp (eB (gt x6.1 (2 : Int))))))] [.op (xIdx Pg 9 (.d (eS x1.1)) (.d (eI64 (0 : Int)))), .op (xIdA Pg 124 (.d ((eL eB) x6.1)) (.d (eI64 (0 : Int)))), .op (xIdA Pg 124 (.d ((eL eB) x6.1)) (.d (eI64 (1 : Int)))), .op (xIdA Pg 124 (.d ((eL eB) x6.1)) (.d (eI64 (2 : Int))))] [(1, (.d (eS x1.1)))] [(.var (.d (eSuper (Super.mk (wI64 (bt x1.1 (0 : Int))) s.vector (gt x6.1 (0 : Int)) (gt x6.1 (1 : Int)) (gt x6.1 (2 : Int))))))] [] hmx (by kernel_rfl) (good_op (idx_str (by kernel_rfl) h9) (good_op (idx_d (s := 1) (b := false) (by_ := 1) (by kernel_rfl) (fun _ => rfl) h10) (good_op (idx_d (s := 1) (b := false) (by_ := 1) (by kernel_rfl) (fun _ => rfl) h11) (good_op (idx_d (s := 1) (b := false) (by_ := 1) (by kernel_rfl) (fun _ => rfl) h12) good_nil)))) ?_
        refine aw_seq ?_
        obtain ⟨h13, hg⟩ := chk_o hg
        refine rg (Z := Zt) 0 0 [(1, .op (.val (.d (eS (x1.1.drop (2 : Int).toNat)))))] [.op (evSlice Pg 9 (.d (eS x1.1)) (some (.d (eI64 (2 : Int)))) none none [(.var (.d (eSuper (Super.mk (wI64 (bt x1.1 (0 : Int))) s.vector (gt x6.1 (0 : Int)) (gt x6.1 (1 : Int)) (gt x6.1 (2 : Int))))))])] [(4, (.d (eS (x1.1.drop (2 : Int).toNat)))), (5, (.con .nilIface))] [(.var (.d (eSuper (Super.mk (wI64 (bt x1.1 (0 : Int))) s.vector (gt x6.1 (0 : Int)) (gt x6.1 (1 : Int)) (gt x6.1 (2 : Int))))))] [] hmx (by kernel_rfl) (good_op (sub_str_lo (by kernel_rfl) h13) good_nil) ?_
        refine aw_ret ?_
        have hg := some_o hg
        subst hg
        exact lv_r [true, false] [] (by kernel_rfl)

/- vector.Right -/
def vector_Right (v : Vector) : Bool :=
  (v.current != (0 : Int))
theorem t_vector_Right {v : Vector} {r : Bool} (hg : vector_Right v = r) : VF Pg 308 [(.d (eVector v))] (single [(.d (eB r))]) := by
  refine fn_ok (fn := Tryz.f308) (by kernel_rfl) rfl (by kernel_rfl) (Nat.le_of_ble_eq_true (by kernel_rfl)) fun B hB => ?_
  refine aw_seq ?_
  refine rg (Z := Zt) 1 0 [] [] [(1, (.ptr 0 0))] [(.var (.d (eVector v)))] [] hmx (by kernel_rfl) good_nil ?_
  refine aw_seq ?_
  refine rg (Z := Zt) 0 0 [] [] [(2, (.d (eB (v.current != (0 : Int)))))] [(.var (.d (eVector v)))] [] hmx (by kernel_rfl) good_nil ?_
  refine aw_ret ?_
  subst hg
  exact lv_r [true] [] (by kernel_rfl)

/- super.Right -/
def super_Right (s : Super) : Option Bool :=
  (Bnd (mask_All s.blocks) fun x1 => (bif (x1 != (0 : Int)) then (Let (vector_Right s.vector) fun x4 => (some x4)) else (some false)))
theorem t_super_Right {s : Super} {r : Bool} (hg : super_Right s = some r) : VF Pg 258 [(.d (eSuper s))] (single [(.d (eB r))]) := by
  refine fn_ok (fn := Tryz.f258) (by kernel_rfl) rfl (by kernel_rfl) (Nat.le_of_ble_eq_true (by kernel_rfl)) fun B hB => ?_
  refine aw_seq ?_
  refine rg (Z := Zt) 1 0 [] [] [(1, (.ptr 0 0))] [(.var (.d (eSuper s)))] [] hmx (by kernel_rfl) good_nil ?_
  refine aw_seq ?_
  obtain ⟨x1, h2, hg⟩ := bnd_o hg
  rcases Bool.eq_false_or_eq_true (x1 != (0 : Int)) with h3 | h3
  · have hg := ite_t hg h3
    obtain ⟨x4, h5, hg⟩ := let_o hg
    refine rg (Z := Zt) 0 0 [(2, .vf (.d (eU32 x1))), (4, .op (.val (.d (eB true)))), (7, .vf (.d (eB x4)))] [.vf 264 [(.d (eI64 s.blocks))], .op (some (.val (.d (eB (x1 != (0 : Int)))))), .vf 308 [(.d (eVector s.vector))]] [(2, (.d (eB x4)))] [(.var (.d (eSuper s)))] [] hmx (by kernel_rfl) (good_vf (t_mask_All h2) rfl rfl (good_op (bo h3) (good_vf (t_vector_Right h5) rfl rfl good_nil))) ?_
    refine aw_ret ?_
    have hg := some_o hg
    subst hg
    exact lv_r [true] [] (by kernel_rfl)
  · have hg := ite_f hg h3
    refine rg (Z := Zt) 0 0 [(2, .vf (.d (eU32 x1))), (4, .op (.val (.d (eB false))))] [.vf 264 [(.d (eI64 s.blocks))], .op (some (.val (.d (eB (x1 != (0 : Int))))))] [(2, (.d (eB false)))] [(.var (.d (eSuper s)))] [] hmx (by kernel_rfl) (good_vf (t_mask_All h2) rfl rfl (good_op (bo h3) good_nil)) ?_
    refine aw_ret ?_
    have hg := some_o hg
    subst hg
    exact lv_r [true] [] (by kernel_rfl)

/- super.generations -/
def super_generations (s : Super) : Super :=
  s
theorem t_super_generations {s : Super} {r : Super} (hg : super_generations s = r) : CallOK Pg 260 [(.ptr 0 0)] [(.var (.d (eSuper s)))] [] (single [(.agg [(.ptr 0 1), (.ptr 0 2), (.ptr 0 3), (.ptr 0 4)])]) [(.var (.d (eSuper r)))] [] := by
  refine fn_ok (fn := Tryz.f260) (by kernel_rfl) rfl (by kernel_rfl) (Nat.le_of_ble_eq_true (by kernel_rfl)) fun B hB => ?_
  refine aw_seq ?_
  refine rg (Z := Zt) 1 0 [] [] [(0, (.ptr 0 0)), (2, (.ptr 1 0))] [(.var (.d (eSuper s))), (.var (.agg [(.con (.pointer none)), (.con (.pointer none)), (.con (.pointer none)), (.con (.pointer none))]))] [] hmx (by kernel_rfl) good_nil ?_
  refine aw_seq ?_
  refine rg (Z := Zt) 0 0 [] [] [(2, (.ptr 1 0)), (3, (.ptr 0 1))] [(.var (.d (eSuper s))), (.var (.agg [(.con (.pointer none)), (.con (.pointer none)), (.con (.pointer none)), (.con (.pointer none))]))] [] hmx (by kernel_rfl) good_nil ?_
  refine aw_seq ?_
  refine rg (Z := Zt) 0 0 [] [] [(2, (.ptr 1 0))] [(.var (.d (eSuper s))), (.var (.agg [(.ptr 0 1), (.ptr 0 2), (.ptr 0 3), (.ptr 0 4)]))] [] hmx (by kernel_rfl) good_nil ?_
  refine aw_ret ?_
  subst hg
  exact lv_r [false] [] (by kernel_rfl)

/- num.Get64 -/
def num_Get64 (n : Nat) (s : Str) : Option (Int × Bool) :=
  (bif ((s.length : Int) != (8 : Int)) then (some ((0 : Int), false)) else (Bnd (num_get n s) fun x2 => (some (x2, true))))
theorem t_num_Get64 {n : Nat} {s : Str} {r : (Int × Bool)} (hg : num_Get64 n s = some r) : VF Pg 282 [(.d (eS s))] (single [(.d (eU64 r.1)), (.d (eB r.2))]) := by
  refine fn_ok (fn := Tryz.f282) (by kernel_rfl) rfl (by kernel_rfl) (Nat.le_of_ble_eq_true (by kernel_rfl)) fun B hB => ?_
  refine aw_seq ?_
  refine rg (Z := Zt) 0 0 [] [] [(0, (.d (eS s)))] [] [] hmx (by kernel_rfl) good_nil ?_
  refine aw_seq ?_
  refine aw_seq ?_
  refine rg (Z := Zt) 0 0 [] [] [(0, (.d (eS s))), (6, (.d (eB ((s.length : Int) != (8 : Int)))))] [] [] hmx (by kernel_rfl) good_nil ?_
  rcases Bool.eq_false_or_eq_true ((s.length : Int) != (8 : Int)) with h1 | h1
  · have hg := ite_t hg h1
    refine cd_t h1 (by kernel_rfl) ?_
    refine aw_seq ?_
    refine rg (Z := Zt) 0 0 [] [] [(2, (.d (eU64 (0 : Int)))), (3, (.d (eB false)))] [] [] hmx (by kernel_rfl) good_nil ?_
    refine aw_ret ?_
    have hg := some_o hg
    subst hg
    exact lv_r [true, true] [] (by kernel_rfl)
  · have hg := ite_f hg h1
    refine cd_f h1 (by kernel_rfl) ?_
    refine aw_skip ?_
    refine aw_seq ?_
    obtain ⟨x2, h3, hg⟩ := bnd_o hg
    refine rg (Z := Zt) 0 0 [(1, .vf (.d (eU64 x2)))] [.vf 216 [(.d (eS s))]] [(2, (.d (eU64 x2))), (3, (.d (eB true)))] [] [] hmx (by kernel_rfl) (good_vf (t_num_get h3) rfl rfl good_nil) ?_
    refine aw_ret ?_
    have hg := some_o hg
    subst hg
    exact lv_r [true, true] [] (by kernel_rfl)

/- super.tail -/
def super_tail (n : Nat) (s : Super) (t : Str) : Option Super :=
  (Let (super_generations s) fun x1 => (bif ((t.length : Int) != (32 : Int)) then none else (Chk (hiOK (8 : Int) t.length && hiOK (0 : Int) (8 : Int).toNat) (Bnd (num_Get64 n (cut t (0 : Int) (8 : Int))) fun x5 => (Chk (hiOK (16 : Int) t.length && hiOK (8 : Int) (16 : Int).toNat) (Bnd (num_Get64 n (cut t (8 : Int) (16 : Int))) fun x8 => (Chk (hiOK (24 : Int) t.length && hiOK (16 : Int) (24 : Int).toNat) (Bnd (num_Get64 n (cut t (16 : Int) (24 : Int))) fun x11 => (Chk (hiOK (32 : Int) t.length && hiOK (24 : Int) (32 : Int).toNat) (Bnd (num_Get64 n (cut t (24 : Int) (32 : Int))) fun x14 => (Bnd (super_Right (Super.mk x1.blocks (Vector.mk x5.1 x8.1 (A2.mk x11.1 x14.1)) x1.inc x1.pri x1.dis)) fun x16 => (bif (!x16) then none else (some (Super.mk x1.blocks (Vector.mk x5.1 x8.1 (A2.mk x11.1 x14.1)) x1.inc x1.pri x1.dis))))))))))))))
theorem t_super_tail {n : Nat} {s : Super} {t : Str} {r : Super} (hg : super_tail n s t = some r) : CallOK Pg 268 [(.ptr 0 0), (.d (eS t))] [(.var (.d (eSuper s)))] [] (single [(.con .nilIface)]) [(.var (.d (eSuper r)))] [] := by
  refine fn_ok (fn := Tryz.f268) (by kernel_rfl) rfl (by kernel_rfl) (Nat.le_of_ble_eq_true (by kernel_rfl)) fun B hB => ?_
  refine aw_seq ?_
  refine rg (Z := Zt) 0 0 [] [] [(0, (.ptr 0 0)), (1, (.d (eS t)))] [(.var (.d (eSuper s)))] [] hmx (by kernel_rfl) good_nil ?_
  refine aw_seq ?_
  obtain ⟨x1, h2, hg⟩ := let_o hg
  refine rg (Z := Zt) 1 0 [(1, .call (.agg [(.ptr 0 1), (.ptr 0 2), (.ptr 0 3), (.ptr 0 4)]) [0] [(.var (.d (eSuper s)))] [(.var (.d (eSuper x1)))] [] [] [])] [.call 260 [(.ptr 0 0)] [(some (.var (.d (eSuper s))))] []] [(0, (.ptr 0 0)), (1, (.d (eS t))), (5, (.ptr 1 0))] [(.var (.d (eSuper x1))), (.var (.agg [(.ptr 0 1), (.ptr 0 2), (.ptr 0 3), (.ptr 0 4)]))] [] hmx (by kernel_rfl) (good_call rfl rfl (callL (argsR := [(.ptr 0 0)]) (ER := [(.var (.d (eSuper s)))]) (t_super_generations h2) [0] [] [] (by kernel_rfl) (by kernel_rfl) (by kernel_rfl) (by kernel_rfl)) good_nil) ?_
  refine aw_seq ?_
  refine aw_seq ?_
  refine rg (Z := Zt) 0 0 [] [] [(0, (.ptr 0 0)), (1, (.d (eS t))), (5, (.ptr 1 0)), (12, (.d (eB ((t.length : Int) != (32 : Int)))))] [(.var (.d (eSuper x1))), (.var (.agg [(.ptr 0 1), (.ptr 0 2), (.ptr 0 3), (.ptr 0 4)]))] [] hmx (by kernel_rfl) good_nil ?_
  rcases Bool.eq_false_or_eq_true ((t.length : Int) != (32 : Int)) with h3 | h3
  · have hg := ite_t hg h3
    exact absurd hg (by simp)
  · have hg := ite_f hg h3
    refine cd_f h3 (by kernel_rfl) ?_
    refine aw_skip ?_
    refine aw_seq ?_
    refine aw_seq ?_
    refine rg (Z := Zt) 0 0 [] [] [(0, (.ptr 0 0)), (1, (.d (eS t))), (17, (.agg [(.ptr 0 1), (.ptr 0 2), (.ptr 0 3), (.ptr 0 4)])), (18, (.d (eI64 (0 : Int))))] [(.var (.d (eSuper x1))), (.var (.agg [(.ptr 0 1), (.ptr 0 2), (.ptr 0 3), (.ptr 0 4)]))] [] hmx (by kernel_rfl) good_nil ?_
    refine aw_block ?_
    refine aw_rounds 6 ?_
    refine ards ?_
    refine aw_seq ?_
    refine rg (Z := Zt) 0 0 [] [] [(0, (.ptr 0 0)), (1, (.d (eS t))), (17, (.agg [(.ptr 0 1), (.ptr 0 2), (.ptr 0 3), (.ptr 0 4)])), (18, (.d (eI64 (0 : Int)))), (19, (.d (eB true)))] [(.var (.d (eSuper x1))), (.var (.agg [(.ptr 0 1), (.ptr 0 2), (.ptr 0 3), (.ptr 0 4)]))] [] hmx (by kernel_rfl) good_nil ?_
    refine aw_seq ?_
    refine cd_t rfl (by kernel_rfl) ?_
    refine aw_skip ?_
    refine aw_seq ?_
    refine aw_block ?_
    refine aw_seq ?_
    refine rg (Z := Zt) 0 0 [] [] [(0, (.ptr 0 0)), (1, (.d (eS t))), (6, (.d (eI64 (0 : Int)))), (7, (.ptr 0 1)), (17, (.agg [(.ptr 0 1), (.ptr 0 2), (.ptr 0 3), (.ptr 0 4)])), (18, (.d (eI64 (0 : Int))))] [(.var (.d (eSuper x1))), (.var (.agg [(.ptr 0 1), (.ptr 0 2), (.ptr 0 3), (.ptr 0 4)]))] [] hmx (by kernel_rfl) good_nil ?_
    obtain ⟨h4, hg⟩ := chk_o hg
    obtain ⟨x5, h6, hg⟩ := bnd_o hg
    refine rg (Z := Zt) 0 0 [(7, .op (.val (.d (eS (cut t (0 : Int) (8 : Int)))))), (8, .vf (.tup [(.d (eU64 x5.1)), (.d (eB x5.2))]))] [.op (evSlice Pg 9 (.d (eS t)) (some (.d (eI64 (0 : Int)))) (some (.d (eI64 (8 : Int)))) none [(.var (.d (eSuper x1))), (.var (.agg [(.ptr 0 1), (.ptr 0 2), (.ptr 0 3), (.ptr 0 4)]))]), .vf 282 [(.d (eS (cut t (0 : Int) (8 : Int))))]] [(0, (.ptr 0 0)), (1, (.d (eS t))), (17, (.agg [(.ptr 0 1), (.ptr 0 2), (.ptr 0 3), (.ptr 0 4)])), (18, (.d (eI64 (0 : Int))))] [(.var (.d (eSuper (Super.mk x1.blocks (Vector.mk x5.1 x1.vector.bitmap x1.vector.old) x1.inc x1.pri x1.dis)))), (.var (.agg [(.ptr 0 1), (.ptr 0 2), (.ptr 0 3), (.ptr 0 4)]))] [] hmx (by kernel_rfl) (good_op (sub_str (by kernel_rfl) (an1 h4) (an2 h4)) (good_vf (t_num_Get64 h6) rfl rfl good_nil)) ?_
    refine rg (Z := Zt) 0 0 [] [] [(0, (.ptr 0 0)), (1, (.d (eS t))), (17, (.agg [(.ptr 0 1), (.ptr 0 2), (.ptr 0 3), (.ptr 0 4)])), (18, (.d (eI64 (1 : Int))))] [(.var (.d (eSuper (Super.mk x1.blocks (Vector.mk x5.1 x1.vector.bitmap x1.vector.old) x1.inc x1.pri x1.dis)))), (.var (.agg [(.ptr 0 1), (.ptr 0 2), (.ptr 0 3), (.ptr 0 4)]))] [] hmx (by kernel_rfl) good_nil ?_
    refine ards ?_
    refine aw_seq ?_
    refine rg (Z := Zt) 0 0 [] [] [(0, (.ptr 0 0)), (1, (.d (eS t))), (17, (.agg [(.ptr 0 1), (.ptr 0 2), (.ptr 0 3), (.ptr 0 4)])), (18, (.d (eI64 (1 : Int)))), (19, (.d (eB true)))] [(.var (.d (eSuper (Super.mk x1.blocks (Vector.mk x5.1 x1.vector.bitmap x1.vector.old) x1.inc x1.pri x1.dis)))), (.var (.agg [(.ptr 0 1), (.ptr 0 2), (.ptr 0 3), (.ptr 0 4)]))] [] hmx (by kernel_rfl) good_nil ?_
    refine aw_seq ?_
    refine cd_t rfl (by kernel_rfl) ?_
    refine aw_skip ?_
    refine aw_seq ?_
    refine aw_block ?_
    refine aw_seq ?_
    refine rg (Z := Zt) 0 0 [] [] [(0, (.ptr 0 0)), (1, (.d (eS t))), (6, (.d (eI64 (1 : Int)))), (7, (.ptr 0 2)), (17, (.agg [(.ptr 0 1), (.ptr 0 2), (.ptr 0 3), (.ptr 0 4)])), (18, (.d (eI64 (1 : Int))))] [(.var (.d (eSuper (Super.mk x1.blocks (Vector.mk x5.1 x1.vector.bitmap x1.vector.old) x1.inc x1.pri x1.dis)))), (.var (.agg [(.ptr 0 1), (.ptr 0 2), (.ptr 0 3), (.ptr 0 4)]))] [] hmx (by kernel_rfl) good_nil ?_
    obtain ⟨h7, hg⟩ := chk_o hg
    obtain ⟨x8, h9, hg⟩ := bnd_o hg
    refine rg (Z := Zt) 0 0 [(7, .op (.val (.d (eS (cut t (8 : Int) (16 : Int)))))), (8, .vf (.tup [(.d (eU64 x8.1)), (.d (eB x8.2))]))] [.op (evSlice Pg 9 (.d (eS t)) (some (.d (eI64 (8 : Int)))) (some (.d (eI64 (16 : Int)))) none [(.var (.d (eSuper (Super.mk x1.blocks (Vector.mk x5.1 x1.vector.bitmap x1.vector.old) x1.inc x1.pri x1.dis)))), (.var (.agg [(.ptr 0 1), (.ptr 0 2), (.ptr 0 3), (.ptr 0 4)]))]), .vf 282 [(.d (eS (cut t (8 : Int) (16 : Int))))]] [(0, (.ptr 0 0)), (1, (.d (eS t))), (17, (.agg [(.ptr 0 1), (.ptr 0 2), (.ptr 0 3), (.ptr 0 4)])), (18, (.d (eI64 (1 : Int))))] [(.var (.d (eSuper (Super.mk x1.blocks (Vector.mk x5.1 x8.1 x1.vector.old) x1.inc x1.pri x1.dis)))), (.var (.agg [(.ptr 0 1), (.ptr 0 2), (.ptr 0 3), (.ptr 0 4)]))] [] hmx (by kernel_rfl) (good_op (sub_str (by kernel_rfl) (an1 h7) (an2 h7)) (good_vf (t_num_Get64 h9) rfl rfl good_nil)) ?_
    refine rg (Z := Zt) 0 0 [] [] [(0, (.ptr 0 0)), (1, (.d (eS t))), (17, (.agg [(.ptr 0 1), (.ptr 0 2), (.ptr 0 3), (.ptr 0 4)])), (18, (.d (eI64 (2 : Int))))] [(.var (.d (eSuper (Super.mk x1.blocks (Vector.mk x5.1 x8.1 x1.vector.old) x1.inc x1.pri x1.dis)))), (.var (.agg [(.ptr 0 1), (.ptr 0 2), (.ptr 0 3), (.ptr 0 4)]))] [] hmx (by kernel_rfl) good_nil ?_
    refine ards ?_
    refine aw_seq ?_
    refine rg (Z := Zt) 0 0 [] [] [(0, (.ptr 0 0)), (1, (.d (eS t))), (17, (.agg [(.ptr 0 1), (.ptr 0 2), (.ptr 0 3), (.ptr 0 4)])), (18, (.d (eI64 (2 : Int)))), (19, (.d (eB true)))] [(.var (.d (eSuper (Super.mk x1.blocks (Vector.mk x5.1 x8.1 x1.vector.old) x1.inc x1.pri x1.dis)))), (.var (.agg [(.ptr 0 1), (.ptr 0 2), (.ptr 0 3), (.ptr 0 4)]))] [] hmx (by kernel_rfl) good_nil ?_
    refine aw_seq ?_
    refine cd_t rfl (by kernel_rfl) ?_
    refine aw_skip ?_
    refine aw_seq ?_
    refine aw_block ?_
    refine aw_seq ?_
    refine rg (Z := Zt) 0 0 [] [] [(0, (.ptr 0 0)), (1, (.d (eS t))), (6, (.d (eI64 (2 : Int)))), (7, (.ptr 0 3)), (17, (.agg [(.ptr 0 1), (.ptr 0 2), (.ptr 0 3), (.ptr 0 4)])), (18, (.d (eI64 (2 : Int))))] [(.var (.d (eSuper (Super.mk x1.blocks (Vector.mk x5.1 x8.1 x1.vector.old) x1.inc x1.pri x1.dis)))), (.var (.agg [(.ptr 0 1), (.ptr 0 2), (.ptr 0 3), (.ptr 0 4)]))] [] hmx (by kernel_rfl) good_nil ?_
    obtain ⟨h10, hg⟩ := chk_o hg
    obtain ⟨x11, h12, hg⟩ := bnd_o hg
    refine rg (Z := Zt) 0 0 [(7, .op (.val (.d (eS (cut t (16 : Int) (24 : Int)))))), (8, .vf (.tup [(.d (eU64 x11.1)), (.d (eB x11.2))]))] [.op (evSlice Pg 9 (.d (eS t)) (some (.d (eI64 (16 : Int)))) (some (.d (eI64 (24 : Int)))) none [(.var (.d (eSuper (Super.mk x1.blocks (Vector.mk x5.1 x8.1 x1.vector.old) x1.inc x1.pri x1.dis)))), (.var (.agg [(.ptr 0 1), (.ptr 0 2), (.ptr 0 3), (.ptr 0 4)]))]), .vf 282 [(.d (eS (cut t (16 : Int) (24 : Int))))]] [(0, (.ptr 0 0)), (1, (.d (eS t))), (17, (.agg [(.ptr 0 1), (.ptr 0 2), (.ptr 0 3), (.ptr 0 4)])), (18, (.d (eI64 (2 : Int))))] [(.var (.d (eSuper (Super.mk x1.blocks (Vector.mk x5.1 x8.1 (A2.mk x11.1 x1.vector.old.a1)) x1.inc x1.pri x1.dis)))), (.var (.agg [(.ptr 0 1), (.ptr 0 2), (.ptr 0 3), (.ptr 0 4)]))] [] hmx (by kernel_rfl) (good_op (sub_str (by kernel_rfl) (an1 h10) (an2 h10)) (good_vf (t_num_Get64 h12) rfl rfl good_nil)) ?_
    refine rg (Z := Zt) 0 0 [] [] [(0, (.ptr 0 0)), (1, (.d (eS t))), (17, (.agg [(.ptr 0 1), (.ptr 0 2), (.ptr 0 3), (.ptr 0 4)])), (18, (.d (eI64 (3 : Int))))] [(.var (.d (eSuper (Super.mk x1.blocks (Vector.mk x5.1 x8.1 (A2.mk x11.1 x1.vector.old.a1)) x1.inc x1.pri x1.dis)))), (.var (.agg [(.ptr 0 1), (.ptr 0 2), (.ptr 0 3), (.ptr 0 4)]))] [] hmx (by kernel_rfl) good_nil ?_
    refine ards ?_
    refine aw_seq ?_
    refine rg (Z := Zt) 0 0 [] [] [(0, (.ptr 0 0)), (1, (.d (eS t))), (17, (.agg [(.ptr 0 1), (.ptr 0 2), (.ptr 0 3), (.ptr 0 4)])), (18, (.d (eI64 (3 : Int)))), (19, (.d (eB true)))] [(.var (.d (eSuper (Super.mk x1.blocks (Vector.mk x5.1 x8.1 (A2.mk x11.1 x1.vector.old.a1)) x1.inc x1.pri x1.dis)))), (.var (.agg [(.ptr 0 1), (.ptr 0 2), (.ptr 0 3), (.ptr 0 4)]))] [] hmx (by kernel_rfl) good_nil ?_
    refine aw_seq ?_
    refine cd_t rfl (by kernel_rfl) ?_
    refine aw_skip ?_
    refine aw_seq ?_
    refine aw_block ?_
    refine aw_seq ?_
    refine rg (Z := Zt) 0 0 [] [] [(0, (.ptr 0 0)), (1, (.d (eS t))), (6, (.d (eI64 (3 : Int)))), (7, (.ptr 0 4)), (17, (.agg [(.ptr 0 1), (.ptr 0 2), (.ptr 0 3), (.ptr 0 4)])), (18, (.d (eI64 (3 : Int))))] [(.var (.d (eSuper (Super.mk x1.blocks (Vector.mk x5.1 x8.1 (A2.mk x11.1 x1.vector.old.a1)) x1.inc x1.pri x1.dis)))), (.var (.agg [(.ptr 0 1), (.ptr 0 2), (.ptr 0 3), (.ptr 0 4)]))] [] hmx (by kernel_rfl) good_nil ?_
    obtain ⟨h13, hg⟩ := chk_o hg
    obtain ⟨x14, h15, hg⟩ := bnd_o hg
    refine rg (Z := Zt) 0 0 [(7, .op (.val (.d (eS (cut t (24 : Int) (32 : Int)))))), (8, .vf (.tup [(.d (eU64 x14.1)), (.d (eB x14.2))]))] [.op (evSlice Pg 9 (.d (eS t)) (some (.d (eI64 (24 : Int)))) (some (.d (eI64 (32 : Int)))) none [(.var (.d (eSuper (Super.mk x1.blocks (Vector.mk x5.1 x8.1 (A2.mk x11.1 x1.vector.old.a1)) x1.inc x1.pri x1.dis)))), (.var (.agg [(.ptr 0 1), (.ptr 0 2), (.ptr 0 3), (.ptr 0 4)]))]), .vf 282 [(.d (eS (cut t (24 : Int) (32 : Int))))]] [(0, (.ptr 0 0)), (1, (.d (eS t))), (17, (.agg [(.ptr 0 1), (.ptr 0 2), (.ptr 0 3), (.ptr 0 4)])), (18, (.d (eI64 (3 : Int))))] [(.var (.d (eSuper (Super.mk x1.blocks (Vector.mk x5.1 x8.1 (A2.mk x11.1 x14.1)) x1.inc x1.pri x1.dis)))), (.var (.agg [(.ptr 0 1), (.ptr 0 2), (.ptr 0 3), (.ptr 0 4)]))] [] hmx (by kernel_rfl) (good_op (sub_str (by kernel_rfl) (an1 h13) (an2 h13)) (good_vf (t_num_Get64 h15) rfl rfl good_nil)) ?_
    refine rg (Z := Zt) 0 0 [] [] [(0, (.ptr 0 0)), (1, (.d (eS t))), (17, (.agg [(.ptr 0 1), (.ptr 0 2), (.ptr 0 3), (.ptr 0 4)])), (18, (.d (eI64 (4 : Int))))] [(.var (.d (eSuper (Super.mk x1.blocks (Vector.mk x5.1 x8.1 (A2.mk x11.1 x14.1)) x1.inc x1.pri x1.dis)))), (.var (.agg [(.ptr 0 1), (.ptr 0 2), (.ptr 0 3), (.ptr 0 4)]))] [] hmx (by kernel_rfl) good_nil ?_
    refine ards ?_
    refine aw_seq ?_
    refine rg (Z := Zt) 0 0 [] [] [(0, (.ptr 0 0)), (1, (.d (eS t))), (17, (.agg [(.ptr 0 1), (.ptr 0 2), (.ptr 0 3), (.ptr 0 4)])), (18, (.d (eI64 (4 : Int)))), (19, (.d (eB false)))] [(.var (.d (eSuper (Super.mk x1.blocks (Vector.mk x5.1 x8.1 (A2.mk x11.1 x14.1)) x1.inc x1.pri x1.dis)))), (.var (.agg [(.ptr 0 1), (.ptr 0 2), (.ptr 0 3), (.ptr 0 4)]))] [] hmx (by kernel_rfl) good_nil ?_
    refine aw_seq ?_
    refine cd_f rfl (by kernel_rfl) ?_
    refine aw_exit ?_
    refine aw_seq ?_
    refine aw_seq ?_
    obtain ⟨x16, h17, hg⟩ := bnd_o hg
    refine rg (Z := Zt) 0 0 [(3, .vf (.d (eB x16)))] [.vf 258 [(.d (eSuper (Super.mk x1.blocks (Vector.mk x5.1 x8.1 (A2.mk x11.1 x14.1)) x1.inc x1.pri x1.dis)))]] [(40, (.d (eB (!x16))))] [(.var (.d (eSuper (Super.mk x1.blocks (Vector.mk x5.1 x8.1 (A2.mk x11.1 x14.1)) x1.inc x1.pri x1.dis)))), (.var (.agg [(.ptr 0 1), (.ptr 0 2), (.ptr 0 3), (.ptr 0 4)]))] [] hmx (by kernel_rfl) (good_vf (t_super_Right h17) rfl rfl good_nil) ?_
    rcases Bool.eq_false_or_eq_true (!x16) with h18 | h18
    · have hg := ite_t hg h18
      exact absurd hg (by simp)
    · have hg := ite_f hg h18
      refine cd_f h18 (by kernel_rfl) ?_
      refine aw_skip ?_
      refine aw_seq ?_
      refine rg (Z := Zt) 0 0 [] [] [(4, (.con .nilIface))] [(.var (.d (eSuper (Super.mk x1.blocks (Vector.mk x5.1 x8.1 (A2.mk x11.1 x14.1)) x1.inc x1.pri x1.dis)))), (.var (.agg [(.ptr 0 1), (.ptr 0 2), (.ptr 0 3), (.ptr 0 4)]))] [] hmx (by kernel_rfl) good_nil ?_
      refine aw_ret ?_
      have hg := some_o hg
      subst hg
      exact lv_r [false] [] (by kernel_rfl)

/- super.decode -/
def super_decode (n : Nat) (b : Str) : Option (Super × Super) :=
  (Bnd (super_open n b) fun x1 => (Bnd (super_head n (Super.mk (0 : Int) (Vector.mk (0 : Int) (0 : Int) (A2.mk (0 : Int) (0 : Int))) false false false) x1) fun x3 => (Bnd (super_tail n x3.2 x3.1) fun x5 => (some (x3.2, x5)))))
theorem t_super_decode {n : Nat} {b : Str} {r : (Super × Super)} (hg : super_decode n b = some r) : VFo Pg 213 [(.d (eS b))] (fun b => single [(.d (eSuper (sel b r))), (.con .nilIface)]) := by
  refine fn_ok_o (fn := Tryz.f213) (rs := fun b => (fun r : Super => [(.d (eSuper r)), (.con .nilIface)]) (sel b r)) (by kernel_rfl) rfl (by kernel_rfl) (Nat.le_of_ble_eq_true (by kernel_rfl)) fun B hB => ?_
  refine aw_seq ?_
  refine rg (Z := Zt) 1 0 [] [] [(0, (.d (eS b))), (2, (.ptr 0 0))] [(.var (.agg [(.d (eI64 (0 : Int))), (.agg [(.d (eU64 (0 : Int))), (.d (eU64 (0 : Int))), (.agg [(.d (eU64 (0 : Int))), (.d (eU64 (0 : Int)))])]), (.d (eB false)), (.d (eB false)), (.d (eB false))]))] [] hmx (by kernel_rfl) good_nil ?_
  refine aw_seq ?_
  refine aw_seq ?_
  obtain ⟨x1, h2, hg⟩ := bnd_o hg
  refine rg (Z := Zt) 0 0 [(1, .vf (.tup [(.d (eS x1)), (.con .nilIface)]))] [.vf 266 [(.d (eS b))]] [(0, (.d (eS x1))), (2, (.ptr 0 0)), (3, (.con .nilIface))] [(.var (.agg [(.d (eI64 (0 : Int))), (.agg [(.d (eU64 (0 : Int))), (.d (eU64 (0 : Int))), (.agg [(.d (eU64 (0 : Int))), (.d (eU64 (0 : Int)))])]), (.d (eB false)), (.d (eB false)), (.d (eB false))]))] [] hmx (by kernel_rfl) (good_vf (t_super_open h2) rfl rfl good_nil) ?_
  refine aw_seq ?_
  refine rg (Z := Zt) 0 0 [] [] [(0, (.d (eS x1))), (2, (.ptr 0 0)), (3, (.con .nilIface)), (10, (.d (eB false)))] [(.var (.agg [(.d (eI64 (0 : Int))), (.agg [(.d (eU64 (0 : Int))), (.d (eU64 (0 : Int))), (.agg [(.d (eU64 (0 : Int))), (.d (eU64 (0 : Int)))])]), (.d (eB false)), (.d (eB false)), (.d (eB false))]))] [] hmx (by kernel_rfl) good_nil ?_
  refine cd_f rfl (by kernel_rfl) ?_
  refine aw_skip ?_
  refine aw_seq ?_
  refine aw_seq ?_
  obtain ⟨x3, h4, hg⟩ := bnd_o hg
  refine rg (Z := Zt) 0 0 [(1, .call (.tup [(.d (eS x3.1)), (.con .nilIface)]) [0] [(.var (.agg [(.d (eI64 (0 : Int))), (.agg [(.d (eU64 (0 : Int))), (.d (eU64 (0 : Int))), (.agg [(.d (eU64 (0 : Int))), (.d (eU64 (0 : Int)))])]), (.d (eB false)), (.d (eB false)), (.d (eB false))]))] [(.var (.d (eSuper x3.2)))] [] [] [])] [.call 267 [(.ptr 0 0), (.d (eS x1))] [(some (.var (.agg [(.d (eI64 (0 : Int))), (.agg [(.d (eU64 (0 : Int))), (.d (eU64 (0 : Int))), (.agg [(.d (eU64 (0 : Int))), (.d (eU64 (0 : Int)))])]), (.d (eB false)), (.d (eB false)), (.d (eB false))])))] []] [(0, (.d (eS x3.1))), (2, (.ptr 0 0)), (3, (.con .nilIface))] [(.var (.d (eSuper x3.2)))] [] hmx (by kernel_rfl) (good_call rfl rfl (callL (argsR := [(.ptr 0 0), (.d (eS x1))]) (ER := [(.var (.d (eSuper (Super.mk (0 : Int) (Vector.mk (0 : Int) (0 : Int) (A2.mk (0 : Int) (0 : Int))) false false false))))]) (t_super_head h4) [0] [] [0] (by kernel_rfl) (by kernel_rfl) (by kernel_rfl) (by kernel_rfl)) good_nil) ?_
  refine aw_seq ?_
  refine rg (Z := Zt) 0 0 [] [] [(0, (.d (eS x3.1))), (2, (.ptr 0 0)), (3, (.con .nilIface)), (19, (.d (eB false)))] [(.var (.d (eSuper x3.2)))] [] hmx (by kernel_rfl) good_nil ?_
  refine cd_f rfl (by kernel_rfl) ?_
  refine aw_skip ?_
  refine aw_seq ?_
  obtain ⟨x5, h6, hg⟩ := bnd_o hg
  have hg := some_o hg
  refine aw_any 5 hmx rfl ?_
  refine any_2 (i := 0) (j := 1) (by kernel_rfl) ?_ ?_
  · refine any_do (Z := Zt) none none [(0, (.d (eS x3.1))), (2, (.ptr 0 0)), (3, (.con .nilIface)), (22, (.d (eSuper x3.2)))] [(.var (.d (eSuper x3.2)))] [] (by kernel_rfl) trivial ?_
    refine any_1 (i := 1) (by kernel_rfl) ?_
    refine any_do (Z := Zt) none none [(2, (.ptr 0 0)), (3, (.con .nilIface)), (22, (.d (eSuper x3.2))), (23, (.d (eS x3.1)))] [(.var (.d (eSuper x3.2)))] [] (by kernel_rfl) trivial ?_
    refine any_1 (i := 2) (by kernel_rfl) ?_
    refine any_do (Z := Zt) (some (.call (.con .nilIface) [0] [(.var (.d (eSuper x3.2)))] [(.var (.d (eSuper x5)))] [] [] [])) (some (.call 268 [(.ptr 0 0), (.d (eS x3.1))] [(some (.var (.d (eSuper x3.2))))] [])) [(2, (.ptr 0 0)), (3, (.con .nilIface)), (22, (.d (eSuper x3.2))), (24, (.con .nilIface))] [(.var (.d (eSuper x5)))] [] (by kernel_rfl) (show OrcOK Pg _ _ from ⟨rfl, rfl, (callL (argsR := [(.ptr 0 0), (.d (eS x3.1))]) (ER := [(.var (.d (eSuper x3.2)))]) (t_super_tail h6) [0] [] [] (by kernel_rfl) (by kernel_rfl) (by kernel_rfl) (by kernel_rfl))⟩) ?_
    refine any_1 (i := 3) (by kernel_rfl) ?_
    refine any_do (Z := Zt) none none [(2, (.ptr 0 0)), (3, (.con .nilIface)), (24, (.con .nilIface))] [(.var (.d (eSuper x3.2)))] [] (by kernel_rfl) trivial ?_
    refine any_1 (i := 4) (by kernel_rfl) ?_
    refine any_do (Z := Zt) none none [(2, (.ptr 0 0)), (3, (.con .nilIface))] [(.var (.d (eSuper x3.2)))] [] (by kernel_rfl) trivial ?_
    refine any_end (by kernel_rfl) ?_
    refine aw_ret ?_
    exact lv_o (b := true) (fun r : Super => [(.d (eSuper r)), (.con .nilIface)]) (.inr rfl) (by rw [← hg]) [true, false] (by kernel_rfl)
  · refine any_do (Z := Zt) none none [(2, (.ptr 0 0)), (3, (.con .nilIface)), (23, (.d (eS x3.1)))] [(.var (.d (eSuper x3.2)))] [] (by kernel_rfl) trivial ?_
    refine any_2 (i := 0) (j := 2) (by kernel_rfl) ?_ ?_
    · refine any_do (Z := Zt) none none [(2, (.ptr 0 0)), (3, (.con .nilIface)), (22, (.d (eSuper x3.2))), (23, (.d (eS x3.1)))] [(.var (.d (eSuper x3.2)))] [] (by kernel_rfl) trivial ?_
      refine any_1 (i := 2) (by kernel_rfl) ?_
      refine any_do (Z := Zt) (some (.call (.con .nilIface) [0] [(.var (.d (eSuper x3.2)))] [(.var (.d (eSuper x5)))] [] [] [])) (some (.call 268 [(.ptr 0 0), (.d (eS x3.1))] [(some (.var (.d (eSuper x3.2))))] [])) [(2, (.ptr 0 0)), (3, (.con .nilIface)), (22, (.d (eSuper x3.2))), (24, (.con .nilIface))] [(.var (.d (eSuper x5)))] [] (by kernel_rfl) (show OrcOK Pg _ _ from ⟨rfl, rfl, (callL (argsR := [(.ptr 0 0), (.d (eS x3.1))]) (ER := [(.var (.d (eSuper x3.2)))]) (t_super_tail h6) [0] [] [] (by kernel_rfl) (by kernel_rfl) (by kernel_rfl) (by kernel_rfl))⟩) ?_
      refine any_1 (i := 3) (by kernel_rfl) ?_
      refine any_do (Z := Zt) none none [(2, (.ptr 0 0)), (3, (.con .nilIface)), (24, (.con .nilIface))] [(.var (.d (eSuper x3.2)))] [] (by kernel_rfl) trivial ?_
      refine any_1 (i := 4) (by kernel_rfl) ?_
      refine any_do (Z := Zt) none none [(2, (.ptr 0 0)), (3, (.con .nilIface))] [(.var (.d (eSuper x3.2)))] [] (by kernel_rfl) trivial ?_
      refine any_end (by kernel_rfl) ?_
      refine aw_ret ?_
      exact lv_o (b := true) (fun r : Super => [(.d (eSuper r)), (.con .nilIface)]) (.inr rfl) (by rw [← hg]) [true, false] (by kernel_rfl)
    · refine any_do (Z := Zt) (some (.call (.con .nilIface) [0] [(.var (.d (eSuper x3.2)))] [(.var (.d (eSuper x5)))] [] [] [])) (some (.call 268 [(.ptr 0 0), (.d (eS x3.1))] [(some (.var (.d (eSuper x3.2))))] [])) [(2, (.ptr 0 0)), (3, (.con .nilIface)), (24, (.con .nilIface))] [(.var (.d (eSuper x5)))] [] (by kernel_rfl) (show OrcOK Pg _ _ from ⟨rfl, rfl, (callL (argsR := [(.ptr 0 0), (.d (eS x3.1))]) (ER := [(.var (.d (eSuper x3.2)))]) (t_super_tail h6) [0] [] [] (by kernel_rfl) (by kernel_rfl) (by kernel_rfl) (by kernel_rfl))⟩) ?_
      refine any_1 (i := 0) (by kernel_rfl) ?_
      refine any_do (Z := Zt) none none [(2, (.ptr 0 0)), (3, (.con .nilIface)), (22, (.d (eSuper x5))), (24, (.con .nilIface))] [(.var (.d (eSuper x5)))] [] (by kernel_rfl) trivial ?_
      refine any_1 (i := 3) (by kernel_rfl) ?_
      refine any_do (Z := Zt) none none [(2, (.ptr 0 0)), (3, (.con .nilIface)), (24, (.con .nilIface))] [(.var (.d (eSuper x5)))] [] (by kernel_rfl) trivial ?_
      refine any_1 (i := 4) (by kernel_rfl) ?_
      refine any_do (Z := Zt) none none [(2, (.ptr 0 0)), (3, (.con .nilIface))] [(.var (.d (eSuper x5)))] [] (by kernel_rfl) trivial ?_
      refine any_end (by kernel_rfl) ?_
      refine aw_ret ?_
      exact lv_o (b := false) (fun r : Super => [(.d (eSuper r)), (.con .nilIface)]) (.inr rfl) (by rw [← hg]) [true, false] (by kernel_rfl)

/- super.Decode -/
def super_Decode (n : Nat) (b : Str) : Option ((Super × Int) × (Super × Int)) :=
  (Nd2 (super_decode n b) fun x1 => (some (x1, (0 : Int))))
theorem t_super_Decode {n : Nat} {b : Str} {r : ((Super × Int) × (Super × Int))} (hg : super_Decode n b = some r) : VFo Pg 145 [(.d (eS b))] (fun b => single [(.d (eSuper (sel b r).1)), (.d (eI64 (sel b r).2))]) := by
  refine fn_ok_o (fn := Tryz.f145) (rs := fun b => (fun r : (Super × Int) => [(.d (eSuper r.1)), (.d (eI64 r.2))]) (sel b r)) (by kernel_rfl) rfl (by kernel_rfl) (Nat.le_of_ble_eq_true (by kernel_rfl)) fun B hB => ?_
  refine aw_seq ?_
  refine rg (Z := Zt) 1 0 [] [] [(0, (.d (eS b))), (2, (.ptr 0 0))] [(.var (.agg [(.d (eI64 (0 : Int))), (.agg [(.d (eU64 (0 : Int))), (.d (eU64 (0 : Int))), (.agg [(.d (eU64 (0 : Int))), (.d (eU64 (0 : Int)))])]), (.d (eB false)), (.d (eB false)), (.d (eB false))]))] [] hmx (by kernel_rfl) good_nil ?_
  refine aw_seq ?_
  obtain ⟨x1p, h2, hg⟩ := nd2_o hg
  refine rg_nd (Z := Zt) 1 0 1 10 [] [] [(2, (.ptr 0 0)), (9, (.d (eS b)))] [(.var (.agg [(.d (eI64 (0 : Int))), (.agg [(.d (eU64 (0 : Int))), (.d (eU64 (0 : Int))), (.agg [(.d (eU64 (0 : Int))), (.d (eU64 (0 : Int)))])]), (.d (eB false)), (.d (eB false)), (.d (eB false))])), .hole] [] (fun b => (.tup [(.d (eSuper (sel b x1p))), (.con .nilIface)])) (by kernel_rfl) good_nil (by kernel_rfl) (t_super_decode h2) rfl (fun _ => rfl) fun x1b => ?_
  generalize hsx1 : sel x1b x1p = x1
  have hg := hg x1b x1 hsx1.symm
  refine rg_tl (Z := Zt) 1 0 [] [] [(2, (.ptr 0 0)), (4, (.ptr 1 0)), (5, (.con .nilIface))] [(.var (.agg [(.d (eI64 (0 : Int))), (.agg [(.d (eU64 (0 : Int))), (.d (eU64 (0 : Int))), (.agg [(.d (eU64 (0 : Int))), (.d (eU64 (0 : Int)))])]), (.d (eB false)), (.d (eB false)), (.d (eB false))])), (.var (.d (eSuper x1)))] [] (by kernel_rfl) good_nil ?_
  refine aw_seq ?_
  refine rg (Z := Zt) 1 0 [] [] [(2, (.ptr 0 0)), (4, (.ptr 1 0)), (5, (.con .nilIface)), (6, (.ptr 2 0))] [(.var (.agg [(.d (eI64 (0 : Int))), (.agg [(.d (eU64 (0 : Int))), (.d (eU64 (0 : Int))), (.agg [(.d (eU64 (0 : Int))), (.d (eU64 (0 : Int)))])]), (.d (eB false)), (.d (eB false)), (.d (eB false))])), (.var (.d (eSuper x1))), (.var (.con (.pointer none)))] [] hmx (by kernel_rfl) good_nil ?_
  refine aw_seq ?_
  refine aw_block ?_
  refine aw_seq ?_
  refine rg (Z := Zt) 0 0 [] [] [(2, (.ptr 0 0)), (4, (.ptr 1 0)), (5, (.con .nilIface)), (6, (.ptr 2 0)), (13, (.d (eB true)))] [(.var (.agg [(.d (eI64 (0 : Int))), (.agg [(.d (eU64 (0 : Int))), (.d (eU64 (0 : Int))), (.agg [(.d (eU64 (0 : Int))), (.d (eU64 (0 : Int)))])]), (.d (eB false)), (.d (eB false)), (.d (eB false))])), (.var (.d (eSuper x1))), (.var (.con (.pointer none)))] [] hmx (by kernel_rfl) good_nil ?_
  refine cd_t rfl (by kernel_rfl) ?_
  refine aw_seq ?_
  refine rg (Z := Zt) 0 0 [] [] [(2, (.ptr 0 0)), (3, (.d (eI64 (0 : Int))))] [(.var (.d (eSuper x1))), (.var (.d (eSuper x1))), (.var (.con (.pointer none)))] [] hmx (by kernel_rfl) good_nil ?_
  refine aw_ret ?_
  have hg := some_o hg
  exact lv_o (fun r : (Super × Int) => [(.d (eSuper r.1)), (.d (eI64 r.2))]) (.inr rfl) hg [true, true] (by kernel_rfl)
/- super.Decode, at the empty text too -/
def super_Dec (n : Nat) (b : Str) : Option ((Super × Int) × (Super × Int)) :=
  bif b.isEmpty then some ((zsuper, 2), (zsuper, 2)) else super_Decode n b
theorem t_super_Dec {n : Nat} {b : Str} {r : ((Super × Int) × (Super × Int))} (hg : super_Dec n b = some r) : VFo Pg 145 [(.d (eS b))] (fun b => single [(.d (eSuper (sel b r).1)), (.d (eI64 (sel b r).2))]) := by
  cases b with
  | nil =>
    have hg := some_o hg
    subst hg
    exact t_dec_nil.o fun b => by cases b <;> rfl
  | cons x l => exact t_super_Decode hg

/- meta.Fits -/
def meta_Fits (d : Disk) (s : Super) : Bool :=
  (s.blocks == (wI64 ((d.sure.length : Int) - (2 : Int))))
theorem t_meta_Fits {d : Disk} {s : Super} {r : Bool} (hg : meta_Fits d s = r) : VF Pg 146 [(.d (eDisk d)), (.d (eSuper s))] (single [(.d (eB r))]) := by
  refine fn_ok (fn := Tryz.f146) (by kernel_rfl) rfl (by kernel_rfl) (Nat.le_of_ble_eq_true (by kernel_rfl)) fun B hB => ?_
  refine aw_seq ?_
  refine rg (Z := Zt) 2 0 [] [] [(2, (.ptr 0 0)), (3, (.ptr 1 0))] [(.var (.d (eDisk d))), (.var (.d (eSuper s)))] [] hmx (by kernel_rfl) good_nil ?_
  refine aw_seq ?_
  refine rg (Z := Zt) 0 0 [(4, .op (.val (.d (eI64 (d.sure.length : Int)))))] [.op (xLen Pg 25 (.d ((eL eS) d.sure)))] [(4, (.d (eB (s.blocks == (wI64 ((d.sure.length : Int) - (2 : Int)))))))] [(.var (.d (eDisk d))), (.var (.d (eSuper s)))] [] hmx (by kernel_rfl) (good_op (len_d (e := 9) (by kernel_rfl)) good_nil) ?_
  refine aw_ret ?_
  subst hg
  exact lv_r [true] [] (by kernel_rfl)

/- meta.Load -/
def meta_Load (n : Nat) (d : Disk) : Option ((Super × Int) × (Super × Int)) :=
  (Bnd (disk_Read d (0 : Int)) fun x1 => (bif (x1.2 != (0 : Int)) then (some (((Super.mk (0 : Int) (Vector.mk (0 : Int) (0 : Int) (A2.mk (0 : Int) (0 : Int))) false false false), x1.2), ((Super.mk (0 : Int) (Vector.mk (0 : Int) (0 : Int) (A2.mk (0 : Int) (0 : Int))) false false false), x1.2))) else (Nd2 (super_Dec n x1.1) fun x4 => (bif (x4.2 == (0 : Int)) then (Let (meta_Fits d x4.1) fun x7 => (bif (!x7) then (some ((Super.mk (0 : Int) (Vector.mk (0 : Int) (0 : Int) (A2.mk (0 : Int) (0 : Int))) false false false), (2 : Int))) else (some (x4.1, x4.2)))) else (some (x4.1, x4.2))))))
theorem t_meta_Load {n : Nat} {d : Disk} {r : ((Super × Int) × (Super × Int))} (hg : meta_Load n d = some r) : VFo Pg 77 [(.d (eDisk d))] (fun b => single [(.d (eSuper (sel b r).1)), (.d (eI64 (sel b r).2))]) := by
  refine fn_ok_o (fn := Tryz.f77) (rs := fun b => (fun r : (Super × Int) => [(.d (eSuper r.1)), (.d (eI64 r.2))]) (sel b r)) (by kernel_rfl) rfl (by kernel_rfl) (Nat.le_of_ble_eq_true (by kernel_rfl)) fun B hB => ?_
  refine aw_seq ?_
  refine rg (Z := Zt) 2 0 [] [] [(1, (.ptr 0 0)), (2, (.ptr 1 0))] [(.var (.d (eDisk d))), (.var (.agg [(.d (eI64 (0 : Int))), (.agg [(.d (eU64 (0 : Int))), (.d (eU64 (0 : Int))), (.agg [(.d (eU64 (0 : Int))), (.d (eU64 (0 : Int)))])]), (.d (eB false)), (.d (eB false)), (.d (eB false))]))] [] hmx (by kernel_rfl) good_nil ?_
  refine aw_seq ?_
  obtain ⟨x1, h2, hg⟩ := bnd_o hg
  refine rg (Z := Zt) 0 0 [(1, .vf (.tup [(.d (eS x1.1)), (.d (eI64 x1.2))]))] [.vf 144 [(.d (eDisk d)), (.d (eI64 (0 : Int)))]] [(1, (.ptr 0 0)), (2, (.ptr 1 0)), (4, (.d (eS x1.1))), (5, (.d (eI64 x1.2)))] [(.var (.d (eDisk d))), (.var (.agg [(.d (eI64 (0 : Int))), (.agg [(.d (eU64 (0 : Int))), (.d (eU64 (0 : Int))), (.agg [(.d (eU64 (0 : Int))), (.d (eU64 (0 : Int)))])]), (.d (eB false)), (.d (eB false)), (.d (eB false))]))] [] hmx (by kernel_rfl) (good_vf (t_disk_Read h2) rfl rfl good_nil) ?_
  refine aw_seq ?_
  refine aw_seq ?_
  refine rg (Z := Zt) 0 0 [] [] [(1, (.ptr 0 0)), (2, (.ptr 1 0)), (4, (.d (eS x1.1))), (5, (.d (eI64 x1.2))), (13, (.d (eB (x1.2 != (0 : Int)))))] [(.var (.d (eDisk d))), (.var (.agg [(.d (eI64 (0 : Int))), (.agg [(.d (eU64 (0 : Int))), (.d (eU64 (0 : Int))), (.agg [(.d (eU64 (0 : Int))), (.d (eU64 (0 : Int)))])]), (.d (eB false)), (.d (eB false)), (.d (eB false))]))] [] hmx (by kernel_rfl) good_nil ?_
  rcases Bool.eq_false_or_eq_true (x1.2 != (0 : Int)) with h3 | h3
  · have hg := ite_t hg h3
    refine cd_t h3 (by kernel_rfl) ?_
    refine aw_seq ?_
    refine rg (Z := Zt) 0 0 [] [] [(2, (.ptr 1 0)), (3, (.d (eI64 x1.2)))] [(.var (.d (eDisk d))), (.var (.agg [(.d (eI64 (0 : Int))), (.agg [(.d (eU64 (0 : Int))), (.d (eU64 (0 : Int))), (.agg [(.d (eU64 (0 : Int))), (.d (eU64 (0 : Int)))])]), (.d (eB false)), (.d (eB false)), (.d (eB false))]))] [] hmx (by kernel_rfl) good_nil ?_
    refine aw_ret ?_
    have hg := some_o hg
    exact lv_o2 (fun r : (Super × Int) => [(.d (eSuper r.1)), (.d (eI64 r.2))]) (.inr rfl) hg [true, true] (by kernel_rfl)
  · have hg := ite_f hg h3
    refine cd_f h3 (by kernel_rfl) ?_
    refine aw_skip ?_
    refine aw_seq ?_
    obtain ⟨x4p, h5, hg⟩ := nd2_o hg
    refine rg_nd (Z := Zt) 1 0 1 18 [] [] [(1, (.ptr 0 0)), (2, (.ptr 1 0)), (5, (.d (eI64 x1.2))), (17, (.d (eS x1.1)))] [(.var (.d (eDisk d))), (.var (.agg [(.d (eI64 (0 : Int))), (.agg [(.d (eU64 (0 : Int))), (.d (eU64 (0 : Int))), (.agg [(.d (eU64 (0 : Int))), (.d (eU64 (0 : Int)))])]), (.d (eB false)), (.d (eB false)), (.d (eB false))])), .hole] [] (fun b => (.tup [(.d (eSuper (sel b x4p).1)), (.d (eI64 (sel b x4p).2))])) (by kernel_rfl) good_nil (by kernel_rfl) (t_super_Dec h5) rfl (fun _ => rfl) fun x4b => ?_
    generalize hsx4 : sel x4b x4p = x4
    have hg := hg x4b x4 hsx4.symm
    refine rg_tl (Z := Zt) 2 0 [] [] [(1, (.ptr 0 0)), (2, (.ptr 1 0)), (5, (.d (eI64 x4.2))), (6, (.ptr 2 0))] [(.var (.d (eDisk d))), (.var (.agg [(.d (eI64 (0 : Int))), (.agg [(.d (eU64 (0 : Int))), (.d (eU64 (0 : Int))), (.agg [(.d (eU64 (0 : Int))), (.d (eU64 (0 : Int)))])]), (.d (eB false)), (.d (eB false)), (.d (eB false))])), (.var (.d (eSuper x4.1)))] [] (by kernel_rfl) good_nil ?_
    refine aw_seq ?_
    refine aw_seq ?_
    rcases Bool.eq_false_or_eq_true (x4.2 == (0 : Int)) with h6 | h6
    · have hg := ite_t hg h6
      obtain ⟨x7, h8, hg⟩ := let_o hg
      refine rg (Z := Zt) 0 0 [(2, .op (.val (.d (eB true)))), (5, .vf (.d (eB x7)))] [.op (some (.val (.d (eB (x4.2 == (0 : Int)))))), .vf 146 [(.d (eDisk d)), (.d (eSuper x4.1))]] [(2, (.ptr 1 0)), (5, (.d (eI64 x4.2))), (6, (.ptr 2 0)), (28, (.d (eB (!x7))))] [(.var (.d (eDisk d))), (.var (.agg [(.d (eI64 (0 : Int))), (.agg [(.d (eU64 (0 : Int))), (.d (eU64 (0 : Int))), (.agg [(.d (eU64 (0 : Int))), (.d (eU64 (0 : Int)))])]), (.d (eB false)), (.d (eB false)), (.d (eB false))])), (.var (.d (eSuper x4.1)))] [] hmx (by kernel_rfl) (good_op (bo h6) (good_vf (t_meta_Fits h8) rfl rfl good_nil)) ?_
      rcases Bool.eq_false_or_eq_true (!x7) with h9 | h9
      · have hg := ite_t hg h9
        refine cd_t h9 (by kernel_rfl) ?_
        refine aw_seq ?_
        refine rg (Z := Zt) 0 0 [] [] [(2, (.ptr 1 0)), (3, (.d (eI64 (2 : Int))))] [(.var (.d (eDisk d))), (.var (.agg [(.d (eI64 (0 : Int))), (.agg [(.d (eU64 (0 : Int))), (.d (eU64 (0 : Int))), (.agg [(.d (eU64 (0 : Int))), (.d (eU64 (0 : Int)))])]), (.d (eB false)), (.d (eB false)), (.d (eB false))])), (.var (.d (eSuper x4.1)))] [] hmx (by kernel_rfl) good_nil ?_
        refine aw_ret ?_
        have hg := some_o hg
        exact lv_o (fun r : (Super × Int) => [(.d (eSuper r.1)), (.d (eI64 r.2))]) (.inr rfl) hg [true, true] (by kernel_rfl)
      · have hg := ite_f hg h9
        refine cd_f h9 (by kernel_rfl) ?_
        refine aw_skip ?_
        refine aw_seq ?_
        refine rg (Z := Zt) 0 0 [] [] [(2, (.ptr 1 0)), (3, (.d (eI64 x4.2)))] [(.var (.d (eDisk d))), (.var (.d (eSuper x4.1))), (.var (.d (eSuper x4.1)))] [] hmx (by kernel_rfl) good_nil ?_
        refine aw_ret ?_
        have hg := some_o hg
        exact lv_o (fun r : (Super × Int) => [(.d (eSuper r.1)), (.d (eI64 r.2))]) (.inr rfl) hg [true, true] (by kernel_rfl)
    · have hg := ite_f hg h6
      refine rg (Z := Zt) 0 0 [(2, .op (.val (.d (eB false))))] [.op (some (.val (.d (eB (x4.2 == (0 : Int))))))] [(2, (.ptr 1 0)), (5, (.d (eI64 x4.2))), (6, (.ptr 2 0)), (28, (.d (eB false)))] [(.var (.d (eDisk d))), (.var (.agg [(.d (eI64 (0 : Int))), (.agg [(.d (eU64 (0 : Int))), (.d (eU64 (0 : Int))), (.agg [(.d (eU64 (0 : Int))), (.d (eU64 (0 : Int)))])]), (.d (eB false)), (.d (eB false)), (.d (eB false))])), (.var (.d (eSuper x4.1)))] [] hmx (by kernel_rfl) (good_op (bo h6) good_nil) ?_
      refine cd_f rfl (by kernel_rfl) ?_
      refine aw_skip ?_
      refine aw_seq ?_
      refine rg (Z := Zt) 0 0 [] [] [(2, (.ptr 1 0)), (3, (.d (eI64 x4.2)))] [(.var (.d (eDisk d))), (.var (.d (eSuper x4.1))), (.var (.d (eSuper x4.1)))] [] hmx (by kernel_rfl) good_nil ?_
      refine aw_ret ?_
      have hg := some_o hg
      exact lv_o (fun r : (Super × Int) => [(.d (eSuper r.1)), (.d (eI64 r.2))]) (.inr rfl) hg [true, true] (by kernel_rfl)

/- bits.Load -/
def bits_Load (n : Nat) (d : Disk) : Option (Int × Int) :=
  (Bnd (disk_Read d (1 : Int)) fun x1 => (bif (x1.2 != (0 : Int)) then (some ((0 : Int), x1.2)) else (Bnd (check_Open n x1.1) fun x4 => (bif (x4.2 != (0 : Int)) then (some ((0 : Int), x4.2)) else (Bnd (num_Get32 n x4.1) fun x7 => (bif (!x7.2) then (some ((0 : Int), (2 : Int))) else (Bnd (bits_right d x7.1) fun x10 => (bif (!x10) then (some ((0 : Int), (2 : Int))) else (some (x7.1, (0 : Int)))))))))))
theorem t_bits_Load {n : Nat} {d : Disk} {r : (Int × Int)} (hg : bits_Load n d = some r) : VF Pg 78 [(.d (eDisk d))] (single [(.d (eU32 r.1)), (.d (eI64 r.2))]) := by
  refine fn_ok (fn := Tryz.f78) (by kernel_rfl) rfl (by kernel_rfl) (Nat.le_of_ble_eq_true (by kernel_rfl)) fun B hB => ?_
  refine aw_seq ?_
  refine rg (Z := Zt) 1 0 [] [] [(1, (.ptr 0 0))] [(.var (.d (eDisk d)))] [] hmx (by kernel_rfl) good_nil ?_
  refine aw_seq ?_
  obtain ⟨x1, h2, hg⟩ := bnd_o hg
  refine rg (Z := Zt) 0 0 [(1, .vf (.tup [(.d (eS x1.1)), (.d (eI64 x1.2))]))] [.vf 144 [(.d (eDisk d)), (.d (eI64 (1 : Int)))]] [(1, (.ptr 0 0)), (4, (.d (eS x1.1))), (5, (.d (eI64 x1.2)))] [(.var (.d (eDisk d)))] [] hmx (by kernel_rfl) (good_vf (t_disk_Read h2) rfl rfl good_nil) ?_
  refine aw_seq ?_
  refine aw_seq ?_
  refine rg (Z := Zt) 0 0 [] [] [(1, (.ptr 0 0)), (4, (.d (eS x1.1))), (5, (.d (eI64 x1.2))), (14, (.d (eB (x1.2 != (0 : Int)))))] [(.var (.d (eDisk d)))] [] hmx (by kernel_rfl) good_nil ?_
  rcases Bool.eq_false_or_eq_true (x1.2 != (0 : Int)) with h3 | h3
  · have hg := ite_t hg h3
    refine cd_t h3 (by kernel_rfl) ?_
    refine aw_seq ?_
    refine rg (Z := Zt) 0 0 [] [] [(2, (.d (eU32 (0 : Int)))), (3, (.d (eI64 x1.2)))] [(.var (.d (eDisk d)))] [] hmx (by kernel_rfl) good_nil ?_
    refine aw_ret ?_
    have hg := some_o hg
    subst hg
    exact lv_r [true, true] [] (by kernel_rfl)
  · have hg := ite_f hg h3
    refine cd_f h3 (by kernel_rfl) ?_
    refine aw_skip ?_
    refine aw_seq ?_
    refine aw_seq ?_
    obtain ⟨x4, h5, hg⟩ := bnd_o hg
    refine rg (Z := Zt) 0 0 [(1, .vf (.tup [(.d (eS x4.1)), (.d (eI64 x4.2))]))] [.vf 147 [(.d (eS x1.1))]] [(1, (.ptr 0 0)), (4, (.d (eS x4.1))), (5, (.d (eI64 x4.2)))] [(.var (.d (eDisk d)))] [] hmx (by kernel_rfl) (good_vf (t_check_Open h5) rfl rfl good_nil) ?_
    refine aw_seq ?_
    refine rg (Z := Zt) 0 0 [] [] [(1, (.ptr 0 0)), (4, (.d (eS x4.1))), (5, (.d (eI64 x4.2))), (22, (.d (eB (x4.2 != (0 : Int)))))] [(.var (.d (eDisk d)))] [] hmx (by kernel_rfl) good_nil ?_
    rcases Bool.eq_false_or_eq_true (x4.2 != (0 : Int)) with h6 | h6
    · have hg := ite_t hg h6
      refine cd_t h6 (by kernel_rfl) ?_
      refine aw_seq ?_
      refine rg (Z := Zt) 0 0 [] [] [(2, (.d (eU32 (0 : Int)))), (3, (.d (eI64 x4.2)))] [(.var (.d (eDisk d)))] [] hmx (by kernel_rfl) good_nil ?_
      refine aw_ret ?_
      have hg := some_o hg
      subst hg
      exact lv_r [true, true] [] (by kernel_rfl)
    · have hg := ite_f hg h6
      refine cd_f h6 (by kernel_rfl) ?_
      refine aw_skip ?_
      refine aw_seq ?_
      obtain ⟨x7, h8, hg⟩ := bnd_o hg
      refine rg (Z := Zt) 0 0 [(1, .vf (.tup [(.d (eU32 x7.1)), (.d (eB x7.2))]))] [.vf 148 [(.d (eS x4.1))]] [(1, (.ptr 0 0)), (6, (.d (eU32 x7.1))), (7, (.d (eB x7.2)))] [(.var (.d (eDisk d)))] [] hmx (by kernel_rfl) (good_vf (t_num_Get32 h8) rfl rfl good_nil) ?_
      refine aw_seq ?_
      refine aw_seq ?_
      rcases Bool.eq_false_or_eq_true (!x7.2) with h9 | h9
      · have hg := ite_t hg h9
        refine rg (Z := Zt) 0 0 [(2, .op (.val (.d (eB true))))] [.op (some (.val (.d (eB (!x7.2)))))] [(6, (.d (eU32 x7.1))), (36, (.d (eB true)))] [(.var (.d (eDisk d)))] [] hmx (by kernel_rfl) (good_op (bo h9) good_nil) ?_
        refine cd_t rfl (by kernel_rfl) ?_
        refine aw_seq ?_
        refine rg (Z := Zt) 0 0 [] [] [(2, (.d (eU32 (0 : Int)))), (3, (.d (eI64 (2 : Int))))] [(.var (.d (eDisk d)))] [] hmx (by kernel_rfl) good_nil ?_
        refine aw_ret ?_
        have hg := some_o hg
        subst hg
        exact lv_r [true, true] [] (by kernel_rfl)
      · have hg := ite_f hg h9
        obtain ⟨x10, h11, hg⟩ := bnd_o hg
        refine rg (Z := Zt) 0 0 [(2, .op (.val (.d (eB false)))), (5, .vf (.d (eB x10)))] [.op (some (.val (.d (eB (!x7.2))))), .vf 140 [(.d (eDisk d)), (.d (eU32 x7.1))]] [(6, (.d (eU32 x7.1))), (36, (.d (eB (!x10))))] [(.var (.d (eDisk d)))] [] hmx (by kernel_rfl) (good_op (bo h9) (good_vf (t_bits_right h11) rfl rfl good_nil)) ?_
        rcases Bool.eq_false_or_eq_true (!x10) with h12 | h12
        · have hg := ite_t hg h12
          refine cd_t h12 (by kernel_rfl) ?_
          refine aw_seq ?_
          refine rg (Z := Zt) 0 0 [] [] [(2, (.d (eU32 (0 : Int)))), (3, (.d (eI64 (2 : Int))))] [(.var (.d (eDisk d)))] [] hmx (by kernel_rfl) good_nil ?_
          refine aw_ret ?_
          have hg := some_o hg
          subst hg
          exact lv_r [true, true] [] (by kernel_rfl)
        · have hg := ite_f hg h12
          refine cd_f h12 (by kernel_rfl) ?_
          refine aw_skip ?_
          refine aw_seq ?_
          refine rg (Z := Zt) 0 0 [] [] [(2, (.d (eU32 x7.1))), (3, (.d (eI64 (0 : Int))))] [(.var (.d (eDisk d)))] [] hmx (by kernel_rfl) good_nil ?_
          refine aw_ret ?_
          have hg := some_o hg
          subst hg
          exact lv_r [true, true] [] (by kernel_rfl)
end Go.Am
